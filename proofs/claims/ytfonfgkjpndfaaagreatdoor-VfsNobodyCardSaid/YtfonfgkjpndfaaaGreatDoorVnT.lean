/-
  This file has the trees of the functions that VfsNobody reaches: each is what its function's code does.
-/
import Derived.Test.YtfonfgkjpndfaaaGreatDoorFrF
import Derived.Test.YtfonfgkjpndfaaaGreatDoorProg
import Derived.KernelRfl
namespace Go.Proofs.YtfonfgkjpndfaaaGreatDoor.Vn
open Go Go.Fr
set_option maxRecDepth 100000
theorem args1 {l : List Value} (h : l.length = 1) : ∃ x0, l = [x0] := by
  match l, h with
  | [x0], _ => exact ⟨x0, rfl⟩
theorem args2 {l : List Value} (h : l.length = 2) : ∃ x0 x1, l = [x0, x1] := by
  match l, h with
  | [x0, x1], _ => exact ⟨x0, x1, rfl⟩
theorem args3 {l : List Value} (h : l.length = 3) : ∃ x0 x1 x2, l = [x0, x1, x2] := by
  match l, h with
  | [x0, x1, x2], _ => exact ⟨x0, x1, x2, rfl⟩
theorem args4 {l : List Value} (h : l.length = 4) : ∃ x0 x1 x2 x3, l = [x0, x1, x2, x3] := by
  match l, h with
  | [x0, x1, x2, x3], _ => exact ⟨x0, x1, x2, x3, rfl⟩
theorem args5 {l : List Value} (h : l.length = 5) : ∃ x0 x1 x2 x3 x4, l = [x0, x1, x2, x3, x4] := by
  match l, h with
  | [x0, x1, x2, x3, x4], _ => exact ⟨x0, x1, x2, x3, x4, rfl⟩
theorem args6 {l : List Value} (h : l.length = 6) : ∃ x0 x1 x2 x3 x4 x5, l = [x0, x1, x2, x3, x4, x5] := by
  match l, h with
  | [x0, x1, x2, x3, x4, x5], _ => exact ⟨x0, x1, x2, x3, x4, x5, rfl⟩
theorem args7 {l : List Value} (h : l.length = 7) : ∃ x0 x1 x2 x3 x4 x5 x6, l = [x0, x1, x2, x3, x4, x5, x6] := by
  match l, h with
  | [x0, x1, x2, x3, x4, x5, x6], _ => exact ⟨x0, x1, x2, x3, x4, x5, x6, rfl⟩
theorem args8 {l : List Value} (h : l.length = 8) : ∃ x0 x1 x2 x3 x4 x5 x6 x7, l = [x0, x1, x2, x3, x4, x5, x6, x7] := by
  match l, h with
  | [x0, x1, x2, x3, x4, x5, x6, x7], _ => exact ⟨x0, x1, x2, x3, x4, x5, x6, x7, rfl⟩
/-- bollard/bollardlaw21.VfsNobody -/
def a3 : Ann := [(26, [(0, [18]), (1, []), (2, [])]), (6758, [(0, [52])]), (58, [(0, [58]), (1, []), (4, [])]), (14950, [(0, [72])])]
def t3 : T :=
.op (.box 24 (.v 0 0)) <|
.op (.build 33 []) <|
.op (.box 33 (.v 0 0)) <|
.op (.buildSlice 34 2 [(0, (.c (.pointer none))), (1, (.v 0 0))]) <|
.op (.builtin .len [34] 3 [false] [(.v 0 0)]) <|
.loop [(.c (.int .i64 0))] (
.op (.bin .lss 3 (.tmp 18) (.tmp 17) (.v 0 0) (.v 1 0)) <|
.ite (.v 0 0) (.op (.indexAt 34 (.v 3 0) (.v 1 0)) <|
.op (.load 25 (.v 0 0)) <|
.op (.load 24 (.v 8 0)) <|
.op (.call 5 [(.v 1 0), (.v 0 0)]) <|
.op (.extract (.v 0 0) 0) <|
.op (.extract (.v 1 0) 1) <|
.op (.alloc 37) <|
.op (.store 37 (.v 0 0) (.v 2 0)) <|
.bind (.op (.bin .neq 38 (.tmp 28) (.const (.int .i64 2)) (.v 2 0) (.c (.int .i64 2))) <|
.ite (.v 0 0) (.done 0 [(.c (.bool true))]) (.op (.load 37 (.v 2 0)) <|
.op (.build 37 []) <|
.op (.call 6 [(.v 1 0), (.v 0 0)]) <|
.op (.un .not (.v 0 0)) <|
.ite (.v 0 0) (.done 0 [(.c (.bool true))]) (.op (.call 7 [(.v 11 0)]) <|
.op (.bin .neq 26 (.tmp 38) (.const (.pointer none)) (.v 0 0) (.c (.pointer none))) <|
.ite (.v 0 0) (.done 0 [(.c (.bool true))]) (.op (.call 8 [(.v 13 0)]) <|
.op (.build 28 []) <|
.op (.bin .neq 28 (.tmp 43) (.tmp 44) (.v 1 0) (.v 0 0)) <|
.ite (.v 0 0) (.done 0 [(.c (.bool true))]) (.op (.call 9 [(.v 16 0)]) <|
.op (.builtin .len [31] 3 [false] [(.v 0 0)]) <|
.op (.bin .gtr 3 (.tmp 50) (.const (.int .i64 0)) (.v 0 0) (.c (.int .i64 0))) <|
.done 0 [(.v 0 0)]))))) <|
.alt 0 (.ite (.v 0 0) (.done 1 [(.c (.bool false))])
 (.op (.bin .add 3 (.tmp 18) (.const (.int .i64 1)) (.v 10 0) (.c (.int .i64 1))) <|
.done 0 [(.v 0 0)]))
 (.fail))
 (.done 2 [])) <|
.alt 0 (.fail)
 (.alt 1 (.finRow [.tmp 2] 0)
 (.alt 2 (.op (.build 49 []) <|
.op (.box 49 (.v 0 0)) <|
.op (.buildSlice 50 2 [(0, (.c (.pointer none))), (1, (.v 0 0))]) <|
.op (.builtin .len [50] 3 [false] [(.v 0 0)]) <|
.loop [(.c (.int .i64 0))] (
.op (.bin .lss 3 (.tmp 58) (.tmp 57) (.v 0 0) (.v 1 0)) <|
.ite (.v 0 0) (.op (.indexAt 50 (.v 3 0) (.v 1 0)) <|
.op (.load 45 (.v 0 0)) <|
.op (.call 10 [(.v 0 0)]) <|
.op (.extract (.v 0 0) 0) <|
.op (.extract (.v 1 0) 1) <|
.bind (.op (.bin .neq 25 (.tmp 67) (.const (.pointer none)) (.v 1 0) (.c (.pointer none))) <|
.ite (.v 0 0) (.done 0 [(.c (.bool true))]) (.op (.bin .neq 38 (.tmp 70) (.const (.int .i64 2)) (.v 1 0) (.c (.int .i64 2))) <|
.done 0 [(.v 0 0)])) <|
.alt 0 (.ite (.v 0 0) (.done 1 [(.c (.bool false))])
 (.op (.bin .add 3 (.tmp 58) (.const (.int .i64 1)) (.v 7 0) (.c (.int .i64 1))) <|
.done 0 [(.v 0 0)]))
 (.fail))
 (.done 4 [])) <|
.alt 0 (.fail)
 (.alt 1 (.finRow [.tmp 2] 0)
 (.alt 4 (.op (.build 28 []) <|
.op (.call 11 [(.v 0 0)]) <|
.op (.extract (.v 0 0) 0) <|
.op (.extract (.v 1 0) 1) <|
.op (.extract (.v 2 0) 2) <|
.fin [.tmp 2] [(.v 0 0)])
 (.fail))))
 (.fail)))
theorem d3 (a0 : Value) : denF Tryz.f3 a3 [a0] = t3.sp 0 (rows [a0]) [] := by kernel_rfl
/-- (*bollard/vfs.FS).Do -/
def a5 : Ann := [(12, [(0, [21])]), (58, [(0, [39])]), (60, [(0, [48])])]
def t5 : T :=
.op (.box 24 (.v 1 0)) <|
.op (.alloc 37) <|
.bind (.op (.bin .eql 25 (.tmp 13) (.const (.pointer none)) (.v 2 0) (.c (.pointer none))) <|
.ite (.v 0 0) (.done 0 [(.c (.bool true))]) (.op (.nil (.v 3 0)) <|
.op (.fieldAt 33 (.v 0 0) 0) <|
.op (.load 26 (.v 0 0)) <|
.op (.bin .eql 26 (.tmp 19) (.const (.pointer none)) (.v 0 0) (.c (.pointer none))) <|
.done 0 [(.v 0 0)])) <|
.alt 0 (.ite (.v 0 0) (.op (.build 37 []) <|
.op (.store 37 (.v 2 0) (.v 0 0)) <|
.fin [.cell 4 37, .tmp 5] [(.v 3 0), (.c (.int .i64 2))])
 (.drew <|
.rd (.nil (.v 3 0)) <|
.rd (.fieldAt 33 (.v 0 0) 3) <|
.rd (.load 30 (.v 0 0)) <|
.rd (.fieldAt 24 (.v 5 0) 1) <|
.rd (.load 3 (.v 0 0)) <|
.rd (.lookup 30 (.v 2 0) (.v 0 0) true) <|
.rd (.extract (.v 0 0) 0) <|
.rd (.extract (.v 1 0) 1) <|
.bind (.op (.fieldAt 24 (.v 10 0) 0) <|
.op (.load 3 (.v 0 0)) <|
.op (.bin .eql 3 (.tmp 34) (.const (.int .i64 14)) (.v 0 0) (.c (.int .i64 14))) <|
.ite (.v 0 0) (.op (.un .not (.v 3 0)) <|
.done 0 [(.v 0 0)]) (.done 0 [(.c (.bool false))])) <|
.alt 0 (.ite (.v 0 0) (.op (.build 37 []) <|
.op (.store 37 (.v 11 0) (.v 0 0)) <|
.fin [.cell 4 37, .tmp 5] [(.v 12 0), (.c (.int .i64 210))])
 (.bind (.op (.fieldAt 24 (.v 11 0) 0) <|
.op (.load 3 (.v 0 0)) <|
.op (.bin .eql 3 (.tmp 42) (.const (.int .i64 14)) (.v 0 0) (.c (.int .i64 14))) <|
.ite (.v 0 0) (.done 0 [(.c (.bool true))]) (.op (.fieldAt 24 (.v 14 0) 0) <|
.op (.load 3 (.v 0 0)) <|
.op (.bin .eql 3 (.tmp 46) (.const (.int .i64 15)) (.v 0 0) (.c (.int .i64 15))) <|
.done 0 [(.v 0 0)])) <|
.alt 0 (.ite (.v 0 0) (.op (.build 37 []) <|
.op (.call 19 [(.v 14 0)]) <|
.op (.store 37 (.v 13 0) (.v 1 0)) <|
.fin [.cell 4 37, .tmp 5] [(.v 14 0), (.v 1 0)])
 (.drew <|
.rd (.nil (.v 13 0)) <|
.rd (.fieldAt 33 (.v 0 0) 2) <|
.rd (.load 29 (.v 0 0)) <|
.rd (.fieldAt 24 (.v 15 0) 0) <|
.rd (.load 3 (.v 0 0)) <|
.rd (.lookup 29 (.v 2 0) (.v 0 0) true) <|
.rd (.extract (.v 0 0) 0) <|
.rd (.extract (.v 1 0) 1) <|
.op (.un .not (.v 0 0)) <|
.ite (.v 0 0) (.op (.build 37 []) <|
.op (.store 37 (.v 21 0) (.v 0 0)) <|
.fin [.cell 4 37, .tmp 5] [(.v 22 0), (.c (.int .i64 1))])
 (.op (.nil (.v 22 0)) <|
.op (.fieldAt 33 (.v 0 0) 0) <|
.op (.load 26 (.v 0 0)) <|
.op (.call 20 [(.v 0 0)]) <|
.op (.load 24 (.v 25 0)) <|
.op (.callV (.v 7 0) [(.v 27 0), (.v 0 0)]) <|
.op (.extract (.v 0 0) 0) <|
.op (.extract (.v 1 0) 1) <|
.op (.alloc 37) <|
.op (.store 37 (.v 0 0) (.v 2 0)) <|
.op (.bin .neq 38 (.tmp 77) (.const (.int .i64 0)) (.v 2 0) (.c (.int .i64 0))) <|
.ite (.v 0 0) (.op (.nil (.v 33 0)) <|
.op (.fieldAt 33 (.v 0 0) 0) <|
.op (.load 26 (.v 0 0)) <|
.op (.call 21 [(.v 0 0), (.v 10 0)]) <|
.op (.build 37 []) <|
.op (.store 37 (.v 36 0) (.v 0 0)) <|
.fin [.cell 4 37, .tmp 5] [(.v 37 0), (.v 9 0)])
 (.op (.load 37 (.v 2 0)) <|
.op (.store 37 (.v 32 0) (.v 0 0)) <|
.fin [.cell 4 37, .tmp 5] [(.v 33 0), (.c (.int .i64 0))]))))
 (.fail)))
 (.fail)))
 (.fail)
theorem d5 (a0 a1 : Value) : denF Tryz.f5 a5 [a0, a1] = t5.sp 0 (rows [a0, a1]) [] := by kernel_rfl
/-- bollard/bollardplain.SameAnswer -/
def a6 : Ann := [(6, [(0, [4])])]
def t6 : T :=
.op (.box 37 (.v 0 0)) <|
.op (.box 37 (.v 2 0)) <|
.bind (.op (.fieldAt 37 (.v 1 0) 0) <|
.op (.load 3 (.v 0 0)) <|
.op (.fieldAt 37 (.v 2 0) 0) <|
.op (.load 3 (.v 0 0)) <|
.op (.bin .eql 3 (.tmp 6) (.tmp 8) (.v 2 0) (.v 0 0)) <|
.ite (.v 0 0) (.op (.fieldAt 37 (.v 6 0) 1) <|
.op (.load 22 (.v 0 0)) <|
.op (.fieldAt 37 (.v 7 0) 1) <|
.op (.load 22 (.v 0 0)) <|
.op (.call 22 [(.v 2 0), (.v 0 0)]) <|
.ite (.v 0 0) (.op (.fieldAt 37 (.v 11 0) 2) <|
.op (.load 35 (.v 0 0)) <|
.op (.fieldAt 37 (.v 12 0) 2) <|
.op (.load 35 (.v 0 0)) <|
.op (.call 23 [(.v 2 0), (.v 0 0)]) <|
.ite (.v 0 0) (.op (.fieldAt 37 (.v 16 0) 3) <|
.op (.load 3 (.v 0 0)) <|
.op (.fieldAt 37 (.v 17 0) 3) <|
.op (.load 3 (.v 0 0)) <|
.op (.bin .eql 3 (.tmp 26) (.tmp 28) (.v 2 0) (.v 0 0)) <|
.ite (.v 0 0) (.op (.fieldAt 37 (.v 21 0) 4) <|
.op (.load 3 (.v 0 0)) <|
.op (.fieldAt 37 (.v 22 0) 4) <|
.op (.load 3 (.v 0 0)) <|
.op (.bin .eql 3 (.tmp 33) (.tmp 35) (.v 2 0) (.v 0 0)) <|
.ite (.v 0 0) (.op (.fieldAt 37 (.v 26 0) 5) <|
.op (.load 3 (.v 0 0)) <|
.op (.fieldAt 37 (.v 27 0) 5) <|
.op (.load 3 (.v 0 0)) <|
.op (.bin .eql 3 (.tmp 40) (.tmp 42) (.v 2 0) (.v 0 0)) <|
.done 0 [(.v 0 0)]) (.done 0 [(.c (.bool false))])) (.done 0 [(.c (.bool false))])) (.done 0 [(.c (.bool false))])) (.done 0 [(.c (.bool false))])) (.done 0 [(.c (.bool false))])) <|
.alt 0 (.fin [.tmp 4] [(.v 0 0)])
 (.fail)
theorem d6 (a0 a1 : Value) : denF Tryz.f6 a6 [a0, a1] = t6.sp 0 (rows [a0, a1]) [] := by kernel_rfl
/-- (*bollard/vfs.FS).Volume -/
def a7 : Ann := []
def t7 : T :=
.op (.bin .eql 25 (.tmp 3) (.const (.pointer none)) (.v 0 0) (.c (.pointer none))) <|
.ite (.v 0 0) (.fin [.tmp 2] [(.c (.pointer none))])
 (.op (.nil (.v 1 0)) <|
.op (.fieldAt 33 (.v 0 0) 0) <|
.op (.load 26 (.v 0 0)) <|
.fin [.tmp 2] [(.v 0 0)])
theorem d7 (a0 : Value) : denF Tryz.f7 a7 [a0] = t7.sp 0 (rows [a0]) [] := by kernel_rfl
/-- (*bollard/vfs.FS).Geom -/
def a8 : Ann := []
def t8 : T :=
.op (.alloc 28) <|
.op (.bin .eql 25 (.tmp 3) (.const (.pointer none)) (.v 1 0) (.c (.pointer none))) <|
.ite (.v 0 0) (.op (.build 28 []) <|
.op (.store 28 (.v 2 0) (.v 0 0)) <|
.fin [.cell 2 28] [(.v 3 0)])
 (.op (.nil (.v 2 0)) <|
.op (.fieldAt 33 (.v 0 0) 1) <|
.op (.load 28 (.v 0 0)) <|
.op (.store 28 (.v 4 0) (.v 0 0)) <|
.fin [.cell 2 28] [(.v 5 0)])
theorem d8 (a0 : Value) : denF Tryz.f8 a8 [a0] = t8.sp 0 (rows [a0]) [] := by kernel_rfl
/-- (*bollard/vfs.FS).Open -/
def a9 : Ann := []
def t9 : T :=
.op (.bin .eql 25 (.tmp 3) (.const (.pointer none)) (.v 0 0) (.c (.pointer none))) <|
.ite (.v 0 0) (.fin [.tmp 2] [(.c (.slice none 0 0))])
 (.op (.nil (.v 1 0)) <|
.op (.fieldAt 33 (.v 0 0) 3) <|
.op (.load 30 (.v 0 0)) <|
.op (.call 26 [(.v 0 0)]) <|
.op (.call 25 [(.v 0 0)]) <|
.op (.call 24 [(.v 0 0)]) <|
.fin [.tmp 2] [(.v 0 0)])
theorem d9 (a0 : Value) : denF Tryz.f9 a9 [a0] = t9.sp 0 (rows [a0]) [] := by kernel_rfl
/-- bollard/vfs.Mount -/
def a10 : Ann := []
def t10 : T :=
.op (.call 27 [(.v 0 0)]) <|
.op (.extract (.v 0 0) 0) <|
.op (.extract (.v 1 0) 1) <|
.op (.extract (.v 2 0) 2) <|
.op (.alloc 28) <|
.op (.store 28 (.v 0 0) (.v 2 0)) <|
.op (.bin .neq 38 (.tmp 13) (.const (.int .i64 0)) (.v 2 0) (.c (.int .i64 0))) <|
.ite (.v 0 0) (.fin [.tmp 2, .tmp 3] [(.c (.pointer none)), (.v 3 0)])
 (.drew <|
.rd (.load 28 (.v 2 0)) <|
.both (.op (.call 28 []) <|
.chk (.load 28 (.v 4 0)) (.v 1 0) <|
.op (.map 30 none) <|
.chk (.load 28 (.v 5 0)) (.v 2 0) <|
.rd (.build 33 [(0, (.v 8 0)), (1, (.v 2 0)), (2, (.v 1 0)), (3, (.v 0 0))]) <|
.op (.box 33 (.v 0 0)) <|
.fin [.tmp 2, .tmp 3] [(.v 0 0), (.c (.int .i64 0))])
 (.op (.map 30 none) <|
.chk (.load 28 (.v 4 0)) (.v 1 0) <|
.op (.call 28 []) <|
.chk (.load 28 (.v 5 0)) (.v 2 0) <|
.rd (.build 33 [(0, (.v 8 0)), (1, (.v 2 0)), (2, (.v 0 0)), (3, (.v 1 0))]) <|
.op (.box 33 (.v 0 0)) <|
.fin [.tmp 2, .tmp 3] [(.v 0 0), (.c (.int .i64 0))]))
theorem d10 (a0 : Value) : denF Tryz.f10 a10 [a0] = t10.sp 0 (rows [a0]) [] := by kernel_rfl
/-- bollard/bollardlaw21.fresh -/
def a11 : Ann := [(29, [(0, [5])]), (254, [(0, [2, 3, 4])])]
def t11 : T :=
.op (.box 28 (.v 0 0)) <|
.op (.load 28 (.v 0 0)) <|
.op (.call 29 [(.v 0 0)]) <|
.op (.extract (.v 0 0) 0) <|
.op (.extract (.v 1 0) 1) <|
.op (.bin .neq 38 (.tmp 14) (.const (.int .i64 0)) (.v 0 0) (.c (.int .i64 0))) <|
.bind (.ite (.v 0 0) (.op (.build 28 [(0, (.c (.int .i64 1))), (1, (.c (.int .i64 16))), (2, (.c (.int .i64 8)))]) <|
.op (.call 29 [(.v 0 0)]) <|
.op (.extract (.v 0 0) 0) <|
.op (.extract (.v 1 0) 1) <|
.done 0 [(.v 1 0)])
 (.done 0 [(.v 2 0)])) <|
.alt 0 (.op (.call 30 [(.v 0 0)]) <|
.op (.extract (.v 0 0) 0) <|
.op (.extract (.v 1 0) 1) <|
.op (.bin .neq 38 (.tmp 26) (.const (.int .i64 0)) (.v 0 0) (.c (.int .i64 0))) <|
.ite (.v 0 0) (.fin [.tmp 2, .tmp 3, .tmp 4] [(.c (.pointer none)), (.c (.pointer none)), (.c (.bool false))])
 (.op (.call 10 [(.v 2 0)]) <|
.op (.extract (.v 0 0) 0) <|
.op (.extract (.v 1 0) 1) <|
.bind (.op (.bin .eql 38 (.tmp 35) (.const (.int .i64 0)) (.v 0 0) (.c (.int .i64 0))) <|
.ite (.v 0 0) (.op (.bin .neq 25 (.tmp 38) (.const (.pointer none)) (.v 2 0) (.c (.pointer none))) <|
.done 0 [(.v 3 0), (.v 7 0), (.v 0 0)]) (.done 0 [(.v 2 0), (.v 6 0), (.c (.bool false))])) <|
.alt 0 (.fin [.tmp 2, .tmp 3, .tmp 4] [(.v 0 0), (.v 0 1), (.v 0 2)])
 (.fail)))
 (.fail)
theorem d11 (a0 : Value) : denF Tryz.f11 a11 [a0] = t11.sp 0 (rows [a0]) [] := by kernel_rfl
/-- bytes.Equal -/
def a22 : Ann := []
def t22 : T :=
.op (.conv 22 9 (.v 0 0)) <|
.op (.conv 22 9 (.v 2 0)) <|
.op (.bin .eql 9 (.tmp 6) (.tmp 8) (.v 1 0) (.v 0 0)) <|
.fin [.tmp 4] [(.v 0 0)]
theorem d22 (a0 a1 : Value) : denF Tryz.f22 a22 [a0, a1] = t22.sp 0 (rows [a0, a1]) [] := by kernel_rfl
/-- slices.Equal[[]string,string] -/
def a23 : Ann := [(58, [(0, [13]), (1, []), (2, [])])]
def t23 : T :=
.op (.builtin .len [35] 3 [false] [(.v 0 0)]) <|
.op (.builtin .len [35] 3 [false] [(.v 2 0)]) <|
.op (.bin .neq 3 (.tmp 7) (.tmp 9) (.v 1 0) (.v 0 0)) <|
.ite (.v 0 0) (.fin [.tmp 4] [(.c (.bool false))])
 (.op (.builtin .len [35] 3 [false] [(.v 3 0)]) <|
.loop [(.c (.int .i64 0))] (
.op (.bin .lss 3 (.tmp 13) (.tmp 12) (.v 0 0) (.v 1 0)) <|
.ite (.v 0 0) (.drew <|
.rd (.indexAt 35 (.v 6 0) (.v 1 0)) <|
.rd (.load 9 (.v 0 0)) <|
.rd (.indexAt 35 (.v 9 0) (.v 3 0)) <|
.rd (.load 9 (.v 0 0)) <|
.rd (.bin .neq 9 (.tmp 19) (.tmp 23) (.v 2 0) (.v 0 0)) <|
.ite (.v 0 0) (.done 1 [(.c (.bool false))])
 (.op (.bin .add 3 (.tmp 13) (.const (.int .i64 1)) (.v 6 0) (.c (.int .i64 1))) <|
.done 0 [(.v 0 0)]))
 (.done 2 [])) <|
.alt 0 (.fail)
 (.alt 1 (.finRow [.tmp 4] 0)
 (.alt 2 (.fin [.tmp 4] [(.c (.bool true))])
 (.fail))))
theorem d23 (a0 a1 : Value) : denF Tryz.f23 a23 [a0, a1] = t23.sp 0 (rows [a0, a1]) [] := by kernel_rfl
/-- slices.Compact[[]int,int] -/
def a24 : Ann := [(58, [(0, [3]), (1, []), (2, [])]), (59690, [(0, [3, 5]), (4, [3])]), (477522, [(0, [3])]), (1910089, [(0, [3])])]
def t24 : T :=
.op (.builtin .len [31] 3 [false] [(.v 0 0)]) <|
.op (.bin .lss 3 (.tmp 7) (.const (.int .i64 2)) (.v 0 0) (.c (.int .i64 2))) <|
.ite (.v 0 0) (.fin [.tmp 2] [(.v 2 0)])
 (.loop [(.c (.int .i64 1))] (
.op (.builtin .len [31] 3 [false] [(.v 3 0)]) <|
.op (.bin .lss 3 (.tmp 10) (.tmp 12) (.v 1 0) (.v 0 0)) <|
.ite (.v 0 0) (.drew <|
.rd (.indexAt 31 (.v 5 0) (.v 2 0)) <|
.rd (.load 3 (.v 0 0)) <|
.rd (.bin .sub 3 (.tmp 21) (.const (.int .i64 1)) (.v 4 0) (.c (.int .i64 1))) <|
.rd (.indexAt 31 (.v 8 0) (.v 0 0)) <|
.rd (.load 3 (.v 0 0)) <|
.rd (.bin .eql 3 (.tmp 19) (.tmp 24) (.v 3 0) (.v 0 0)) <|
.ite (.v 0 0) (.op (.slice 31 (.v 11 0) (some (.v 8 0)) none none) <|
.loop [(.v 9 0), (.c (.int .i64 1))] (
.op (.builtin .len [31] 3 [false] [(.v 1 0)]) <|
.op (.bin .lss 3 (.tmp 29) (.tmp 31) (.v 1 1) (.v 0 0)) <|
.ite (.v 0 0) (.bind (.drew <|
.rd (.indexAt 31 (.v 3 0) (.v 2 1)) <|
.rd (.load 3 (.v 0 0)) <|
.rd (.bin .sub 3 (.tmp 40) (.const (.int .i64 1)) (.v 4 1) (.c (.int .i64 1))) <|
.rd (.indexAt 31 (.v 6 0) (.v 0 0)) <|
.rd (.load 3 (.v 0 0)) <|
.rd (.bin .neq 3 (.tmp 38) (.tmp 43) (.v 3 0) (.v 0 0)) <|
.bind (.ite (.v 0 0) (.op (.indexAt 31 (.v 9 0) (.v 8 1)) <|
.op (.load 3 (.v 0 0)) <|
.op (.indexAt 31 (.v 23 0) (.v 10 0)) <|
.op (.store 3 (.v 0 0) (.v 1 0)) <|
.op (.bin .add 3 (.tmp 52) (.const (.int .i64 1)) (.v 12 0) (.c (.int .i64 1))) <|
.done 0 [(.v 0 0)])
 (.done 0 [(.v 8 0)])) <|
.alt 0 (.done 0 [(.v 0 0)])
 (.fail)) <|
.alt 0 (.op (.bin .add 3 (.tmp 33) (.const (.int .i64 1)) (.v 3 1) (.c (.int .i64 1))) <|
.done 0 [(.v 1 0), (.v 0 0)])
 (.fail))
 (.done 4 [(.v 2 0)])) <|
.alt 0 (.fail)
 (.alt 4 (.op (.slice 31 (.v 13 0) (some (.v 0 0)) none none) <|
.op (.builtin .clear [31] 0 [false] [(.v 0 0)]) <|
.op (.slice 31 (.v 15 0) none (some (.v 2 0)) none) <|
.done 1 [(.v 0 0)])
 (.fail)))
 (.op (.bin .add 3 (.tmp 14) (.const (.int .i64 1)) (.v 8 0) (.c (.int .i64 1))) <|
.done 0 [(.v 0 0)]))
 (.done 2 [])) <|
.alt 0 (.fail)
 (.alt 1 (.finRow [.tmp 2] 0)
 (.alt 2 (.fin [.tmp 2] [(.v 3 0)])
 (.fail))))
theorem d24 (a0 : Value) : denF Tryz.f24 a24 [a0] = t24.sp 0 (rows [a0]) [] := by kernel_rfl
/-- maps.Values[map[int]int,int,int] -/
def a26 : Ann := []
def t26 : T :=
.op (.box 30 (.v 0 0)) <|
.op (.func (.func 42) [] [(.v 0 0)]) <|
.fin [.tmp 2] [(.v 0 0)]
theorem d26 (a0 : Value) : denF Tryz.f26 a26 [a0] = t26.sp 0 (rows [a0]) [] := by kernel_rfl
/-- bollard/mkfs.Mount -/
def a27 : Ann := []
def t27 : T :=
.op (.alloc 28) <|
.op (.alloc 119) <|
.op (.call 43 [(.v 2 0), (.c (.int .i64 64))]) <|
.op (.extract (.v 0 0) 0) <|
.op (.extract (.v 1 0) 1) <|
.op (.bin .neq 38 (.tmp 14) (.const (.int .i64 0)) (.v 0 0) (.c (.int .i64 0))) <|
.ite (.v 0 0) (.op (.build 28 []) <|
.op (.store 28 (.v 6 0) (.v 0 0)) <|
.fin [.tmp 2, .cell 3 28, .tmp 4] [(.c (.pointer none)), (.v 7 0), (.v 3 0)])
 (.op (.call 44 [(.v 2 0), (.c (.int .i64 0))]) <|
.op (.extract (.v 0 0) 0) <|
.op (.extract (.v 1 0) 1) <|
.op (.bin .neq 38 (.tmp 21) (.const (.int .i64 0)) (.v 0 0) (.c (.int .i64 0))) <|
.ite (.v 0 0) (.op (.build 28 []) <|
.op (.store 28 (.v 10 0) (.v 0 0)) <|
.fin [.tmp 2, .cell 3 28, .tmp 4] [(.c (.pointer none)), (.v 11 0), (.v 3 0)])
 (.op (.call 45 [(.v 2 0)]) <|
.op (.extract (.v 0 0) 0) <|
.op (.extract (.v 1 0) 1) <|
.op (.store 119 (.v 11 0) (.v 1 0)) <|
.op (.bin .neq 38 (.tmp 28) (.const (.int .i64 0)) (.v 1 0) (.c (.int .i64 0))) <|
.ite (.v 0 0) (.op (.build 28 []) <|
.op (.store 28 (.v 15 0) (.v 0 0)) <|
.fin [.tmp 2, .cell 3 28, .tmp 4] [(.c (.pointer none)), (.v 16 0), (.v 4 0)])
 (.drew <|
.rd (.fieldAt 119 (.v 13 0) 0) <|
.rd (.load 28 (.v 0 0)) <|
.op (.call 46 [(.v 13 0)]) <|
.chk (.load 28 (.v 2 0)) (.v 1 0) <|
.chk (.fieldAt 119 (.v 16 0) 0) (.v 2 0) <|
.op (.call 47 [(.v 1 0)]) <|
.rd (.bin .neq 3 (.tmp 31) (.tmp 34) (.v 1 0) (.v 0 0)) <|
.ite (.v 0 0) (.op (.build 28 []) <|
.op (.store 28 (.v 20 0) (.v 0 0)) <|
.fin [.tmp 2, .cell 3 28, .tmp 4] [(.c (.pointer none)), (.v 21 0), (.c (.int .i64 170))])
 (.op (.fieldAt 119 (.v 18 0) 1) <|
.op (.load 3 (.v 0 0)) <|
.op (.bin .add 3 (.tmp 37) (.const (.int .i64 1)) (.v 0 0) (.c (.int .i64 1))) <|
.op (.builtin .min [3, 3] 3 [false, true] [(.v 0 0), (.c (.int .i64 4294967295))]) <|
.op (.fieldAt 119 (.v 22 0) 1) <|
.op (.store 3 (.v 0 0) (.v 1 0)) <|
.op (.load 119 (.v 24 0)) <|
.op (.call 48 [(.v 0 0)]) <|
.op (.extract (.v 0 0) 0) <|
.op (.extract (.v 1 0) 1) <|
.op (.bin .neq 38 (.tmp 46) (.const (.int .i64 0)) (.v 0 0) (.c (.int .i64 0))) <|
.ite (.v 0 0) (.op (.build 28 []) <|
.op (.store 28 (.v 31 0) (.v 0 0)) <|
.fin [.tmp 2, .cell 3 28, .tmp 4] [(.c (.pointer none)), (.v 32 0), (.v 3 0)])
 (.op (.call 49 [(.v 27 0), (.c (.int .i64 0)), (.c (.int .i64 0)), (.v 2 0), (.c (.slice none 0 0))]) <|
.op (.extract (.v 0 0) 0) <|
.op (.extract (.v 1 0) 1) <|
.op (.bin .eql 38 (.tmp 54) (.const (.int .i64 0)) (.v 0 0) (.c (.int .i64 0))) <|
.ite (.v 0 0) (.drew <|
.rd (.fieldAt 119 (.v 33 0) 0) <|
.rd (.load 28 (.v 0 0)) <|
.op (.store 28 (.v 36 0) (.v 0 0)) <|
.fin [.tmp 2, .cell 3 28, .tmp 4] [(.v 34 0), (.v 37 0), (.c (.int .i64 0))])
 (.op (.build 28 []) <|
.op (.store 28 (.v 35 0) (.v 0 0)) <|
.fin [.tmp 2, .cell 3 28, .tmp 4] [(.c (.pointer none)), (.v 36 0), (.v 3 0)]))))))
theorem d27 (a0 : Value) : denF Tryz.f27 a27 [a0] = t27.sp 0 (rows [a0]) [] := by kernel_rfl
/-- bollard/vfs.calls -/
def a28 : Ann := []
def t28 : T :=
.op (.map 29 none) <|
.op (.mapSet 29 (.v 0 0) (.c (.int .i64 1)) (.c (.func (.func 50) #[] #[]))) <|
.op (.mapSet 29 (.v 1 0) (.c (.int .i64 2)) (.c (.func (.func 51) #[] #[]))) <|
.op (.mapSet 29 (.v 2 0) (.c (.int .i64 3)) (.c (.func (.func 52) #[] #[]))) <|
.op (.mapSet 29 (.v 3 0) (.c (.int .i64 4)) (.c (.func (.func 53) #[] #[]))) <|
.op (.mapSet 29 (.v 4 0) (.c (.int .i64 5)) (.c (.func (.func 54) #[] #[]))) <|
.op (.mapSet 29 (.v 5 0) (.c (.int .i64 6)) (.c (.func (.func 55) #[] #[]))) <|
.op (.mapSet 29 (.v 6 0) (.c (.int .i64 7)) (.c (.func (.func 56) #[] #[]))) <|
.op (.mapSet 29 (.v 7 0) (.c (.int .i64 8)) (.c (.func (.func 57) #[] #[]))) <|
.op (.mapSet 29 (.v 8 0) (.c (.int .i64 9)) (.c (.func (.func 58) #[] #[]))) <|
.op (.mapSet 29 (.v 9 0) (.c (.int .i64 10)) (.c (.func (.func 59) #[] #[]))) <|
.op (.mapSet 29 (.v 10 0) (.c (.int .i64 11)) (.c (.func (.func 60) #[] #[]))) <|
.op (.mapSet 29 (.v 11 0) (.c (.int .i64 12)) (.c (.func (.func 61) #[] #[]))) <|
.op (.mapSet 29 (.v 12 0) (.c (.int .i64 13)) (.c (.func (.func 62) #[] #[]))) <|
.fin [.tmp 0] [(.v 13 0)]
theorem d28 : denF Tryz.f28 a28 [] = t28.sp 0 (rows []) [] := by kernel_rfl
/-- bollard/bollardref17.Make -/
def a29 : Ann := [(122, [(0, [4, 16]), (2, [4])])]
def t29 : T :=
.op (.box 28 (.v 0 0)) <|
.op (.load 28 (.v 0 0)) <|
.op (.call 63 [(.v 0 0)]) <|
.op (.bin .neq 38 (.tmp 12) (.const (.int .i64 0)) (.v 0 0) (.c (.int .i64 0))) <|
.ite (.v 0 0) (.fin [.tmp 2, .tmp 3] [(.c (.slice none 0 0)), (.c (.int .i64 170))])
 (.op (.fieldAt 28 (.v 3 0) 0) <|
.op (.load 3 (.v 0 0)) <|
.loop [(.c (.slice none 0 0)), (.c (.int .i64 0))] (
.op (.bin .lss 3 (.tmp 16) (.tmp 15) (.v 0 1) (.v 1 0)) <|
.ite (.v 0 0) (.op (.load 28 (.v 7 0)) <|
.op (.call 64 [(.v 0 0), (.v 2 1)]) <|
.op (.builtin .append [46, 46] 46 [false, false] [(.v 3 0), (.v 0 0)]) <|
.op (.bin .add 3 (.tmp 16) (.const (.int .i64 1)) (.v 4 1) (.c (.int .i64 1))) <|
.done 0 [(.v 1 0), (.v 0 0)])
 (.done 2 [(.v 1 0)])) <|
.alt 0 (.fail)
 (.alt 2 (.op (.fieldAt 28 (.v 6 0) 2) <|
.op (.load 3 (.v 0 0)) <|
.op (.bin .quo 3 (.tmp 26) (.const (.int .i64 4)) (.v 0 0) (.c (.int .i64 4))) <|
.op (.bin .add 3 (.const (.int .i64 2)) (.tmp 27) (.c (.int .i64 2)) (.v 0 0)) <|
.op (.build 133 [(0, (.v 0 0))]) <|
.op (.build 135 [(0, (.c (.int .i64 2))), (1, (.c (.int .i64 2))), (2, (.c (.int .i64 128))), (3, (.v 0 0))]) <|
.op (.call 65 [(.v 0 0)]) <|
.op (.extract (.v 0 0) 0) <|
.op (.extract (.v 1 0) 1) <|
.op (.indexAt 46 (.v 9 0) (.c (.int .i64 2))) <|
.op (.load 22 (.v 0 0)) <|
.op (.slice 22 (.v 0 0) (some (.c (.int .i64 64))) none none) <|
.op (.builtin .copy [22, 22] 3 [false, false] [(.v 0 0), (.v 4 0)]) <|
.op (.build 138 [(0, (.c (.int .i64 2))), (1, (.c (.string ⟨#[46]⟩)))]) <|
.op (.build 138 [(0, (.c (.int .i64 2))), (1, (.c (.string ⟨#[46, 46]⟩)))]) <|
.op (.buildSlice 139 2 [(0, (.v 1 0)), (1, (.v 0 0))]) <|
.op (.call 66 [(.v 0 0)]) <|
.op (.extract (.v 0 0) 0) <|
.op (.extract (.v 1 0) 1) <|
.op (.indexAt 46 (.v 19 0) (.v 15 0)) <|
.op (.store 22 (.v 0 0) (.v 2 0)) <|
.fin [.tmp 2, .tmp 3] [(.v 21 0), (.c (.int .i64 0))])
 (.fail)))
theorem d29 (a0 : Value) : denF Tryz.f29 a29 [a0] = t29.sp 0 (rows [a0]) [] := by kernel_rfl
/-- bollard/disk.Of -/
def a30 : Ann := [(28, [(0, [17])])]
def t30 : T :=
.bind (.op (.builtin .len [46] 3 [false] [(.v 0 0)]) <|
.op (.bin .lss 3 (.tmp 6) (.const (.int .i64 1)) (.v 0 0) (.c (.int .i64 1))) <|
.ite (.v 0 0) (.done 0 [(.c (.bool true))]) (.op (.builtin .len [46] 3 [false] [(.v 2 0)]) <|
.op (.bin .gtr 3 (.tmp 10) (.const (.int .i64 2048)) (.v 0 0) (.c (.int .i64 2048))) <|
.ite (.v 0 0) (.done 0 [(.c (.bool true))]) (.op (.call 68 [(.v 4 0), (.c (.func (.func 67) #[] #[]))]) <|
.done 0 [(.v 0 0)]))) <|
.alt 0 (.ite (.v 0 0) (.fin [.tmp 2, .tmp 3] [(.c (.pointer none)), (.c (.int .i64 1))])
 (.op (.call 69 [(.v 1 0)]) <|
.op (.map 30 none) <|
.op (.build 49 [(0, (.v 1 0)), (2, (.v 0 0))]) <|
.op (.box 49 (.v 0 0)) <|
.fin [.tmp 2, .tmp 3] [(.v 0 0), (.c (.int .i64 0))]))
 (.fail)
theorem d30 (a0 : Value) : denF Tryz.f30 a30 [a0] = t30.sp 0 (rows [a0]) [] := by kernel_rfl
/-- (*bollard/volume.Volume).held -/
def a36 : Ann := []
def t36 : T :=
.op (.bin .eql 26 (.tmp 3) (.const (.pointer none)) (.v 0 0) (.c (.pointer none))) <|
.ite (.v 0 0) (.fin [.tmp 2] [(.c (.bool false))])
 (.op (.nil (.v 1 0)) <|
.op (.fieldAt 115 (.v 0 0) 0) <|
.op (.call 93 [(.v 0 0)]) <|
.op (.nil (.v 4 0)) <|
.op (.fieldAt 115 (.v 0 0) 1) <|
.op (.load 45 (.v 0 0)) <|
.op (.bin .eql 45 (.tmp 12) (.const (.pointer none)) (.v 0 0) (.c (.pointer none))) <|
.ite (.v 0 0) (.op (.nil (.v 8 0)) <|
.op (.fieldAt 115 (.v 0 0) 0) <|
.op (.call 37 [(.v 0 0)]) <|
.fin [.tmp 2] [(.c (.bool false))])
 (.fin [.tmp 2] [(.c (.bool true))]))
theorem d36 (a0 : Value) : denF Tryz.f36 a36 [a0] = t36.sp 0 (rows [a0]) [] := by kernel_rfl
/-- slices.Sort[[]int,int] -/
def a41 : Ann := []
def t41 : T :=
.op (.builtin .len [31] 3 [false] [(.v 0 0)]) <|
.op (.conv 3 168 (.v 0 0)) <|
.op (.call 98 [(.v 0 0)]) <|
.op (.call 97 [(.v 3 0), (.c (.int .i64 0)), (.v 2 0), (.v 0 0)]) <|
.fin [] []
theorem d41 (a0 : Value) : denF Tryz.f41 a41 [a0] = t41.sp 0 (rows [a0]) [] := by kernel_rfl
/-- bollard/volume.Open -/
def a43 : Ann := []
def t43 : T :=
.op (.call 99 [(.v 0 0), (.v 1 0)]) <|
.op (.extract (.v 0 0) 0) <|
.op (.extract (.v 1 0) 1) <|
.op (.bin .neq 38 (.tmp 14) (.const (.int .i64 0)) (.v 0 0) (.c (.int .i64 0))) <|
.ite (.v 0 0) (.fin [.tmp 4, .tmp 5] [(.c (.pointer none)), (.v 1 0)])
 (.op (.call 100 []) <|
.op (.map 110 none) <|
.op (.build 115 [(1, (.v 6 0)), (2, (.v 4 0)), (3, (.v 1 0)), (4, (.v 0 0))]) <|
.op (.box 115 (.v 0 0)) <|
.fin [.tmp 4, .tmp 5] [(.v 0 0), (.c (.int .i64 0))])
theorem d43 (a0 a1 : Value) : denF Tryz.f43 a43 [a0, a1] = t43.sp 0 (rows [a0, a1]) [] := by kernel_rfl
/-- (*bollard/volume.Volume).Read -/
def a44 : Ann := []
def t44 : T :=
.op (.call 36 [(.v 0 0)]) <|
.op (.un .not (.v 0 0)) <|
.ite (.v 0 0) (.fin [.tmp 4, .tmp 5] [(.c (.slice none 0 0)), (.c (.int .i64 2))])
 (.op (.nil (.v 2 0)) <|
.op (.fieldAt 115 (.v 0 0) 0) <|
.dfr (.c (.func (.func 37) #[] #[])) [(.v 0 0)] <|
.op (.call 101 [(.v 4 0), (.v 5 0)]) <|
.op (.extract (.v 0 0) 0) <|
.op (.extract (.v 1 0) 1) <|
.fin [.tmp 4, .tmp 5] [(.v 1 0), (.v 0 0)])
theorem d44 (a0 a1 : Value) : denF Tryz.f44 a44 [a0, a1] = t44.sp 0 (rows [a0, a1]) [] := by kernel_rfl
/-- bollard/layout.DecodeSuper -/
def a45 : Ann := [(2044, [(0, [54])])]
def t45 : T :=
.op (.alloc 119) <|
.op (.builtin .len [22] 3 [false] [(.v 1 0)]) <|
.op (.bin .neq 3 (.tmp 10) (.const (.int .i64 128)) (.v 0 0) (.c (.int .i64 128))) <|
.ite (.v 0 0) (.op (.build 119 []) <|
.op (.store 119 (.v 3 0) (.v 0 0)) <|
.fin [.cell 2 119, .tmp 3] [(.v 4 0), (.c (.int .i64 6))])
 (.op (.slice 22 (.v 3 0) none (some (.c (.int .i64 4))) none) <|
.op (.conv 22 9 (.v 0 0)) <|
.op (.bin .neq 9 (.tmp 16) (.const (.string ⟨#[98, 111, 108, 108]⟩)) (.v 0 0) (.c (.string ⟨#[98, 111, 108, 108]⟩))) <|
.ite (.v 0 0) (.op (.build 119 []) <|
.op (.store 119 (.v 6 0) (.v 0 0)) <|
.fin [.cell 2 119, .tmp 3] [(.v 7 0), (.c (.int .i64 31))])
 (.op (.call 102 [(.v 6 0)]) <|
.op (.un .not (.v 0 0)) <|
.ite (.v 0 0) (.op (.build 119 []) <|
.op (.store 119 (.v 8 0) (.v 0 0)) <|
.fin [.cell 2 119, .tmp 3] [(.v 9 0), (.c (.int .i64 30))])
 (.op (.call 103 [(.v 8 0)]) <|
.op (.call 104 [(.v 0 0), (.c (.int .i64 4))]) <|
.op (.call 105 [(.v 1 0), (.c (.int .i64 1))]) <|
.op (.call 105 [(.v 2 0), (.c (.int .i64 1))]) <|
.op (.bin .add 3 (.tmp 31) (.const (.int .i64 1)) (.v 0 0) (.c (.int .i64 1))) <|
.op (.call 105 [(.v 4 0), (.c (.int .i64 1))]) <|
.op (.build 28 [(0, (.v 3 0)), (1, (.v 1 0)), (2, (.v 0 0))]) <|
.op (.build 119 [(0, (.v 0 0))]) <|
.op (.alloc 119) <|
.op (.store 119 (.v 0 0) (.v 1 0)) <|
.op (.call 104 [(.v 9 0), (.c (.int .i64 1))]) <|
.op (.call 105 [(.v 10 0), (.c (.int .i64 4))]) <|
.op (.fieldAt 119 (.v 3 0) 1) <|
.op (.store 3 (.v 0 0) (.v 1 0)) <|
.op (.load 119 (.v 5 0)) <|
.op (.call 48 [(.v 0 0)]) <|
.op (.extract (.v 0 0) 0) <|
.op (.extract (.v 1 0) 1) <|
.bind (.op (.bin .neq 38 (.tmp 47) (.const (.int .i64 0)) (.v 0 0) (.c (.int .i64 0))) <|
.ite (.v 0 0) (.done 0 [(.c (.bool true))]) (.op (.call 106 [(.v 2 0), (.v 27 0)]) <|
.op (.un .not (.v 0 0)) <|
.done 0 [(.v 0 0)])) <|
.alt 0 (.ite (.v 0 0) (.op (.build 119 []) <|
.op (.store 119 (.v 27 0) (.v 0 0)) <|
.fin [.cell 2 119, .tmp 3] [(.v 28 0), (.c (.int .i64 6))])
 (.op (.load 119 (.v 10 0)) <|
.op (.store 119 (.v 27 0) (.v 0 0)) <|
.fin [.cell 2 119, .tmp 3] [(.v 28 0), (.c (.int .i64 0))]))
 (.fail))))
theorem d45 (a0 : Value) : denF Tryz.f45 a45 [a0] = t45.sp 0 (rows [a0]) [] := by kernel_rfl
/-- (*bollard/volume.Volume).Blocks -/
def a46 : Ann := []
def t46 : T :=
.op (.call 36 [(.v 0 0)]) <|
.op (.un .not (.v 0 0)) <|
.ite (.v 0 0) (.fin [.tmp 2] [(.c (.int .i64 0))])
 (.op (.nil (.v 2 0)) <|
.op (.fieldAt 115 (.v 0 0) 0) <|
.dfr (.c (.func (.func 37) #[] #[])) [(.v 0 0)] <|
.op (.nil (.v 4 0)) <|
.op (.fieldAt 115 (.v 0 0) 1) <|
.op (.load 45 (.v 0 0)) <|
.op (.call 107 [(.v 0 0)]) <|
.fin [.tmp 2] [(.v 0 0)])
theorem d46 (a0 : Value) : denF Tryz.f46 a46 [a0] = t46.sp 0 (rows [a0]) [] := by kernel_rfl
/-- bollard/geom.Blocks -/
def a47 : Ann := []
def t47 : T :=
.op (.box 28 (.v 0 0)) <|
.op (.load 28 (.v 0 0)) <|
.op (.fieldAt 28 (.v 1 0) 1) <|
.op (.load 3 (.v 0 0)) <|
.op (.call 108 [(.v 2 0), (.v 0 0)]) <|
.fin [.tmp 2] [(.v 0 0)]
theorem d47 (a0 : Value) : denF Tryz.f47 a47 [a0] = t47.sp 0 (rows [a0]) [] := by kernel_rfl
/-- bollard/layout.EncodeSuper -/
def a48 : Ann := [(28, [(0, [31])])]
def t48 : T :=
.op (.box 119 (.v 0 0)) <|
.op (.fieldAt 119 (.v 0 0) 0) <|
.op (.fieldAt 28 (.v 0 0) 0) <|
.op (.load 3 (.v 0 0)) <|
.op (.build 177 [(0, (.c (.int .i64 1))), (1, (.c (.int .i64 255))), (2, (.v 0 0))]) <|
.op (.fieldAt 119 (.v 4 0) 0) <|
.op (.fieldAt 28 (.v 0 0) 1) <|
.op (.load 3 (.v 0 0)) <|
.op (.bin .sub 3 (.tmp 11) (.const (.int .i64 1)) (.v 0 0) (.c (.int .i64 1))) <|
.op (.build 177 [(0, (.c (.int .i64 1))), (1, (.c (.int .i64 255))), (2, (.v 0 0))]) <|
.op (.fieldAt 119 (.v 9 0) 0) <|
.op (.fieldAt 28 (.v 0 0) 2) <|
.op (.load 3 (.v 0 0)) <|
.op (.build 177 [(0, (.c (.int .i64 1))), (1, (.c (.int .i64 255))), (2, (.v 0 0))]) <|
.op (.build 177 [(0, (.c (.int .i64 1))), (1, (.c (.int .i64 0))), (2, (.c (.int .i64 0)))]) <|
.op (.fieldAt 119 (.v 14 0) 1) <|
.op (.load 3 (.v 0 0)) <|
.op (.build 177 [(0, (.c (.int .i64 4))), (1, (.c (.int .i64 4294967295))), (2, (.v 0 0))]) <|
.op (.buildSlice 178 5 [(0, (.v 13 0)), (1, (.v 8 0)), (2, (.v 4 0)), (3, (.v 3 0)), (4, (.v 0 0))]) <|
.bind (.op (.fieldAt 119 (.v 18 0) 0) <|
.op (.load 28 (.v 0 0)) <|
.op (.call 109 [(.v 0 0)]) <|
.op (.un .not (.v 0 0)) <|
.ite (.v 0 0) (.done 0 [(.c (.bool true))]) (.op (.call 110 [(.v 4 0)]) <|
.op (.un .not (.v 0 0)) <|
.done 0 [(.v 0 0)])) <|
.alt 0 (.ite (.v 0 0) (.fin [.tmp 2, .tmp 3] [(.c (.slice none 0 0)), (.c (.int .i64 1))])
 (.op (.buildSlice 22 4 [(0, (.c (.int .u8 98))), (1, (.c (.int .u8 111))), (2, (.c (.int .u8 108))), (3, (.c (.int .u8 108)))]) <|
.op (.conv 22 22 (.v 0 0)) <|
.op (.call 113 [(.v 0 0), (.v 3 0)]) <|
.op (.call 112 [(.v 0 0), (.c (.int .i64 128))]) <|
.op (.call 111 [(.v 0 0)]) <|
.op (.extract (.v 0 0) 0) <|
.op (.extract (.v 1 0) 1) <|
.fin [.tmp 2, .tmp 3] [(.v 1 0), (.v 0 0)]))
 (.fail)
theorem d48 (a0 : Value) : denF Tryz.f48 a48 [a0] = t48.sp 0 (rows [a0]) [] := by kernel_rfl
/-- (*bollard/volume.Volume).Change -/
def a49 : Ann := [(126, [(0, [14])]), (1021, [(0, [15]), (1, [])]), (4094, [(0, [])]), (16376, [(0, [83])]), (16377, [(0, [])]), (65511, [(0, [])])]
def t49 : T :=
.op (.call 36 [(.v 0 0)]) <|
.op (.un .not (.v 0 0)) <|
.ite (.v 0 0) (.fin [.tmp 10, .tmp 11] [(.c (.int .i64 0)), (.c (.int .i64 2))])
 (.op (.nil (.v 2 0)) <|
.op (.fieldAt 115 (.v 0 0) 0) <|
.dfr (.c (.func (.func 37) #[] #[])) [(.v 0 0)] <|
.op (.call 114 [(.v 4 0), (.v 5 0)]) <|
.op (.un .not (.v 0 0)) <|
.ite (.v 0 0) (.fin [.tmp 10, .tmp 11] [(.c (.int .i64 0)), (.c (.int .i64 90))])
 (.op (.nil (.v 6 0)) <|
.op (.fieldAt 115 (.v 0 0) 5) <|
.op (.fieldAt 113 (.v 0 0) 3) <|
.op (.load 111 (.v 0 0)) <|
.op (.lookup 111 (.v 0 0) (.v 11 0) true) <|
.op (.extract (.v 0 0) 0) <|
.op (.extract (.v 1 0) 1) <|
.bind (.op (.nil (.v 13 0)) <|
.op (.fieldAt 115 (.v 0 0) 5) <|
.op (.fieldAt 113 (.v 0 0) 0) <|
.op (.load 4 (.v 0 0)) <|
.ite (.v 0 0) (.op (.nil (.v 17 0)) <|
.op (.fieldAt 115 (.v 0 0) 5) <|
.op (.fieldAt 113 (.v 0 0) 1) <|
.op (.load 4 (.v 0 0)) <|
.op (.un .not (.v 0 0)) <|
.ite (.v 0 0) (.op (.un .not (.v 9 0)) <|
.done 0 [(.v 0 0)]) (.done 0 [(.c (.bool false))])) (.done 0 [(.c (.bool false))])) <|
.alt 0 (.bind (.ite (.v 0 0) (.op (.call 101 [(.v 14 0), (.v 15 0)]) <|
.op (.extract (.v 0 0) 0) <|
.op (.extract (.v 1 0) 1) <|
.op (.bin .neq 38 (.tmp 64) (.const (.int .i64 0)) (.v 0 0) (.c (.int .i64 0))) <|
.ite (.v 0 0) (.done 1 [(.c (.int .i64 0)), (.v 1 0)])
 (.done 0 [(.v 2 0)]))
 (.done 0 [(.c (.slice none 0 0))])) <|
.alt 0 (.op (.nil (.v 15 0)) <|
.op (.fieldAt 115 (.v 0 0) 3) <|
.op (.load 109 (.v 0 0)) <|
.op (.call 115 [(.v 0 0), (.v 19 0), (.v 20 0), (.v 21 0), (.v 22 0)]) <|
.op (.extract (.v 0 0) 0) <|
.op (.extract (.v 1 0) 1) <|
.op (.bin .neq 38 (.tmp 80) (.const (.int .i64 0)) (.v 0 0) (.c (.int .i64 0))) <|
.ite (.v 0 0) (.fin [.tmp 10, .tmp 11] [(.c (.int .i64 0)), (.v 1 0)])
 (.bind (.bind (.drew <|
.ite (.v 8 0) (.rd (.nil (.v 22 0)) <|
.rd (.fieldAt 115 (.v 0 0) 5) <|
.rd (.fieldAt 113 (.v 0 0) 3) <|
.rd (.load 111 (.v 0 0)) <|
.rd (.builtin .len [111] 3 [false] [(.v 0 0)]) <|
.rd (.nil (.v 27 0)) <|
.rd (.fieldAt 115 (.v 0 0) 5) <|
.rd (.fieldAt 113 (.v 0 0) 2) <|
.rd (.load 3 (.v 0 0)) <|
.rd (.bin .lss 3 (.tmp 91) (.tmp 96) (.v 4 0) (.v 0 0)) <|
.done 0 [(.v 0 0)]) (.done 0 [(.c (.bool false))])) <|
.alt 0 (.bind (.ite (.v 0 0) (.op (.nil (.v 23 0)) <|
.op (.fieldAt 115 (.v 0 0) 5) <|
.op (.fieldAt 113 (.v 0 0) 3) <|
.op (.load 111 (.v 0 0)) <|
.op (.mapSet 111 (.v 0 0) (.v 28 0) (.v 12 0)) <|
.done 0 [])
 (.bind (.ite (.v 9 0) (.op (.nil (.v 23 0)) <|
.op (.fieldAt 115 (.v 0 0) 5) <|
.op (.fieldAt 113 (.v 0 0) 1) <|
.op (.store 4 (.v 0 0) (.c (.bool true))) <|
.done 0 [])
 (.done 0 [])) <|
.alt 0 (.done 0 [])
 (.fail))) <|
.alt 0 (.done 0 [])
 (.fail))
 (.fail)) <|
.alt 0 (.fin [.tmp 10, .tmp 11] [(.v 3 0), (.c (.int .i64 0))])
 (.fail)))
 (.alt 1 (.finRow [.tmp 10, .tmp 11] 0)
 (.fail)))
 (.fail)))
theorem d49 (a0 a1 a2 a3 a4 : Value) : denF Tryz.f49 a49 [a0, a1, a2, a3, a4] = t49.sp 0 (rows [a0, a1, a2, a3, a4]) [] := by kernel_rfl
/-- bollard/bollardref04.Can -/
def a63 : Ann := [(12, [(0, [45])])]
def t63 : T :=
.op (.box 28 (.v 0 0)) <|
.bind (.op (.fieldAt 28 (.v 0 0) 0) <|
.op (.load 3 (.v 0 0)) <|
.op (.bin .lss 3 (.tmp 4) (.const (.int .i64 1)) (.v 0 0) (.c (.int .i64 1))) <|
.ite (.v 0 0) (.done 0 [(.c (.bool true))]) (.op (.fieldAt 28 (.v 3 0) 0) <|
.op (.load 3 (.v 0 0)) <|
.op (.bin .gtr 3 (.tmp 8) (.const (.int .i64 8)) (.v 0 0) (.c (.int .i64 8))) <|
.ite (.v 0 0) (.done 0 [(.c (.bool true))]) (.op (.fieldAt 28 (.v 6 0) 1) <|
.op (.load 3 (.v 0 0)) <|
.op (.bin .lss 3 (.tmp 13) (.const (.int .i64 8)) (.v 0 0) (.c (.int .i64 8))) <|
.ite (.v 0 0) (.done 0 [(.c (.bool true))]) (.op (.fieldAt 28 (.v 9 0) 1) <|
.op (.load 3 (.v 0 0)) <|
.op (.bin .gtr 3 (.tmp 18) (.const (.int .i64 256)) (.v 0 0) (.c (.int .i64 256))) <|
.ite (.v 0 0) (.done 0 [(.c (.bool true))]) (.op (.fieldAt 28 (.v 12 0) 2) <|
.op (.load 3 (.v 0 0)) <|
.op (.bin .lss 3 (.tmp 23) (.const (.int .i64 4)) (.v 0 0) (.c (.int .i64 4))) <|
.ite (.v 0 0) (.done 0 [(.c (.bool true))]) (.op (.fieldAt 28 (.v 15 0) 2) <|
.op (.load 3 (.v 0 0)) <|
.op (.bin .gtr 3 (.tmp 28) (.const (.int .i64 64)) (.v 0 0) (.c (.int .i64 64))) <|
.ite (.v 0 0) (.done 0 [(.c (.bool true))]) (.op (.fieldAt 28 (.v 18 0) 2) <|
.op (.load 3 (.v 0 0)) <|
.op (.bin .rem 3 (.tmp 33) (.const (.int .i64 4)) (.v 0 0) (.c (.int .i64 4))) <|
.op (.bin .neq 3 (.tmp 34) (.const (.int .i64 0)) (.v 0 0) (.c (.int .i64 0))) <|
.ite (.v 0 0) (.done 0 [(.c (.bool true))]) (.op (.fieldAt 28 (.v 22 0) 1) <|
.op (.load 3 (.v 0 0)) <|
.op (.fieldAt 28 (.v 24 0) 2) <|
.op (.load 3 (.v 0 0)) <|
.op (.bin .quo 3 (.tmp 41) (.const (.int .i64 4)) (.v 0 0) (.c (.int .i64 4))) <|
.op (.bin .add 3 (.const (.int .i64 3)) (.tmp 42) (.c (.int .i64 3)) (.v 0 0)) <|
.op (.bin .lss 3 (.tmp 39) (.tmp 43) (.v 4 0) (.v 0 0)) <|
.done 0 [(.v 0 0)])))))))) <|
.alt 0 (.ite (.v 0 0) (.fin [.tmp 2] [(.c (.int .i64 170))])
 (.fin [.tmp 2] [(.c (.int .i64 0))]))
 (.fail)
theorem d63 (a0 : Value) : denF Tryz.f63 a63 [a0] = t63.sp 0 (rows [a0]) [] := by kernel_rfl
/-- bollard/bollardref17.group -/
def a64 : Ann := [(122, [(0, [28]), (2, [])]), (125, [(0, [])]), (1020, [(0, [15]), (4, [15])])]
def t64 : T :=
.op (.box 28 (.v 0 0)) <|
.op (.load 28 (.v 0 0)) <|
.op (.build 119 [(0, (.v 0 0))]) <|
.op (.call 146 [(.v 0 0)]) <|
.op (.extract (.v 0 0) 0) <|
.op (.extract (.v 1 0) 1) <|
.op (.build 155 [(0, (.v 7 0))]) <|
.op (.alloc 155) <|
.op (.store 155 (.v 0 0) (.v 1 0)) <|
.op (.fieldAt 28 (.v 8 0) 2) <|
.op (.load 3 (.v 0 0)) <|
.op (.bin .quo 3 (.tmp 25) (.const (.int .i64 4)) (.v 0 0) (.c (.int .i64 4))) <|
.op (.bin .add 3 (.const (.int .i64 2)) (.tmp 26) (.c (.int .i64 2)) (.v 0 0)) <|
.loop [(.c (.int .i64 0))] (
.op (.bin .lss 3 (.tmp 28) (.tmp 27) (.v 0 0) (.v 1 0)) <|
.ite (.v 0 0) (.op (.fieldAt 155 (.v 7 0) 2) <|
.op (.slice 153 (.v 0 0) none none none) <|
.op (.call 147 [(.v 0 0), (.v 3 0), (.c (.bool true))]) <|
.op (.extract (.v 0 0) 0) <|
.op (.extract (.v 1 0) 1) <|
.op (.fieldAt 155 (.v 12 0) 2) <|
.op (.slice 153 (.v 0 0) none none none) <|
.op (.builtin .copy [22, 22] 3 [false, false] [(.v 0 0), (.v 3 0)]) <|
.op (.bin .add 3 (.tmp 28) (.const (.int .i64 1)) (.v 9 0) (.c (.int .i64 1))) <|
.done 0 [(.v 0 0)])
 (.done 2 [])) <|
.alt 0 (.fail)
 (.alt 2 (.op (.bin .eql 3 (.tmp 43) (.const (.int .i64 0)) (.v 15 0) (.c (.int .i64 0))) <|
.bind (.ite (.v 0 0) (.drew <|
.rd (.fieldAt 155 (.v 7 0) 2) <|
.rd (.slice 153 (.v 0 0) none none none) <|
.rd (.fieldAt 28 (.v 16 0) 2) <|
.rd (.load 3 (.v 0 0)) <|
.rd (.bin .quo 3 (.tmp 49) (.const (.int .i64 4)) (.v 0 0) (.c (.int .i64 4))) <|
.rd (.bin .add 3 (.const (.int .i64 2)) (.tmp 50) (.c (.int .i64 2)) (.v 0 0)) <|
.op (.call 147 [(.v 4 0), (.v 0 0), (.c (.bool true))]) <|
.rd (.extract (.v 0 0) 0) <|
.rd (.extract (.v 1 0) 1) <|
.op (.fieldAt 155 (.v 16 0) 2) <|
.op (.slice 153 (.v 0 0) none none none) <|
.op (.builtin .copy [22, 22] 3 [false, false] [(.v 0 0), (.v 3 0)]) <|
.op (.fieldAt 155 (.v 19 0) 1) <|
.op (.indexAt 152 (.v 0 0) (.c (.int .i64 0))) <|
.op (.store 5 (.v 0 0) (.c (.int .u8 7))) <|
.done 0 [])
 (.done 0 [])) <|
.alt 0 (.op (.load 155 (.v 8 0)) <|
.op (.call 148 [(.v 0 0)]) <|
.op (.extract (.v 0 0) 0) <|
.op (.extract (.v 1 0) 1) <|
.op (.buildSlice 46 2 [(0, (.v 15 0)), (1, (.v 1 0))]) <|
.loop [(.v 0 0)] (
.op (.builtin .len [46] 3 [false] [(.v 0 0)]) <|
.op (.fieldAt 28 (.v 22 0) 1) <|
.op (.load 3 (.v 0 0)) <|
.op (.bin .lss 3 (.tmp 70) (.tmp 72) (.v 2 0) (.v 0 0)) <|
.ite (.v 0 0) (.op (.make 22 (.c (.int .i64 128)) (.c (.int .i64 128))) <|
.op (.buildSlice 46 1 [(0, (.v 0 0))]) <|
.op (.builtin .append [46, 46] 46 [false, false] [(.v 6 0), (.v 0 0)]) <|
.done 0 [(.v 0 0)])
 (.done 4 [(.v 4 0)])) <|
.alt 0 (.fail)
 (.alt 4 (.fin [.tmp 4] [(.v 0 0)])
 (.fail)))
 (.fail))
 (.fail))
theorem d64 (a0 a1 : Value) : denF Tryz.f64 a64 [a0, a1] = t64.sp 0 (rows [a0, a1]) [] := by kernel_rfl
/-- bollard/bollardref03.EncodeDinode -/
def a65 : Ann := [(2042, [(0, [4, 29]), (2, [4])])]
def t65 : T :=
.op (.box 135 (.v 0 0)) <|
.op (.load 135 (.v 0 0)) <|
.op (.call 149 [(.v 0 0)]) <|
.op (.un .not (.v 0 0)) <|
.ite (.v 0 0) (.fin [.tmp 2, .tmp 3] [(.c (.slice none 0 0)), (.c (.int .i64 1))])
 (.op (.make 22 (.c (.int .i64 32)) (.c (.int .i64 32))) <|
.op (.fieldAt 135 (.v 4 0) 0) <|
.op (.load 3 (.v 0 0)) <|
.op (.bin .eql 3 (.tmp 12) (.const (.int .i64 0)) (.v 0 0) (.c (.int .i64 0))) <|
.ite (.v 0 0) (.fin [.tmp 2, .tmp 3] [(.v 3 0), (.c (.int .i64 0))])
 (.op (.fieldAt 135 (.v 7 0) 0) <|
.op (.load 3 (.v 0 0)) <|
.op (.call 150 [(.v 5 0), (.c (.int .i64 0)), (.c (.int .i64 1)), (.v 0 0)]) <|
.op (.fieldAt 135 (.v 10 0) 1) <|
.op (.load 3 (.v 0 0)) <|
.op (.call 150 [(.v 2 0), (.c (.int .i64 2)), (.c (.int .i64 2)), (.v 0 0)]) <|
.op (.fieldAt 135 (.v 13 0) 2) <|
.op (.load 3 (.v 0 0)) <|
.op (.call 150 [(.v 2 0), (.c (.int .i64 4)), (.c (.int .i64 4)), (.v 0 0)]) <|
.op (.fieldAt 135 (.v 16 0) 3) <|
.op (.load 133 (.v 0 0)) <|
.loop [(.v 2 0), (.c (.int .i64 0))] (
.op (.bin .lss 3 (.tmp 29) (.const (.int .i64 4)) (.v 0 1) (.c (.int .i64 4))) <|
.ite (.v 0 0) (.op (.index 133 (.v 2 0) (.v 1 1)) <|
.op (.bin .mul 3 (.const (.int .i64 2)) (.tmp 34) (.c (.int .i64 2)) (.v 2 1)) <|
.op (.bin .add 3 (.const (.int .i64 8)) (.tmp 35) (.c (.int .i64 8)) (.v 0 0)) <|
.op (.call 150 [(.v 4 0), (.v 0 0), (.c (.int .i64 2)), (.v 2 0)]) <|
.op (.bin .add 3 (.tmp 29) (.const (.int .i64 1)) (.v 5 1) (.c (.int .i64 1))) <|
.done 0 [(.v 1 0), (.v 0 0)])
 (.done 2 [(.v 1 0)])) <|
.alt 0 (.fail)
 (.alt 2 (.op (.fieldAt 135 (.v 19 0) 4) <|
.op (.load 3 (.v 0 0)) <|
.op (.call 150 [(.v 2 0), (.c (.int .i64 16)), (.c (.int .i64 2)), (.v 0 0)]) <|
.op (.fieldAt 135 (.v 22 0) 5) <|
.op (.load 3 (.v 0 0)) <|
.op (.call 150 [(.v 2 0), (.c (.int .i64 18)), (.c (.int .i64 2)), (.v 0 0)]) <|
.op (.call 151 [(.v 0 0)]) <|
.op (.extract (.v 0 0) 0) <|
.op (.extract (.v 1 0) 1) <|
.fin [.tmp 2, .tmp 3] [(.v 1 0), (.v 0 0)])
 (.fail))))
theorem d65 (a0 : Value) : denF Tryz.f65 a65 [a0] = t65.sp 0 (rows [a0]) [] := by kernel_rfl
/-- bollard/bollardref12.Encode -/
def a66 : Ann := [(12, [(0, [15])]), (122, [(0, [4, 18]), (1, []), (2, [4])])]
def t66 : T :=
.bind (.op (.builtin .len [139] 3 [false] [(.v 0 0)]) <|
.op (.bin .gtr 3 (.tmp 10) (.const (.int .i64 8)) (.v 0 0) (.c (.int .i64 8))) <|
.ite (.v 0 0) (.done 0 [(.c (.bool true))]) (.op (.call 152 [(.v 2 0)]) <|
.done 0 [(.v 0 0)])) <|
.alt 0 (.ite (.v 0 0) (.fin [.tmp 2, .tmp 3] [(.c (.slice none 0 0)), (.c (.int .i64 1))])
 (.op (.builtin .len [139] 3 [false] [(.v 1 0)]) <|
.loop [(.c (.slice none 0 0)), (.c (.int .i64 0))] (
.op (.bin .lss 3 (.tmp 18) (.tmp 17) (.v 0 1) (.v 1 0)) <|
.ite (.v 0 0) (.op (.indexAt 139 (.v 4 0) (.v 1 1)) <|
.op (.load 138 (.v 0 0)) <|
.op (.alloc 138) <|
.op (.store 138 (.v 0 0) (.v 1 0)) <|
.op (.load 138 (.v 1 0)) <|
.op (.call 153 [(.v 0 0)]) <|
.op (.extract (.v 0 0) 0) <|
.op (.extract (.v 1 0) 1) <|
.op (.bin .neq 38 (.tmp 27) (.const (.int .i64 0)) (.v 0 0) (.c (.int .i64 0))) <|
.ite (.v 0 0) (.done 1 [(.c (.slice none 0 0)), (.c (.int .i64 1))])
 (.op (.builtin .append [22, 22] 22 [false, false] [(.v 10 0), (.v 2 0)]) <|
.op (.bin .add 3 (.tmp 18) (.const (.int .i64 1)) (.v 11 1) (.c (.int .i64 1))) <|
.done 0 [(.v 1 0), (.v 0 0)]))
 (.done 2 [(.v 1 0)])) <|
.alt 0 (.fail)
 (.alt 1 (.finRow [.tmp 2, .tmp 3] 0)
 (.alt 2 (.op (.builtin .len [22] 3 [false] [(.v 0 0)]) <|
.op (.bin .sub 3 (.const (.int .i64 128)) (.tmp 35) (.c (.int .i64 128)) (.v 0 0)) <|
.op (.builtin .append [22, 3] 22 [false, false] [(.v 2 0), (.v 0 0)]) <|
.fin [.tmp 2, .tmp 3] [(.v 0 0), (.c (.int .i64 0))])
 (.fail)))))
 (.fail)
theorem d66 (a0 : Value) : denF Tryz.f66 a66 [a0] = t66.sp 0 (rows [a0]) [] := by kernel_rfl
/-- bollard/disk.Of$1 -/
def a67 : Ann := []
def t67 : T :=
.op (.builtin .len [22] 3 [false] [(.v 0 0)]) <|
.op (.bin .neq 3 (.tmp 4) (.const (.int .i64 128)) (.v 0 0) (.c (.int .i64 128))) <|
.fin [.tmp 2] [(.v 0 0)]
theorem d67 (a0 : Value) : denF Tryz.f67 a67 [a0] = t67.sp 0 (rows [a0]) [] := by kernel_rfl
/-- slices.ContainsFunc[[][]byte,[]byte] -/
def a68 : Ann := []
def t68 : T :=
.op (.call 154 [(.v 0 0), (.v 1 0)]) <|
.op (.bin .geq 3 (.tmp 7) (.const (.int .i64 0)) (.v 0 0) (.c (.int .i64 0))) <|
.fin [.tmp 4] [(.v 0 0)]
theorem d68 (a0 a1 : Value) : denF Tryz.f68 a68 [a0, a1] = t68.sp 0 (rows [a0, a1]) [] := by kernel_rfl
/-- bollard/disk.image -/
def a69 : Ann := [(58, [(0, [3, 8]), (2, [3])])]
def t69 : T :=
.op (.builtin .len [46] 3 [false] [(.v 0 0)]) <|
.loop [(.c (.slice none 0 0)), (.c (.int .i64 0))] (
.op (.bin .lss 3 (.tmp 8) (.tmp 7) (.v 0 1) (.v 1 0)) <|
.ite (.v 0 0) (.op (.indexAt 46 (.v 3 0) (.v 1 1)) <|
.op (.load 22 (.v 0 0)) <|
.op (.call 155 [(.v 0 0)]) <|
.op (.buildSlice 46 1 [(0, (.v 0 0))]) <|
.op (.builtin .append [46, 46] 46 [false, false] [(.v 5 0), (.v 0 0)]) <|
.op (.bin .add 3 (.tmp 8) (.const (.int .i64 1)) (.v 6 1) (.c (.int .i64 1))) <|
.done 0 [(.v 1 0), (.v 0 0)])
 (.done 2 [(.v 1 0)])) <|
.alt 0 (.fail)
 (.alt 2 (.fin [.tmp 2] [(.v 0 0)])
 (.fail))
theorem d69 (a0 : Value) : denF Tryz.f69 a69 [a0] = t69.sp 0 (rows [a0]) [] := by kernel_rfl
/-- bollard/geom.Can -/
def a81 : Ann := [(6, [(0, [3])]), (28, [(0, [32])])]
def t81 : T :=
.op (.box 28 (.v 0 0)) <|
.bind (.op (.fieldAt 28 (.v 0 0) 0) <|
.op (.load 3 (.v 0 0)) <|
.op (.call 171 [(.v 0 0), (.c (.int .i64 1)), (.c (.int .i64 8))]) <|
.ite (.v 0 0) (.op (.fieldAt 28 (.v 3 0) 1) <|
.op (.load 3 (.v 0 0)) <|
.op (.call 171 [(.v 0 0), (.c (.int .i64 8)), (.c (.int .i64 256))]) <|
.ite (.v 0 0) (.op (.fieldAt 28 (.v 6 0) 2) <|
.op (.load 3 (.v 0 0)) <|
.op (.call 171 [(.v 0 0), (.c (.int .i64 4)), (.c (.int .i64 64))]) <|
.done 0 [(.v 0 0)]) (.done 0 [(.c (.bool false))])) (.done 0 [(.c (.bool false))])) <|
.alt 0 (.bind (.drew <|
.rd (.un .not (.v 0 0)) <|
.ite (.v 0 0) (.done 0 [(.c (.bool true))]) (.rd (.fieldAt 28 (.v 2 0) 2) <|
.rd (.load 3 (.v 0 0)) <|
.rd (.bin .rem 3 (.tmp 21) (.const (.int .i64 4)) (.v 0 0) (.c (.int .i64 4))) <|
.rd (.bin .neq 3 (.tmp 22) (.const (.int .i64 0)) (.v 0 0) (.c (.int .i64 0))) <|
.ite (.v 0 0) (.done 0 [(.c (.bool true))]) (.rd (.fieldAt 28 (.v 6 0) 1) <|
.rd (.load 3 (.v 0 0)) <|
.rd (.load 28 (.v 8 0)) <|
.op (.call 172 [(.v 0 0)]) <|
.chk (.load 3 (.v 3 0)) (.v 2 0) <|
.chk (.fieldAt 28 (.v 10 0) 1) (.v 3 0) <|
.rd (.bin .add 3 (.tmp 29) (.const (.int .i64 1)) (.v 0 0) (.c (.int .i64 1))) <|
.rd (.bin .lss 3 (.tmp 27) (.tmp 30) (.v 3 0) (.v 0 0)) <|
.done 0 [(.v 0 0)]))) <|
.alt 0 (.ite (.v 0 0) (.fin [.tmp 2] [(.c (.int .i64 170))])
 (.fin [.tmp 2] [(.c (.int .i64 0))]))
 (.fail))
 (.fail)
theorem d81 (a0 : Value) : denF Tryz.f81 a81 [a0] = t81.sp 0 (rows [a0]) [] := by kernel_rfl
/-- (*bollard/patch.Set).own -/
def a95 : Ann := [(6, [(0, [2])])]
def t95 : T :=
.bind (.op (.bin .neq 109 (.tmp 3) (.const (.pointer none)) (.v 0 0) (.c (.pointer none))) <|
.ite (.v 0 0) (.op (.nil (.v 1 0)) <|
.op (.fieldAt 164 (.v 0 0) 3) <|
.op (.load 4 (.v 0 0)) <|
.done 0 [(.v 0 0)]) (.done 0 [(.c (.bool false))])) <|
.alt 0 (.fin [.tmp 2] [(.v 0 0)])
 (.fail)
theorem d95 (a0 : Value) : denF Tryz.f95 a95 [a0] = t95.sp 0 (rows [a0]) [] := by kernel_rfl
/-- slices.pdqsortOrdered[int] -/
def a97 : Ann := [(14, [(0, [1, 2, 3, 8, 9]), (1, [])]), (28, [(0, [1, 2, 3, 8, 9]), (1, [])]), (1821, [(0, [3])]), (7293, [(0, [11, 12])]), (14588, [(0, [68])]), (14589, [(0, []), (1, [])]), (29180, [(0, [87])]), (466943, [(0, [1, 2, 8])])]
def t97 : T :=
.loop [(.v 1 0), (.v 2 0), (.v 3 0), (.c (.bool true)), (.c (.bool true))] (
.bind (.op (.bin .sub 3 (.tmp 19) (.tmp 20) (.v 0 1) (.v 0 0)) <|
.op (.bin .leq 3 (.tmp 22) (.const (.int .i64 12)) (.v 0 0) (.c (.int .i64 12))) <|
.ite (.v 0 0) (.op (.call 193 [(.v 3 0), (.v 2 0), (.v 2 1)]) <|
.done 1 [])
 (.op (.bin .eql 3 (.tmp 28) (.const (.int .i64 0)) (.v 2 2) (.c (.int .i64 0))) <|
.ite (.v 0 0) (.op (.call 194 [(.v 4 0), (.v 3 0), (.v 3 1)]) <|
.done 1 [])
 (.op (.un .not (.v 3 3)) <|
.bind (.ite (.v 0 0) (.op (.call 195 [(.v 5 0), (.v 4 0), (.v 4 1)]) <|
.op (.bin .sub 3 (.tmp 40) (.const (.int .i64 1)) (.v 5 2) (.c (.int .i64 1))) <|
.done 0 [(.v 0 0)])
 (.done 0 [(.v 4 2)])) <|
.alt 0 (.op (.call 196 [(.v 6 0), (.v 5 0), (.v 5 1)]) <|
.op (.extract (.v 0 0) 0) <|
.op (.extract (.v 1 0) 1) <|
.op (.bin .eql 257 (.tmp 49) (.const (.int .i64 2)) (.v 0 0) (.c (.int .i64 2))) <|
.bind (.ite (.v 0 0) (.op (.call 197 [(.v 10 0), (.v 9 0), (.v 9 1)]) <|
.op (.bin .sub 3 (.tmp 55) (.const (.int .i64 1)) (.v 10 1) (.c (.int .i64 1))) <|
.op (.bin .sub 3 (.tmp 57) (.tmp 58) (.v 4 0) (.v 11 0)) <|
.op (.bin .sub 3 (.tmp 56) (.tmp 59) (.v 1 0) (.v 0 0)) <|
.done 0 [(.v 0 0), (.c (.int .i64 1))])
 (.done 0 [(.v 2 0), (.v 1 0)])) <|
.alt 0 (.bind (.ite (.v 10 3) (.ite (.v 10 4) (.op (.bin .eql 257 (.tmp 66) (.const (.int .i64 1)) (.v 0 1) (.c (.int .i64 1))) <|
.done 0 [(.v 0 0)]) (.done 0 [(.c (.bool false))])) (.done 0 [(.c (.bool false))])) <|
.alt 0 (.bind (.ite (.v 0 0) (.op (.call 198 [(.v 12 0), (.v 11 0), (.v 11 1)]) <|
.ite (.v 0 0) (.done 1 [])
 (.done 0 []))
 (.done 0 [])) <|
.alt 0 (.bind (.drew <|
.rd (.bin .gtr 3 (.tmp 73) (.const (.int .i64 0)) (.v 12 0) (.c (.int .i64 0))) <|
.ite (.v 0 0) (.rd (.bin .sub 3 (.tmp 77) (.const (.int .i64 1)) (.v 13 0) (.c (.int .i64 1))) <|
.rd (.indexAt 31 (.v 15 0) (.v 0 0)) <|
.rd (.load 3 (.v 0 0)) <|
.rd (.indexAt 31 (.v 17 0) (.v 6 0)) <|
.rd (.load 3 (.v 0 0)) <|
.op (.call 199 [(.v 2 0), (.v 0 0)]) <|
.rd (.un .not (.v 0 0)) <|
.done 0 [(.v 0 0)]) (.done 0 [(.c (.bool false))])) <|
.alt 0 (.ite (.v 0 0) (.op (.call 200 [(.v 14 0), (.v 13 0), (.v 13 1), (.v 3 0)]) <|
.done 0 [(.v 0 0), (.v 14 1), (.v 9 0), (.v 14 3), (.v 14 4)])
 (.op (.call 201 [(.v 14 0), (.v 13 0), (.v 13 1), (.v 3 0)]) <|
.op (.extract (.v 0 0) 0) <|
.op (.extract (.v 1 0) 1) <|
.op (.bin .sub 3 (.tmp 103) (.tmp 104) (.v 1 0) (.v 16 0)) <|
.op (.bin .sub 3 (.tmp 106) (.tmp 107) (.v 17 1) (.v 2 0)) <|
.op (.bin .quo 3 (.tmp 109) (.const (.int .i64 8)) (.v 17 0) (.c (.int .i64 8))) <|
.op (.bin .lss 3 (.tmp 111) (.tmp 112) (.v 2 0) (.v 1 0)) <|
.bind (.ite (.v 0 0) (.op (.bin .geq 3 (.tmp 114) (.tmp 115) (.v 3 0) (.v 1 0)) <|
.op (.call 97 [(.v 22 0), (.v 21 0), (.v 6 0), (.v 16 0)]) <|
.op (.bin .add 3 (.tmp 122) (.const (.int .i64 1)) (.v 7 0) (.c (.int .i64 1))) <|
.done 0 [(.v 0 0), (.v 23 1), (.v 2 0)])
 (.op (.bin .geq 3 (.tmp 124) (.tmp 125) (.v 2 0) (.v 1 0)) <|
.op (.bin .add 3 (.tmp 128) (.const (.int .i64 1)) (.v 6 0) (.c (.int .i64 1))) <|
.op (.call 97 [(.v 23 0), (.v 0 0), (.v 22 1), (.v 17 0)]) <|
.done 0 [(.v 23 0), (.v 8 0), (.v 2 0)])) <|
.alt 0 (.done 0 [(.v 0 0), (.v 0 1), (.v 16 0), (.v 0 2), (.v 5 0)])
 (.fail)))
 (.fail))
 (.alt 1 (.doneRow 1 0)
 (.fail)))
 (.fail))
 (.fail))
 (.fail)))) <|
.alt 0 (.done 0 [(.v 0 0), (.v 0 1), (.v 0 2), (.v 0 3), (.v 0 4)])
 (.alt 1 (.doneRow 1 0)
 (.fail))) <|
.alt 0 (.fail)
 (.alt 1 (.finRow [] 0)
 (.fail))
theorem d97 (a0 a1 a2 a3 : Value) : denF Tryz.f97 a97 [a0, a1, a2, a3] = t97.sp 0 (rows [a0, a1, a2, a3]) [] := by kernel_rfl
/-- math/bits.Len -/
def a98 : Ann := []
def t98 : T :=
.op (.call 203 [(.v 0 0)]) <|
.fin [.tmp 2] [(.v 0 0)]
theorem d98 (a0 : Value) : denF Tryz.f98 a98 [a0] = t98.sp 0 (rows [a0]) [] := by kernel_rfl
/-- bollard/cache.New -/
def a99 : Ann := [(28, [(0, [14])])]
def t99 : T :=
.op (.call 107 [(.v 0 0)]) <|
.op (.bin .eql 3 (.tmp 7) (.const (.int .i64 0)) (.v 0 0) (.c (.int .i64 0))) <|
.ite (.v 0 0) (.fin [.tmp 4, .tmp 5] [(.c (.pointer none)), (.c (.int .i64 2))])
 (.bind (.op (.bin .lss 3 (.tmp 9) (.const (.int .i64 1)) (.v 3 0) (.c (.int .i64 1))) <|
.ite (.v 0 0) (.done 0 [(.c (.bool true))]) (.op (.bin .gtr 3 (.tmp 12) (.const (.int .i64 64)) (.v 4 0) (.c (.int .i64 64))) <|
.done 0 [(.v 0 0)])) <|
.alt 0 (.ite (.v 0 0) (.fin [.tmp 4, .tmp 5] [(.c (.pointer none)), (.c (.int .i64 1))])
 (.op (.map 266 none) <|
.op (.build 268 [(0, (.v 4 0)), (1, (.v 5 0)), (2, (.v 0 0))]) <|
.op (.box 268 (.v 0 0)) <|
.fin [.tmp 4, .tmp 5] [(.v 0 0), (.c (.int .i64 0))]))
 (.fail))
theorem d99 (a0 a1 : Value) : denF Tryz.f99 a99 [a0, a1] = t99.sp 0 (rows [a0, a1]) [] := by kernel_rfl
/-- bollard/patch.New -/
def a100 : Ann := []
def t100 : T :=
.op (.map 161 none) <|
.op (.map 162 none) <|
.op (.build 164 [(1, (.v 1 0)), (2, (.v 0 0)), (3, (.c (.bool true)))]) <|
.op (.box 164 (.v 0 0)) <|
.fin [.tmp 0] [(.v 0 0)]
theorem d100 : denF Tryz.f100 a100 [] = t100.sp 0 (rows []) [] := by kernel_rfl
/-- (*bollard/volume.Volume).read -/
def a101 : Ann := []
def t101 : T :=
.op (.call 114 [(.v 0 0), (.v 1 0)]) <|
.op (.un .not (.v 0 0)) <|
.ite (.v 0 0) (.fin [.tmp 4, .tmp 5] [(.c (.slice none 0 0)), (.c (.int .i64 90))])
 (.op (.nil (.v 2 0)) <|
.op (.fieldAt 115 (.v 0 0) 2) <|
.op (.load 108 (.v 0 0)) <|
.op (.call 204 [(.v 0 0), (.v 6 0)]) <|
.op (.extract (.v 0 0) 0) <|
.op (.extract (.v 1 0) 1) <|
.op (.bin .neq 38 (.tmp 21) (.const (.int .i64 0)) (.v 0 0) (.c (.int .i64 0))) <|
.ite (.v 0 0) (.fin [.tmp 4, .tmp 5] [(.c (.slice none 0 0)), (.v 1 0)])
 (.op (.nil (.v 9 0)) <|
.op (.fieldAt 115 (.v 0 0) 3) <|
.op (.load 109 (.v 0 0)) <|
.op (.call 205 [(.v 0 0), (.v 13 0), (.v 5 0)]) <|
.op (.extract (.v 0 0) 0) <|
.op (.extract (.v 1 0) 1) <|
.fin [.tmp 4, .tmp 5] [(.v 1 0), (.v 0 0)]))
theorem d101 (a0 a1 : Value) : denF Tryz.f101 a101 [a0, a1] = t101.sp 0 (rows [a0, a1]) [] := by kernel_rfl
/-- bollard/word.Sealed -/
def a102 : Ann := [(14, [(0, [2])])]
def t102 : T :=
.op (.builtin .len [22] 3 [false] [(.v 0 0)]) <|
.op (.bin .sub 3 (.tmp 8) (.const (.int .i64 4)) (.v 0 0) (.c (.int .i64 4))) <|
.op (.builtin .max [3, 3] 3 [false, true] [(.v 0 0), (.c (.int .i64 0))]) <|
.op (.call 206 [(.v 3 0), (.v 0 0), (.c (.int .i64 4))]) <|
.op (.extract (.v 0 0) 0) <|
.op (.extract (.v 1 0) 1) <|
.bind (.op (.bin .eql 38 (.tmp 14) (.const (.int .i64 0)) (.v 0 0) (.c (.int .i64 0))) <|
.ite (.v 0 0) (.op (.builtin .len [22] 3 [false] [(.v 7 0)]) <|
.op (.bin .sub 3 (.tmp 20) (.const (.int .i64 4)) (.v 0 0) (.c (.int .i64 4))) <|
.op (.slice 22 (.v 9 0) none (some (.v 0 0)) none) <|
.op (.call 207 [(.v 0 0)]) <|
.op (.bin .eql 3 (.tmp 17) (.tmp 23) (.v 6 0) (.v 0 0)) <|
.done 0 [(.v 0 0)]) (.done 0 [(.c (.bool false))])) <|
.alt 0 (.fin [.tmp 2] [(.v 0 0)])
 (.fail)
theorem d102 (a0 : Value) : denF Tryz.f102 a102 [a0] = t102.sp 0 (rows [a0]) [] := by kernel_rfl
/-- bollard/word.Over -/
def a103 : Ann := []
def t103 : T :=
.op (.builtin .append [22, 22] 22 [true, false] [(.c (.slice none 0 0)), (.v 0 0)]) <|
.op (.build 273 [(0, (.v 0 0)), (3, (.c (.bool true)))]) <|
.op (.box 273 (.v 0 0)) <|
.fin [.tmp 2] [(.v 0 0)]
theorem d103 (a0 : Value) : denF Tryz.f103 a103 [a0] = t103.sp 0 (rows [a0]) [] := by kernel_rfl
/-- (*bollard/word.Reader).Skip -/
def a104 : Ann := []
def t104 : T :=
.op (.box 172 (.v 0 0)) <|
.op (.box 3 (.v 2 0)) <|
.op (.load 172 (.v 1 0)) <|
.op (.func (.func 209) [] [(.v 2 0), (.v 1 0)]) <|
.op (.call 208 [(.v 1 0), (.v 0 0)]) <|
.fin [] []
theorem d104 (a0 a1 : Value) : denF Tryz.f104 a104 [a0, a1] = t104.sp 0 (rows [a0, a1]) [] := by kernel_rfl
/-- (*bollard/word.Reader).Take -/
def a105 : Ann := []
def t105 : T :=
.op (.box 172 (.v 0 0)) <|
.op (.box 3 (.v 2 0)) <|
.op (.alloc 3) <|
.op (.store 3 (.v 0 0) (.c (.int .i64 0))) <|
.op (.load 172 (.v 3 0)) <|
.op (.func (.func 211) [] [(.v 4 0), (.v 3 0), (.v 2 0)]) <|
.op (.call 208 [(.v 1 0), (.v 0 0)]) <|
.op (.load 3 (.v 4 0)) <|
.fin [.tmp 4] [(.v 0 0)]
theorem d105 (a0 a1 : Value) : denF Tryz.f105 a105 [a0, a1] = t105.sp 0 (rows [a0, a1]) [] := by kernel_rfl
/-- bollard/layout.same -/
def a106 : Ann := []
def t106 : T :=
.op (.conv 22 9 (.v 0 0)) <|
.op (.conv 22 9 (.v 2 0)) <|
.op (.bin .eql 9 (.tmp 6) (.tmp 8) (.v 1 0) (.v 0 0)) <|
.fin [.tmp 4] [(.v 0 0)]
theorem d106 (a0 a1 : Value) : denF Tryz.f106 a106 [a0, a1] = t106.sp 0 (rows [a0, a1]) [] := by kernel_rfl
/-- (*bollard/disk.Disk).Blocks -/
def a107 : Ann := []
def t107 : T :=
.op (.bin .eql 45 (.tmp 3) (.const (.pointer none)) (.v 0 0) (.c (.pointer none))) <|
.ite (.v 0 0) (.fin [.tmp 2] [(.c (.int .i64 0))])
 (.op (.nil (.v 1 0)) <|
.op (.fieldAt 49 (.v 0 0) 0) <|
.op (.load 46 (.v 0 0)) <|
.op (.builtin .len [46] 3 [false] [(.v 0 0)]) <|
.fin [.tmp 2] [(.v 0 0)])
theorem d107 (a0 : Value) : denF Tryz.f107 a107 [a0] = t107.sp 0 (rows [a0]) [] := by kernel_rfl
/-- bollard/geom.all -/
def a108 : Ann := []
def t108 : T :=
.op (.box 28 (.v 0 0)) <|
.op (.load 28 (.v 0 0)) <|
.op (.call 81 [(.v 0 0)]) <|
.op (.bin .neq 38 (.tmp 6) (.const (.int .i64 0)) (.v 0 0) (.c (.int .i64 0))) <|
.ite (.v 0 0) (.fin [.tmp 4] [(.c (.int .i64 0))])
 (.op (.fieldAt 28 (.v 3 0) 0) <|
.op (.load 3 (.v 0 0)) <|
.op (.bin .mul 3 (.tmp 9) (.tmp 10) (.v 0 0) (.v 7 0)) <|
.fin [.tmp 4] [(.v 0 0)])
theorem d108 (a0 a1 : Value) : denF Tryz.f108 a108 [a0, a1] = t108.sp 0 (rows [a0, a1]) [] := by kernel_rfl
/-- bollard/layout.mayGeom -/
def a109 : Ann := [(6, [(0, [2])])]
def t109 : T :=
.op (.box 28 (.v 0 0)) <|
.bind (.op (.fieldAt 28 (.v 0 0) 0) <|
.op (.load 3 (.v 0 0)) <|
.op (.bin .geq 3 (.tmp 4) (.const (.int .i64 1)) (.v 0 0) (.c (.int .i64 1))) <|
.ite (.v 0 0) (.op (.fieldAt 28 (.v 3 0) 0) <|
.op (.load 3 (.v 0 0)) <|
.op (.bin .leq 3 (.tmp 8) (.const (.int .i64 8)) (.v 0 0) (.c (.int .i64 8))) <|
.ite (.v 0 0) (.op (.fieldAt 28 (.v 6 0) 1) <|
.op (.load 3 (.v 0 0)) <|
.op (.bin .geq 3 (.tmp 13) (.const (.int .i64 8)) (.v 0 0) (.c (.int .i64 8))) <|
.ite (.v 0 0) (.op (.fieldAt 28 (.v 9 0) 1) <|
.op (.load 3 (.v 0 0)) <|
.op (.bin .leq 3 (.tmp 18) (.const (.int .i64 256)) (.v 0 0) (.c (.int .i64 256))) <|
.ite (.v 0 0) (.op (.fieldAt 28 (.v 12 0) 2) <|
.op (.load 3 (.v 0 0)) <|
.op (.bin .geq 3 (.tmp 23) (.const (.int .i64 4)) (.v 0 0) (.c (.int .i64 4))) <|
.ite (.v 0 0) (.op (.fieldAt 28 (.v 15 0) 2) <|
.op (.load 3 (.v 0 0)) <|
.op (.bin .leq 3 (.tmp 28) (.const (.int .i64 64)) (.v 0 0) (.c (.int .i64 64))) <|
.ite (.v 0 0) (.op (.fieldAt 28 (.v 18 0) 2) <|
.op (.load 3 (.v 0 0)) <|
.op (.bin .rem 3 (.tmp 33) (.const (.int .i64 4)) (.v 0 0) (.c (.int .i64 4))) <|
.op (.bin .eql 3 (.tmp 34) (.const (.int .i64 0)) (.v 0 0) (.c (.int .i64 0))) <|
.ite (.v 0 0) (.op (.fieldAt 28 (.v 22 0) 1) <|
.op (.load 3 (.v 0 0)) <|
.op (.fieldAt 28 (.v 24 0) 2) <|
.op (.load 3 (.v 0 0)) <|
.op (.bin .quo 3 (.tmp 41) (.const (.int .i64 4)) (.v 0 0) (.c (.int .i64 4))) <|
.op (.bin .add 3 (.const (.int .i64 3)) (.tmp 42) (.c (.int .i64 3)) (.v 0 0)) <|
.op (.bin .geq 3 (.tmp 39) (.tmp 43) (.v 4 0) (.v 0 0)) <|
.done 0 [(.v 0 0)]) (.done 0 [(.c (.bool false))])) (.done 0 [(.c (.bool false))])) (.done 0 [(.c (.bool false))])) (.done 0 [(.c (.bool false))])) (.done 0 [(.c (.bool false))])) (.done 0 [(.c (.bool false))])) (.done 0 [(.c (.bool false))])) <|
.alt 0 (.fin [.tmp 2] [(.v 0 0)])
 (.fail)
theorem d109 (a0 : Value) : denF Tryz.f109 a109 [a0] = t109.sp 0 (rows [a0]) [] := by kernel_rfl
/-- bollard/layout.fit -/
def a110 : Ann := [(26, [(0, [7]), (1, []), (2, [])]), (3378, [(0, [20])])]
def t110 : T :=
.op (.builtin .len [178] 3 [false] [(.v 0 0)]) <|
.loop [(.c (.int .i64 0))] (
.op (.bin .lss 3 (.tmp 7) (.tmp 6) (.v 0 0) (.v 1 0)) <|
.ite (.v 0 0) (.op (.indexAt 178 (.v 3 0) (.v 1 0)) <|
.op (.load 177 (.v 0 0)) <|
.op (.alloc 177) <|
.op (.store 177 (.v 0 0) (.v 1 0)) <|
.bind (.op (.fieldAt 177 (.v 1 0) 2) <|
.op (.load 3 (.v 0 0)) <|
.op (.bin .lss 3 (.tmp 12) (.const (.int .i64 0)) (.v 0 0) (.c (.int .i64 0))) <|
.ite (.v 0 0) (.done 0 [(.c (.bool true))]) (.op (.fieldAt 177 (.v 4 0) 2) <|
.op (.load 3 (.v 0 0)) <|
.op (.fieldAt 177 (.v 6 0) 1) <|
.op (.load 3 (.v 0 0)) <|
.op (.bin .gtr 3 (.tmp 16) (.tmp 18) (.v 2 0) (.v 0 0)) <|
.done 0 [(.v 0 0)])) <|
.alt 0 (.ite (.v 0 0) (.done 1 [(.c (.bool false))])
 (.op (.bin .add 3 (.tmp 7) (.const (.int .i64 1)) (.v 6 0) (.c (.int .i64 1))) <|
.done 0 [(.v 0 0)]))
 (.fail))
 (.done 2 [])) <|
.alt 0 (.fail)
 (.alt 1 (.finRow [.tmp 2] 0)
 (.alt 2 (.fin [.tmp 2] [(.c (.bool true))])
 (.fail)))
theorem d110 (a0 : Value) : denF Tryz.f110 a110 [a0] = t110.sp 0 (rows [a0]) [] := by kernel_rfl
/-- bollard/word.Seal -/
def a111 : Ann := []
def t111 : T :=
.op (.builtin .len [22] 3 [false] [(.v 0 0)]) <|
.op (.bin .sub 3 (.tmp 6) (.const (.int .i64 4)) (.v 0 0) (.c (.int .i64 4))) <|
.op (.bin .lss 3 (.tmp 8) (.const (.int .i64 0)) (.v 0 0) (.c (.int .i64 0))) <|
.ite (.v 0 0) (.fin [.tmp 2, .tmp 3] [(.c (.slice none 0 0)), (.c (.int .i64 10))])
 (.op (.slice 22 (.v 3 0) none (some (.v 1 0)) none) <|
.op (.call 207 [(.v 0 0)]) <|
.op (.call 212 [(.v 5 0), (.v 3 0), (.c (.int .i64 4)), (.v 0 0)]) <|
.op (.extract (.v 0 0) 0) <|
.op (.extract (.v 1 0) 1) <|
.fin [.tmp 2, .tmp 3] [(.v 1 0), (.v 0 0)])
theorem d111 (a0 : Value) : denF Tryz.f111 a111 [a0] = t111.sp 0 (rows [a0]) [] := by kernel_rfl
/-- bollard/layout.full -/
def a112 : Ann := []
def t112 : T :=
.op (.make 22 (.v 1 0) (.v 1 0)) <|
.op (.builtin .copy [22, 22] 3 [false, false] [(.v 0 0), (.v 1 0)]) <|
.op (.slice 22 (.v 1 0) none (some (.v 3 0)) (some (.v 3 0))) <|
.fin [.tmp 4] [(.v 0 0)]
theorem d112 (a0 a1 : Value) : denF Tryz.f112 a112 [a0, a1] = t112.sp 0 (rows [a0, a1]) [] := by kernel_rfl
/-- bollard/layout.fields -/
def a113 : Ann := [(26, [(0, [0, 10]), (2, [0])]), (6758, [(0, [0, 16]), (4, [0])])]
def t113 : T :=
.op (.builtin .len [178] 3 [false] [(.v 1 0)]) <|
.loop [(.v 1 0), (.c (.int .i64 0))] (
.op (.bin .lss 3 (.tmp 10) (.tmp 9) (.v 0 1) (.v 1 0)) <|
.ite (.v 0 0) (.op (.indexAt 178 (.v 4 0) (.v 1 1)) <|
.op (.load 177 (.v 0 0)) <|
.op (.alloc 177) <|
.op (.store 177 (.v 0 0) (.v 1 0)) <|
.op (.fieldAt 177 (.v 1 0) 0) <|
.op (.load 3 (.v 0 0)) <|
.loop [(.v 7 0), (.c (.int .i64 0))] (
.op (.bin .lss 3 (.tmp 16) (.tmp 15) (.v 0 1) (.v 1 0)) <|
.ite (.v 0 0) (.op (.fieldAt 177 (.v 5 0) 2) <|
.op (.load 3 (.v 0 0)) <|
.op (.bin .mul 3 (.const (.int .i64 8)) (.tmp 22) (.c (.int .i64 8)) (.v 3 1)) <|
.op (.bin .shr 3 (.tmp 21) (.tmp 23) (.v 1 0) (.v 0 0)) <|
.op (.conv 3 5 (.v 0 0)) <|
.op (.buildSlice 22 1 [(0, (.v 0 0))]) <|
.op (.builtin .append [22, 22] 22 [false, false] [(.v 7 0), (.v 0 0)]) <|
.op (.bin .add 3 (.tmp 16) (.const (.int .i64 1)) (.v 8 1) (.c (.int .i64 1))) <|
.done 0 [(.v 1 0), (.v 0 0)])
 (.done 4 [(.v 1 0)])) <|
.alt 0 (.fail)
 (.alt 4 (.op (.bin .add 3 (.tmp 10) (.const (.int .i64 1)) (.v 8 1) (.c (.int .i64 1))) <|
.done 0 [(.v 1 0), (.v 0 0)])
 (.fail)))
 (.done 2 [(.v 1 0)])) <|
.alt 0 (.fail)
 (.alt 2 (.fin [.tmp 4] [(.v 0 0)])
 (.fail))
theorem d113 (a0 a1 : Value) : denF Tryz.f113 a113 [a0, a1] = t113.sp 0 (rows [a0, a1]) [] := by kernel_rfl
/-- (*bollard/volume.Volume).has -/
def a114 : Ann := [(6, [(0, [4])])]
def t114 : T :=
.bind (.op (.bin .geq 3 (.tmp 5) (.const (.int .i64 0)) (.v 1 0) (.c (.int .i64 0))) <|
.ite (.v 0 0) (.op (.nil (.v 1 0)) <|
.op (.fieldAt 115 (.v 0 0) 1) <|
.op (.load 45 (.v 0 0)) <|
.op (.call 107 [(.v 0 0)]) <|
.op (.bin .lss 3 (.tmp 8) (.tmp 13) (.v 6 0) (.v 0 0)) <|
.done 0 [(.v 0 0)]) (.done 0 [(.c (.bool false))])) <|
.alt 0 (.fin [.tmp 4] [(.v 0 0)])
 (.fail)
theorem d114 (a0 a1 : Value) : denF Tryz.f114 a114 [a0, a1] = t114.sp 0 (rows [a0, a1]) [] := by kernel_rfl
/-- (*bollard/patch.Set).Add -/
def a115 : Ann := [(250, [(0, [13]), (3, [13])]), (2003, [(0, [13])]), (16027, [(0, [13])])]
def t115 : T :=
.op (.box 109 (.v 0 0)) <|
.op (.load 109 (.v 0 0)) <|
.op (.call 95 [(.v 0 0)]) <|
.op (.un .not (.v 0 0)) <|
.ite (.v 0 0) (.fin [.tmp 10, .tmp 11] [(.c (.int .i64 0)), (.c (.int .i64 2))])
 (.op (.call 213 [(.v 5 0), (.v 6 0), (.v 7 0)]) <|
.op (.un .not (.v 0 0)) <|
.ite (.v 0 0) (.fin [.tmp 10, .tmp 11] [(.c (.int .i64 0)), (.c (.int .i64 1))])
 (.op (.func (.func 214) [] [(.v 5 0)]) <|
.op (.call 183 [(.v 11 0), (.v 0 0)]) <|
.ite (.v 0 0) (.fin [.tmp 10, .tmp 11] [(.c (.int .i64 0)), (.c (.int .i64 70))])
 (.drew <|
.rd (.load 109 (.v 7 0)) <|
.rd (.nil (.v 0 0)) <|
.rd (.fieldAt 164 (.v 0 0) 0) <|
.rd (.load 3 (.v 0 0)) <|
.rd (.bin .add 3 (.tmp 33) (.const (.int .i64 1)) (.v 0 0) (.c (.int .i64 1))) <|
.both (.op (.call 216 [(.v 16 0)]) <|
.chk (.bin .add 3 (.tmp 33) (.const (.int .i64 1)) (.v 2 0) (.c (.int .i64 1))) (.v 1 0) <|
.chk (.load 3 (.v 3 0)) (.v 2 0) <|
.chk (.fieldAt 164 (.v 4 0) 0) (.v 3 0) <|
.chk (.nil (.v 5 0)) (.v 4 0) <|
.chk (.load 109 (.v 13 0)) (.v 5 0) <|
.rd (.build 245 [(0, (.v 1 0)), (1, (.v 15 0)), (2, (.v 16 0)), (3, (.v 0 0))]) <|
.op (.alloc 245) <|
.chk (.build 245 [(0, (.v 3 0)), (1, (.v 17 0)), (2, (.v 18 0)), (3, (.v 2 0))]) (.v 1 0) <|
.chk (.bin .add 3 (.tmp 33) (.const (.int .i64 1)) (.v 4 0) (.c (.int .i64 1))) (.v 3 0) <|
.chk (.load 3 (.v 5 0)) (.v 4 0) <|
.chk (.fieldAt 164 (.v 6 0) 0) (.v 5 0) <|
.chk (.nil (.v 7 0)) (.v 6 0) <|
.chk (.load 109 (.v 15 0)) (.v 7 0) <|
.op (.store 245 (.v 0 0) (.v 1 0)) <|
.op (.call 217 [(.v 21 0)]) <|
.op (.load 109 (.v 17 0)) <|
.op (.nil (.v 0 0)) <|
.op (.fieldAt 164 (.v 0 0) 2) <|
.op (.load 162 (.v 0 0)) <|
.op (.range 162 (.v 0 0)) <|
.loop [(.v 5 0)] (
.op (.next (.v 1 0) false 0) <|
.op (.extract (.v 0 0) 0) <|
.ite (.v 0 0) (.bind (.op (.entry (.v 3 0)) <|
.op (.extract (.v 0 0) 0) <|
.op (.extract (.v 1 0) 1) <|
.op (.alloc 245) <|
.op (.store 245 (.v 0 0) (.v 1 0)) <|
.op (.load 245 (.v 15 0)) <|
.op (.load 245 (.v 2 0)) <|
.op (.call 218 [(.v 1 0), (.v 0 0)]) <|
.bind (.ite (.v 0 0) (.op (.buildSlice 31 1 [(0, (.v 6 0))]) <|
.op (.builtin .append [31, 31] 31 [false, false] [(.v 11 0), (.v 0 0)]) <|
.done 0 [(.v 0 0)])
 (.done 0 [(.v 10 0)])) <|
.alt 0 (.done 0 [(.v 0 0)])
 (.fail)) <|
.alt 0 (.done 0 [(.v 0 0)])
 (.fail))
 (.done 3 [(.v 2 0)])) <|
.alt 0 (.fail)
 (.alt 3 (.op (.load 109 (.v 23 0)) <|
.op (.call 181 [(.v 0 0), (.v 1 0)]) <|
.op (.fieldAt 245 (.v 10 0) 4) <|
.op (.store 31 (.v 0 0) (.v 1 0)) <|
.op (.load 109 (.v 27 0)) <|
.op (.nil (.v 0 0)) <|
.op (.fieldAt 164 (.v 0 0) 0) <|
.op (.load 3 (.v 0 0)) <|
.op (.bin .add 3 (.tmp 66) (.const (.int .i64 1)) (.v 0 0) (.c (.int .i64 1))) <|
.op (.nil (.v 4 0)) <|
.op (.fieldAt 164 (.v 0 0) 0) <|
.op (.store 3 (.v 0 0) (.v 2 0)) <|
.drew <|
.rd (.load 109 (.v 35 0)) <|
.rd (.nil (.v 0 0)) <|
.rd (.fieldAt 164 (.v 0 0) 2) <|
.rd (.load 162 (.v 0 0)) <|
.rd (.load 109 (.v 39 0)) <|
.rd (.nil (.v 0 0)) <|
.rd (.fieldAt 164 (.v 0 0) 0) <|
.rd (.load 3 (.v 0 0)) <|
.rd (.load 245 (.v 28 0)) <|
.op (.mapSet 162 (.v 5 0) (.v 1 0) (.v 0 0)) <|
.op (.load 109 (.v 45 0)) <|
.op (.nil (.v 0 0)) <|
.op (.fieldAt 164 (.v 0 0) 0) <|
.op (.load 3 (.v 0 0)) <|
.fin [.tmp 10, .tmp 11] [(.v 0 0), (.c (.int .i64 0))])
 (.fail)))
 (.op (.alloc 245) <|
.chk (.bin .add 3 (.tmp 33) (.const (.int .i64 1)) (.v 2 0) (.c (.int .i64 1))) (.v 1 0) <|
.chk (.load 3 (.v 3 0)) (.v 2 0) <|
.chk (.fieldAt 164 (.v 4 0) 0) (.v 3 0) <|
.chk (.nil (.v 5 0)) (.v 4 0) <|
.chk (.load 109 (.v 13 0)) (.v 5 0) <|
.op (.call 216 [(.v 17 0)]) <|
.chk (.bin .add 3 (.tmp 33) (.const (.int .i64 1)) (.v 3 0) (.c (.int .i64 1))) (.v 2 0) <|
.chk (.load 3 (.v 4 0)) (.v 3 0) <|
.chk (.fieldAt 164 (.v 5 0) 0) (.v 4 0) <|
.chk (.nil (.v 6 0)) (.v 5 0) <|
.chk (.load 109 (.v 14 0)) (.v 6 0) <|
.rd (.build 245 [(0, (.v 2 0)), (1, (.v 16 0)), (2, (.v 17 0)), (3, (.v 0 0))]) <|
.op (.store 245 (.v 2 0) (.v 0 0)) <|
.op (.call 217 [(.v 21 0)]) <|
.op (.load 109 (.v 17 0)) <|
.op (.nil (.v 0 0)) <|
.op (.fieldAt 164 (.v 0 0) 2) <|
.op (.load 162 (.v 0 0)) <|
.op (.range 162 (.v 0 0)) <|
.loop [(.v 5 0)] (
.op (.next (.v 1 0) false 0) <|
.op (.extract (.v 0 0) 0) <|
.ite (.v 0 0) (.bind (.op (.entry (.v 3 0)) <|
.op (.extract (.v 0 0) 0) <|
.op (.extract (.v 1 0) 1) <|
.op (.alloc 245) <|
.op (.store 245 (.v 0 0) (.v 1 0)) <|
.op (.load 245 (.v 17 0)) <|
.op (.load 245 (.v 2 0)) <|
.op (.call 218 [(.v 1 0), (.v 0 0)]) <|
.bind (.ite (.v 0 0) (.op (.buildSlice 31 1 [(0, (.v 6 0))]) <|
.op (.builtin .append [31, 31] 31 [false, false] [(.v 11 0), (.v 0 0)]) <|
.done 0 [(.v 0 0)])
 (.done 0 [(.v 10 0)])) <|
.alt 0 (.done 0 [(.v 0 0)])
 (.fail)) <|
.alt 0 (.done 0 [(.v 0 0)])
 (.fail))
 (.done 3 [(.v 2 0)])) <|
.alt 0 (.fail)
 (.alt 3 (.op (.load 109 (.v 23 0)) <|
.op (.call 181 [(.v 0 0), (.v 1 0)]) <|
.op (.fieldAt 245 (.v 12 0) 4) <|
.op (.store 31 (.v 0 0) (.v 1 0)) <|
.op (.load 109 (.v 27 0)) <|
.op (.nil (.v 0 0)) <|
.op (.fieldAt 164 (.v 0 0) 0) <|
.op (.load 3 (.v 0 0)) <|
.op (.bin .add 3 (.tmp 66) (.const (.int .i64 1)) (.v 0 0) (.c (.int .i64 1))) <|
.op (.nil (.v 4 0)) <|
.op (.fieldAt 164 (.v 0 0) 0) <|
.op (.store 3 (.v 0 0) (.v 2 0)) <|
.drew <|
.rd (.load 109 (.v 35 0)) <|
.rd (.nil (.v 0 0)) <|
.rd (.fieldAt 164 (.v 0 0) 2) <|
.rd (.load 162 (.v 0 0)) <|
.rd (.load 109 (.v 39 0)) <|
.rd (.nil (.v 0 0)) <|
.rd (.fieldAt 164 (.v 0 0) 0) <|
.rd (.load 3 (.v 0 0)) <|
.rd (.load 245 (.v 30 0)) <|
.op (.mapSet 162 (.v 5 0) (.v 1 0) (.v 0 0)) <|
.op (.load 109 (.v 45 0)) <|
.op (.nil (.v 0 0)) <|
.op (.fieldAt 164 (.v 0 0) 0) <|
.op (.load 3 (.v 0 0)) <|
.fin [.tmp 10, .tmp 11] [(.v 0 0), (.c (.int .i64 0))])
 (.fail))))))
theorem d115 (a0 a1 a2 a3 a4 : Value) : denF Tryz.f115 a115 [a0, a1, a2, a3, a4] = t115.sp 0 (rows [a0, a1, a2, a3, a4]) [] := by kernel_rfl
/-- bollard/bollardref03.EncodeSuper -/
def a146 : Ann := [(12, [(0, [18])])]
def t146 : T :=
.op (.box 119 (.v 0 0)) <|
.bind (.op (.fieldAt 119 (.v 0 0) 0) <|
.op (.load 28 (.v 0 0)) <|
.op (.call 259 [(.v 0 0)]) <|
.op (.un .not (.v 0 0)) <|
.ite (.v 0 0) (.done 0 [(.c (.bool true))]) (.op (.fieldAt 119 (.v 4 0) 1) <|
.op (.load 3 (.v 0 0)) <|
.op (.bin .lss 3 (.tmp 11) (.const (.int .i64 0)) (.v 0 0) (.c (.int .i64 0))) <|
.ite (.v 0 0) (.done 0 [(.c (.bool true))]) (.op (.fieldAt 119 (.v 7 0) 1) <|
.op (.load 3 (.v 0 0)) <|
.op (.bin .geq 3 (.tmp 16) (.const (.int .i64 4294967296)) (.v 0 0) (.c (.int .i64 4294967296))) <|
.done 0 [(.v 0 0)]))) <|
.alt 0 (.ite (.v 0 0) (.fin [.tmp 2, .tmp 3] [(.c (.slice none 0 0)), (.c (.int .i64 1))])
 (.op (.buildSlice 22 4 [(0, (.c (.int .u8 98))), (1, (.c (.int .u8 111))), (2, (.c (.int .u8 108))), (3, (.c (.int .u8 108)))]) <|
.op (.conv 22 22 (.v 0 0)) <|
.op (.builtin .append [22, 3] 22 [false, true] [(.v 0 0), (.c (.int .i64 124))]) <|
.op (.fieldAt 119 (.v 4 0) 0) <|
.op (.fieldAt 28 (.v 0 0) 0) <|
.op (.load 3 (.v 0 0)) <|
.op (.call 150 [(.v 3 0), (.c (.int .i64 4)), (.c (.int .i64 1)), (.v 0 0)]) <|
.op (.fieldAt 119 (.v 8 0) 0) <|
.op (.fieldAt 28 (.v 0 0) 1) <|
.op (.load 3 (.v 0 0)) <|
.op (.bin .sub 3 (.tmp 30) (.const (.int .i64 1)) (.v 0 0) (.c (.int .i64 1))) <|
.op (.call 150 [(.v 4 0), (.c (.int .i64 5)), (.c (.int .i64 1)), (.v 0 0)]) <|
.op (.fieldAt 119 (.v 13 0) 0) <|
.op (.fieldAt 28 (.v 0 0) 2) <|
.op (.load 3 (.v 0 0)) <|
.op (.call 150 [(.v 3 0), (.c (.int .i64 6)), (.c (.int .i64 1)), (.v 0 0)]) <|
.op (.fieldAt 119 (.v 17 0) 1) <|
.op (.load 3 (.v 0 0)) <|
.op (.call 150 [(.v 2 0), (.c (.int .i64 8)), (.c (.int .i64 4)), (.v 0 0)]) <|
.op (.call 151 [(.v 0 0)]) <|
.op (.extract (.v 0 0) 0) <|
.op (.extract (.v 1 0) 1) <|
.fin [.tmp 2, .tmp 3] [(.v 1 0), (.v 0 0)]))
 (.fail)
theorem d146 (a0 : Value) : denF Tryz.f146 a146 [a0] = t146.sp 0 (rows [a0]) [] := by kernel_rfl
/-- bollard/bollardref05.With -/
def a147 : Ann := [(12, [(0, [17])]), (61, [(0, [])])]
def t147 : T :=
.bind (.op (.bin .lss 3 (.tmp 9) (.const (.int .i64 0)) (.v 1 0) (.c (.int .i64 0))) <|
.ite (.v 0 0) (.done 0 [(.c (.bool true))]) (.op (.bin .quo 3 (.tmp 12) (.const (.int .i64 8)) (.v 2 0) (.c (.int .i64 8))) <|
.op (.builtin .len [22] 3 [false] [(.v 2 0)]) <|
.op (.bin .geq 3 (.tmp 13) (.tmp 15) (.v 1 0) (.v 0 0)) <|
.done 0 [(.v 0 0)])) <|
.alt 0 (.ite (.v 0 0) (.fin [.tmp 6, .tmp 7] [(.c (.slice none 0 0)), (.c (.int .i64 50))])
 (.op (.buildSlice 22 0 []) <|
.op (.builtin .append [22, 22] 22 [false, false] [(.v 0 0), (.v 2 0)]) <|
.op (.call 260 [(.v 3 0), (.v 4 0)]) <|
.op (.bin .neq 4 (.tmp 23) (.tmp 24) (.v 0 0) (.v 6 0)) <|
.bind (.ite (.v 0 0) (.drew <|
.rd (.bin .quo 3 (.tmp 27) (.const (.int .i64 8)) (.v 6 0) (.c (.int .i64 8))) <|
.rd (.bin .quo 3 (.tmp 30) (.const (.int .i64 8)) (.v 7 0) (.c (.int .i64 8))) <|
.rd (.indexAt 22 (.v 4 0) (.v 0 0)) <|
.rd (.load 5 (.v 0 0)) <|
.rd (.bin .rem 3 (.tmp 34) (.const (.int .i64 8)) (.v 10 0) (.c (.int .i64 8))) <|
.rd (.bin .shl 5 (.const (.int .u8 1)) (.tmp 35) (.c (.int .u8 1)) (.v 0 0)) <|
.rd (.bin .xor 5 (.tmp 33) (.tmp 36) (.v 2 0) (.v 0 0)) <|
.rd (.indexAt 22 (.v 9 0) (.v 6 0)) <|
.op (.store 5 (.v 0 0) (.v 1 0)) <|
.done 0 [])
 (.done 0 [])) <|
.alt 0 (.fin [.tmp 6, .tmp 7] [(.v 3 0), (.c (.int .i64 0))])
 (.fail)))
 (.fail)
theorem d147 (a0 a1 a2 : Value) : denF Tryz.f147 a147 [a0, a1, a2] = t147.sp 0 (rows [a0, a1, a2]) [] := by kernel_rfl
/-- bollard/bollardref03.EncodeGroup -/
def a148 : Ann := [(12, [(0, [12])])]
def t148 : T :=
.op (.box 155 (.v 0 0)) <|
.bind (.op (.fieldAt 155 (.v 0 0) 0) <|
.op (.load 3 (.v 0 0)) <|
.op (.bin .lss 3 (.tmp 6) (.const (.int .i64 0)) (.v 0 0) (.c (.int .i64 0))) <|
.ite (.v 0 0) (.done 0 [(.c (.bool true))]) (.op (.fieldAt 155 (.v 3 0) 0) <|
.op (.load 3 (.v 0 0)) <|
.op (.bin .gtr 3 (.tmp 10) (.const (.int .i64 7)) (.v 0 0) (.c (.int .i64 7))) <|
.done 0 [(.v 0 0)])) <|
.alt 0 (.ite (.v 0 0) (.fin [.tmp 2, .tmp 3] [(.c (.slice none 0 0)), (.c (.int .i64 1))])
 (.op (.buildSlice 22 2 [(0, (.c (.int .u8 104))), (1, (.c (.int .u8 100)))]) <|
.op (.conv 22 22 (.v 0 0)) <|
.op (.fieldAt 155 (.v 3 0) 0) <|
.op (.load 3 (.v 0 0)) <|
.op (.conv 3 5 (.v 0 0)) <|
.op (.buildSlice 22 2 [(0, (.v 0 0)), (1, (.c (.int .u8 0)))]) <|
.op (.builtin .append [22, 22] 22 [false, false] [(.v 4 0), (.v 0 0)]) <|
.drew <|
.rd (.fieldAt 155 (.v 8 0) 1) <|
.rd (.slice 152 (.v 0 0) none none none) <|
.rd (.fieldAt 155 (.v 10 0) 2) <|
.rd (.slice 153 (.v 0 0) none none none) <|
.op (.builtin .append [22, 22] 22 [false, false] [(.v 4 0), (.v 2 0)]) <|
.chk (.slice 153 (.v 2 0) none none none) (.v 1 0) <|
.chk (.fieldAt 155 (.v 13 0) 2) (.v 2 0) <|
.op (.builtin .append [22, 22] 22 [false, false] [(.v 0 0), (.v 1 0)]) <|
.op (.builtin .append [22, 3] 22 [false, true] [(.v 0 0), (.c (.int .i64 84))]) <|
.fin [.tmp 2, .tmp 3] [(.v 0 0), (.c (.int .i64 0))]))
 (.fail)
theorem d148 (a0 : Value) : denF Tryz.f148 a148 [a0] = t148.sp 0 (rows [a0]) [] := by kernel_rfl
/-- bollard/bollardref03.mayDinode -/
def a149 : Ann := [(28, [(0, [38])]), (122, [(0, [41]), (1, []), (2, [])]), (62, [(0, [2])])]
def t149 : T :=
.op (.box 135 (.v 0 0)) <|
.op (.fieldAt 135 (.v 0 0) 0) <|
.op (.load 3 (.v 0 0)) <|
.op (.bin .eql 3 (.tmp 6) (.const (.int .i64 0)) (.v 0 0) (.c (.int .i64 0))) <|
.ite (.v 0 0) (.op (.load 135 (.v 3 0)) <|
.op (.build 135 []) <|
.op (.bin .eql 135 (.tmp 8) (.tmp 9) (.v 1 0) (.v 0 0)) <|
.fin [.tmp 2] [(.v 0 0)])
 (.bind (.op (.fieldAt 135 (.v 3 0) 0) <|
.op (.load 3 (.v 0 0)) <|
.op (.bin .neq 3 (.tmp 12) (.const (.int .i64 1)) (.v 0 0) (.c (.int .i64 1))) <|
.ite (.v 0 0) (.op (.fieldAt 135 (.v 6 0) 0) <|
.op (.load 3 (.v 0 0)) <|
.op (.bin .neq 3 (.tmp 16) (.const (.int .i64 2)) (.v 0 0) (.c (.int .i64 2))) <|
.ite (.v 0 0) (.done 0 [(.c (.bool true))]) (.op (.fieldAt 135 (.v 9 0) 1) <|
.op (.load 3 (.v 0 0)) <|
.op (.bin .lss 3 (.tmp 21) (.const (.int .i64 0)) (.v 0 0) (.c (.int .i64 0))) <|
.ite (.v 0 0) (.done 0 [(.c (.bool true))]) (.op (.fieldAt 135 (.v 12 0) 1) <|
.op (.load 3 (.v 0 0)) <|
.op (.bin .gtr 3 (.tmp 26) (.const (.int .i64 1000)) (.v 0 0) (.c (.int .i64 1000))) <|
.ite (.v 0 0) (.done 0 [(.c (.bool true))]) (.op (.fieldAt 135 (.v 15 0) 2) <|
.op (.load 3 (.v 0 0)) <|
.op (.bin .lss 3 (.tmp 31) (.const (.int .i64 0)) (.v 0 0) (.c (.int .i64 0))) <|
.ite (.v 0 0) (.done 0 [(.c (.bool true))]) (.op (.fieldAt 135 (.v 18 0) 2) <|
.op (.load 3 (.v 0 0)) <|
.op (.bin .gtr 3 (.tmp 36) (.const (.int .i64 532992)) (.v 0 0) (.c (.int .i64 532992))) <|
.done 0 [(.v 0 0)]))))) (.op (.fieldAt 135 (.v 6 0) 1) <|
.op (.load 3 (.v 0 0)) <|
.op (.bin .lss 3 (.tmp 21) (.const (.int .i64 0)) (.v 0 0) (.c (.int .i64 0))) <|
.ite (.v 0 0) (.done 0 [(.c (.bool true))]) (.op (.fieldAt 135 (.v 9 0) 1) <|
.op (.load 3 (.v 0 0)) <|
.op (.bin .gtr 3 (.tmp 26) (.const (.int .i64 1000)) (.v 0 0) (.c (.int .i64 1000))) <|
.ite (.v 0 0) (.done 0 [(.c (.bool true))]) (.op (.fieldAt 135 (.v 12 0) 2) <|
.op (.load 3 (.v 0 0)) <|
.op (.bin .lss 3 (.tmp 31) (.const (.int .i64 0)) (.v 0 0) (.c (.int .i64 0))) <|
.ite (.v 0 0) (.done 0 [(.c (.bool true))]) (.op (.fieldAt 135 (.v 15 0) 2) <|
.op (.load 3 (.v 0 0)) <|
.op (.bin .gtr 3 (.tmp 36) (.const (.int .i64 532992)) (.v 0 0) (.c (.int .i64 532992))) <|
.done 0 [(.v 0 0)]))))) <|
.alt 0 (.ite (.v 0 0) (.fin [.tmp 2] [(.c (.bool false))])
 (.op (.fieldAt 135 (.v 4 0) 3) <|
.op (.load 133 (.v 0 0)) <|
.loop [(.c (.int .i64 0))] (
.op (.bin .lss 3 (.tmp 41) (.const (.int .i64 4)) (.v 0 0) (.c (.int .i64 4))) <|
.ite (.v 0 0) (.op (.index 133 (.v 2 0) (.v 1 0)) <|
.op (.call 261 [(.v 0 0)]) <|
.op (.un .not (.v 0 0)) <|
.ite (.v 0 0) (.done 1 [(.c (.bool false))])
 (.op (.bin .add 3 (.tmp 41) (.const (.int .i64 1)) (.v 4 0) (.c (.int .i64 1))) <|
.done 0 [(.v 0 0)]))
 (.done 2 [])) <|
.alt 0 (.fail)
 (.alt 1 (.finRow [.tmp 2] 0)
 (.alt 2 (.bind (.op (.fieldAt 135 (.v 7 0) 4) <|
.op (.load 3 (.v 0 0)) <|
.op (.call 261 [(.v 0 0)]) <|
.ite (.v 0 0) (.op (.fieldAt 135 (.v 10 0) 5) <|
.op (.load 3 (.v 0 0)) <|
.op (.call 261 [(.v 0 0)]) <|
.ite (.v 0 0) (.op (.fieldAt 135 (.v 13 0) 0) <|
.op (.load 3 (.v 0 0)) <|
.op (.bin .neq 3 (.tmp 58) (.const (.int .i64 2)) (.v 0 0) (.c (.int .i64 2))) <|
.ite (.v 0 0) (.done 0 [(.c (.bool true))]) (.op (.fieldAt 135 (.v 16 0) 2) <|
.op (.load 3 (.v 0 0)) <|
.op (.bin .rem 3 (.tmp 62) (.const (.int .i64 128)) (.v 0 0) (.c (.int .i64 128))) <|
.op (.bin .eql 3 (.tmp 63) (.const (.int .i64 0)) (.v 0 0) (.c (.int .i64 0))) <|
.done 0 [(.v 0 0)])) (.done 0 [(.c (.bool false))])) (.done 0 [(.c (.bool false))])) <|
.alt 0 (.fin [.tmp 2] [(.v 0 0)])
 (.fail))
 (.fail)))))
 (.fail))
theorem d149 (a0 : Value) : denF Tryz.f149 a149 [a0] = t149.sp 0 (rows [a0]) [] := by kernel_rfl
/-- bollard/bollardref03.number -/
def a150 : Ann := []
def t150 : T :=
.op (.call 262 [(.v 0 0), (.v 1 0), (.v 2 0), (.v 3 0)]) <|
.op (.extract (.v 0 0) 0) <|
.op (.extract (.v 1 0) 1) <|
.fin [.tmp 8] [(.v 1 0)]
theorem d150 (a0 a1 a2 a3 : Value) : denF Tryz.f150 a150 [a0, a1, a2, a3] = t150.sp 0 (rows [a0, a1, a2, a3]) [] := by kernel_rfl
/-- bollard/bollardref01.Seal -/
def a151 : Ann := []
def t151 : T :=
.op (.builtin .len [22] 3 [false] [(.v 0 0)]) <|
.op (.bin .lss 3 (.tmp 5) (.const (.int .i64 4)) (.v 0 0) (.c (.int .i64 4))) <|
.ite (.v 0 0) (.fin [.tmp 2, .tmp 3] [(.c (.slice none 0 0)), (.c (.int .i64 10))])
 (.op (.builtin .len [22] 3 [false] [(.v 2 0)]) <|
.op (.bin .sub 3 (.tmp 9) (.const (.int .i64 4)) (.v 0 0) (.c (.int .i64 4))) <|
.op (.builtin .len [22] 3 [false] [(.v 4 0)]) <|
.op (.bin .sub 3 (.tmp 13) (.const (.int .i64 4)) (.v 0 0) (.c (.int .i64 4))) <|
.op (.slice 22 (.v 6 0) none (some (.v 0 0)) none) <|
.op (.call 263 [(.v 0 0)]) <|
.op (.call 262 [(.v 8 0), (.v 4 0), (.c (.int .i64 4)), (.v 0 0)]) <|
.op (.extract (.v 0 0) 0) <|
.op (.extract (.v 1 0) 1) <|
.fin [.tmp 2, .tmp 3] [(.v 1 0), (.v 0 0)])
theorem d151 (a0 : Value) : denF Tryz.f151 a151 [a0] = t151.sp 0 (rows [a0]) [] := by kernel_rfl
/-- bollard/bollardref12.clash -/
def a152 : Ann := [(26, [(0, [9]), (1, []), (2, [])]), (6758, [(0, [18]), (1, []), (4, [])]), (865074, [(0, [36])])]
def t152 : T :=
.op (.builtin .len [139] 3 [false] [(.v 0 0)]) <|
.loop [(.c (.int .i64 0))] (
.op (.bin .lss 3 (.tmp 9) (.tmp 8) (.v 0 0) (.v 1 0)) <|
.ite (.v 0 0) (.op (.indexAt 139 (.v 3 0) (.v 1 0)) <|
.op (.load 138 (.v 0 0)) <|
.op (.alloc 138) <|
.op (.store 138 (.v 0 0) (.v 1 0)) <|
.op (.slice 139 (.v 7 0) none (some (.v 5 0)) none) <|
.op (.builtin .len [139] 3 [false] [(.v 0 0)]) <|
.loop [(.c (.int .i64 0))] (
.op (.bin .lss 3 (.tmp 18) (.tmp 17) (.v 0 0) (.v 1 0)) <|
.ite (.v 0 0) (.op (.indexAt 139 (.v 3 0) (.v 1 0)) <|
.op (.load 138 (.v 0 0)) <|
.op (.alloc 138) <|
.op (.store 138 (.v 0 0) (.v 1 0)) <|
.bind (.op (.fieldAt 138 (.v 9 0) 0) <|
.op (.load 3 (.v 0 0)) <|
.op (.bin .neq 3 (.tmp 23) (.const (.int .i64 0)) (.v 0 0) (.c (.int .i64 0))) <|
.ite (.v 0 0) (.op (.fieldAt 138 (.v 4 0) 0) <|
.op (.load 3 (.v 0 0)) <|
.op (.bin .neq 3 (.tmp 27) (.const (.int .i64 0)) (.v 0 0) (.c (.int .i64 0))) <|
.ite (.v 0 0) (.op (.fieldAt 138 (.v 15 0) 1) <|
.op (.load 9 (.v 0 0)) <|
.op (.fieldAt 138 (.v 9 0) 1) <|
.op (.load 9 (.v 0 0)) <|
.op (.bin .eql 9 (.tmp 32) (.tmp 34) (.v 2 0) (.v 0 0)) <|
.done 0 [(.v 0 0)]) (.done 0 [(.c (.bool false))])) (.done 0 [(.c (.bool false))])) <|
.alt 0 (.ite (.v 0 0) (.done 1 [(.c (.bool true))])
 (.op (.bin .add 3 (.tmp 18) (.const (.int .i64 1)) (.v 6 0) (.c (.int .i64 1))) <|
.done 0 [(.v 0 0)]))
 (.fail))
 (.done 4 [])) <|
.alt 0 (.fail)
 (.alt 1 (.doneRow 1 0)
 (.alt 4 (.op (.bin .add 3 (.tmp 9) (.const (.int .i64 1)) (.v 8 0) (.c (.int .i64 1))) <|
.done 0 [(.v 0 0)])
 (.fail))))
 (.done 2 [])) <|
.alt 0 (.fail)
 (.alt 1 (.finRow [.tmp 2] 0)
 (.alt 2 (.fin [.tmp 2] [(.c (.bool false))])
 (.fail)))
theorem d152 (a0 : Value) : denF Tryz.f152 a152 [a0] = t152.sp 0 (rows [a0]) [] := by kernel_rfl
/-- bollard/bollardref03.EncodeEntry -/
def a153 : Ann := [(60, [(0, [33])])]
def t153 : T :=
.op (.box 138 (.v 0 0)) <|
.op (.make 22 (.c (.int .i64 16)) (.c (.int .i64 16))) <|
.op (.load 138 (.v 1 0)) <|
.op (.build 138 []) <|
.op (.bin .eql 138 (.tmp 6) (.tmp 7) (.v 1 0) (.v 0 0)) <|
.ite (.v 0 0) (.fin [.tmp 2, .tmp 3] [(.v 3 0), (.c (.int .i64 0))])
 (.bind (.op (.fieldAt 138 (.v 4 0) 0) <|
.op (.load 3 (.v 0 0)) <|
.op (.bin .lss 3 (.tmp 11) (.const (.int .i64 1)) (.v 0 0) (.c (.int .i64 1))) <|
.ite (.v 0 0) (.done 0 [(.c (.bool true))]) (.op (.fieldAt 138 (.v 7 0) 0) <|
.op (.load 3 (.v 0 0)) <|
.op (.bin .gtr 3 (.tmp 15) (.const (.int .i64 511)) (.v 0 0) (.c (.int .i64 511))) <|
.ite (.v 0 0) (.done 0 [(.c (.bool true))]) (.op (.fieldAt 138 (.v 10 0) 1) <|
.op (.load 9 (.v 0 0)) <|
.op (.call 264 [(.v 0 0)]) <|
.op (.un .not (.v 0 0)) <|
.ite (.v 0 0) (.op (.fieldAt 138 (.v 14 0) 1) <|
.op (.load 9 (.v 0 0)) <|
.op (.bin .neq 9 (.tmp 25) (.const (.string ⟨#[46]⟩)) (.v 0 0) (.c (.string ⟨#[46]⟩))) <|
.ite (.v 0 0) (.op (.fieldAt 138 (.v 17 0) 1) <|
.op (.load 9 (.v 0 0)) <|
.op (.bin .neq 9 (.tmp 30) (.const (.string ⟨#[46, 46]⟩)) (.v 0 0) (.c (.string ⟨#[46, 46]⟩))) <|
.done 0 [(.v 0 0)]) (.done 0 [(.c (.bool false))])) (.done 0 [(.c (.bool false))])))) <|
.alt 0 (.ite (.v 0 0) (.fin [.tmp 2, .tmp 3] [(.c (.slice none 0 0)), (.c (.int .i64 1))])
 (.op (.fieldAt 138 (.v 5 0) 0) <|
.op (.load 3 (.v 0 0)) <|
.op (.call 150 [(.v 6 0), (.c (.int .i64 0)), (.c (.int .i64 2)), (.v 0 0)]) <|
.op (.fieldAt 138 (.v 8 0) 1) <|
.op (.load 9 (.v 0 0)) <|
.op (.builtin .len [9] 3 [false] [(.v 0 0)]) <|
.op (.call 150 [(.v 3 0), (.c (.int .i64 2)), (.c (.int .i64 1)), (.v 0 0)]) <|
.drew <|
.rd (.slice 22 (.v 0 0) (some (.c (.int .i64 3))) none none) <|
.rd (.fieldAt 138 (.v 13 0) 1) <|
.rd (.load 9 (.v 0 0)) <|
.op (.builtin .copy [22, 9] 3 [false, false] [(.v 2 0), (.v 0 0)]) <|
.fin [.tmp 2, .tmp 3] [(.v 4 0), (.c (.int .i64 0))]))
 (.fail))
theorem d153 (a0 : Value) : denF Tryz.f153 a153 [a0] = t153.sp 0 (rows [a0]) [] := by kernel_rfl
/-- slices.IndexFunc[[][]byte,[]byte] -/
def a154 : Ann := [(26, [(0, [8]), (1, []), (2, [])])]
def t154 : T :=
.op (.builtin .len [46] 3 [false] [(.v 0 0)]) <|
.loop [(.c (.int .i64 0))] (
.op (.bin .lss 3 (.tmp 8) (.tmp 7) (.v 0 0) (.v 1 0)) <|
.ite (.v 0 0) (.op (.indexAt 46 (.v 3 0) (.v 1 0)) <|
.op (.load 22 (.v 0 0)) <|
.op (.callV (.v 6 0) [(.v 0 0)]) <|
.ite (.v 0 0) (.done 1 [(.v 4 0)])
 (.op (.bin .add 3 (.tmp 8) (.const (.int .i64 1)) (.v 4 0) (.c (.int .i64 1))) <|
.done 0 [(.v 0 0)]))
 (.done 2 [])) <|
.alt 0 (.fail)
 (.alt 1 (.finRow [.tmp 4] 0)
 (.alt 2 (.fin [.tmp 4] [(.c (.int .i64 (-1)))])
 (.fail)))
theorem d154 (a0 a1 : Value) : denF Tryz.f154 a154 [a0, a1] = t154.sp 0 (rows [a0, a1]) [] := by kernel_rfl
/-- bytes.Clone -/
def a155 : Ann := []
def t155 : T :=
.op (.bin .eql 22 (.tmp 3) (.const (.slice none 0 0)) (.v 0 0) (.c (.slice none 0 0))) <|
.ite (.v 0 0) (.fin [.tmp 2] [(.c (.slice none 0 0))])
 (.op (.buildSlice 22 0 []) <|
.op (.builtin .append [22, 22] 22 [false, false] [(.v 0 0), (.v 2 0)]) <|
.fin [.tmp 2] [(.v 0 0)])
theorem d155 (a0 : Value) : denF Tryz.f155 a155 [a0] = t155.sp 0 (rows [a0]) [] := by kernel_rfl
/-- bollard/geom.between -/
def a171 : Ann := [(6, [(0, [6])])]
def t171 : T :=
.bind (.op (.bin .geq 3 (.tmp 7) (.tmp 8) (.v 0 0) (.v 1 0)) <|
.ite (.v 0 0) (.op (.bin .leq 3 (.tmp 11) (.tmp 12) (.v 1 0) (.v 3 0)) <|
.done 0 [(.v 0 0)]) (.done 0 [(.c (.bool false))])) <|
.alt 0 (.fin [.tmp 6] [(.v 0 0)])
 (.fail)
theorem d171 (a0 a1 a2 : Value) : denF Tryz.f171 a171 [a0, a1, a2] = t171.sp 0 (rows [a0, a1, a2]) [] := by kernel_rfl
/-- bollard/geom.front -/
def a172 : Ann := []
def t172 : T :=
.op (.box 28 (.v 0 0)) <|
.op (.fieldAt 28 (.v 0 0) 2) <|
.op (.load 3 (.v 0 0)) <|
.op (.bin .quo 3 (.tmp 4) (.const (.int .i64 4)) (.v 0 0) (.c (.int .i64 4))) <|
.op (.bin .add 3 (.const (.int .i64 2)) (.tmp 5) (.c (.int .i64 2)) (.v 0 0)) <|
.fin [.tmp 2] [(.v 0 0)]
theorem d172 (a0 : Value) : denF Tryz.f172 a172 [a0] = t172.sp 0 (rows [a0]) [] := by kernel_rfl
/-- (*bollard/patch.Set).pending -/
def a181 : Ann := [(58, [(0, [5, 12]), (2, [5])]), (934, [(0, [5])]), (14951, [(0, [5])])]
def t181 : T :=
.op (.builtin .len [31] 3 [false] [(.v 1 0)]) <|
.loop [(.c (.slice none 0 0)), (.c (.int .i64 0))] (
.op (.bin .lss 3 (.tmp 12) (.tmp 11) (.v 0 1) (.v 1 0)) <|
.ite (.v 0 0) (.bind (.op (.indexAt 31 (.v 4 0) (.v 1 1)) <|
.op (.load 3 (.v 0 0)) <|
.op (.nil (.v 5 0)) <|
.op (.fieldAt 164 (.v 0 0) 2) <|
.op (.load 162 (.v 0 0)) <|
.op (.lookup 162 (.v 0 0) (.v 3 0) true) <|
.op (.extract (.v 0 0) 0) <|
.op (.extract (.v 1 0) 1) <|
.op (.alloc 245) <|
.op (.store 245 (.v 0 0) (.v 2 0)) <|
.bind (.ite (.v 2 0) (.op (.buildSlice 31 1 [(0, (.v 8 0))]) <|
.op (.builtin .append [31, 31] 31 [false, false] [(.v 12 0), (.v 0 0)]) <|
.done 0 [(.v 0 0)])
 (.done 0 [(.v 11 0)])) <|
.alt 0 (.done 0 [(.v 0 0)])
 (.fail)) <|
.alt 0 (.op (.bin .add 3 (.tmp 12) (.const (.int .i64 1)) (.v 2 1) (.c (.int .i64 1))) <|
.done 0 [(.v 1 0), (.v 0 0)])
 (.fail))
 (.done 2 [(.v 1 0)])) <|
.alt 0 (.fail)
 (.alt 2 (.op (.call 41 [(.v 0 0)]) <|
.op (.call 24 [(.v 1 0)]) <|
.fin [.tmp 4] [(.v 0 0)])
 (.fail))
theorem d181 (a0 a1 : Value) : denF Tryz.f181 a181 [a0, a1] = t181.sp 0 (rows [a0, a1]) [] := by kernel_rfl
/-- slices.ContainsFunc[[]int,int] -/
def a183 : Ann := []
def t183 : T :=
.op (.call 296 [(.v 0 0), (.v 1 0)]) <|
.op (.bin .geq 3 (.tmp 7) (.const (.int .i64 0)) (.v 0 0) (.c (.int .i64 0))) <|
.fin [.tmp 4] [(.v 0 0)]
theorem d183 (a0 a1 : Value) : denF Tryz.f183 a183 [a0, a1] = t183.sp 0 (rows [a0, a1]) [] := by kernel_rfl
/-- (*bollard/patch.Set).Of -/
def a184 : Ann := []
def t184 : T :=
.op (.box 109 (.v 0 0)) <|
.op (.box 3 (.v 2 0)) <|
.op (.load 109 (.v 1 0)) <|
.op (.call 95 [(.v 0 0)]) <|
.op (.un .not (.v 0 0)) <|
.ite (.v 0 0) (.fin [.tmp 4] [(.c (.slice none 0 0))])
 (.op (.load 109 (.v 4 0)) <|
.op (.call 297 [(.v 0 0)]) <|
.op (.func (.func 298) [] [(.v 6 0), (.v 5 0)]) <|
.op (.call 268 [(.v 1 0), (.v 0 0)]) <|
.fin [.tmp 4] [(.v 0 0)])
theorem d184 (a0 a1 : Value) : denF Tryz.f184 a184 [a0, a1] = t184.sp 0 (rows [a0, a1]) [] := by kernel_rfl
/-- slices.insertionSortOrdered[int] -/
def a193 : Ann := [(6, [(0, [6]), (2, [])]), (402, [(0, [7]), (4, [])]), (3216, [(0, [30])])]
def t193 : T :=
.op (.bin .add 3 (.tmp 8) (.const (.int .i64 1)) (.v 1 0) (.c (.int .i64 1))) <|
.loop [(.v 0 0)] (
.op (.bin .lss 3 (.tmp 10) (.tmp 11) (.v 0 0) (.v 4 0)) <|
.ite (.v 0 0) (.loop [(.v 1 0)] (
.bind (.drew <|
.rd (.bin .gtr 3 (.tmp 16) (.tmp 17) (.v 0 0) (.v 5 0)) <|
.ite (.v 0 0) (.rd (.indexAt 31 (.v 5 0) (.v 1 0)) <|
.rd (.load 3 (.v 0 0)) <|
.rd (.bin .sub 3 (.tmp 25) (.const (.int .i64 1)) (.v 3 0) (.c (.int .i64 1))) <|
.rd (.indexAt 31 (.v 8 0) (.v 0 0)) <|
.rd (.load 3 (.v 0 0)) <|
.op (.call 199 [(.v 3 0), (.v 0 0)]) <|
.done 0 [(.v 0 0)]) (.done 0 [(.c (.bool false))])) <|
.alt 0 (.ite (.v 0 0) (.drew <|
.rd (.bin .sub 3 (.tmp 36) (.const (.int .i64 1)) (.v 1 0) (.c (.int .i64 1))) <|
.rd (.bin .sub 3 (.tmp 39) (.const (.int .i64 1)) (.v 2 0) (.c (.int .i64 1))) <|
.rd (.indexAt 31 (.v 7 0) (.v 0 0)) <|
.rd (.load 3 (.v 0 0)) <|
.rd (.indexAt 31 (.v 9 0) (.v 5 0)) <|
.rd (.load 3 (.v 0 0)) <|
.rd (.indexAt 31 (.v 11 0) (.v 7 0)) <|
.op (.store 3 (.v 0 0) (.v 3 0)) <|
.chk (.bin .sub 3 (.tmp 36) (.const (.int .i64 1)) (.v 9 0) (.c (.int .i64 1))) (.v 7 0) <|
.rd (.indexAt 31 (.v 13 0) (.v 7 0)) <|
.op (.store 3 (.v 0 0) (.v 3 0)) <|
.op (.bin .sub 3 (.tmp 31) (.const (.int .i64 1)) (.v 11 0) (.c (.int .i64 1))) <|
.done 0 [(.v 0 0)])
 (.done 4 []))
 (.fail)) <|
.alt 0 (.fail)
 (.alt 4 (.op (.bin .add 3 (.tmp 13) (.const (.int .i64 1)) (.v 2 0) (.c (.int .i64 1))) <|
.done 0 [(.v 0 0)])
 (.fail)))
 (.done 2 [])) <|
.alt 0 (.fail)
 (.alt 2 (.fin [] [])
 (.fail))
theorem d193 (a0 a1 a2 : Value) : denF Tryz.f193 a193 [a0, a1, a2] = t193.sp 0 (rows [a0, a1, a2]) [] := by kernel_rfl
/-- math/bits.Len64 -/
def a203 : Ann := [(13, [(0, [0, 2])]), (29, [(0, [0, 2])]), (61, [(0, [0, 2])])]
def t203 : T :=
.op (.bin .geq 56 (.tmp 3) (.const (.int .u64 4294967296)) (.v 0 0) (.c (.int .u64 4294967296))) <|
.bind (.ite (.v 0 0) (.op (.bin .shr 56 (.tmp 5) (.const (.int .u64 32)) (.v 1 0) (.c (.int .u64 32))) <|
.done 0 [(.v 0 0), (.c (.int .i64 32))])
 (.done 0 [(.v 1 0), (.c (.int .i64 0))])) <|
.alt 0 (.op (.bin .geq 56 (.tmp 7) (.const (.int .u64 65536)) (.v 0 0) (.c (.int .u64 65536))) <|
.bind (.ite (.v 0 0) (.op (.bin .shr 56 (.tmp 9) (.const (.int .u64 16)) (.v 1 0) (.c (.int .u64 16))) <|
.op (.bin .add 3 (.tmp 11) (.const (.int .i64 16)) (.v 2 1) (.c (.int .i64 16))) <|
.done 0 [(.v 1 0), (.v 0 0)])
 (.done 0 [(.v 1 0), (.v 1 1)])) <|
.alt 0 (.op (.bin .geq 56 (.tmp 13) (.const (.int .u64 256)) (.v 0 0) (.c (.int .u64 256))) <|
.bind (.ite (.v 0 0) (.op (.bin .shr 56 (.tmp 15) (.const (.int .u64 8)) (.v 1 0) (.c (.int .u64 8))) <|
.op (.bin .add 3 (.tmp 17) (.const (.int .i64 8)) (.v 2 1) (.c (.int .i64 8))) <|
.done 0 [(.v 1 0), (.v 0 0)])
 (.done 0 [(.v 1 0), (.v 1 1)])) <|
.alt 0 (.op (.conv 56 5 (.v 0 0)) <|
.op (.index 9 (.c (.string ⟨#[0, 1, 2, 2, 3, 3, 3, 3, 4, 4, 4, 4, 4, 4, 4, 4, 5, 5, 5, 5, 5, 5, 5, 5, 5, 5, 5, 5, 5, 5, 5, 5, 6, 6, 6, 6, 6, 6, 6, 6, 6, 6, 6, 6, 6, 6, 6, 6, 6, 6, 6, 6, 6, 6, 6, 6, 6, 6, 6, 6, 6, 6, 6, 6, 7, 7, 7, 7, 7, 7, 7, 7, 7, 7, 7, 7, 7, 7, 7, 7, 7, 7, 7, 7, 7, 7, 7, 7, 7, 7, 7, 7, 7, 7, 7, 7, 7, 7, 7, 7, 7, 7, 7, 7, 7, 7, 7, 7, 7, 7, 7, 7, 7, 7, 7, 7, 7, 7, 7, 7, 7, 7, 7, 7, 7, 7, 7, 7, 8, 8, 8, 8, 8, 8, 8, 8, 8, 8, 8, 8, 8, 8, 8, 8, 8, 8, 8, 8, 8, 8, 8, 8, 8, 8, 8, 8, 8, 8, 8, 8, 8, 8, 8, 8, 8, 8, 8, 8, 8, 8, 8, 8, 8, 8, 8, 8, 8, 8, 8, 8, 8, 8, 8, 8, 8, 8, 8, 8, 8, 8, 8, 8, 8, 8, 8, 8, 8, 8, 8, 8, 8, 8, 8, 8, 8, 8, 8, 8, 8, 8, 8, 8, 8, 8, 8, 8, 8, 8, 8, 8, 8, 8, 8, 8, 8, 8, 8, 8, 8, 8, 8, 8, 8, 8, 8, 8, 8, 8, 8, 8, 8, 8, 8, 8, 8, 8, 8, 8, 8, 8, 8, 8, 8, 8, 8, 8]⟩)) (.v 0 0)) <|
.op (.conv 5 3 (.v 0 0)) <|
.op (.bin .add 3 (.tmp 19) (.tmp 23) (.v 3 1) (.v 0 0)) <|
.fin [.tmp 2] [(.v 0 0)])
 (.fail))
 (.fail))
 (.fail)
theorem d203 (a0 : Value) : denF Tryz.f203 a203 [a0] = t203.sp 0 (rows [a0]) [] := by kernel_rfl
/-- (*bollard/cache.Cache).Get -/
def a204 : Ann := []
def t204 : T :=
.op (.call 311 [(.v 0 0), (.v 1 0)]) <|
.op (.extract (.v 0 0) 0) <|
.op (.extract (.v 1 0) 1) <|
.op (.bin .neq 38 (.tmp 14) (.const (.int .i64 0)) (.v 0 0) (.c (.int .i64 0))) <|
.ite (.v 0 0) (.fin [.tmp 4, .tmp 5] [(.c (.slice none 0 0)), (.v 1 0)])
 (.op (.nil (.v 2 0)) <|
.op (.fieldAt 374 (.v 0 0) 0) <|
.op (.load 22 (.v 0 0)) <|
.op (.call 155 [(.v 0 0)]) <|
.fin [.tmp 4, .tmp 5] [(.v 0 0), (.c (.int .i64 0))])
theorem d204 (a0 a1 : Value) : denF Tryz.f204 a204 [a0, a1] = t204.sp 0 (rows [a0, a1]) [] := by kernel_rfl
/-- (*bollard/patch.Set).Now -/
def a205 : Ann := []
def t205 : T :=
.op (.call 95 [(.v 0 0)]) <|
.op (.un .not (.v 0 0)) <|
.ite (.v 0 0) (.fin [.tmp 6, .tmp 7] [(.c (.slice none 0 0)), (.c (.int .i64 2))])
 (.op (.builtin .len [22] 3 [false] [(.v 4 0)]) <|
.op (.bin .neq 3 (.tmp 14) (.const (.int .i64 128)) (.v 0 0) (.c (.int .i64 128))) <|
.ite (.v 0 0) (.fin [.tmp 6, .tmp 7] [(.c (.slice none 0 0)), (.c (.int .i64 1))])
 (.op (.call 184 [(.v 4 0), (.v 5 0)]) <|
.op (.call 312 [(.v 5 0), (.v 7 0), (.v 0 0)]) <|
.fin [.tmp 6, .tmp 7] [(.v 0 0), (.c (.int .i64 0))]))
theorem d205 (a0 a1 a2 : Value) : denF Tryz.f205 a205 [a0, a1, a2] = t205.sp 0 (rows [a0, a1, a2]) [] := by kernel_rfl
/-- bollard/word.Get -/
def a206 : Ann := [(250, [(0, [9, 19]), (2, [9])])]
def t206 : T :=
.op (.call 313 [(.v 0 0), (.v 1 0), (.v 2 0)]) <|
.op (.bin .neq 38 (.tmp 15) (.const (.int .i64 0)) (.v 0 0) (.c (.int .i64 0))) <|
.ite (.v 0 0) (.fin [.tmp 6, .tmp 7] [(.c (.int .i64 0)), (.v 1 0)])
 (.loop [(.c (.int .i64 0)), (.c (.int .i64 0))] (
.op (.bin .lss 3 (.tmp 19) (.tmp 18) (.v 0 1) (.v 5 0)) <|
.ite (.v 0 0) (.op (.bin .add 3 (.tmp 24) (.tmp 25) (.v 5 0) (.v 1 1)) <|
.op (.indexAt 22 (.v 5 0) (.v 0 0)) <|
.op (.load 5 (.v 0 0)) <|
.op (.conv 5 3 (.v 0 0)) <|
.op (.bin .mul 3 (.const (.int .i64 8)) (.tmp 30) (.c (.int .i64 8)) (.v 5 1)) <|
.op (.bin .shl 3 (.tmp 29) (.tmp 31) (.v 1 0) (.v 0 0)) <|
.op (.bin .or 3 (.tmp 22) (.tmp 32) (.v 7 0) (.v 0 0)) <|
.op (.bin .add 3 (.tmp 19) (.const (.int .i64 1)) (.v 8 1) (.c (.int .i64 1))) <|
.done 0 [(.v 1 0), (.v 0 0)])
 (.done 2 [(.v 1 0)])) <|
.alt 0 (.fail)
 (.alt 2 (.fin [.tmp 6, .tmp 7] [(.v 0 0), (.c (.int .i64 0))])
 (.fail)))
theorem d206 (a0 a1 a2 : Value) : denF Tryz.f206 a206 [a0, a1, a2] = t206.sp 0 (rows [a0, a1, a2]) [] := by kernel_rfl
/-- bollard/word.Sum -/
def a207 : Ann := [(58, [(0, [3, 4, 9]), (2, [3, 4])])]
def t207 : T :=
.op (.builtin .len [22] 3 [false] [(.v 0 0)]) <|
.loop [(.c (.int .i64 1)), (.c (.int .i64 0)), (.c (.int .i64 0))] (
.op (.bin .lss 3 (.tmp 9) (.tmp 8) (.v 0 2) (.v 1 0)) <|
.ite (.v 0 0) (.op (.indexAt 22 (.v 3 0) (.v 1 2)) <|
.op (.load 5 (.v 0 0)) <|
.op (.conv 5 3 (.v 0 0)) <|
.op (.bin .add 3 (.tmp 13) (.tmp 15) (.v 4 0) (.v 0 0)) <|
.op (.bin .rem 3 (.tmp 16) (.const (.int .i64 65521)) (.v 0 0) (.c (.int .i64 65521))) <|
.op (.bin .add 3 (.tmp 18) (.tmp 19) (.v 6 1) (.v 0 0)) <|
.op (.bin .rem 3 (.tmp 20) (.const (.int .i64 65521)) (.v 0 0) (.c (.int .i64 65521))) <|
.op (.bin .add 3 (.tmp 9) (.const (.int .i64 1)) (.v 8 2) (.c (.int .i64 1))) <|
.done 0 [(.v 3 0), (.v 1 0), (.v 0 0)])
 (.done 2 [(.v 1 0), (.v 1 1)])) <|
.alt 0 (.fail)
 (.alt 2 (.op (.bin .shl 3 (.tmp 23) (.const (.int .u64 16)) (.v 0 1) (.c (.int .u64 16))) <|
.op (.bin .add 3 (.tmp 24) (.tmp 25) (.v 0 0) (.v 1 0)) <|
.fin [.tmp 2] [(.v 0 0)])
 (.fail))
theorem d207 (a0 : Value) : denF Tryz.f207 a207 [a0] = t207.sp 0 (rows [a0]) [] := by kernel_rfl
/-- (*bollard/word.Reader).do -/
def a208 : Ann := [(12, [(0, [19])])]
def t208 : T :=
.op (.box 172 (.v 0 0)) <|
.bind (.op (.load 172 (.v 0 0)) <|
.op (.bin .eql 172 (.tmp 4) (.const (.pointer none)) (.v 0 0) (.c (.pointer none))) <|
.ite (.v 0 0) (.done 0 [(.c (.bool true))]) (.op (.load 172 (.v 2 0)) <|
.op (.nil (.v 0 0)) <|
.op (.fieldAt 273 (.v 0 0) 3) <|
.op (.load 4 (.v 0 0)) <|
.op (.un .not (.v 0 0)) <|
.ite (.v 0 0) (.done 0 [(.c (.bool true))]) (.op (.load 172 (.v 7 0)) <|
.op (.nil (.v 0 0)) <|
.op (.fieldAt 273 (.v 0 0) 2) <|
.op (.load 38 (.v 0 0)) <|
.op (.bin .neq 38 (.tmp 17) (.const (.int .i64 0)) (.v 0 0) (.c (.int .i64 0))) <|
.done 0 [(.v 0 0)]))) <|
.alt 0 (.ite (.v 0 0) (.fin [] [])
 (.op (.func (.func 314) [] [(.v 1 0)]) <|
.dfr (.v 0 0) [] <|
.op (.callV (.v 4 0) []) <|
.fin [] []))
 (.fail)
theorem d208 (a0 a1 : Value) : denF Tryz.f208 a208 [a0, a1] = t208.sp 0 (rows [a0, a1]) [] := by kernel_rfl
/-- (*bollard/word.Reader).Skip$1 -/
def a209 : Ann := []
def t209 : T :=
.op (.load 172 (.v 0 0)) <|
.op (.load 3 (.v 2 0)) <|
.op (.call 210 [(.v 1 0), (.v 0 0), (.c (.bool true))]) <|
.fin [] []
theorem d209 (a0 a1 : Value) : denF Tryz.f209 a209 [a0, a1] = t209.sp 0 (rows [a0, a1]) [] := by kernel_rfl
/-- (*bollard/word.Reader).next -/
def a210 : Ann := [(12, [(0, [12])]), (13, [(0, [])]), (29, [(0, [])])]
def t210 : T :=
.bind (.op (.bin .lss 3 (.tmp 7) (.const (.int .i64 0)) (.v 1 0) (.c (.int .i64 0))) <|
.ite (.v 0 0) (.done 0 [(.c (.bool true))]) (.op (.un .not (.v 3 0)) <|
.done 0 [(.v 0 0)])) <|
.alt 0 (.bind (.ite (.v 0 0) (.op (.iface 38 (.c (.int .i64 1))) <|
.op (.panic (.v 0 0)) <|
.done 0 [])
 (.done 0 [])) <|
.alt 0 (.drew <|
.rd (.nil (.v 2 0)) <|
.rd (.fieldAt 273 (.v 0 0) 0) <|
.rd (.load 22 (.v 0 0)) <|
.rd (.builtin .len [22] 3 [false] [(.v 0 0)]) <|
.rd (.nil (.v 6 0)) <|
.rd (.fieldAt 273 (.v 0 0) 1) <|
.rd (.load 3 (.v 0 0)) <|
.rd (.bin .sub 3 (.tmp 19) (.tmp 23) (.v 3 0) (.v 0 0)) <|
.rd (.bin .gtr 3 (.tmp 14) (.tmp 24) (.v 11 0) (.v 0 0)) <|
.bind (.ite (.v 0 0) (.op (.iface 38 (.c (.int .i64 10))) <|
.op (.panic (.v 0 0)) <|
.done 0 [])
 (.done 0 [])) <|
.alt 0 (.op (.nil (.v 12 0)) <|
.op (.fieldAt 273 (.v 0 0) 1) <|
.op (.load 3 (.v 0 0)) <|
.op (.bin .add 3 (.tmp 30) (.tmp 31) (.v 0 0) (.v 16 0)) <|
.op (.nil (.v 16 0)) <|
.op (.fieldAt 273 (.v 0 0) 1) <|
.op (.store 3 (.v 0 0) (.v 2 0)) <|
.drew <|
.rd (.nil (.v 19 0)) <|
.rd (.fieldAt 273 (.v 0 0) 0) <|
.rd (.load 22 (.v 0 0)) <|
.rd (.nil (.v 22 0)) <|
.rd (.fieldAt 273 (.v 0 0) 1) <|
.rd (.load 3 (.v 0 0)) <|
.rd (.bin .sub 3 (.tmp 42) (.tmp 43) (.v 0 0) (.v 26 0)) <|
.rd (.nil (.v 26 0)) <|
.rd (.fieldAt 273 (.v 0 0) 1) <|
.rd (.load 3 (.v 0 0)) <|
.rd (.slice 22 (.v 7 0) (some (.v 3 0)) (some (.v 0 0)) none) <|
.fin [.tmp 6] [(.v 0 0)])
 (.fail))
 (.fail))
 (.fail)
theorem d210 (a0 a1 a2 : Value) : denF Tryz.f210 a210 [a0, a1, a2] = t210.sp 0 (rows [a0, a1, a2]) [] := by kernel_rfl
/-- (*bollard/word.Reader).Take$1 -/
def a211 : Ann := [(1, [(0, [])])]
def t211 : T :=
.bind (.drew <|
.rd (.load 172 (.v 0 0)) <|
.rd (.load 3 (.v 2 0)) <|
.rd (.load 3 (.v 3 0)) <|
.rd (.bin .geq 3 (.tmp 6) (.const (.int .i64 1)) (.v 0 0) (.c (.int .i64 1))) <|
.ite (.v 0 0) (.rd (.load 3 (.v 5 0)) <|
.rd (.bin .leq 3 (.tmp 9) (.const (.int .i64 4)) (.v 0 0) (.c (.int .i64 4))) <|
.rd (.load 3 (.v 7 0)) <|
.op (.call 210 [(.v 6 0), (.v 5 0), (.v 1 0)]) <|
.chk (.load 3 (.v 9 0)) (.v 1 0) <|
.op (.call 206 [(.v 0 0), (.c (.int .i64 0)), (.v 1 0)]) <|
.rd (.extract (.v 0 0) 0) <|
.rd (.extract (.v 1 0) 1) <|
.op (.store 3 (.v 13 0) (.v 1 0)) <|
.chk (.extract (.v 3 0) 1) (.v 1 0) <|
.done 0 []) (.rd (.load 3 (.v 5 0)) <|
.op (.call 210 [(.v 4 0), (.v 3 0), (.c (.bool false))]) <|
.chk (.load 3 (.v 7 0)) (.v 1 0) <|
.op (.call 206 [(.v 0 0), (.c (.int .i64 0)), (.v 1 0)]) <|
.rd (.extract (.v 0 0) 0) <|
.rd (.extract (.v 1 0) 1) <|
.op (.store 3 (.v 11 0) (.v 1 0)) <|
.chk (.extract (.v 3 0) 1) (.v 1 0) <|
.done 0 [])) <|
.alt 0 (.fin [] [])
 (.fail)
theorem d211 (a0 a1 a2 : Value) : denF Tryz.f211 a211 [a0, a1, a2] = t211.sp 0 (rows [a0, a1, a2]) [] := by kernel_rfl
/-- bollard/word.Put -/
def a212 : Ann := [(28, [(0, [29])]), (29, [(0, [10])]), (506, [(0, [36]), (2, [])])]
def t212 : T :=
.op (.call 313 [(.v 0 0), (.v 1 0), (.v 2 0)]) <|
.bind (.op (.bin .neq 38 (.tmp 17) (.const (.int .i64 1)) (.v 0 0) (.c (.int .i64 1))) <|
.ite (.v 0 0) (.op (.bin .lss 3 (.tmp 20) (.const (.int .i64 0)) (.v 5 0) (.c (.int .i64 0))) <|
.ite (.v 0 0) (.done 0 [(.c (.bool true))]) (.op (.bin .mul 3 (.const (.int .i64 8)) (.tmp 24) (.c (.int .i64 8)) (.v 5 0)) <|
.op (.bin .shr 3 (.tmp 23) (.tmp 25) (.v 7 0) (.v 0 0)) <|
.op (.bin .neq 3 (.tmp 26) (.const (.int .i64 0)) (.v 0 0) (.c (.int .i64 0))) <|
.done 0 [(.v 0 0)])) (.done 0 [(.c (.bool false))])) <|
.alt 0 (.bind (.ite (.v 0 0) (.done 0 [(.c (.int .i64 1))])
 (.done 0 [(.v 1 0)])) <|
.alt 0 (.op (.bin .neq 38 (.tmp 30) (.const (.int .i64 0)) (.v 0 0) (.c (.int .i64 0))) <|
.ite (.v 0 0) (.fin [.tmp 8, .tmp 9] [(.c (.slice none 0 0)), (.v 1 0)])
 (.op (.builtin .append [22, 22] 22 [true, false] [(.c (.slice none 0 0)), (.v 4 0)]) <|
.loop [(.c (.int .i64 0))] (
.op (.bin .lss 3 (.tmp 36) (.tmp 35) (.v 0 0) (.v 8 0)) <|
.ite (.v 0 0) (.op (.bin .add 3 (.tmp 40) (.tmp 41) (.v 8 0) (.v 1 0)) <|
.op (.bin .mul 3 (.const (.int .i64 8)) (.tmp 44) (.c (.int .i64 8)) (.v 2 0)) <|
.op (.bin .shr 3 (.tmp 43) (.tmp 45) (.v 12 0) (.v 0 0)) <|
.op (.conv 3 5 (.v 0 0)) <|
.op (.indexAt 22 (.v 6 0) (.v 3 0)) <|
.op (.store 5 (.v 0 0) (.v 1 0)) <|
.op (.bin .add 3 (.tmp 36) (.const (.int .i64 1)) (.v 7 0) (.c (.int .i64 1))) <|
.done 0 [(.v 0 0)])
 (.done 2 [])) <|
.alt 0 (.fail)
 (.alt 2 (.fin [.tmp 8, .tmp 9] [(.v 1 0), (.c (.int .i64 0))])
 (.fail))))
 (.fail))
 (.fail)
theorem d212 (a0 a1 a2 a3 : Value) : denF Tryz.f212 a212 [a0, a1, a2, a3] = t212.sp 0 (rows [a0, a1, a2, a3]) [] := by kernel_rfl
/-- bollard/patch.fits -/
def a213 : Ann := [(6, [(0, [6])])]
def t213 : T :=
.bind (.op (.bin .geq 3 (.tmp 7) (.const (.int .i64 0)) (.v 0 0) (.c (.int .i64 0))) <|
.ite (.v 0 0) (.op (.bin .geq 3 (.tmp 10) (.const (.int .i64 0)) (.v 2 0) (.c (.int .i64 0))) <|
.ite (.v 0 0) (.op (.builtin .len [22] 3 [false] [(.v 4 0)]) <|
.op (.bin .gtr 3 (.tmp 15) (.const (.int .i64 0)) (.v 0 0) (.c (.int .i64 0))) <|
.ite (.v 0 0) (.op (.bin .leq 3 (.tmp 19) (.const (.int .i64 128)) (.v 5 0) (.c (.int .i64 128))) <|
.ite (.v 0 0) (.op (.builtin .len [22] 3 [false] [(.v 7 0)]) <|
.op (.bin .sub 3 (.const (.int .i64 128)) (.tmp 25) (.c (.int .i64 128)) (.v 7 0)) <|
.op (.bin .leq 3 (.tmp 24) (.tmp 26) (.v 1 0) (.v 0 0)) <|
.done 0 [(.v 0 0)]) (.done 0 [(.c (.bool false))])) (.done 0 [(.c (.bool false))])) (.done 0 [(.c (.bool false))])) (.done 0 [(.c (.bool false))])) <|
.alt 0 (.fin [.tmp 6] [(.v 0 0)])
 (.fail)
theorem d213 (a0 a1 a2 : Value) : denF Tryz.f213 a213 [a0, a1, a2] = t213.sp 0 (rows [a0, a1, a2]) [] := by kernel_rfl
/-- slices.Clone[[]byte,byte] -/
def a216 : Ann := []
def t216 : T :=
.op (.bin .eql 22 (.tmp 3) (.const (.slice none 0 0)) (.v 0 0) (.c (.slice none 0 0))) <|
.ite (.v 0 0) (.fin [.tmp 2] [(.c (.slice none 0 0))])
 (.op (.buildSlice 22 0 []) <|
.op (.builtin .append [22, 22] 22 [false, false] [(.v 0 0), (.v 2 0)]) <|
.fin [.tmp 2] [(.v 0 0)])
theorem d216 (a0 : Value) : denF Tryz.f216 a216 [a0] = t216.sp 0 (rows [a0]) [] := by kernel_rfl
/-- slices.Clone[[]int,int] -/
def a217 : Ann := []
def t217 : T :=
.op (.bin .eql 31 (.tmp 3) (.const (.slice none 0 0)) (.v 0 0) (.c (.slice none 0 0))) <|
.ite (.v 0 0) (.fin [.tmp 2] [(.c (.slice none 0 0))])
 (.op (.buildSlice 31 0 []) <|
.op (.builtin .append [31, 31] 31 [false, false] [(.v 0 0), (.v 2 0)]) <|
.fin [.tmp 2] [(.v 0 0)])
theorem d217 (a0 : Value) : denF Tryz.f217 a217 [a0] = t217.sp 0 (rows [a0]) [] := by kernel_rfl
/-- bollard/bollardref03.may -/
def a259 : Ann := [(6, [(0, [2])])]
def t259 : T :=
.op (.box 28 (.v 0 0)) <|
.bind (.op (.fieldAt 28 (.v 0 0) 0) <|
.op (.load 3 (.v 0 0)) <|
.op (.bin .geq 3 (.tmp 4) (.const (.int .i64 1)) (.v 0 0) (.c (.int .i64 1))) <|
.ite (.v 0 0) (.op (.fieldAt 28 (.v 3 0) 0) <|
.op (.load 3 (.v 0 0)) <|
.op (.bin .leq 3 (.tmp 8) (.const (.int .i64 8)) (.v 0 0) (.c (.int .i64 8))) <|
.ite (.v 0 0) (.op (.fieldAt 28 (.v 6 0) 1) <|
.op (.load 3 (.v 0 0)) <|
.op (.bin .geq 3 (.tmp 13) (.const (.int .i64 8)) (.v 0 0) (.c (.int .i64 8))) <|
.ite (.v 0 0) (.op (.fieldAt 28 (.v 9 0) 1) <|
.op (.load 3 (.v 0 0)) <|
.op (.bin .leq 3 (.tmp 18) (.const (.int .i64 256)) (.v 0 0) (.c (.int .i64 256))) <|
.ite (.v 0 0) (.op (.fieldAt 28 (.v 12 0) 2) <|
.op (.load 3 (.v 0 0)) <|
.op (.bin .geq 3 (.tmp 23) (.const (.int .i64 4)) (.v 0 0) (.c (.int .i64 4))) <|
.ite (.v 0 0) (.op (.fieldAt 28 (.v 15 0) 2) <|
.op (.load 3 (.v 0 0)) <|
.op (.bin .leq 3 (.tmp 28) (.const (.int .i64 64)) (.v 0 0) (.c (.int .i64 64))) <|
.ite (.v 0 0) (.op (.fieldAt 28 (.v 18 0) 2) <|
.op (.load 3 (.v 0 0)) <|
.op (.bin .rem 3 (.tmp 33) (.const (.int .i64 4)) (.v 0 0) (.c (.int .i64 4))) <|
.op (.bin .eql 3 (.tmp 34) (.const (.int .i64 0)) (.v 0 0) (.c (.int .i64 0))) <|
.ite (.v 0 0) (.op (.fieldAt 28 (.v 22 0) 1) <|
.op (.load 3 (.v 0 0)) <|
.op (.fieldAt 28 (.v 24 0) 2) <|
.op (.load 3 (.v 0 0)) <|
.op (.bin .quo 3 (.tmp 41) (.const (.int .i64 4)) (.v 0 0) (.c (.int .i64 4))) <|
.op (.bin .add 3 (.const (.int .i64 3)) (.tmp 42) (.c (.int .i64 3)) (.v 0 0)) <|
.op (.bin .geq 3 (.tmp 39) (.tmp 43) (.v 4 0) (.v 0 0)) <|
.done 0 [(.v 0 0)]) (.done 0 [(.c (.bool false))])) (.done 0 [(.c (.bool false))])) (.done 0 [(.c (.bool false))])) (.done 0 [(.c (.bool false))])) (.done 0 [(.c (.bool false))])) (.done 0 [(.c (.bool false))])) (.done 0 [(.c (.bool false))])) <|
.alt 0 (.fin [.tmp 2] [(.v 0 0)])
 (.fail)
theorem d259 (a0 : Value) : denF Tryz.f259 a259 [a0] = t259.sp 0 (rows [a0]) [] := by kernel_rfl
/-- bollard/bollardref05.Has -/
def a260 : Ann := [(6, [(0, [4])])]
def t260 : T :=
.bind (.op (.bin .geq 3 (.tmp 5) (.const (.int .i64 0)) (.v 1 0) (.c (.int .i64 0))) <|
.ite (.v 0 0) (.op (.bin .quo 3 (.tmp 8) (.const (.int .i64 8)) (.v 2 0) (.c (.int .i64 8))) <|
.op (.builtin .len [22] 3 [false] [(.v 2 0)]) <|
.op (.bin .lss 3 (.tmp 9) (.tmp 11) (.v 1 0) (.v 0 0)) <|
.ite (.v 0 0) (.op (.bin .quo 3 (.tmp 16) (.const (.int .i64 8)) (.v 5 0) (.c (.int .i64 8))) <|
.op (.indexAt 22 (.v 5 0) (.v 0 0)) <|
.op (.load 5 (.v 0 0)) <|
.op (.bin .rem 3 (.tmp 20) (.const (.int .i64 8)) (.v 8 0) (.c (.int .i64 8))) <|
.op (.bin .shr 5 (.tmp 19) (.tmp 21) (.v 1 0) (.v 0 0)) <|
.op (.bin .rem 5 (.tmp 22) (.const (.int .u8 2)) (.v 0 0) (.c (.int .u8 2))) <|
.op (.bin .eql 5 (.tmp 23) (.const (.int .u8 1)) (.v 0 0) (.c (.int .u8 1))) <|
.done 0 [(.v 0 0)]) (.done 0 [(.c (.bool false))])) (.done 0 [(.c (.bool false))])) <|
.alt 0 (.fin [.tmp 4] [(.v 0 0)])
 (.fail)
theorem d260 (a0 a1 : Value) : denF Tryz.f260 a260 [a0, a1] = t260.sp 0 (rows [a0, a1]) [] := by kernel_rfl
/-- bollard/bollardref03.address -/
def a261 : Ann := [(6, [(0, [2])])]
def t261 : T :=
.bind (.op (.bin .geq 3 (.tmp 3) (.const (.int .i64 0)) (.v 0 0) (.c (.int .i64 0))) <|
.ite (.v 0 0) (.op (.bin .lss 3 (.tmp 6) (.const (.int .i64 2048)) (.v 1 0) (.c (.int .i64 2048))) <|
.done 0 [(.v 0 0)]) (.done 0 [(.c (.bool false))])) <|
.alt 0 (.fin [.tmp 2] [(.v 0 0)])
 (.fail)
theorem d261 (a0 : Value) : denF Tryz.f261 a261 [a0] = t261.sp 0 (rows [a0]) [] := by kernel_rfl
/-- bollard/bollardref01.Put -/
def a262 : Ann := [(12, [(0, [32])]), (250, [(0, [3, 43]), (2, [])])]
def t262 : T :=
.bind (.op (.bin .lss 3 (.tmp 12) (.const (.int .i64 1)) (.v 2 0) (.c (.int .i64 1))) <|
.ite (.v 0 0) (.done 0 [(.c (.bool true))]) (.op (.bin .gtr 3 (.tmp 15) (.const (.int .i64 4)) (.v 3 0) (.c (.int .i64 4))) <|
.ite (.v 0 0) (.done 0 [(.c (.bool true))]) (.op (.bin .lss 3 (.tmp 19) (.const (.int .i64 0)) (.v 3 0) (.c (.int .i64 0))) <|
.ite (.v 0 0) (.done 0 [(.c (.bool true))]) (.op (.bin .lss 3 (.tmp 23) (.const (.int .i64 0)) (.v 6 0) (.c (.int .i64 0))) <|
.ite (.v 0 0) (.done 0 [(.c (.bool true))]) (.op (.bin .mul 3 (.const (.int .i64 8)) (.tmp 28) (.c (.int .i64 8)) (.v 6 0)) <|
.op (.bin .shl 3 (.const (.int .i64 1)) (.tmp 29) (.c (.int .i64 1)) (.v 0 0)) <|
.op (.bin .geq 3 (.tmp 27) (.tmp 30) (.v 9 0) (.v 0 0)) <|
.done 0 [(.v 0 0)]))))) <|
.alt 0 (.ite (.v 0 0) (.fin [.tmp 8, .tmp 9] [(.c (.slice none 0 0)), (.c (.int .i64 1))])
 (.op (.builtin .len [22] 3 [false] [(.v 1 0)]) <|
.op (.bin .sub 3 (.tmp 35) (.tmp 36) (.v 0 0) (.v 4 0)) <|
.op (.bin .gtr 3 (.tmp 33) (.tmp 37) (.v 4 0) (.v 0 0)) <|
.ite (.v 0 0) (.fin [.tmp 8, .tmp 9] [(.c (.slice none 0 0)), (.c (.int .i64 10))])
 (.op (.buildSlice 22 0 []) <|
.op (.builtin .append [22, 22] 22 [false, false] [(.v 0 0), (.v 5 0)]) <|
.loop [(.v 9 0), (.c (.int .i64 0))] (
.op (.bin .lss 3 (.tmp 43) (.tmp 42) (.v 0 1) (.v 9 0)) <|
.ite (.v 0 0) (.op (.bin .add 3 (.tmp 47) (.tmp 48) (.v 9 0) (.v 1 1)) <|
.op (.bin .rem 3 (.tmp 50) (.const (.int .i64 256)) (.v 2 0) (.c (.int .i64 256))) <|
.op (.conv 3 5 (.v 0 0)) <|
.op (.indexAt 22 (.v 5 0) (.v 2 0)) <|
.op (.store 5 (.v 0 0) (.v 1 0)) <|
.op (.bin .quo 3 (.tmp 54) (.const (.int .i64 256)) (.v 6 0) (.c (.int .i64 256))) <|
.op (.bin .add 3 (.tmp 43) (.const (.int .i64 1)) (.v 7 1) (.c (.int .i64 1))) <|
.done 0 [(.v 1 0), (.v 0 0)])
 (.done 2 [])) <|
.alt 0 (.fail)
 (.alt 2 (.fin [.tmp 8, .tmp 9] [(.v 1 0), (.c (.int .i64 0))])
 (.fail)))))
 (.fail)
theorem d262 (a0 a1 a2 a3 : Value) : denF Tryz.f262 a262 [a0, a1, a2, a3] = t262.sp 0 (rows [a0, a1, a2, a3]) [] := by kernel_rfl
/-- bollard/bollardref01.Sum -/
def a263 : Ann := [(58, [(0, [3, 4, 9]), (2, [3, 4])])]
def t263 : T :=
.op (.builtin .len [22] 3 [false] [(.v 0 0)]) <|
.loop [(.c (.int .i64 1)), (.c (.int .i64 0)), (.c (.int .i64 0))] (
.op (.bin .lss 3 (.tmp 9) (.tmp 8) (.v 0 2) (.v 1 0)) <|
.ite (.v 0 0) (.op (.indexAt 22 (.v 3 0) (.v 1 2)) <|
.op (.load 5 (.v 0 0)) <|
.op (.conv 5 3 (.v 0 0)) <|
.op (.bin .add 3 (.tmp 13) (.tmp 15) (.v 4 0) (.v 0 0)) <|
.op (.bin .rem 3 (.tmp 16) (.const (.int .i64 65521)) (.v 0 0) (.c (.int .i64 65521))) <|
.op (.bin .add 3 (.tmp 18) (.tmp 19) (.v 6 1) (.v 0 0)) <|
.op (.bin .rem 3 (.tmp 20) (.const (.int .i64 65521)) (.v 0 0) (.c (.int .i64 65521))) <|
.op (.bin .add 3 (.tmp 9) (.const (.int .i64 1)) (.v 8 2) (.c (.int .i64 1))) <|
.done 0 [(.v 3 0), (.v 1 0), (.v 0 0)])
 (.done 2 [(.v 1 0), (.v 1 1)])) <|
.alt 0 (.fail)
 (.alt 2 (.op (.bin .mul 3 (.tmp 23) (.const (.int .i64 65536)) (.v 0 1) (.c (.int .i64 65536))) <|
.op (.bin .add 3 (.tmp 24) (.tmp 25) (.v 0 0) (.v 1 0)) <|
.fin [.tmp 2] [(.v 0 0)])
 (.fail))
theorem d263 (a0 : Value) : denF Tryz.f263 a263 [a0] = t263.sp 0 (rows [a0]) [] := by kernel_rfl
/-- bollard/bollardref03.IsName -/
def a264 : Ann := [(12, [(0, [18])]), (58, [(0, [3]), (1, []), (2, [])]), (1864, [(0, [40])])]
def t264 : T :=
.bind (.op (.bin .eql 9 (.tmp 4) (.const (.string ⟨#[]⟩)) (.v 0 0) (.c (.string ⟨#[]⟩))) <|
.ite (.v 0 0) (.done 0 [(.c (.bool true))]) (.op (.builtin .len [9] 3 [false] [(.v 1 0)]) <|
.op (.bin .gtr 3 (.tmp 8) (.const (.int .i64 13)) (.v 0 0) (.c (.int .i64 13))) <|
.ite (.v 0 0) (.done 0 [(.c (.bool true))]) (.op (.bin .eql 9 (.tmp 12) (.const (.string ⟨#[46]⟩)) (.v 3 0) (.c (.string ⟨#[46]⟩))) <|
.ite (.v 0 0) (.done 0 [(.c (.bool true))]) (.op (.bin .eql 9 (.tmp 16) (.const (.string ⟨#[46, 46]⟩)) (.v 4 0) (.c (.string ⟨#[46, 46]⟩))) <|
.done 0 [(.v 0 0)])))) <|
.alt 0 (.ite (.v 0 0) (.fin [.tmp 2] [(.c (.bool false))])
 (.loop [(.c (.int .i64 0))] (
.op (.builtin .len [9] 3 [false] [(.v 2 0)]) <|
.op (.bin .lss 3 (.tmp 19) (.tmp 21) (.v 1 0) (.v 0 0)) <|
.ite (.v 0 0) (.bind (.op (.index 9 (.v 4 0) (.v 2 0)) <|
.op (.bin .lss 5 (.tmp 27) (.const (.int .u8 33)) (.v 0 0) (.c (.int .u8 33))) <|
.ite (.v 0 0) (.done 0 [(.c (.bool true))]) (.op (.index 9 (.v 6 0) (.v 4 0)) <|
.op (.bin .gtr 5 (.tmp 32) (.const (.int .u8 126)) (.v 0 0) (.c (.int .u8 126))) <|
.ite (.v 0 0) (.done 0 [(.c (.bool true))]) (.op (.index 9 (.v 8 0) (.v 6 0)) <|
.op (.bin .eql 5 (.tmp 38) (.const (.int .u8 47)) (.v 0 0) (.c (.int .u8 47))) <|
.done 0 [(.v 0 0)]))) <|
.alt 0 (.ite (.v 0 0) (.done 1 [(.c (.bool false))])
 (.op (.bin .add 3 (.tmp 23) (.const (.int .i64 1)) (.v 3 0) (.c (.int .i64 1))) <|
.done 0 [(.v 0 0)]))
 (.fail))
 (.done 2 [])) <|
.alt 0 (.fail)
 (.alt 1 (.finRow [.tmp 2] 0)
 (.alt 2 (.fin [.tmp 2] [(.c (.bool true))])
 (.fail)))))
 (.fail)
theorem d264 (a0 : Value) : denF Tryz.f264 a264 [a0] = t264.sp 0 (rows [a0]) [] := by kernel_rfl
/-- slices.DeleteFunc[[]int,int] -/
def a268 : Ann := [(122, [(0, [5, 6]), (2, [5])]), (978, [(0, [5])]), (7827, [(0, [5])])]
def t268 : T :=
.op (.call 296 [(.v 0 0), (.v 1 0)]) <|
.op (.bin .eql 3 (.tmp 11) (.const (.int .i64 (-1))) (.v 0 0) (.c (.int .i64 (-1)))) <|
.ite (.v 0 0) (.fin [.tmp 4] [(.v 2 0)])
 (.op (.bin .add 3 (.tmp 14) (.const (.int .i64 1)) (.v 1 0) (.c (.int .i64 1))) <|
.loop [(.v 2 0), (.v 0 0)] (
.op (.builtin .len [31] 3 [false] [(.v 4 0)]) <|
.op (.bin .lss 3 (.tmp 16) (.tmp 18) (.v 1 1) (.v 0 0)) <|
.ite (.v 0 0) (.bind (.op (.indexAt 31 (.v 6 0) (.v 2 1)) <|
.op (.load 3 (.v 0 0)) <|
.op (.callV (.v 9 0) [(.v 0 0)]) <|
.op (.un .not (.v 0 0)) <|
.bind (.ite (.v 0 0) (.op (.indexAt 31 (.v 10 0) (.v 6 0)) <|
.op (.store 3 (.v 0 0) (.v 3 0)) <|
.op (.bin .add 3 (.tmp 34) (.const (.int .i64 1)) (.v 8 0) (.c (.int .i64 1))) <|
.done 0 [(.v 0 0)])
 (.done 0 [(.v 6 0)])) <|
.alt 0 (.done 0 [(.v 0 0)])
 (.fail)) <|
.alt 0 (.op (.bin .add 3 (.tmp 20) (.const (.int .i64 1)) (.v 3 1) (.c (.int .i64 1))) <|
.done 0 [(.v 1 0), (.v 0 0)])
 (.fail))
 (.done 2 [(.v 2 0)])) <|
.alt 0 (.fail)
 (.alt 2 (.op (.slice 31 (.v 4 0) (some (.v 0 0)) none none) <|
.op (.builtin .clear [31] 0 [false] [(.v 0 0)]) <|
.op (.slice 31 (.v 6 0) none (some (.v 2 0)) none) <|
.fin [.tmp 4] [(.v 0 0)])
 (.fail)))
theorem d268 (a0 a1 : Value) : denF Tryz.f268 a268 [a0, a1] = t268.sp 0 (rows [a0, a1]) [] := by kernel_rfl
/-- (*bollard/disk.Disk).made -/
def a285 : Ann := [(6, [(0, [2])])]
def t285 : T :=
.bind (.op (.bin .neq 45 (.tmp 3) (.const (.pointer none)) (.v 0 0) (.c (.pointer none))) <|
.ite (.v 0 0) (.op (.nil (.v 1 0)) <|
.op (.fieldAt 49 (.v 0 0) 0) <|
.op (.load 46 (.v 0 0)) <|
.op (.builtin .len [46] 3 [false] [(.v 0 0)]) <|
.op (.bin .gtr 3 (.tmp 10) (.const (.int .i64 0)) (.v 0 0) (.c (.int .i64 0))) <|
.done 0 [(.v 0 0)]) (.done 0 [(.c (.bool false))])) <|
.alt 0 (.fin [.tmp 2] [(.v 0 0)])
 (.fail)
theorem d285 (a0 : Value) : denF Tryz.f285 a285 [a0] = t285.sp 0 (rows [a0]) [] := by kernel_rfl
/-- slices.IndexFunc[[]int,int] -/
def a296 : Ann := [(26, [(0, [8]), (1, []), (2, [])])]
def t296 : T :=
.op (.builtin .len [31] 3 [false] [(.v 0 0)]) <|
.loop [(.c (.int .i64 0))] (
.op (.bin .lss 3 (.tmp 8) (.tmp 7) (.v 0 0) (.v 1 0)) <|
.ite (.v 0 0) (.op (.indexAt 31 (.v 3 0) (.v 1 0)) <|
.op (.load 3 (.v 0 0)) <|
.op (.callV (.v 6 0) [(.v 0 0)]) <|
.ite (.v 0 0) (.done 1 [(.v 4 0)])
 (.op (.bin .add 3 (.tmp 8) (.const (.int .i64 1)) (.v 4 0) (.c (.int .i64 1))) <|
.done 0 [(.v 0 0)]))
 (.done 2 [])) <|
.alt 0 (.fail)
 (.alt 1 (.finRow [.tmp 4] 0)
 (.alt 2 (.fin [.tmp 4] [(.c (.int .i64 (-1)))])
 (.fail)))
theorem d296 (a0 a1 : Value) : denF Tryz.f296 a296 [a0, a1] = t296.sp 0 (rows [a0, a1]) [] := by kernel_rfl
/-- (*bollard/patch.Set).all -/
def a297 : Ann := []
def t297 : T :=
.op (.nil (.v 0 0)) <|
.op (.fieldAt 164 (.v 0 0) 2) <|
.op (.load 162 (.v 0 0)) <|
.op (.call 388 [(.v 0 0)]) <|
.op (.call 25 [(.v 0 0)]) <|
.fin [.tmp 2] [(.v 0 0)]
theorem d297 (a0 : Value) : denF Tryz.f297 a297 [a0] = t297.sp 0 (rows [a0]) [] := by kernel_rfl
/-- (*bollard/cache.Cache).get -/
def a311 : Ann := [(61, [(0, [7]), (1, [])])]
def t311 : T :=
.op (.call 386 [(.v 0 0), (.v 1 0)]) <|
.op (.bin .neq 38 (.tmp 14) (.const (.int .i64 0)) (.v 0 0) (.c (.int .i64 0))) <|
.ite (.v 0 0) (.fin [.tmp 4, .tmp 5] [(.c (.pointer none)), (.v 1 0)])
 (.op (.nil (.v 2 0)) <|
.op (.fieldAt 268 (.v 0 0) 2) <|
.op (.load 266 (.v 0 0)) <|
.op (.lookup 266 (.v 0 0) (.v 6 0) true) <|
.op (.extract (.v 0 0) 0) <|
.op (.extract (.v 1 0) 1) <|
.bind (.ite (.v 0 0) (.op (.nil (.v 8 0)) <|
.op (.fieldAt 268 (.v 0 0) 4) <|
.op (.load 3 (.v 0 0)) <|
.op (.bin .add 3 (.tmp 30) (.const (.int .i64 1)) (.v 0 0) (.c (.int .i64 1))) <|
.op (.nil (.v 12 0)) <|
.op (.fieldAt 268 (.v 0 0) 4) <|
.op (.store 3 (.v 0 0) (.v 2 0)) <|
.done 0 [(.v 8 0)])
 (.op (.nil (.v 8 0)) <|
.op (.fieldAt 268 (.v 0 0) 5) <|
.op (.load 3 (.v 0 0)) <|
.op (.bin .add 3 (.tmp 37) (.const (.int .i64 1)) (.v 0 0) (.c (.int .i64 1))) <|
.op (.nil (.v 12 0)) <|
.op (.fieldAt 268 (.v 0 0) 5) <|
.op (.store 3 (.v 0 0) (.v 2 0)) <|
.op (.call 395 [(.v 15 0), (.v 16 0)]) <|
.op (.extract (.v 0 0) 0) <|
.op (.extract (.v 1 0) 1) <|
.op (.bin .neq 38 (.tmp 47) (.const (.int .i64 0)) (.v 0 0) (.c (.int .i64 0))) <|
.ite (.v 0 0) (.done 1 [(.c (.pointer none)), (.v 1 0)])
 (.done 0 [(.v 2 0)]))) <|
.alt 0 (.op (.nil (.v 9 0)) <|
.op (.fieldAt 268 (.v 0 0) 3) <|
.op (.load 3 (.v 0 0)) <|
.op (.bin .add 3 (.tmp 54) (.const (.int .i64 1)) (.v 0 0) (.c (.int .i64 1))) <|
.op (.nil (.v 13 0)) <|
.op (.fieldAt 268 (.v 0 0) 3) <|
.op (.store 3 (.v 0 0) (.v 2 0)) <|
.op (.nil (.v 16 0)) <|
.op (.fieldAt 268 (.v 0 0) 3) <|
.op (.load 3 (.v 0 0)) <|
.op (.nil (.v 10 0)) <|
.op (.fieldAt 374 (.v 0 0) 2) <|
.op (.store 3 (.v 0 0) (.v 2 0)) <|
.fin [.tmp 4, .tmp 5] [(.v 13 0), (.c (.int .i64 0))])
 (.alt 1 (.finRow [.tmp 4, .tmp 5] 0)
 (.fail)))
theorem d311 (a0 a1 : Value) : denF Tryz.f311 a311 [a0, a1] = t311.sp 0 (rows [a0, a1]) [] := by kernel_rfl
/-- (*bollard/patch.Set).over -/
def a312 : Ann := [(58, [(0, [15]), (2, [])])]
def t312 : T :=
.op (.call 216 [(.v 1 0)]) <|
.op (.builtin .len [31] 3 [false] [(.v 3 0)]) <|
.loop [(.c (.int .i64 0))] (
.op (.bin .lss 3 (.tmp 15) (.tmp 14) (.v 0 0) (.v 1 0)) <|
.ite (.v 0 0) (.op (.indexAt 31 (.v 6 0) (.v 1 0)) <|
.op (.load 3 (.v 0 0)) <|
.op (.nil (.v 6 0)) <|
.op (.fieldAt 164 (.v 0 0) 2) <|
.op (.load 162 (.v 0 0)) <|
.op (.lookup 162 (.v 0 0) (.v 3 0) false) <|
.op (.alloc 245) <|
.op (.store 245 (.v 0 0) (.v 1 0)) <|
.drew <|
.rd (.fieldAt 245 (.v 1 0) 2) <|
.rd (.load 3 (.v 0 0)) <|
.rd (.slice 22 (.v 13 0) (some (.v 0 0)) none none) <|
.rd (.fieldAt 245 (.v 4 0) 3) <|
.rd (.load 22 (.v 0 0)) <|
.op (.builtin .copy [22, 22] 3 [false, false] [(.v 2 0), (.v 0 0)]) <|
.op (.bin .add 3 (.tmp 15) (.const (.int .i64 1)) (.v 15 0) (.c (.int .i64 1))) <|
.done 0 [(.v 0 0)])
 (.done 2 [])) <|
.alt 0 (.fail)
 (.alt 2 (.fin [.tmp 6] [(.v 2 0)])
 (.fail))
theorem d312 (a0 a1 a2 : Value) : denF Tryz.f312 a312 [a0, a1, a2] = t312.sp 0 (rows [a0, a1, a2]) [] := by kernel_rfl
/-- bollard/word.there -/
def a313 : Ann := [(24, [(0, [7])]), (102, [(0, [18])])]
def t313 : T :=
.bind (.op (.bin .lss 3 (.tmp 8) (.const (.int .i64 1)) (.v 2 0) (.c (.int .i64 1))) <|
.ite (.v 0 0) (.done 0 [(.c (.bool true))]) (.op (.bin .gtr 3 (.tmp 11) (.const (.int .i64 4)) (.v 3 0) (.c (.int .i64 4))) <|
.ite (.v 0 0) (.done 0 [(.c (.bool true))]) (.op (.bin .lss 3 (.tmp 15) (.const (.int .i64 0)) (.v 3 0) (.c (.int .i64 0))) <|
.done 0 [(.v 0 0)]))) <|
.alt 0 (.ite (.v 0 0) (.fin [.tmp 6] [(.c (.int .i64 1))])
 (.bind (.op (.builtin .len [22] 3 [false] [(.v 1 0)]) <|
.op (.bin .gtr 3 (.tmp 19) (.tmp 21) (.v 3 0) (.v 0 0)) <|
.ite (.v 0 0) (.done 0 [(.c (.bool true))]) (.op (.builtin .len [22] 3 [false] [(.v 3 0)]) <|
.op (.bin .sub 3 (.tmp 26) (.tmp 27) (.v 0 0) (.v 5 0)) <|
.op (.bin .gtr 3 (.tmp 24) (.tmp 28) (.v 7 0) (.v 0 0)) <|
.done 0 [(.v 0 0)])) <|
.alt 0 (.ite (.v 0 0) (.fin [.tmp 6] [(.c (.int .i64 10))])
 (.fin [.tmp 6] [(.c (.int .i64 0))]))
 (.fail)))
 (.fail)
theorem d313 (a0 a1 a2 : Value) : denF Tryz.f313 a313 [a0, a1, a2] = t313.sp 0 (rows [a0, a1, a2]) [] := by kernel_rfl
/-- (*bollard/disk.Disk).look -/
def a363 : Ann := [(28, [(0, [18])])]
def t363 : T :=
.op (.call 285 [(.v 0 0)]) <|
.op (.un .not (.v 0 0)) <|
.ite (.v 0 0) (.fin [.tmp 4] [(.c (.int .i64 2))])
 (.bind (.op (.bin .lss 3 (.tmp 8) (.const (.int .i64 0)) (.v 3 0) (.c (.int .i64 0))) <|
.ite (.v 0 0) (.done 0 [(.c (.bool true))]) (.op (.nil (.v 3 0)) <|
.op (.fieldAt 49 (.v 0 0) 0) <|
.op (.load 46 (.v 0 0)) <|
.op (.builtin .len [46] 3 [false] [(.v 0 0)]) <|
.op (.bin .geq 3 (.tmp 11) (.tmp 16) (.v 8 0) (.v 0 0)) <|
.done 0 [(.v 0 0)])) <|
.alt 0 (.ite (.v 0 0) (.fin [.tmp 4] [(.c (.int .i64 1))])
 (.fin [.tmp 4] [(.c (.int .i64 0))]))
 (.fail))
theorem d363 (a0 a1 : Value) : denF Tryz.f363 a363 [a0, a1] = t363.sp 0 (rows [a0, a1]) [] := by kernel_rfl
/-- (*bollard/cache.Cache).look -/
def a386 : Ann := [(12, [(0, [13])]), (28, [(0, [24])])]
def t386 : T :=
.bind (.op (.bin .eql 108 (.tmp 5) (.const (.pointer none)) (.v 0 0) (.c (.pointer none))) <|
.ite (.v 0 0) (.done 0 [(.c (.bool true))]) (.op (.nil (.v 1 0)) <|
.op (.fieldAt 268 (.v 0 0) 2) <|
.op (.load 266 (.v 0 0)) <|
.op (.bin .eql 266 (.tmp 11) (.const (.map none)) (.v 0 0) (.c (.map none))) <|
.done 0 [(.v 0 0)])) <|
.alt 0 (.ite (.v 0 0) (.fin [.tmp 4] [(.c (.int .i64 2))])
 (.bind (.op (.bin .lss 3 (.tmp 14) (.const (.int .i64 0)) (.v 2 0) (.c (.int .i64 0))) <|
.ite (.v 0 0) (.done 0 [(.c (.bool true))]) (.op (.nil (.v 2 0)) <|
.op (.fieldAt 268 (.v 0 0) 0) <|
.op (.load 45 (.v 0 0)) <|
.op (.call 107 [(.v 0 0)]) <|
.op (.bin .geq 3 (.tmp 17) (.tmp 22) (.v 7 0) (.v 0 0)) <|
.done 0 [(.v 0 0)])) <|
.alt 0 (.ite (.v 0 0) (.fin [.tmp 4] [(.c (.int .i64 1))])
 (.fin [.tmp 4] [(.c (.int .i64 0))]))
 (.fail)))
 (.fail)
theorem d386 (a0 a1 : Value) : denF Tryz.f386 a386 [a0, a1] = t386.sp 0 (rows [a0, a1]) [] := by kernel_rfl
/-- maps.Keys[map[int]bollard/api.Patch,int,bollard/api.Patch] -/
def a388 : Ann := []
def t388 : T :=
.op (.box 162 (.v 0 0)) <|
.op (.func (.func 451) [] [(.v 0 0)]) <|
.fin [.tmp 2] [(.v 0 0)]
theorem d388 (a0 : Value) : denF Tryz.f388 a388 [a0] = t388.sp 0 (rows [a0]) [] := by kernel_rfl
/-- (*bollard/cache.Cache).load -/
def a395 : Ann := [(60, [(0, [30])]), (509, [(0, [])])]
def t395 : T :=
.drew <|
.rd (.nil (.v 0 0)) <|
.rd (.fieldAt 268 (.v 0 0) 2) <|
.rd (.load 266 (.v 0 0)) <|
.rd (.builtin .len [266] 3 [false] [(.v 0 0)]) <|
.rd (.nil (.v 4 0)) <|
.rd (.fieldAt 268 (.v 0 0) 1) <|
.rd (.load 3 (.v 0 0)) <|
.rd (.bin .geq 3 (.tmp 15) (.tmp 19) (.v 3 0) (.v 0 0)) <|
.op (.call 452 [(.v 8 0)]) <|
.op (.extract (.v 0 0) 0) <|
.op (.extract (.v 1 0) 1) <|
.bind (.ite (.v 3 0) (.op (.un .not (.v 0 0)) <|
.done 0 [(.v 0 0)]) (.done 0 [(.c (.bool false))])) <|
.alt 0 (.ite (.v 0 0) (.fin [.tmp 4, .tmp 5] [(.c (.pointer none)), (.c (.int .i64 60))])
 (.op (.nil (.v 12 0)) <|
.op (.fieldAt 268 (.v 0 0) 0) <|
.op (.load 45 (.v 0 0)) <|
.op (.call 453 [(.v 0 0), (.v 16 0)]) <|
.op (.extract (.v 0 0) 0) <|
.op (.extract (.v 1 0) 1) <|
.op (.bin .neq 38 (.tmp 40) (.const (.int .i64 0)) (.v 0 0) (.c (.int .i64 0))) <|
.ite (.v 0 0) (.fin [.tmp 4, .tmp 5] [(.c (.pointer none)), (.v 1 0)])
 (.bind (.ite (.v 11 0) (.op (.nil (.v 19 0)) <|
.op (.fieldAt 268 (.v 0 0) 2) <|
.op (.load 266 (.v 0 0)) <|
.op (.builtin .delete [266, 3] 0 [false, false] [(.v 0 0), (.v 12 0)]) <|
.done 0 [])
 (.done 0 [])) <|
.alt 0 (.op (.nil (.v 20 0)) <|
.op (.fieldAt 268 (.v 0 0) 2) <|
.op (.load 266 (.v 0 0)) <|
.op (.build 374 [(0, (.v 6 0))]) <|
.op (.box 374 (.v 0 0)) <|
.op (.mapSet 266 (.v 2 0) (.v 26 0) (.v 0 0)) <|
.op (.nil (.v 26 0)) <|
.op (.fieldAt 268 (.v 0 0) 2) <|
.op (.load 266 (.v 0 0)) <|
.op (.lookup 266 (.v 0 0) (.v 30 0) false) <|
.fin [.tmp 4, .tmp 5] [(.v 0 0), (.c (.int .i64 0))])
 (.fail))))
 (.fail)
theorem d395 (a0 a1 : Value) : denF Tryz.f395 a395 [a0, a1] = t395.sp 0 (rows [a0, a1]) [] := by kernel_rfl
/-- (*bollard/cache.Cache).victim -/
def a452 : Ann := [(26, [(0, [9]), (1, []), (2, [])])]
def t452 : T :=
.op (.call 479 [(.v 0 0)]) <|
.op (.builtin .len [31] 3 [false] [(.v 0 0)]) <|
.loop [(.c (.int .i64 0))] (
.op (.bin .lss 3 (.tmp 9) (.tmp 8) (.v 0 0) (.v 1 0)) <|
.ite (.v 0 0) (.op (.indexAt 31 (.v 3 0) (.v 1 0)) <|
.op (.load 3 (.v 0 0)) <|
.op (.nil (.v 6 0)) <|
.op (.fieldAt 268 (.v 0 0) 2) <|
.op (.load 266 (.v 0 0)) <|
.op (.lookup 266 (.v 0 0) (.v 3 0) false) <|
.op (.nil (.v 0 0)) <|
.op (.fieldAt 374 (.v 0 0) 1) <|
.op (.load 3 (.v 0 0)) <|
.op (.bin .eql 3 (.tmp 21) (.const (.int .i64 0)) (.v 0 0) (.c (.int .i64 0))) <|
.ite (.v 0 0) (.done 1 [(.v 8 0), (.c (.bool true))])
 (.op (.bin .add 3 (.tmp 9) (.const (.int .i64 1)) (.v 11 0) (.c (.int .i64 1))) <|
.done 0 [(.v 0 0)]))
 (.done 2 [])) <|
.alt 0 (.fail)
 (.alt 1 (.finRow [.tmp 2, .tmp 3] 0)
 (.alt 2 (.fin [.tmp 2, .tmp 3] [(.c (.int .i64 0)), (.c (.bool false))])
 (.fail)))
theorem d452 (a0 : Value) : denF Tryz.f452 a452 [a0] = t452.sp 0 (rows [a0]) [] := by kernel_rfl
/-- (*bollard/disk.Disk).Read -/
def a453 : Ann := []
def t453 : T :=
.op (.call 363 [(.v 0 0), (.v 1 0)]) <|
.op (.bin .neq 38 (.tmp 10) (.const (.int .i64 0)) (.v 0 0) (.c (.int .i64 0))) <|
.ite (.v 0 0) (.fin [.tmp 4, .tmp 5] [(.c (.slice none 0 0)), (.v 1 0)])
 (.op (.nil (.v 2 0)) <|
.op (.fieldAt 49 (.v 0 0) 2) <|
.op (.load 30 (.v 0 0)) <|
.op (.lookup 30 (.v 0 0) (.v 6 0) false) <|
.op (.bin .gtr 3 (.tmp 18) (.const (.int .i64 0)) (.v 0 0) (.c (.int .i64 0))) <|
.ite (.v 0 0) (.op (.nil (.v 7 0)) <|
.op (.fieldAt 49 (.v 0 0) 2) <|
.op (.load 30 (.v 0 0)) <|
.op (.lookup 30 (.v 0 0) (.v 11 0) false) <|
.op (.bin .sub 3 (.tmp 25) (.const (.int .i64 1)) (.v 0 0) (.c (.int .i64 1))) <|
.op (.mapSet 30 (.v 2 0) (.v 13 0) (.v 0 0)) <|
.fin [.tmp 4, .tmp 5] [(.c (.slice none 0 0)), (.c (.int .i64 4))])
 (.op (.nil (.v 7 0)) <|
.op (.fieldAt 49 (.v 0 0) 0) <|
.op (.load 46 (.v 0 0)) <|
.op (.indexAt 46 (.v 0 0) (.v 11 0)) <|
.op (.load 22 (.v 0 0)) <|
.op (.call 155 [(.v 0 0)]) <|
.fin [.tmp 4, .tmp 5] [(.v 0 0), (.c (.int .i64 0))]))
theorem d453 (a0 a1 : Value) : denF Tryz.f453 a453 [a0, a1] = t453.sp 0 (rows [a0, a1]) [] := by kernel_rfl
/-- (*bollard/cache.Cache).Held -/
def a479 : Ann := []
def t479 : T :=
.op (.box 108 (.v 0 0)) <|
.op (.load 108 (.v 0 0)) <|
.op (.bin .eql 108 (.tmp 3) (.const (.pointer none)) (.v 0 0) (.c (.pointer none))) <|
.ite (.v 0 0) (.fin [.tmp 2] [(.c (.slice none 0 0))])
 (.op (.load 108 (.v 2 0)) <|
.op (.nil (.v 0 0)) <|
.op (.fieldAt 268 (.v 0 0) 2) <|
.op (.load 266 (.v 0 0)) <|
.op (.call 490 [(.v 0 0)]) <|
.op (.func (.func 491) [] [(.v 7 0)]) <|
.op (.call 489 [(.v 1 0), (.v 0 0)]) <|
.fin [.tmp 2] [(.v 0 0)])
theorem d479 (a0 : Value) : denF Tryz.f479 a479 [a0] = t479.sp 0 (rows [a0]) [] := by kernel_rfl
/-- maps.Keys[map[int]*bollard/cache.buffer,int,*bollard/cache.buffer] -/
def a490 : Ann := []
def t490 : T :=
.op (.box 266 (.v 0 0)) <|
.op (.func (.func 500) [] [(.v 0 0)]) <|
.fin [.tmp 2] [(.v 0 0)]
theorem d490 (a0 : Value) : denF Tryz.f490 a490 [a0] = t490.sp 0 (rows [a0]) [] := by kernel_rfl
def tbl : FuncId → Option (Nat × T)
  | 3 => some (1, t3)
  | 5 => some (2, t5)
  | 6 => some (2, t6)
  | 7 => some (1, t7)
  | 8 => some (1, t8)
  | 9 => some (1, t9)
  | 10 => some (1, t10)
  | 11 => some (1, t11)
  | 22 => some (2, t22)
  | 23 => some (2, t23)
  | 24 => some (1, t24)
  | 26 => some (1, t26)
  | 27 => some (1, t27)
  | 28 => some (0, t28)
  | 29 => some (1, t29)
  | 30 => some (1, t30)
  | 36 => some (1, t36)
  | 41 => some (1, t41)
  | 43 => some (2, t43)
  | 44 => some (2, t44)
  | 45 => some (1, t45)
  | 46 => some (1, t46)
  | 47 => some (1, t47)
  | 48 => some (1, t48)
  | 49 => some (5, t49)
  | 63 => some (1, t63)
  | 64 => some (2, t64)
  | 65 => some (1, t65)
  | 66 => some (1, t66)
  | 67 => some (1, t67)
  | 68 => some (2, t68)
  | 69 => some (1, t69)
  | 81 => some (1, t81)
  | 95 => some (1, t95)
  | 97 => some (4, t97)
  | 98 => some (1, t98)
  | 99 => some (2, t99)
  | 100 => some (0, t100)
  | 101 => some (2, t101)
  | 102 => some (1, t102)
  | 103 => some (1, t103)
  | 104 => some (2, t104)
  | 105 => some (2, t105)
  | 106 => some (2, t106)
  | 107 => some (1, t107)
  | 108 => some (2, t108)
  | 109 => some (1, t109)
  | 110 => some (1, t110)
  | 111 => some (1, t111)
  | 112 => some (2, t112)
  | 113 => some (2, t113)
  | 114 => some (2, t114)
  | 115 => some (5, t115)
  | 146 => some (1, t146)
  | 147 => some (3, t147)
  | 148 => some (1, t148)
  | 149 => some (1, t149)
  | 150 => some (4, t150)
  | 151 => some (1, t151)
  | 152 => some (1, t152)
  | 153 => some (1, t153)
  | 154 => some (2, t154)
  | 155 => some (1, t155)
  | 171 => some (3, t171)
  | 172 => some (1, t172)
  | 181 => some (2, t181)
  | 183 => some (2, t183)
  | 184 => some (2, t184)
  | 193 => some (3, t193)
  | 203 => some (1, t203)
  | 204 => some (2, t204)
  | 205 => some (3, t205)
  | 206 => some (3, t206)
  | 207 => some (1, t207)
  | 208 => some (2, t208)
  | 209 => some (2, t209)
  | 210 => some (3, t210)
  | 211 => some (3, t211)
  | 212 => some (4, t212)
  | 213 => some (3, t213)
  | 216 => some (1, t216)
  | 217 => some (1, t217)
  | 259 => some (1, t259)
  | 260 => some (2, t260)
  | 261 => some (1, t261)
  | 262 => some (4, t262)
  | 263 => some (1, t263)
  | 264 => some (1, t264)
  | 268 => some (2, t268)
  | 285 => some (1, t285)
  | 296 => some (2, t296)
  | 297 => some (1, t297)
  | 311 => some (2, t311)
  | 312 => some (3, t312)
  | 313 => some (3, t313)
  | 363 => some (2, t363)
  | 386 => some (2, t386)
  | 388 => some (1, t388)
  | 395 => some (2, t395)
  | 452 => some (1, t452)
  | 453 => some (2, t453)
  | 479 => some (1, t479)
  | 490 => some (1, t490)
  | _ => none
theorem tblOk : TblOk Tryz.prog tbl := by
  intro f n t h
  unfold tbl at h
  split at h
  · cases h
    refine ⟨_, a3, Tryz.func3, by kernel_rfl, by kernel_rfl, fun args hl => ?_⟩
    obtain ⟨x0, rfl⟩ := args1 hl
    exact d3 x0
  · cases h
    refine ⟨_, a5, Tryz.func5, by kernel_rfl, by kernel_rfl, fun args hl => ?_⟩
    obtain ⟨x0, x1, rfl⟩ := args2 hl
    exact d5 x0 x1
  · cases h
    refine ⟨_, a6, Tryz.func6, by kernel_rfl, by kernel_rfl, fun args hl => ?_⟩
    obtain ⟨x0, x1, rfl⟩ := args2 hl
    exact d6 x0 x1
  · cases h
    refine ⟨_, a7, Tryz.func7, by kernel_rfl, by kernel_rfl, fun args hl => ?_⟩
    obtain ⟨x0, rfl⟩ := args1 hl
    exact d7 x0
  · cases h
    refine ⟨_, a8, Tryz.func8, by kernel_rfl, by kernel_rfl, fun args hl => ?_⟩
    obtain ⟨x0, rfl⟩ := args1 hl
    exact d8 x0
  · cases h
    refine ⟨_, a9, Tryz.func9, by kernel_rfl, by kernel_rfl, fun args hl => ?_⟩
    obtain ⟨x0, rfl⟩ := args1 hl
    exact d9 x0
  · cases h
    refine ⟨_, a10, Tryz.func10, by kernel_rfl, by kernel_rfl, fun args hl => ?_⟩
    obtain ⟨x0, rfl⟩ := args1 hl
    exact d10 x0
  · cases h
    refine ⟨_, a11, Tryz.func11, by kernel_rfl, by kernel_rfl, fun args hl => ?_⟩
    obtain ⟨x0, rfl⟩ := args1 hl
    exact d11 x0
  · cases h
    refine ⟨_, a22, Tryz.func22, by kernel_rfl, by kernel_rfl, fun args hl => ?_⟩
    obtain ⟨x0, x1, rfl⟩ := args2 hl
    exact d22 x0 x1
  · cases h
    refine ⟨_, a23, Tryz.func23, by kernel_rfl, by kernel_rfl, fun args hl => ?_⟩
    obtain ⟨x0, x1, rfl⟩ := args2 hl
    exact d23 x0 x1
  · cases h
    refine ⟨_, a24, Tryz.func24, by kernel_rfl, by kernel_rfl, fun args hl => ?_⟩
    obtain ⟨x0, rfl⟩ := args1 hl
    exact d24 x0
  · cases h
    refine ⟨_, a26, Tryz.func26, by kernel_rfl, by kernel_rfl, fun args hl => ?_⟩
    obtain ⟨x0, rfl⟩ := args1 hl
    exact d26 x0
  · cases h
    refine ⟨_, a27, Tryz.func27, by kernel_rfl, by kernel_rfl, fun args hl => ?_⟩
    obtain ⟨x0, rfl⟩ := args1 hl
    exact d27 x0
  · cases h
    refine ⟨_, a28, Tryz.func28, by kernel_rfl, by kernel_rfl, fun args hl => ?_⟩
    obtain rfl : args = [] := by simpa using hl
    exact d28
  · cases h
    refine ⟨_, a29, Tryz.func29, by kernel_rfl, by kernel_rfl, fun args hl => ?_⟩
    obtain ⟨x0, rfl⟩ := args1 hl
    exact d29 x0
  · cases h
    refine ⟨_, a30, Tryz.func30, by kernel_rfl, by kernel_rfl, fun args hl => ?_⟩
    obtain ⟨x0, rfl⟩ := args1 hl
    exact d30 x0
  · cases h
    refine ⟨_, a36, Tryz.func36, by kernel_rfl, by kernel_rfl, fun args hl => ?_⟩
    obtain ⟨x0, rfl⟩ := args1 hl
    exact d36 x0
  · cases h
    refine ⟨_, a41, Tryz.func41, by kernel_rfl, by kernel_rfl, fun args hl => ?_⟩
    obtain ⟨x0, rfl⟩ := args1 hl
    exact d41 x0
  · cases h
    refine ⟨_, a43, Tryz.func43, by kernel_rfl, by kernel_rfl, fun args hl => ?_⟩
    obtain ⟨x0, x1, rfl⟩ := args2 hl
    exact d43 x0 x1
  · cases h
    refine ⟨_, a44, Tryz.func44, by kernel_rfl, by kernel_rfl, fun args hl => ?_⟩
    obtain ⟨x0, x1, rfl⟩ := args2 hl
    exact d44 x0 x1
  · cases h
    refine ⟨_, a45, Tryz.func45, by kernel_rfl, by kernel_rfl, fun args hl => ?_⟩
    obtain ⟨x0, rfl⟩ := args1 hl
    exact d45 x0
  · cases h
    refine ⟨_, a46, Tryz.func46, by kernel_rfl, by kernel_rfl, fun args hl => ?_⟩
    obtain ⟨x0, rfl⟩ := args1 hl
    exact d46 x0
  · cases h
    refine ⟨_, a47, Tryz.func47, by kernel_rfl, by kernel_rfl, fun args hl => ?_⟩
    obtain ⟨x0, rfl⟩ := args1 hl
    exact d47 x0
  · cases h
    refine ⟨_, a48, Tryz.func48, by kernel_rfl, by kernel_rfl, fun args hl => ?_⟩
    obtain ⟨x0, rfl⟩ := args1 hl
    exact d48 x0
  · cases h
    refine ⟨_, a49, Tryz.func49, by kernel_rfl, by kernel_rfl, fun args hl => ?_⟩
    obtain ⟨x0, x1, x2, x3, x4, rfl⟩ := args5 hl
    exact d49 x0 x1 x2 x3 x4
  · cases h
    refine ⟨_, a63, Tryz.func63, by kernel_rfl, by kernel_rfl, fun args hl => ?_⟩
    obtain ⟨x0, rfl⟩ := args1 hl
    exact d63 x0
  · cases h
    refine ⟨_, a64, Tryz.func64, by kernel_rfl, by kernel_rfl, fun args hl => ?_⟩
    obtain ⟨x0, x1, rfl⟩ := args2 hl
    exact d64 x0 x1
  · cases h
    refine ⟨_, a65, Tryz.func65, by kernel_rfl, by kernel_rfl, fun args hl => ?_⟩
    obtain ⟨x0, rfl⟩ := args1 hl
    exact d65 x0
  · cases h
    refine ⟨_, a66, Tryz.func66, by kernel_rfl, by kernel_rfl, fun args hl => ?_⟩
    obtain ⟨x0, rfl⟩ := args1 hl
    exact d66 x0
  · cases h
    refine ⟨_, a67, Tryz.func67, by kernel_rfl, by kernel_rfl, fun args hl => ?_⟩
    obtain ⟨x0, rfl⟩ := args1 hl
    exact d67 x0
  · cases h
    refine ⟨_, a68, Tryz.func68, by kernel_rfl, by kernel_rfl, fun args hl => ?_⟩
    obtain ⟨x0, x1, rfl⟩ := args2 hl
    exact d68 x0 x1
  · cases h
    refine ⟨_, a69, Tryz.func69, by kernel_rfl, by kernel_rfl, fun args hl => ?_⟩
    obtain ⟨x0, rfl⟩ := args1 hl
    exact d69 x0
  · cases h
    refine ⟨_, a81, Tryz.func81, by kernel_rfl, by kernel_rfl, fun args hl => ?_⟩
    obtain ⟨x0, rfl⟩ := args1 hl
    exact d81 x0
  · cases h
    refine ⟨_, a95, Tryz.func95, by kernel_rfl, by kernel_rfl, fun args hl => ?_⟩
    obtain ⟨x0, rfl⟩ := args1 hl
    exact d95 x0
  · cases h
    refine ⟨_, a97, Tryz.func97, by kernel_rfl, by kernel_rfl, fun args hl => ?_⟩
    obtain ⟨x0, x1, x2, x3, rfl⟩ := args4 hl
    exact d97 x0 x1 x2 x3
  · cases h
    refine ⟨_, a98, Tryz.func98, by kernel_rfl, by kernel_rfl, fun args hl => ?_⟩
    obtain ⟨x0, rfl⟩ := args1 hl
    exact d98 x0
  · cases h
    refine ⟨_, a99, Tryz.func99, by kernel_rfl, by kernel_rfl, fun args hl => ?_⟩
    obtain ⟨x0, x1, rfl⟩ := args2 hl
    exact d99 x0 x1
  · cases h
    refine ⟨_, a100, Tryz.func100, by kernel_rfl, by kernel_rfl, fun args hl => ?_⟩
    obtain rfl : args = [] := by simpa using hl
    exact d100
  · cases h
    refine ⟨_, a101, Tryz.func101, by kernel_rfl, by kernel_rfl, fun args hl => ?_⟩
    obtain ⟨x0, x1, rfl⟩ := args2 hl
    exact d101 x0 x1
  · cases h
    refine ⟨_, a102, Tryz.func102, by kernel_rfl, by kernel_rfl, fun args hl => ?_⟩
    obtain ⟨x0, rfl⟩ := args1 hl
    exact d102 x0
  · cases h
    refine ⟨_, a103, Tryz.func103, by kernel_rfl, by kernel_rfl, fun args hl => ?_⟩
    obtain ⟨x0, rfl⟩ := args1 hl
    exact d103 x0
  · cases h
    refine ⟨_, a104, Tryz.func104, by kernel_rfl, by kernel_rfl, fun args hl => ?_⟩
    obtain ⟨x0, x1, rfl⟩ := args2 hl
    exact d104 x0 x1
  · cases h
    refine ⟨_, a105, Tryz.func105, by kernel_rfl, by kernel_rfl, fun args hl => ?_⟩
    obtain ⟨x0, x1, rfl⟩ := args2 hl
    exact d105 x0 x1
  · cases h
    refine ⟨_, a106, Tryz.func106, by kernel_rfl, by kernel_rfl, fun args hl => ?_⟩
    obtain ⟨x0, x1, rfl⟩ := args2 hl
    exact d106 x0 x1
  · cases h
    refine ⟨_, a107, Tryz.func107, by kernel_rfl, by kernel_rfl, fun args hl => ?_⟩
    obtain ⟨x0, rfl⟩ := args1 hl
    exact d107 x0
  · cases h
    refine ⟨_, a108, Tryz.func108, by kernel_rfl, by kernel_rfl, fun args hl => ?_⟩
    obtain ⟨x0, x1, rfl⟩ := args2 hl
    exact d108 x0 x1
  · cases h
    refine ⟨_, a109, Tryz.func109, by kernel_rfl, by kernel_rfl, fun args hl => ?_⟩
    obtain ⟨x0, rfl⟩ := args1 hl
    exact d109 x0
  · cases h
    refine ⟨_, a110, Tryz.func110, by kernel_rfl, by kernel_rfl, fun args hl => ?_⟩
    obtain ⟨x0, rfl⟩ := args1 hl
    exact d110 x0
  · cases h
    refine ⟨_, a111, Tryz.func111, by kernel_rfl, by kernel_rfl, fun args hl => ?_⟩
    obtain ⟨x0, rfl⟩ := args1 hl
    exact d111 x0
  · cases h
    refine ⟨_, a112, Tryz.func112, by kernel_rfl, by kernel_rfl, fun args hl => ?_⟩
    obtain ⟨x0, x1, rfl⟩ := args2 hl
    exact d112 x0 x1
  · cases h
    refine ⟨_, a113, Tryz.func113, by kernel_rfl, by kernel_rfl, fun args hl => ?_⟩
    obtain ⟨x0, x1, rfl⟩ := args2 hl
    exact d113 x0 x1
  · cases h
    refine ⟨_, a114, Tryz.func114, by kernel_rfl, by kernel_rfl, fun args hl => ?_⟩
    obtain ⟨x0, x1, rfl⟩ := args2 hl
    exact d114 x0 x1
  · cases h
    refine ⟨_, a115, Tryz.func115, by kernel_rfl, by kernel_rfl, fun args hl => ?_⟩
    obtain ⟨x0, x1, x2, x3, x4, rfl⟩ := args5 hl
    exact d115 x0 x1 x2 x3 x4
  · cases h
    refine ⟨_, a146, Tryz.func146, by kernel_rfl, by kernel_rfl, fun args hl => ?_⟩
    obtain ⟨x0, rfl⟩ := args1 hl
    exact d146 x0
  · cases h
    refine ⟨_, a147, Tryz.func147, by kernel_rfl, by kernel_rfl, fun args hl => ?_⟩
    obtain ⟨x0, x1, x2, rfl⟩ := args3 hl
    exact d147 x0 x1 x2
  · cases h
    refine ⟨_, a148, Tryz.func148, by kernel_rfl, by kernel_rfl, fun args hl => ?_⟩
    obtain ⟨x0, rfl⟩ := args1 hl
    exact d148 x0
  · cases h
    refine ⟨_, a149, Tryz.func149, by kernel_rfl, by kernel_rfl, fun args hl => ?_⟩
    obtain ⟨x0, rfl⟩ := args1 hl
    exact d149 x0
  · cases h
    refine ⟨_, a150, Tryz.func150, by kernel_rfl, by kernel_rfl, fun args hl => ?_⟩
    obtain ⟨x0, x1, x2, x3, rfl⟩ := args4 hl
    exact d150 x0 x1 x2 x3
  · cases h
    refine ⟨_, a151, Tryz.func151, by kernel_rfl, by kernel_rfl, fun args hl => ?_⟩
    obtain ⟨x0, rfl⟩ := args1 hl
    exact d151 x0
  · cases h
    refine ⟨_, a152, Tryz.func152, by kernel_rfl, by kernel_rfl, fun args hl => ?_⟩
    obtain ⟨x0, rfl⟩ := args1 hl
    exact d152 x0
  · cases h
    refine ⟨_, a153, Tryz.func153, by kernel_rfl, by kernel_rfl, fun args hl => ?_⟩
    obtain ⟨x0, rfl⟩ := args1 hl
    exact d153 x0
  · cases h
    refine ⟨_, a154, Tryz.func154, by kernel_rfl, by kernel_rfl, fun args hl => ?_⟩
    obtain ⟨x0, x1, rfl⟩ := args2 hl
    exact d154 x0 x1
  · cases h
    refine ⟨_, a155, Tryz.func155, by kernel_rfl, by kernel_rfl, fun args hl => ?_⟩
    obtain ⟨x0, rfl⟩ := args1 hl
    exact d155 x0
  · cases h
    refine ⟨_, a171, Tryz.func171, by kernel_rfl, by kernel_rfl, fun args hl => ?_⟩
    obtain ⟨x0, x1, x2, rfl⟩ := args3 hl
    exact d171 x0 x1 x2
  · cases h
    refine ⟨_, a172, Tryz.func172, by kernel_rfl, by kernel_rfl, fun args hl => ?_⟩
    obtain ⟨x0, rfl⟩ := args1 hl
    exact d172 x0
  · cases h
    refine ⟨_, a181, Tryz.func181, by kernel_rfl, by kernel_rfl, fun args hl => ?_⟩
    obtain ⟨x0, x1, rfl⟩ := args2 hl
    exact d181 x0 x1
  · cases h
    refine ⟨_, a183, Tryz.func183, by kernel_rfl, by kernel_rfl, fun args hl => ?_⟩
    obtain ⟨x0, x1, rfl⟩ := args2 hl
    exact d183 x0 x1
  · cases h
    refine ⟨_, a184, Tryz.func184, by kernel_rfl, by kernel_rfl, fun args hl => ?_⟩
    obtain ⟨x0, x1, rfl⟩ := args2 hl
    exact d184 x0 x1
  · cases h
    refine ⟨_, a193, Tryz.func193, by kernel_rfl, by kernel_rfl, fun args hl => ?_⟩
    obtain ⟨x0, x1, x2, rfl⟩ := args3 hl
    exact d193 x0 x1 x2
  · cases h
    refine ⟨_, a203, Tryz.func203, by kernel_rfl, by kernel_rfl, fun args hl => ?_⟩
    obtain ⟨x0, rfl⟩ := args1 hl
    exact d203 x0
  · cases h
    refine ⟨_, a204, Tryz.func204, by kernel_rfl, by kernel_rfl, fun args hl => ?_⟩
    obtain ⟨x0, x1, rfl⟩ := args2 hl
    exact d204 x0 x1
  · cases h
    refine ⟨_, a205, Tryz.func205, by kernel_rfl, by kernel_rfl, fun args hl => ?_⟩
    obtain ⟨x0, x1, x2, rfl⟩ := args3 hl
    exact d205 x0 x1 x2
  · cases h
    refine ⟨_, a206, Tryz.func206, by kernel_rfl, by kernel_rfl, fun args hl => ?_⟩
    obtain ⟨x0, x1, x2, rfl⟩ := args3 hl
    exact d206 x0 x1 x2
  · cases h
    refine ⟨_, a207, Tryz.func207, by kernel_rfl, by kernel_rfl, fun args hl => ?_⟩
    obtain ⟨x0, rfl⟩ := args1 hl
    exact d207 x0
  · cases h
    refine ⟨_, a208, Tryz.func208, by kernel_rfl, by kernel_rfl, fun args hl => ?_⟩
    obtain ⟨x0, x1, rfl⟩ := args2 hl
    exact d208 x0 x1
  · cases h
    refine ⟨_, a209, Tryz.func209, by kernel_rfl, by kernel_rfl, fun args hl => ?_⟩
    obtain ⟨x0, x1, rfl⟩ := args2 hl
    exact d209 x0 x1
  · cases h
    refine ⟨_, a210, Tryz.func210, by kernel_rfl, by kernel_rfl, fun args hl => ?_⟩
    obtain ⟨x0, x1, x2, rfl⟩ := args3 hl
    exact d210 x0 x1 x2
  · cases h
    refine ⟨_, a211, Tryz.func211, by kernel_rfl, by kernel_rfl, fun args hl => ?_⟩
    obtain ⟨x0, x1, x2, rfl⟩ := args3 hl
    exact d211 x0 x1 x2
  · cases h
    refine ⟨_, a212, Tryz.func212, by kernel_rfl, by kernel_rfl, fun args hl => ?_⟩
    obtain ⟨x0, x1, x2, x3, rfl⟩ := args4 hl
    exact d212 x0 x1 x2 x3
  · cases h
    refine ⟨_, a213, Tryz.func213, by kernel_rfl, by kernel_rfl, fun args hl => ?_⟩
    obtain ⟨x0, x1, x2, rfl⟩ := args3 hl
    exact d213 x0 x1 x2
  · cases h
    refine ⟨_, a216, Tryz.func216, by kernel_rfl, by kernel_rfl, fun args hl => ?_⟩
    obtain ⟨x0, rfl⟩ := args1 hl
    exact d216 x0
  · cases h
    refine ⟨_, a217, Tryz.func217, by kernel_rfl, by kernel_rfl, fun args hl => ?_⟩
    obtain ⟨x0, rfl⟩ := args1 hl
    exact d217 x0
  · cases h
    refine ⟨_, a259, Tryz.func259, by kernel_rfl, by kernel_rfl, fun args hl => ?_⟩
    obtain ⟨x0, rfl⟩ := args1 hl
    exact d259 x0
  · cases h
    refine ⟨_, a260, Tryz.func260, by kernel_rfl, by kernel_rfl, fun args hl => ?_⟩
    obtain ⟨x0, x1, rfl⟩ := args2 hl
    exact d260 x0 x1
  · cases h
    refine ⟨_, a261, Tryz.func261, by kernel_rfl, by kernel_rfl, fun args hl => ?_⟩
    obtain ⟨x0, rfl⟩ := args1 hl
    exact d261 x0
  · cases h
    refine ⟨_, a262, Tryz.func262, by kernel_rfl, by kernel_rfl, fun args hl => ?_⟩
    obtain ⟨x0, x1, x2, x3, rfl⟩ := args4 hl
    exact d262 x0 x1 x2 x3
  · cases h
    refine ⟨_, a263, Tryz.func263, by kernel_rfl, by kernel_rfl, fun args hl => ?_⟩
    obtain ⟨x0, rfl⟩ := args1 hl
    exact d263 x0
  · cases h
    refine ⟨_, a264, Tryz.func264, by kernel_rfl, by kernel_rfl, fun args hl => ?_⟩
    obtain ⟨x0, rfl⟩ := args1 hl
    exact d264 x0
  · cases h
    refine ⟨_, a268, Tryz.func268, by kernel_rfl, by kernel_rfl, fun args hl => ?_⟩
    obtain ⟨x0, x1, rfl⟩ := args2 hl
    exact d268 x0 x1
  · cases h
    refine ⟨_, a285, Tryz.func285, by kernel_rfl, by kernel_rfl, fun args hl => ?_⟩
    obtain ⟨x0, rfl⟩ := args1 hl
    exact d285 x0
  · cases h
    refine ⟨_, a296, Tryz.func296, by kernel_rfl, by kernel_rfl, fun args hl => ?_⟩
    obtain ⟨x0, x1, rfl⟩ := args2 hl
    exact d296 x0 x1
  · cases h
    refine ⟨_, a297, Tryz.func297, by kernel_rfl, by kernel_rfl, fun args hl => ?_⟩
    obtain ⟨x0, rfl⟩ := args1 hl
    exact d297 x0
  · cases h
    refine ⟨_, a311, Tryz.func311, by kernel_rfl, by kernel_rfl, fun args hl => ?_⟩
    obtain ⟨x0, x1, rfl⟩ := args2 hl
    exact d311 x0 x1
  · cases h
    refine ⟨_, a312, Tryz.func312, by kernel_rfl, by kernel_rfl, fun args hl => ?_⟩
    obtain ⟨x0, x1, x2, rfl⟩ := args3 hl
    exact d312 x0 x1 x2
  · cases h
    refine ⟨_, a313, Tryz.func313, by kernel_rfl, by kernel_rfl, fun args hl => ?_⟩
    obtain ⟨x0, x1, x2, rfl⟩ := args3 hl
    exact d313 x0 x1 x2
  · cases h
    refine ⟨_, a363, Tryz.func363, by kernel_rfl, by kernel_rfl, fun args hl => ?_⟩
    obtain ⟨x0, x1, rfl⟩ := args2 hl
    exact d363 x0 x1
  · cases h
    refine ⟨_, a386, Tryz.func386, by kernel_rfl, by kernel_rfl, fun args hl => ?_⟩
    obtain ⟨x0, x1, rfl⟩ := args2 hl
    exact d386 x0 x1
  · cases h
    refine ⟨_, a388, Tryz.func388, by kernel_rfl, by kernel_rfl, fun args hl => ?_⟩
    obtain ⟨x0, rfl⟩ := args1 hl
    exact d388 x0
  · cases h
    refine ⟨_, a395, Tryz.func395, by kernel_rfl, by kernel_rfl, fun args hl => ?_⟩
    obtain ⟨x0, x1, rfl⟩ := args2 hl
    exact d395 x0 x1
  · cases h
    refine ⟨_, a452, Tryz.func452, by kernel_rfl, by kernel_rfl, fun args hl => ?_⟩
    obtain ⟨x0, rfl⟩ := args1 hl
    exact d452 x0
  · cases h
    refine ⟨_, a453, Tryz.func453, by kernel_rfl, by kernel_rfl, fun args hl => ?_⟩
    obtain ⟨x0, x1, rfl⟩ := args2 hl
    exact d453 x0 x1
  · cases h
    refine ⟨_, a479, Tryz.func479, by kernel_rfl, by kernel_rfl, fun args hl => ?_⟩
    obtain ⟨x0, rfl⟩ := args1 hl
    exact d479 x0
  · cases h
    refine ⟨_, a490, Tryz.func490, by kernel_rfl, by kernel_rfl, fun args hl => ?_⟩
    obtain ⟨x0, rfl⟩ := args1 hl
    exact d490 x0
  · cases h
end Go.Proofs.YtfonfgkjpndfaaaGreatDoor.Vn
