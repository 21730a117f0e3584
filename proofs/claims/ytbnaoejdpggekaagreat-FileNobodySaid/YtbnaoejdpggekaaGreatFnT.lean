/-
  This file has the trees of the functions that FileNobody reaches: each is what its function's code does.
-/
import Derived.Test.YtbnaoejdpggekaaGreatFrCall
import Derived.Test.YtbnaoejdpggekaaGreatProg
import Derived.KernelRfl
namespace Go.Proofs.YtbnaoejdpggekaaGreat.Fn
open Go Go.Fr
set_option maxRecDepth 100000
theorem args1 {l : List Value} (h : l.length = 1) : ∃ x0, l = [x0] := by
  match l, h with
  | [x0], _ => exact ⟨x0, rfl⟩
theorem args2 {l : List Value} (h : l.length = 2) : ∃ x0 x1, l = [x0, x1] := by
  match l, h with
  | [x0, x1], _ => exact ⟨x0, x1, rfl⟩
theorem args3 {l : List Value} (h : l.length = 3) : ∃ x0 x1 x2, l = [x0, x1, x2] := by
  match l, h with
  | [x0, x1, x2], _ => exact ⟨x0, x1, x2, rfl⟩
theorem args4 {l : List Value} (h : l.length = 4) : ∃ x0 x1 x2 x3, l = [x0, x1, x2, x3] := by
  match l, h with
  | [x0, x1, x2, x3], _ => exact ⟨x0, x1, x2, x3, rfl⟩
theorem args5 {l : List Value} (h : l.length = 5) : ∃ x0 x1 x2 x3 x4, l = [x0, x1, x2, x3, x4] := by
  match l, h with
  | [x0, x1, x2, x3, x4], _ => exact ⟨x0, x1, x2, x3, x4, rfl⟩
theorem args6 {l : List Value} (h : l.length = 6) : ∃ x0 x1 x2 x3 x4 x5, l = [x0, x1, x2, x3, x4, x5] := by
  match l, h with
  | [x0, x1, x2, x3, x4, x5], _ => exact ⟨x0, x1, x2, x3, x4, x5, rfl⟩
theorem args7 {l : List Value} (h : l.length = 7) : ∃ x0 x1 x2 x3 x4 x5 x6, l = [x0, x1, x2, x3, x4, x5, x6] := by
  match l, h with
  | [x0, x1, x2, x3, x4, x5, x6], _ => exact ⟨x0, x1, x2, x3, x4, x5, x6, rfl⟩
theorem args8 {l : List Value} (h : l.length = 8) : ∃ x0 x1 x2 x3 x4 x5 x6 x7, l = [x0, x1, x2, x3, x4, x5, x6, x7] := by
  match l, h with
  | [x0, x1, x2, x3, x4, x5, x6, x7], _ => exact ⟨x0, x1, x2, x3, x4, x5, x6, x7, rfl⟩
/-- bollard/bollardlaw15.FileNobody -/
def a4 : Ann := [(26, [(0, [23]), (1, []), (2, [])]), (27038, [(0, [60])])]
def t4 : T :=
.op (.box 23 (.v 0 0)) <|
.op (.build 40 []) <|
.op (.box 40 (.v 0 0)) <|
.op (.buildSlice 41 2 [(0, (.c (.pointer none))), (1, (.v 0 0))]) <|
.op (.builtin .len [41] 3 [false] [(.v 0 0)]) <|
.loop [(.c (.int .i64 0))] (
.op (.bin .lss 3 (.tmp 23) (.tmp 22) (.v 0 0) (.v 1 0)) <|
.ite (.v 0 0) (.op (.indexAt 41 (.v 3 0) (.v 1 0)) <|
.op (.load 24 (.v 0 0)) <|
.op (.load 23 (.v 8 0)) <|
.op (.call 13 [(.v 1 0), (.v 0 0), (.v 11 0), (.c (.int .i64 0)), (.v 12 0)]) <|
.op (.extract (.v 0 0) 0) <|
.op (.extract (.v 1 0) 1) <|
.op (.load 23 (.v 12 0)) <|
.op (.buildSlice 60 1 [(0, (.c (.int .u8 1)))]) <|
.op (.call 14 [(.v 6 0), (.v 1 0), (.v 16 0), (.c (.int .i64 0)), (.v 0 0)]) <|
.op (.extract (.v 0 0) 0) <|
.op (.extract (.v 1 0) 1) <|
.op (.load 23 (.v 17 0)) <|
.op (.call 15 [(.v 10 0), (.v 0 0), (.v 20 0), (.v 21 0)]) <|
.op (.extract (.v 0 0) 0) <|
.op (.extract (.v 1 0) 1) <|
.bind (.op (.bin .neq 45 (.tmp 51) (.const (.int .i64 2)) (.v 9 0) (.c (.int .i64 2))) <|
.ite (.v 0 0) (.done 0 [(.c (.bool true))]) (.op (.bin .neq 45 (.tmp 54) (.const (.int .i64 2)) (.v 5 0) (.c (.int .i64 2))) <|
.ite (.v 0 0) (.done 0 [(.c (.bool true))]) (.op (.bin .neq 45 (.tmp 58) (.const (.int .i64 2)) (.v 2 0) (.c (.int .i64 2))) <|
.done 0 [(.v 0 0)]))) <|
.alt 0 (.ite (.v 0 0) (.done 1 [(.c (.bool false))])
 (.op (.bin .add 3 (.tmp 23) (.const (.int .i64 1)) (.v 17 0) (.c (.int .i64 1))) <|
.done 0 [(.v 0 0)]))
 (.fail))
 (.done 2 [])) <|
.alt 0 (.fail)
 (.alt 1 (.finRow [.tmp 6] 0)
 (.alt 2 (.op (.build 23 []) <|
.op (.call 16 [(.v 0 0)]) <|
.op (.extract (.v 0 0) 0) <|
.op (.extract (.v 1 0) 1) <|
.op (.extract (.v 2 0) 2) <|
.op (.store 23 (.v 10 0) (.v 1 0)) <|
.op (.un .not (.v 1 0)) <|
.ite (.v 0 0) (.fin [.tmp 6] [(.c (.bool false))])
 (.drew <|
.rd (.nil (.v 4 0)) <|
.rd (.fieldAt 71 (.v 0 0) 1) <|
.rd (.load 24 (.v 0 0)) <|
.rd (.load 23 (.v 15 0)) <|
.op (.call 13 [(.v 1 0), (.v 0 0), (.c (.int .i64 3)), (.c (.int .i64 0)), (.c (.int .i64 5))]) <|
.rd (.extract (.v 0 0) 0) <|
.rd (.extract (.v 1 0) 1) <|
.op (.bin .eql 45 (.tmp 79) (.const (.int .i64 1)) (.v 0 0) (.c (.int .i64 1))) <|
.fin [.tmp 6] [(.v 0 0)]))
 (.fail)))
theorem d4 (a0 a1 a2 : Value) : denF Tryz.f4 a4 [a0, a1, a2] = t4.sp 0 (rows [a0, a1, a2]) [] := by kernel_rfl
/-- bollard/inode.Get -/
def a6 : Ann := []
def t6 : T :=
.op (.box 23 (.v 1 0)) <|
.op (.alloc 44) <|
.op (.load 23 (.v 1 0)) <|
.op (.call 20 [(.v 3 0), (.v 0 0), (.v 5 0)]) <|
.op (.extract (.v 0 0) 0) <|
.op (.extract (.v 1 0) 1) <|
.op (.extract (.v 2 0) 2) <|
.op (.bin .neq 45 (.tmp 20) (.const (.int .i64 0)) (.v 0 0) (.c (.int .i64 0))) <|
.ite (.v 0 0) (.op (.build 44 []) <|
.op (.store 44 (.v 7 0) (.v 0 0)) <|
.fin [.cell 6 44, .tmp 7] [(.v 8 0), (.v 3 0)])
 (.op (.call 21 [(.v 8 0), (.v 3 0)]) <|
.op (.extract (.v 0 0) 0) <|
.op (.extract (.v 1 0) 1) <|
.op (.bin .neq 45 (.tmp 30) (.const (.int .i64 0)) (.v 0 0) (.c (.int .i64 0))) <|
.ite (.v 0 0) (.op (.build 44 []) <|
.op (.store 44 (.v 11 0) (.v 0 0)) <|
.fin [.cell 6 44, .tmp 7] [(.v 12 0), (.v 3 0)])
 (.op (.bin .add 3 (.tmp 36) (.const (.int .i64 32)) (.v 6 0) (.c (.int .i64 32))) <|
.op (.slice 60 (.v 3 0) (some (.v 7 0)) (some (.v 0 0)) none) <|
.op (.call 22 [(.v 0 0)]) <|
.op (.extract (.v 0 0) 0) <|
.op (.extract (.v 1 0) 1) <|
.op (.store 44 (.v 15 0) (.v 1 0)) <|
.fin [.cell 6 44, .tmp 7] [(.v 16 0), (.v 1 0)]))
theorem d6 (a0 a1 a2 : Value) : denF Tryz.f6 a6 [a0, a1, a2] = t6.sp 0 (rows [a0, a1, a2]) [] := by kernel_rfl
/-- bollard/file.Read -/
def a13 : Ann := [(60, [(0, [35])]), (1020, [(0, [3, 15]), (1, []), (2, [15])])]
def t13 : T :=
.op (.box 23 (.v 1 0)) <|
.op (.load 23 (.v 0 0)) <|
.op (.call 37 [(.v 2 0), (.v 0 0), (.v 4 0)]) <|
.op (.extract (.v 0 0) 0) <|
.op (.extract (.v 1 0) 1) <|
.op (.bin .neq 45 (.tmp 27) (.const (.int .i64 0)) (.v 0 0) (.c (.int .i64 0))) <|
.ite (.v 0 0) (.fin [.tmp 10, .tmp 11] [(.c (.slice none 0 0)), (.v 1 0)])
 (.bind (.op (.bin .lss 3 (.tmp 30) (.const (.int .i64 0)) (.v 9 0) (.c (.int .i64 0))) <|
.ite (.v 0 0) (.done 0 [(.c (.bool true))]) (.op (.bin .lss 3 (.tmp 33) (.const (.int .i64 0)) (.v 11 0) (.c (.int .i64 0))) <|
.done 0 [(.v 0 0)])) <|
.alt 0 (.ite (.v 0 0) (.fin [.tmp 10, .tmp 11] [(.c (.slice none 0 0)), (.c (.int .i64 1))])
 (.op (.nil (.v 3 0)) <|
.op (.fieldAt 114 (.v 0 0) 3) <|
.op (.fieldAt 44 (.v 0 0) 2) <|
.op (.load 3 (.v 0 0)) <|
.op (.bin .geq 3 (.tmp 36) (.tmp 41) (.v 14 0) (.v 0 0)) <|
.ite (.v 0 0) (.fin [.tmp 10, .tmp 11] [(.c (.slice none 0 0)), (.c (.int .i64 0))])
 (.op (.nil (.v 8 0)) <|
.op (.fieldAt 114 (.v 0 0) 3) <|
.op (.fieldAt 44 (.v 0 0) 2) <|
.op (.load 3 (.v 0 0)) <|
.op (.bin .sub 3 (.tmp 49) (.tmp 50) (.v 0 0) (.v 19 0)) <|
.op (.builtin .min [3, 3] 3 [false, false] [(.v 21 0), (.v 0 0)]) <|
.op (.bin .add 3 (.tmp 43) (.tmp 52) (.v 21 0) (.v 0 0)) <|
.loop [(.v 22 0), (.c (.slice none 0 0))] (
.op (.bin .lss 3 (.tmp 54) (.tmp 55) (.v 0 0) (.v 1 0)) <|
.ite (.v 0 0) (.op (.bin .quo 3 (.tmp 59) (.const (.int .i64 128)) (.v 1 0) (.c (.int .i64 128))) <|
.op (.call 38 [(.v 18 0), (.v 0 0)]) <|
.op (.extract (.v 0 0) 0) <|
.op (.extract (.v 1 0) 1) <|
.op (.bin .neq 45 (.tmp 64) (.const (.int .i64 0)) (.v 0 0) (.c (.int .i64 0))) <|
.ite (.v 0 0) (.done 1 [(.c (.slice none 0 0)), (.v 1 0)])
 (.op (.bin .rem 3 (.tmp 67) (.const (.int .i64 128)) (.v 6 0) (.c (.int .i64 128))) <|
.op (.bin .add 3 (.tmp 69) (.tmp 70) (.v 0 0) (.v 8 0)) <|
.op (.bin .sub 3 (.tmp 71) (.tmp 72) (.v 0 0) (.v 8 0)) <|
.op (.builtin .min [3, 3] 3 [true, false] [(.c (.int .i64 128)), (.v 0 0)]) <|
.op (.slice 60 (.v 6 0) (some (.v 3 0)) (some (.v 0 0)) none) <|
.op (.builtin .append [60, 60] 60 [false, false] [(.v 11 1), (.v 0 0)]) <|
.op (.bin .sub 3 (.tmp 82) (.tmp 83) (.v 2 0) (.v 5 0)) <|
.op (.bin .add 3 (.tmp 81) (.tmp 84) (.v 13 0) (.v 0 0)) <|
.done 0 [(.v 0 0), (.v 2 0)]))
 (.done 2 [(.v 1 1)])) <|
.alt 0 (.fail)
 (.alt 1 (.finRow [.tmp 10, .tmp 11] 0)
 (.alt 2 (.fin [.tmp 10, .tmp 11] [(.v 0 0), (.c (.int .i64 0))])
 (.fail))))))
 (.fail))
theorem d13 (a0 a1 a2 a3 a4 : Value) : denF Tryz.f13 a13 [a0, a1, a2, a3, a4] = t13.sp 0 (rows [a0, a1, a2, a3, a4]) [] := by kernel_rfl
/-- bollard/file.Write -/
def a14 : Ann := [(926, [(0, [29])])]
def t14 : T :=
.op (.box 23 (.v 1 0)) <|
.op (.load 23 (.v 0 0)) <|
.op (.call 37 [(.v 2 0), (.v 0 0), (.v 4 0)]) <|
.op (.extract (.v 0 0) 0) <|
.op (.extract (.v 1 0) 1) <|
.op (.bin .neq 45 (.tmp 23) (.const (.int .i64 0)) (.v 0 0) (.c (.int .i64 0))) <|
.ite (.v 0 0) (.fin [.tmp 10, .tmp 11] [(.c (.slice none 0 0)), (.v 1 0)])
 (.op (.bin .lss 3 (.tmp 27) (.const (.int .i64 0)) (.v 9 0) (.c (.int .i64 0))) <|
.ite (.v 0 0) (.fin [.tmp 10, .tmp 11] [(.c (.slice none 0 0)), (.c (.int .i64 1))])
 (.bind (.op (.builtin .len [60] 3 [false] [(.v 11 0)]) <|
.op (.bin .gtr 3 (.tmp 31) (.const (.int .i64 532992)) (.v 0 0) (.c (.int .i64 532992))) <|
.ite (.v 0 0) (.done 0 [(.c (.bool true))]) (.op (.builtin .len [60] 3 [false] [(.v 13 0)]) <|
.op (.bin .sub 3 (.const (.int .i64 532992)) (.tmp 36) (.c (.int .i64 532992)) (.v 0 0)) <|
.op (.bin .gtr 3 (.tmp 34) (.tmp 37) (.v 14 0) (.v 0 0)) <|
.done 0 [(.v 0 0)])) <|
.alt 0 (.ite (.v 0 0) (.fin [.tmp 10, .tmp 11] [(.c (.slice none 0 0)), (.c (.int .i64 150))])
 (.op (.builtin .len [60] 3 [false] [(.v 12 0)]) <|
.op (.bin .eql 3 (.tmp 42) (.const (.int .i64 0)) (.v 0 0) (.c (.int .i64 0))) <|
.ite (.v 0 0) (.fin [.tmp 10, .tmp 11] [(.c (.slice none 0 0)), (.c (.int .i64 0))])
 (.op (.build 117 [(0, (.v 6 0)), (1, (.v 13 0)), (2, (.v 14 0))]) <|
.op (.box 117 (.v 0 0)) <|
.op (.func (.func 40) [(.v 0 0)] []) <|
.op (.call 39 [(.v 9 0), (.v 0 0)]) <|
.op (.extract (.v 0 0) 0) <|
.op (.extract (.v 1 0) 1) <|
.fin [.tmp 10, .tmp 11] [(.v 1 0), (.v 0 0)])))
 (.fail)))
theorem d14 (a0 a1 a2 a3 a4 : Value) : denF Tryz.f14 a14 [a0, a1, a2, a3, a4] = t14.sp 0 (rows [a0, a1, a2, a3, a4]) [] := by kernel_rfl
/-- bollard/file.Truncate -/
def a15 : Ann := []
def t15 : T :=
.op (.box 23 (.v 1 0)) <|
.op (.load 23 (.v 0 0)) <|
.op (.call 37 [(.v 2 0), (.v 0 0), (.v 4 0)]) <|
.op (.extract (.v 0 0) 0) <|
.op (.extract (.v 1 0) 1) <|
.op (.bin .neq 45 (.tmp 21) (.const (.int .i64 0)) (.v 0 0) (.c (.int .i64 0))) <|
.ite (.v 0 0) (.fin [.tmp 8, .tmp 9] [(.c (.slice none 0 0)), (.v 1 0)])
 (.op (.bin .lss 3 (.tmp 25) (.const (.int .i64 0)) (.v 9 0) (.c (.int .i64 0))) <|
.ite (.v 0 0) (.fin [.tmp 8, .tmp 9] [(.c (.slice none 0 0)), (.c (.int .i64 1))])
 (.op (.bin .gtr 3 (.tmp 28) (.const (.int .i64 532992)) (.v 10 0) (.c (.int .i64 532992))) <|
.ite (.v 0 0) (.fin [.tmp 8, .tmp 9] [(.c (.slice none 0 0)), (.c (.int .i64 150))])
 (.op (.bin .add 3 (.tmp 32) (.const (.int .i64 128)) (.v 11 0) (.c (.int .i64 128))) <|
.op (.bin .sub 3 (.tmp 33) (.const (.int .i64 1)) (.v 0 0) (.c (.int .i64 1))) <|
.op (.bin .quo 3 (.tmp 34) (.const (.int .i64 128)) (.v 0 0) (.c (.int .i64 128))) <|
.op (.build 122 [(0, (.v 7 0)), (1, (.v 14 0)), (2, (.v 0 0))]) <|
.op (.box 122 (.v 0 0)) <|
.op (.nil (.v 9 0)) <|
.op (.fieldAt 114 (.v 0 0) 3) <|
.op (.fieldAt 44 (.v 0 0) 2) <|
.op (.load 3 (.v 0 0)) <|
.op (.bin .eql 3 (.tmp 39) (.tmp 44) (.v 20 0) (.v 0 0)) <|
.ite (.v 0 0) (.fin [.tmp 8, .tmp 9] [(.c (.slice none 0 0)), (.c (.int .i64 0))])
 (.op (.nil (.v 14 0)) <|
.op (.fieldAt 114 (.v 0 0) 3) <|
.op (.fieldAt 44 (.v 0 0) 2) <|
.op (.load 3 (.v 0 0)) <|
.op (.bin .gtr 3 (.tmp 47) (.tmp 52) (.v 25 0) (.v 0 0)) <|
.ite (.v 0 0) (.op (.func (.func 41) [(.v 10 0)] []) <|
.op (.call 39 [(.v 20 0), (.v 0 0)]) <|
.op (.extract (.v 0 0) 0) <|
.op (.extract (.v 1 0) 1) <|
.fin [.tmp 8, .tmp 9] [(.v 1 0), (.v 0 0)])
 (.op (.func (.func 42) [(.v 10 0)] []) <|
.op (.call 39 [(.v 20 0), (.v 0 0)]) <|
.op (.extract (.v 0 0) 0) <|
.op (.extract (.v 1 0) 1) <|
.fin [.tmp 8, .tmp 9] [(.v 1 0), (.v 0 0)])))))
theorem d15 (a0 a1 a2 a3 : Value) : denF Tryz.f15 a15 [a0, a1, a2, a3] = t15.sp 0 (rows [a0, a1, a2, a3]) [] := by kernel_rfl
/-- bollard/bollardplain.Fresh -/
def a16 : Ann := [(29, [(0, [5])]), (62, [(0, [2, 4])])]
def t16 : T :=
.op (.box 23 (.v 0 0)) <|
.op (.alloc 23) <|
.op (.load 23 (.v 1 0)) <|
.op (.call 43 [(.v 0 0)]) <|
.op (.extract (.v 0 0) 0) <|
.op (.extract (.v 1 0) 1) <|
.op (.bin .neq 45 (.tmp 14) (.const (.int .i64 0)) (.v 0 0) (.c (.int .i64 0))) <|
.bind (.ite (.v 0 0) (.op (.build 23 [(0, (.c (.int .i64 1))), (1, (.c (.int .i64 8))), (2, (.c (.int .i64 4)))]) <|
.op (.store 23 (.v 7 0) (.v 0 0)) <|
.op (.load 23 (.v 8 0)) <|
.op (.call 43 [(.v 0 0)]) <|
.op (.extract (.v 0 0) 0) <|
.op (.extract (.v 1 0) 1) <|
.done 0 [(.v 1 0)])
 (.done 0 [(.v 2 0)])) <|
.alt 0 (.op (.call 44 [(.v 0 0), (.c (.int .i64 64))]) <|
.op (.extract (.v 0 0) 0) <|
.op (.extract (.v 1 0) 1) <|
.bind (.drew <|
.rd (.load 23 (.v 10 0)) <|
.ite (.v 1 0) (.rd (.bin .neq 65 (.tmp 31) (.const (.pointer none)) (.v 2 0) (.c (.pointer none))) <|
.op (.store 23 (.v 11 0) (.v 1 0)) <|
.chk (.bin .neq 65 (.tmp 31) (.const (.pointer none)) (.v 4 0) (.c (.pointer none))) (.v 1 0) <|
.done 0 [(.v 4 0), (.v 1 0)]) (.op (.store 23 (.v 10 0) (.v 0 0)) <|
.done 0 [(.v 3 0), (.c (.bool false))])) <|
.alt 0 (.fin [.tmp 2, .cell 3 23, .tmp 4] [(.v 0 0), (.v 10 0), (.v 0 1)])
 (.fail))
 (.fail)
theorem d16 (a0 : Value) : denF Tryz.f16 a16 [a0] = t16.sp 0 (rows [a0]) [] := by kernel_rfl
/-- bollard/inode.place -/
def a20 : Ann := []
def t20 : T :=
.op (.box 23 (.v 1 0)) <|
.op (.load 23 (.v 0 0)) <|
.op (.call 25 [(.v 2 0), (.v 0 0)]) <|
.op (.bin .neq 45 (.tmp 16) (.const (.int .i64 0)) (.v 0 0) (.c (.int .i64 0))) <|
.ite (.v 0 0) (.fin [.tmp 6, .tmp 7, .tmp 8] [(.c (.int .i64 0)), (.c (.int .i64 0)), (.v 1 0)])
 (.op (.load 23 (.v 3 0)) <|
.op (.call 48 [(.v 0 0), (.v 7 0)]) <|
.op (.extract (.v 0 0) 0) <|
.op (.extract (.v 1 0) 1) <|
.op (.extract (.v 2 0) 2) <|
.op (.un .not (.v 0 0)) <|
.ite (.v 0 0) (.fin [.tmp 6, .tmp 7, .tmp 8] [(.c (.int .i64 0)), (.c (.int .i64 0)), (.c (.int .i64 130))])
 (.fin [.tmp 6, .tmp 7, .tmp 8] [(.v 3 0), (.v 2 0), (.c (.int .i64 0))]))
theorem d20 (a0 a1 a2 : Value) : denF Tryz.f20 a20 [a0, a1, a2] = t20.sp 0 (rows [a0, a1, a2]) [] := by kernel_rfl
/-- (*bollard/volume.Volume).Read -/
def a21 : Ann := []
def t21 : T :=
.op (.call 49 [(.v 0 0)]) <|
.op (.un .not (.v 0 0)) <|
.ite (.v 0 0) (.fin [.tmp 4, .tmp 5] [(.c (.slice none 0 0)), (.c (.int .i64 2))])
 (.op (.nil (.v 2 0)) <|
.op (.fieldAt 40 (.v 0 0) 0) <|
.dfr (.c (.func (.func 50) #[] #[])) [(.v 0 0)] <|
.op (.call 51 [(.v 4 0), (.v 5 0)]) <|
.op (.extract (.v 0 0) 0) <|
.op (.extract (.v 1 0) 1) <|
.fin [.tmp 4, .tmp 5] [(.v 1 0), (.v 0 0)])
theorem d21 (a0 a1 : Value) : denF Tryz.f21 a21 [a0, a1] = t21.sp 0 (rows [a0, a1]) [] := by kernel_rfl
/-- bollard/layout.DecodeDinode -/
def a22 : Ann := [(1018, [(0, [36]), (3, [])]), (4092, [(0, [63])])]
def t22 : T :=
.op (.alloc 44) <|
.op (.builtin .len [60] 3 [false] [(.v 1 0)]) <|
.op (.bin .neq 3 (.tmp 11) (.const (.int .i64 32)) (.v 0 0) (.c (.int .i64 32))) <|
.ite (.v 0 0) (.op (.build 44 []) <|
.op (.store 44 (.v 3 0) (.v 0 0)) <|
.fin [.cell 2 44, .tmp 3] [(.v 4 0), (.c (.int .i64 6))])
 (.op (.call 52 [(.v 3 0)]) <|
.ite (.v 0 0) (.op (.build 44 []) <|
.op (.store 44 (.v 4 0) (.v 0 0)) <|
.fin [.cell 2 44, .tmp 3] [(.v 5 0), (.c (.int .i64 0))])
 (.op (.call 53 [(.v 4 0)]) <|
.op (.un .not (.v 0 0)) <|
.ite (.v 0 0) (.op (.build 44 []) <|
.op (.store 44 (.v 6 0) (.v 0 0)) <|
.fin [.cell 2 44, .tmp 3] [(.v 7 0), (.c (.int .i64 30))])
 (.op (.call 54 [(.v 6 0)]) <|
.op (.call 55 [(.v 0 0), (.c (.int .i64 1))]) <|
.op (.build 44 [(0, (.v 0 0))]) <|
.op (.alloc 44) <|
.op (.store 44 (.v 0 0) (.v 1 0)) <|
.op (.call 56 [(.v 4 0), (.c (.int .i64 1))]) <|
.op (.call 55 [(.v 5 0), (.c (.int .i64 2))]) <|
.op (.call 55 [(.v 6 0), (.c (.int .i64 4))]) <|
.op (.fieldAt 44 (.v 4 0) 1) <|
.op (.store 3 (.v 0 0) (.v 2 0)) <|
.op (.fieldAt 44 (.v 6 0) 2) <|
.op (.store 3 (.v 0 0) (.v 3 0)) <|
.loop [(.c (.int .i64 0))] (
.op (.bin .lss 3 (.tmp 36) (.const (.int .i64 4)) (.v 0 0) (.c (.int .i64 4))) <|
.ite (.v 0 0) (.op (.call 55 [(.v 13 0), (.c (.int .i64 2))]) <|
.op (.fieldAt 44 (.v 11 0) 3) <|
.op (.indexAt 42 (.v 0 0) (.v 3 0)) <|
.op (.store 3 (.v 0 0) (.v 2 0)) <|
.op (.bin .add 3 (.tmp 36) (.const (.int .i64 1)) (.v 5 0) (.c (.int .i64 1))) <|
.done 0 [(.v 0 0)])
 (.done 3 [])) <|
.alt 0 (.fail)
 (.alt 3 (.op (.call 55 [(.v 12 0), (.c (.int .i64 2))]) <|
.op (.call 55 [(.v 13 0), (.c (.int .i64 2))]) <|
.op (.fieldAt 44 (.v 11 0) 4) <|
.op (.store 3 (.v 0 0) (.v 2 0)) <|
.op (.fieldAt 44 (.v 13 0) 5) <|
.op (.store 3 (.v 0 0) (.v 3 0)) <|
.op (.load 44 (.v 15 0)) <|
.op (.call 23 [(.v 0 0)]) <|
.op (.extract (.v 0 0) 0) <|
.op (.extract (.v 1 0) 1) <|
.bind (.op (.bin .neq 45 (.tmp 56) (.const (.int .i64 0)) (.v 0 0) (.c (.int .i64 0))) <|
.ite (.v 0 0) (.done 0 [(.c (.bool true))]) (.op (.call 57 [(.v 2 0), (.v 30 0)]) <|
.op (.un .not (.v 0 0)) <|
.done 0 [(.v 0 0)])) <|
.alt 0 (.ite (.v 0 0) (.op (.build 44 []) <|
.op (.store 44 (.v 30 0) (.v 0 0)) <|
.fin [.cell 2 44, .tmp 3] [(.v 31 0), (.c (.int .i64 6))])
 (.op (.load 44 (.v 20 0)) <|
.op (.store 44 (.v 30 0) (.v 0 0)) <|
.fin [.cell 2 44, .tmp 3] [(.v 31 0), (.c (.int .i64 0))]))
 (.fail))
 (.fail)))))
theorem d22 (a0 : Value) : denF Tryz.f22 a22 [a0] = t22.sp 0 (rows [a0]) [] := by kernel_rfl
/-- bollard/inode.fine -/
def a25 : Ann := [(28, [(0, [17])])]
def t25 : T :=
.op (.box 23 (.v 1 0)) <|
.op (.call 47 [(.v 1 0)]) <|
.op (.bin .eql 3 (.tmp 6) (.const (.int .i64 0)) (.v 0 0) (.c (.int .i64 0))) <|
.ite (.v 0 0) (.fin [.tmp 4] [(.c (.int .i64 2))])
 (.bind (.drew <|
.rd (.load 23 (.v 2 0)) <|
.op (.call 65 [(.v 0 0)]) <|
.rd (.bin .neq 45 (.tmp 9) (.const (.int .i64 0)) (.v 0 0) (.c (.int .i64 0))) <|
.ite (.v 0 0) (.done 0 [(.c (.bool true))]) (.rd (.load 23 (.v 5 0)) <|
.op (.call 47 [(.v 7 0)]) <|
.chk (.load 23 (.v 7 0)) (.v 1 0) <|
.op (.call 66 [(.v 1 0)]) <|
.rd (.bin .lss 3 (.tmp 13) (.tmp 15) (.v 1 0) (.v 0 0)) <|
.done 0 [(.v 0 0)])) <|
.alt 0 (.ite (.v 0 0) (.fin [.tmp 4] [(.c (.int .i64 170))])
 (.fin [.tmp 4] [(.c (.int .i64 0))]))
 (.fail))
theorem d25 (a0 a1 : Value) : denF Tryz.f25 a25 [a0, a1] = t25.sp 0 (rows [a0, a1]) [] := by kernel_rfl
/-- bollard/geom.Owner -/
def a30 : Ann := []
def t30 : T :=
.op (.box 23 (.v 0 0)) <|
.drew <|
.rd (.fieldAt 23 (.v 0 0) 2) <|
.rd (.load 3 (.v 0 0)) <|
.rd (.load 23 (.v 2 0)) <|
.op (.call 69 [(.v 0 0)]) <|
.chk (.load 3 (.v 3 0)) (.v 2 0) <|
.chk (.fieldAt 23 (.v 4 0) 2) (.v 3 0) <|
.op (.call 68 [(.v 6 0), (.v 2 0), (.v 0 0)]) <|
.rd (.extract (.v 0 0) 0) <|
.rd (.extract (.v 1 0) 1) <|
.rd (.extract (.v 2 0) 2) <|
.fin [.tmp 4, .tmp 5, .tmp 6] [(.v 2 0), (.v 1 0), (.v 0 0)]
theorem d30 (a0 a1 : Value) : denF Tryz.f30 a30 [a0, a1] = t30.sp 0 (rows [a0, a1]) [] := by kernel_rfl
/-- bollard/file.open -/
def a37 : Ann := []
def t37 : T :=
.op (.box 23 (.v 1 0)) <|
.op (.load 23 (.v 0 0)) <|
.op (.call 6 [(.v 2 0), (.v 0 0), (.v 4 0)]) <|
.op (.extract (.v 0 0) 0) <|
.op (.extract (.v 1 0) 1) <|
.op (.alloc 44) <|
.op (.store 44 (.v 0 0) (.v 2 0)) <|
.op (.bin .neq 45 (.tmp 17) (.const (.int .i64 0)) (.v 2 0) (.c (.int .i64 0))) <|
.ite (.v 0 0) (.fin [.tmp 6, .tmp 7] [(.c (.pointer none)), (.v 3 0)])
 (.op (.fieldAt 44 (.v 2 0) 0) <|
.op (.load 3 (.v 0 0)) <|
.op (.bin .eql 3 (.tmp 21) (.const (.int .i64 0)) (.v 0 0) (.c (.int .i64 0))) <|
.ite (.v 0 0) (.fin [.tmp 6, .tmp 7] [(.c (.pointer none)), (.c (.int .i64 1))])
 (.op (.load 23 (.v 10 0)) <|
.op (.load 44 (.v 6 0)) <|
.op (.build 114 [(0, (.v 13 0)), (1, (.v 1 0)), (2, (.v 15 0)), (3, (.v 0 0))]) <|
.op (.box 114 (.v 0 0)) <|
.fin [.tmp 6, .tmp 7] [(.v 0 0), (.c (.int .i64 0))]))
theorem d37 (a0 a1 a2 : Value) : denF Tryz.f37 a37 [a0, a1, a2] = t37.sp 0 (rows [a0, a1, a2]) [] := by kernel_rfl
/-- bollard/bollardref17.Make -/
def a43 : Ann := [(122, [(0, [4, 16]), (2, [4])])]
def t43 : T :=
.op (.box 23 (.v 0 0)) <|
.op (.load 23 (.v 0 0)) <|
.op (.call 92 [(.v 0 0)]) <|
.op (.bin .neq 45 (.tmp 12) (.const (.int .i64 0)) (.v 0 0) (.c (.int .i64 0))) <|
.ite (.v 0 0) (.fin [.tmp 2, .tmp 3] [(.c (.slice none 0 0)), (.c (.int .i64 170))])
 (.op (.fieldAt 23 (.v 3 0) 0) <|
.op (.load 3 (.v 0 0)) <|
.loop [(.c (.slice none 0 0)), (.c (.int .i64 0))] (
.op (.bin .lss 3 (.tmp 16) (.tmp 15) (.v 0 1) (.v 1 0)) <|
.ite (.v 0 0) (.op (.load 23 (.v 7 0)) <|
.op (.call 93 [(.v 0 0), (.v 2 1)]) <|
.op (.builtin .append [75, 75] 75 [false, false] [(.v 3 0), (.v 0 0)]) <|
.op (.bin .add 3 (.tmp 16) (.const (.int .i64 1)) (.v 4 1) (.c (.int .i64 1))) <|
.done 0 [(.v 1 0), (.v 0 0)])
 (.done 2 [(.v 1 0)])) <|
.alt 0 (.fail)
 (.alt 2 (.op (.fieldAt 23 (.v 6 0) 2) <|
.op (.load 3 (.v 0 0)) <|
.op (.bin .quo 3 (.tmp 26) (.const (.int .i64 4)) (.v 0 0) (.c (.int .i64 4))) <|
.op (.bin .add 3 (.const (.int .i64 2)) (.tmp 27) (.c (.int .i64 2)) (.v 0 0)) <|
.op (.build 42 [(0, (.v 0 0))]) <|
.op (.build 44 [(0, (.c (.int .i64 2))), (1, (.c (.int .i64 2))), (2, (.c (.int .i64 128))), (3, (.v 0 0))]) <|
.op (.call 94 [(.v 0 0)]) <|
.op (.extract (.v 0 0) 0) <|
.op (.extract (.v 1 0) 1) <|
.op (.indexAt 75 (.v 9 0) (.c (.int .i64 2))) <|
.op (.load 60 (.v 0 0)) <|
.op (.slice 60 (.v 0 0) (some (.c (.int .i64 64))) none none) <|
.op (.builtin .copy [60, 60] 3 [false, false] [(.v 0 0), (.v 4 0)]) <|
.op (.build 174 [(0, (.c (.int .i64 2))), (1, (.c (.string ⟨#[46]⟩)))]) <|
.op (.build 174 [(0, (.c (.int .i64 2))), (1, (.c (.string ⟨#[46, 46]⟩)))]) <|
.op (.buildSlice 175 2 [(0, (.v 1 0)), (1, (.v 0 0))]) <|
.op (.call 95 [(.v 0 0)]) <|
.op (.extract (.v 0 0) 0) <|
.op (.extract (.v 1 0) 1) <|
.op (.indexAt 75 (.v 19 0) (.v 15 0)) <|
.op (.store 60 (.v 0 0) (.v 2 0)) <|
.fin [.tmp 2, .tmp 3] [(.v 21 0), (.c (.int .i64 0))])
 (.fail)))
theorem d43 (a0 : Value) : denF Tryz.f43 a43 [a0] = t43.sp 0 (rows [a0]) [] := by kernel_rfl
/-- bollard/bollardplain.Of -/
def a44 : Ann := [(124, [(0, [36])]), (500, [(0, [4, 5])]), (1020, [(0, [69])])]
def t44 : T :=
.op (.build 71 []) <|
.op (.box 71 (.v 0 0)) <|
.op (.call 97 [(.v 2 0)]) <|
.op (.call 96 [(.v 0 0)]) <|
.op (.extract (.v 0 0) 0) <|
.op (.extract (.v 1 0) 1) <|
.op (.call 98 [(.v 6 0)]) <|
.op (.extract (.v 0 0) 0) <|
.op (.extract (.v 1 0) 1) <|
.bind (.op (.bin .neq 45 (.tmp 26) (.tmp 27) (.v 3 0) (.v 0 0)) <|
.ite (.v 0 0) (.done 0 [(.c (.bool true))]) (.op (.bin .eql 32 (.tmp 30) (.const (.pointer none)) (.v 5 0) (.c (.pointer none))) <|
.ite (.v 0 0) (.done 0 [(.c (.bool true))]) (.op (.bin .eql 68 (.tmp 34) (.const (.pointer none)) (.v 3 0) (.c (.pointer none))) <|
.done 0 [(.v 0 0)]))) <|
.alt 0 (.ite (.v 0 0) (.bind (.op (.bin .eql 45 (.tmp 37) (.tmp 38) (.v 4 0) (.v 1 0)) <|
.ite (.v 0 0) (.op (.bin .eql 32 (.tmp 41) (.const (.pointer none)) (.v 6 0) (.c (.pointer none))) <|
.ite (.v 0 0) (.op (.bin .eql 68 (.tmp 45) (.const (.pointer none)) (.v 4 0) (.c (.pointer none))) <|
.done 0 [(.c (.pointer none)), (.v 0 0)]) (.done 0 [(.c (.pointer none)), (.c (.bool false))])) (.done 0 [(.c (.pointer none)), (.c (.bool false))])) <|
.alt 0 (.fin [.tmp 4, .tmp 5] [(.v 0 0), (.v 0 1)])
 (.fail))
 (.op (.call 99 [(.v 5 0), (.v 11 0)]) <|
.op (.extract (.v 0 0) 0) <|
.op (.extract (.v 1 0) 1) <|
.op (.call 100 [(.v 5 0), (.v 14 0)]) <|
.op (.extract (.v 0 0) 0) <|
.op (.extract (.v 1 0) 1) <|
.bind (.op (.bin .neq 45 (.tmp 60) (.tmp 61) (.v 3 0) (.v 0 0)) <|
.ite (.v 0 0) (.done 0 [(.c (.bool true))]) (.op (.bin .eql 24 (.tmp 64) (.const (.pointer none)) (.v 5 0) (.c (.pointer none))) <|
.op (.bin .eql 69 (.tmp 66) (.const (.pointer none)) (.v 3 0) (.c (.pointer none))) <|
.op (.bin .neq 4 (.tmp 65) (.tmp 67) (.v 1 0) (.v 0 0)) <|
.done 0 [(.v 0 0)])) <|
.alt 0 (.ite (.v 0 0) (.fin [.tmp 4, .tmp 5] [(.c (.pointer none)), (.c (.bool false))])
 (.op (.bin .eql 69 (.tmp 70) (.const (.pointer none)) (.v 2 0) (.c (.pointer none))) <|
.ite (.v 0 0) (.fin [.tmp 4, .tmp 5] [(.c (.pointer none)), (.c (.bool true))])
 (.op (.nil (.v 16 0)) <|
.op (.fieldAt 71 (.v 0 0) 0) <|
.op (.store 32 (.v 0 0) (.v 15 0)) <|
.op (.nil (.v 19 0)) <|
.op (.fieldAt 71 (.v 0 0) 1) <|
.op (.store 24 (.v 0 0) (.v 11 0)) <|
.op (.nil (.v 22 0)) <|
.op (.fieldAt 71 (.v 0 0) 2) <|
.op (.store 68 (.v 0 0) (.v 18 0)) <|
.op (.nil (.v 25 0)) <|
.op (.fieldAt 71 (.v 0 0) 3) <|
.op (.store 69 (.v 0 0) (.v 14 0)) <|
.fin [.tmp 4, .tmp 5] [(.v 28 0), (.c (.bool true))])))
 (.fail)))
 (.fail)
theorem d44 (a0 a1 : Value) : denF Tryz.f44 a44 [a0, a1] = t44.sp 0 (rows [a0, a1]) [] := by kernel_rfl
/-- (*bollard/volume.Volume).Blocks -/
def a47 : Ann := []
def t47 : T :=
.op (.call 49 [(.v 0 0)]) <|
.op (.un .not (.v 0 0)) <|
.ite (.v 0 0) (.fin [.tmp 2] [(.c (.int .i64 0))])
 (.op (.nil (.v 2 0)) <|
.op (.fieldAt 40 (.v 0 0) 0) <|
.dfr (.c (.func (.func 50) #[] #[])) [(.v 0 0)] <|
.op (.nil (.v 4 0)) <|
.op (.fieldAt 40 (.v 0 0) 1) <|
.op (.load 32 (.v 0 0)) <|
.op (.call 108 [(.v 0 0)]) <|
.fin [.tmp 2] [(.v 0 0)])
theorem d47 (a0 : Value) : denF Tryz.f47 a47 [a0] = t47.sp 0 (rows [a0]) [] := by kernel_rfl
/-- bollard/geom.Inode -/
def a48 : Ann := []
def t48 : T :=
.op (.box 23 (.v 0 0)) <|
.op (.load 23 (.v 0 0)) <|
.op (.call 30 [(.v 0 0), (.v 3 0)]) <|
.op (.extract (.v 0 0) 0) <|
.op (.extract (.v 1 0) 1) <|
.op (.extract (.v 2 0) 2) <|
.op (.un .not (.v 0 0)) <|
.ite (.v 0 0) (.fin [.tmp 4, .tmp 5, .tmp 6] [(.c (.int .i64 0)), (.c (.int .i64 0)), (.c (.bool false))])
 (.op (.load 23 (.v 6 0)) <|
.op (.bin .quo 3 (.tmp 24) (.const (.int .i64 4)) (.v 3 0) (.c (.int .i64 4))) <|
.op (.bin .add 3 (.const (.int .i64 2)) (.tmp 25) (.c (.int .i64 2)) (.v 0 0)) <|
.op (.call 109 [(.v 2 0), (.v 6 0), (.v 0 0)]) <|
.op (.extract (.v 0 0) 0) <|
.op (.extract (.v 1 0) 1) <|
.op (.bin .rem 3 (.tmp 31) (.const (.int .i64 4)) (.v 8 0) (.c (.int .i64 4))) <|
.op (.bin .mul 3 (.tmp 32) (.const (.int .i64 32)) (.v 0 0) (.c (.int .i64 32))) <|
.fin [.tmp 4, .tmp 5, .tmp 6] [(.v 3 0), (.v 0 0), (.c (.bool true))])
theorem d48 (a0 a1 : Value) : denF Tryz.f48 a48 [a0, a1] = t48.sp 0 (rows [a0, a1]) [] := by kernel_rfl
/-- (*bollard/volume.Volume).held -/
def a49 : Ann := []
def t49 : T :=
.op (.bin .eql 24 (.tmp 3) (.const (.pointer none)) (.v 0 0) (.c (.pointer none))) <|
.ite (.v 0 0) (.fin [.tmp 2] [(.c (.bool false))])
 (.op (.nil (.v 1 0)) <|
.op (.fieldAt 40 (.v 0 0) 0) <|
.op (.call 110 [(.v 0 0)]) <|
.op (.nil (.v 4 0)) <|
.op (.fieldAt 40 (.v 0 0) 1) <|
.op (.load 32 (.v 0 0)) <|
.op (.bin .eql 32 (.tmp 12) (.const (.pointer none)) (.v 0 0) (.c (.pointer none))) <|
.ite (.v 0 0) (.op (.nil (.v 8 0)) <|
.op (.fieldAt 40 (.v 0 0) 0) <|
.op (.call 50 [(.v 0 0)]) <|
.fin [.tmp 2] [(.c (.bool false))])
 (.fin [.tmp 2] [(.c (.bool true))]))
theorem d49 (a0 : Value) : denF Tryz.f49 a49 [a0] = t49.sp 0 (rows [a0]) [] := by kernel_rfl
/-- (*bollard/volume.Volume).read -/
def a51 : Ann := []
def t51 : T :=
.op (.call 63 [(.v 0 0), (.v 1 0)]) <|
.op (.un .not (.v 0 0)) <|
.ite (.v 0 0) (.fin [.tmp 4, .tmp 5] [(.c (.slice none 0 0)), (.c (.int .i64 90))])
 (.op (.nil (.v 2 0)) <|
.op (.fieldAt 40 (.v 0 0) 2) <|
.op (.load 33 (.v 0 0)) <|
.op (.call 112 [(.v 0 0), (.v 6 0)]) <|
.op (.extract (.v 0 0) 0) <|
.op (.extract (.v 1 0) 1) <|
.op (.bin .neq 45 (.tmp 21) (.const (.int .i64 0)) (.v 0 0) (.c (.int .i64 0))) <|
.ite (.v 0 0) (.fin [.tmp 4, .tmp 5] [(.c (.slice none 0 0)), (.v 1 0)])
 (.op (.nil (.v 9 0)) <|
.op (.fieldAt 40 (.v 0 0) 3) <|
.op (.load 34 (.v 0 0)) <|
.op (.call 113 [(.v 0 0), (.v 13 0), (.v 5 0)]) <|
.op (.extract (.v 0 0) 0) <|
.op (.extract (.v 1 0) 1) <|
.fin [.tmp 4, .tmp 5] [(.v 1 0), (.v 0 0)]))
theorem d51 (a0 a1 : Value) : denF Tryz.f51 a51 [a0, a1] = t51.sp 0 (rows [a0, a1]) [] := by kernel_rfl
/-- bollard/layout.zero -/
def a52 : Ann := [(26, [(0, [7]), (1, []), (2, [])])]
def t52 : T :=
.op (.builtin .len [60] 3 [false] [(.v 0 0)]) <|
.loop [(.c (.int .i64 0))] (
.op (.bin .lss 3 (.tmp 7) (.tmp 6) (.v 0 0) (.v 1 0)) <|
.ite (.v 0 0) (.op (.indexAt 60 (.v 3 0) (.v 1 0)) <|
.op (.load 5 (.v 0 0)) <|
.op (.bin .neq 5 (.tmp 11) (.const (.int .u8 0)) (.v 0 0) (.c (.int .u8 0))) <|
.ite (.v 0 0) (.done 1 [(.c (.bool false))])
 (.op (.bin .add 3 (.tmp 7) (.const (.int .i64 1)) (.v 4 0) (.c (.int .i64 1))) <|
.done 0 [(.v 0 0)]))
 (.done 2 [])) <|
.alt 0 (.fail)
 (.alt 1 (.finRow [.tmp 2] 0)
 (.alt 2 (.fin [.tmp 2] [(.c (.bool true))])
 (.fail)))
theorem d52 (a0 : Value) : denF Tryz.f52 a52 [a0] = t52.sp 0 (rows [a0]) [] := by kernel_rfl
/-- (*bollard/volume.Volume).has -/
def a63 : Ann := [(6, [(0, [4])])]
def t63 : T :=
.bind (.op (.bin .geq 3 (.tmp 5) (.const (.int .i64 0)) (.v 1 0) (.c (.int .i64 0))) <|
.ite (.v 0 0) (.op (.nil (.v 1 0)) <|
.op (.fieldAt 40 (.v 0 0) 1) <|
.op (.load 32 (.v 0 0)) <|
.op (.call 108 [(.v 0 0)]) <|
.op (.bin .lss 3 (.tmp 8) (.tmp 13) (.v 6 0) (.v 0 0)) <|
.done 0 [(.v 0 0)]) (.done 0 [(.c (.bool false))])) <|
.alt 0 (.fin [.tmp 4] [(.v 0 0)])
 (.fail)
theorem d63 (a0 a1 : Value) : denF Tryz.f63 a63 [a0, a1] = t63.sp 0 (rows [a0, a1]) [] := by kernel_rfl
/-- bollard/geom.Can -/
def a65 : Ann := [(6, [(0, [3])]), (28, [(0, [32])])]
def t65 : T :=
.op (.box 23 (.v 0 0)) <|
.bind (.op (.fieldAt 23 (.v 0 0) 0) <|
.op (.load 3 (.v 0 0)) <|
.op (.call 130 [(.v 0 0), (.c (.int .i64 1)), (.c (.int .i64 8))]) <|
.ite (.v 0 0) (.op (.fieldAt 23 (.v 3 0) 1) <|
.op (.load 3 (.v 0 0)) <|
.op (.call 130 [(.v 0 0), (.c (.int .i64 8)), (.c (.int .i64 256))]) <|
.ite (.v 0 0) (.op (.fieldAt 23 (.v 6 0) 2) <|
.op (.load 3 (.v 0 0)) <|
.op (.call 130 [(.v 0 0), (.c (.int .i64 4)), (.c (.int .i64 64))]) <|
.done 0 [(.v 0 0)]) (.done 0 [(.c (.bool false))])) (.done 0 [(.c (.bool false))])) <|
.alt 0 (.bind (.drew <|
.rd (.un .not (.v 0 0)) <|
.ite (.v 0 0) (.done 0 [(.c (.bool true))]) (.rd (.fieldAt 23 (.v 2 0) 2) <|
.rd (.load 3 (.v 0 0)) <|
.rd (.bin .rem 3 (.tmp 21) (.const (.int .i64 4)) (.v 0 0) (.c (.int .i64 4))) <|
.rd (.bin .neq 3 (.tmp 22) (.const (.int .i64 0)) (.v 0 0) (.c (.int .i64 0))) <|
.ite (.v 0 0) (.done 0 [(.c (.bool true))]) (.rd (.fieldAt 23 (.v 6 0) 1) <|
.rd (.load 3 (.v 0 0)) <|
.rd (.load 23 (.v 8 0)) <|
.op (.call 131 [(.v 0 0)]) <|
.chk (.load 3 (.v 3 0)) (.v 2 0) <|
.chk (.fieldAt 23 (.v 10 0) 1) (.v 3 0) <|
.rd (.bin .add 3 (.tmp 29) (.const (.int .i64 1)) (.v 0 0) (.c (.int .i64 1))) <|
.rd (.bin .lss 3 (.tmp 27) (.tmp 30) (.v 3 0) (.v 0 0)) <|
.done 0 [(.v 0 0)]))) <|
.alt 0 (.ite (.v 0 0) (.fin [.tmp 2] [(.c (.int .i64 170))])
 (.fin [.tmp 2] [(.c (.int .i64 0))]))
 (.fail))
 (.fail)
theorem d65 (a0 : Value) : denF Tryz.f65 a65 [a0] = t65.sp 0 (rows [a0]) [] := by kernel_rfl
/-- bollard/geom.Blocks -/
def a66 : Ann := []
def t66 : T :=
.op (.box 23 (.v 0 0)) <|
.op (.load 23 (.v 0 0)) <|
.op (.fieldAt 23 (.v 1 0) 1) <|
.op (.load 3 (.v 0 0)) <|
.op (.call 132 [(.v 2 0), (.v 0 0)]) <|
.fin [.tmp 2] [(.v 0 0)]
theorem d66 (a0 : Value) : denF Tryz.f66 a66 [a0] = t66.sp 0 (rows [a0]) [] := by kernel_rfl
/-- bollard/geom.split -/
def a68 : Ann := []
def t68 : T :=
.op (.bin .sub 3 (.tmp 10) (.const (.int .i64 1)) (.v 2 0) (.c (.int .i64 1))) <|
.op (.call 130 [(.v 1 0), (.c (.int .i64 0)), (.v 0 0)]) <|
.op (.un .not (.v 0 0)) <|
.ite (.v 0 0) (.fin [.tmp 6, .tmp 7, .tmp 8] [(.c (.int .i64 0)), (.c (.int .i64 0)), (.c (.bool false))])
 (.drew <|
.rd (.bin .quo 3 (.tmp 14) (.tmp 15) (.v 3 0) (.v 4 0)) <|
.rd (.bin .rem 3 (.tmp 17) (.tmp 18) (.v 4 0) (.v 5 0)) <|
.fin [.tmp 6, .tmp 7, .tmp 8] [(.v 1 0), (.v 0 0), (.c (.bool true))])
theorem d68 (a0 a1 a2 : Value) : denF Tryz.f68 a68 [a0, a1, a2] = t68.sp 0 (rows [a0, a1, a2]) [] := by kernel_rfl
/-- bollard/geom.Inodes -/
def a69 : Ann := []
def t69 : T :=
.op (.box 23 (.v 0 0)) <|
.op (.load 23 (.v 0 0)) <|
.op (.fieldAt 23 (.v 1 0) 2) <|
.op (.load 3 (.v 0 0)) <|
.op (.call 132 [(.v 2 0), (.v 0 0)]) <|
.fin [.tmp 2] [(.v 0 0)]
theorem d69 (a0 : Value) : denF Tryz.f69 a69 [a0] = t69.sp 0 (rows [a0]) [] := by kernel_rfl
/-- slices.DeleteFunc[[]int,int] -/
def a89 : Ann := [(122, [(0, [5, 6]), (2, [5])]), (978, [(0, [5])]), (7827, [(0, [5])])]
def t89 : T :=
.op (.call 146 [(.v 0 0), (.v 1 0)]) <|
.op (.bin .eql 3 (.tmp 11) (.const (.int .i64 (-1))) (.v 0 0) (.c (.int .i64 (-1)))) <|
.ite (.v 0 0) (.fin [.tmp 4] [(.v 2 0)])
 (.op (.bin .add 3 (.tmp 14) (.const (.int .i64 1)) (.v 1 0) (.c (.int .i64 1))) <|
.loop [(.v 2 0), (.v 0 0)] (
.op (.builtin .len [51] 3 [false] [(.v 4 0)]) <|
.op (.bin .lss 3 (.tmp 16) (.tmp 18) (.v 1 1) (.v 0 0)) <|
.ite (.v 0 0) (.bind (.op (.indexAt 51 (.v 6 0) (.v 2 1)) <|
.op (.load 3 (.v 0 0)) <|
.op (.callV (.v 9 0) [(.v 0 0)]) <|
.op (.un .not (.v 0 0)) <|
.bind (.ite (.v 0 0) (.op (.indexAt 51 (.v 10 0) (.v 6 0)) <|
.op (.store 3 (.v 0 0) (.v 3 0)) <|
.op (.bin .add 3 (.tmp 34) (.const (.int .i64 1)) (.v 8 0) (.c (.int .i64 1))) <|
.done 0 [(.v 0 0)])
 (.done 0 [(.v 6 0)])) <|
.alt 0 (.done 0 [(.v 0 0)])
 (.fail)) <|
.alt 0 (.op (.bin .add 3 (.tmp 20) (.const (.int .i64 1)) (.v 3 1) (.c (.int .i64 1))) <|
.done 0 [(.v 1 0), (.v 0 0)])
 (.fail))
 (.done 2 [(.v 2 0)])) <|
.alt 0 (.fail)
 (.alt 2 (.op (.slice 51 (.v 4 0) (some (.v 0 0)) none none) <|
.op (.builtin .clear [51] 0 [false] [(.v 0 0)]) <|
.op (.slice 51 (.v 6 0) none (some (.v 2 0)) none) <|
.fin [.tmp 4] [(.v 0 0)])
 (.fail)))
theorem d89 (a0 a1 : Value) : denF Tryz.f89 a89 [a0, a1] = t89.sp 0 (rows [a0, a1]) [] := by kernel_rfl
/-- bollard/bollardref04.Can -/
def a92 : Ann := [(12, [(0, [45])])]
def t92 : T :=
.op (.box 23 (.v 0 0)) <|
.bind (.op (.fieldAt 23 (.v 0 0) 0) <|
.op (.load 3 (.v 0 0)) <|
.op (.bin .lss 3 (.tmp 4) (.const (.int .i64 1)) (.v 0 0) (.c (.int .i64 1))) <|
.ite (.v 0 0) (.done 0 [(.c (.bool true))]) (.op (.fieldAt 23 (.v 3 0) 0) <|
.op (.load 3 (.v 0 0)) <|
.op (.bin .gtr 3 (.tmp 8) (.const (.int .i64 8)) (.v 0 0) (.c (.int .i64 8))) <|
.ite (.v 0 0) (.done 0 [(.c (.bool true))]) (.op (.fieldAt 23 (.v 6 0) 1) <|
.op (.load 3 (.v 0 0)) <|
.op (.bin .lss 3 (.tmp 13) (.const (.int .i64 8)) (.v 0 0) (.c (.int .i64 8))) <|
.ite (.v 0 0) (.done 0 [(.c (.bool true))]) (.op (.fieldAt 23 (.v 9 0) 1) <|
.op (.load 3 (.v 0 0)) <|
.op (.bin .gtr 3 (.tmp 18) (.const (.int .i64 256)) (.v 0 0) (.c (.int .i64 256))) <|
.ite (.v 0 0) (.done 0 [(.c (.bool true))]) (.op (.fieldAt 23 (.v 12 0) 2) <|
.op (.load 3 (.v 0 0)) <|
.op (.bin .lss 3 (.tmp 23) (.const (.int .i64 4)) (.v 0 0) (.c (.int .i64 4))) <|
.ite (.v 0 0) (.done 0 [(.c (.bool true))]) (.op (.fieldAt 23 (.v 15 0) 2) <|
.op (.load 3 (.v 0 0)) <|
.op (.bin .gtr 3 (.tmp 28) (.const (.int .i64 64)) (.v 0 0) (.c (.int .i64 64))) <|
.ite (.v 0 0) (.done 0 [(.c (.bool true))]) (.op (.fieldAt 23 (.v 18 0) 2) <|
.op (.load 3 (.v 0 0)) <|
.op (.bin .rem 3 (.tmp 33) (.const (.int .i64 4)) (.v 0 0) (.c (.int .i64 4))) <|
.op (.bin .neq 3 (.tmp 34) (.const (.int .i64 0)) (.v 0 0) (.c (.int .i64 0))) <|
.ite (.v 0 0) (.done 0 [(.c (.bool true))]) (.op (.fieldAt 23 (.v 22 0) 1) <|
.op (.load 3 (.v 0 0)) <|
.op (.fieldAt 23 (.v 24 0) 2) <|
.op (.load 3 (.v 0 0)) <|
.op (.bin .quo 3 (.tmp 41) (.const (.int .i64 4)) (.v 0 0) (.c (.int .i64 4))) <|
.op (.bin .add 3 (.const (.int .i64 3)) (.tmp 42) (.c (.int .i64 3)) (.v 0 0)) <|
.op (.bin .lss 3 (.tmp 39) (.tmp 43) (.v 4 0) (.v 0 0)) <|
.done 0 [(.v 0 0)])))))))) <|
.alt 0 (.ite (.v 0 0) (.fin [.tmp 2] [(.c (.int .i64 170))])
 (.fin [.tmp 2] [(.c (.int .i64 0))]))
 (.fail)
theorem d92 (a0 : Value) : denF Tryz.f92 a92 [a0] = t92.sp 0 (rows [a0]) [] := by kernel_rfl
/-- bollard/bollardref17.group -/
def a93 : Ann := [(122, [(0, [28]), (2, [])]), (125, [(0, [])]), (1020, [(0, [15]), (4, [15])])]
def t93 : T :=
.op (.box 23 (.v 0 0)) <|
.op (.load 23 (.v 0 0)) <|
.op (.build 232 [(0, (.v 0 0))]) <|
.op (.call 148 [(.v 0 0)]) <|
.op (.extract (.v 0 0) 0) <|
.op (.extract (.v 1 0) 1) <|
.op (.build 160 [(0, (.v 7 0))]) <|
.op (.alloc 160) <|
.op (.store 160 (.v 0 0) (.v 1 0)) <|
.op (.fieldAt 23 (.v 8 0) 2) <|
.op (.load 3 (.v 0 0)) <|
.op (.bin .quo 3 (.tmp 25) (.const (.int .i64 4)) (.v 0 0) (.c (.int .i64 4))) <|
.op (.bin .add 3 (.const (.int .i64 2)) (.tmp 26) (.c (.int .i64 2)) (.v 0 0)) <|
.loop [(.c (.int .i64 0))] (
.op (.bin .lss 3 (.tmp 28) (.tmp 27) (.v 0 0) (.v 1 0)) <|
.ite (.v 0 0) (.op (.fieldAt 160 (.v 7 0) 2) <|
.op (.slice 158 (.v 0 0) none none none) <|
.op (.call 149 [(.v 0 0), (.v 3 0), (.c (.bool true))]) <|
.op (.extract (.v 0 0) 0) <|
.op (.extract (.v 1 0) 1) <|
.op (.fieldAt 160 (.v 12 0) 2) <|
.op (.slice 158 (.v 0 0) none none none) <|
.op (.builtin .copy [60, 60] 3 [false, false] [(.v 0 0), (.v 3 0)]) <|
.op (.bin .add 3 (.tmp 28) (.const (.int .i64 1)) (.v 9 0) (.c (.int .i64 1))) <|
.done 0 [(.v 0 0)])
 (.done 2 [])) <|
.alt 0 (.fail)
 (.alt 2 (.op (.bin .eql 3 (.tmp 43) (.const (.int .i64 0)) (.v 15 0) (.c (.int .i64 0))) <|
.bind (.ite (.v 0 0) (.drew <|
.rd (.fieldAt 160 (.v 7 0) 2) <|
.rd (.slice 158 (.v 0 0) none none none) <|
.rd (.fieldAt 23 (.v 16 0) 2) <|
.rd (.load 3 (.v 0 0)) <|
.rd (.bin .quo 3 (.tmp 49) (.const (.int .i64 4)) (.v 0 0) (.c (.int .i64 4))) <|
.rd (.bin .add 3 (.const (.int .i64 2)) (.tmp 50) (.c (.int .i64 2)) (.v 0 0)) <|
.op (.call 149 [(.v 4 0), (.v 0 0), (.c (.bool true))]) <|
.rd (.extract (.v 0 0) 0) <|
.rd (.extract (.v 1 0) 1) <|
.op (.fieldAt 160 (.v 16 0) 2) <|
.op (.slice 158 (.v 0 0) none none none) <|
.op (.builtin .copy [60, 60] 3 [false, false] [(.v 0 0), (.v 3 0)]) <|
.op (.fieldAt 160 (.v 19 0) 1) <|
.op (.indexAt 157 (.v 0 0) (.c (.int .i64 0))) <|
.op (.store 5 (.v 0 0) (.c (.int .u8 7))) <|
.done 0 [])
 (.done 0 [])) <|
.alt 0 (.op (.load 160 (.v 8 0)) <|
.op (.call 150 [(.v 0 0)]) <|
.op (.extract (.v 0 0) 0) <|
.op (.extract (.v 1 0) 1) <|
.op (.buildSlice 75 2 [(0, (.v 15 0)), (1, (.v 1 0))]) <|
.loop [(.v 0 0)] (
.op (.builtin .len [75] 3 [false] [(.v 0 0)]) <|
.op (.fieldAt 23 (.v 22 0) 1) <|
.op (.load 3 (.v 0 0)) <|
.op (.bin .lss 3 (.tmp 70) (.tmp 72) (.v 2 0) (.v 0 0)) <|
.ite (.v 0 0) (.op (.make 60 (.c (.int .i64 128)) (.c (.int .i64 128))) <|
.op (.buildSlice 75 1 [(0, (.v 0 0))]) <|
.op (.builtin .append [75, 75] 75 [false, false] [(.v 6 0), (.v 0 0)]) <|
.done 0 [(.v 0 0)])
 (.done 4 [(.v 4 0)])) <|
.alt 0 (.fail)
 (.alt 4 (.fin [.tmp 4] [(.v 0 0)])
 (.fail)))
 (.fail))
 (.fail))
theorem d93 (a0 a1 : Value) : denF Tryz.f93 a93 [a0, a1] = t93.sp 0 (rows [a0, a1]) [] := by kernel_rfl
/-- bollard/bollardref03.EncodeDinode -/
def a94 : Ann := [(2042, [(0, [4, 29]), (2, [4])])]
def t94 : T :=
.op (.box 44 (.v 0 0)) <|
.op (.load 44 (.v 0 0)) <|
.op (.call 151 [(.v 0 0)]) <|
.op (.un .not (.v 0 0)) <|
.ite (.v 0 0) (.fin [.tmp 2, .tmp 3] [(.c (.slice none 0 0)), (.c (.int .i64 1))])
 (.op (.make 60 (.c (.int .i64 32)) (.c (.int .i64 32))) <|
.op (.fieldAt 44 (.v 4 0) 0) <|
.op (.load 3 (.v 0 0)) <|
.op (.bin .eql 3 (.tmp 12) (.const (.int .i64 0)) (.v 0 0) (.c (.int .i64 0))) <|
.ite (.v 0 0) (.fin [.tmp 2, .tmp 3] [(.v 3 0), (.c (.int .i64 0))])
 (.op (.fieldAt 44 (.v 7 0) 0) <|
.op (.load 3 (.v 0 0)) <|
.op (.call 152 [(.v 5 0), (.c (.int .i64 0)), (.c (.int .i64 1)), (.v 0 0)]) <|
.op (.fieldAt 44 (.v 10 0) 1) <|
.op (.load 3 (.v 0 0)) <|
.op (.call 152 [(.v 2 0), (.c (.int .i64 2)), (.c (.int .i64 2)), (.v 0 0)]) <|
.op (.fieldAt 44 (.v 13 0) 2) <|
.op (.load 3 (.v 0 0)) <|
.op (.call 152 [(.v 2 0), (.c (.int .i64 4)), (.c (.int .i64 4)), (.v 0 0)]) <|
.op (.fieldAt 44 (.v 16 0) 3) <|
.op (.load 42 (.v 0 0)) <|
.loop [(.v 2 0), (.c (.int .i64 0))] (
.op (.bin .lss 3 (.tmp 29) (.const (.int .i64 4)) (.v 0 1) (.c (.int .i64 4))) <|
.ite (.v 0 0) (.op (.index 42 (.v 2 0) (.v 1 1)) <|
.op (.bin .mul 3 (.const (.int .i64 2)) (.tmp 34) (.c (.int .i64 2)) (.v 2 1)) <|
.op (.bin .add 3 (.const (.int .i64 8)) (.tmp 35) (.c (.int .i64 8)) (.v 0 0)) <|
.op (.call 152 [(.v 4 0), (.v 0 0), (.c (.int .i64 2)), (.v 2 0)]) <|
.op (.bin .add 3 (.tmp 29) (.const (.int .i64 1)) (.v 5 1) (.c (.int .i64 1))) <|
.done 0 [(.v 1 0), (.v 0 0)])
 (.done 2 [(.v 1 0)])) <|
.alt 0 (.fail)
 (.alt 2 (.op (.fieldAt 44 (.v 19 0) 4) <|
.op (.load 3 (.v 0 0)) <|
.op (.call 152 [(.v 2 0), (.c (.int .i64 16)), (.c (.int .i64 2)), (.v 0 0)]) <|
.op (.fieldAt 44 (.v 22 0) 5) <|
.op (.load 3 (.v 0 0)) <|
.op (.call 152 [(.v 2 0), (.c (.int .i64 18)), (.c (.int .i64 2)), (.v 0 0)]) <|
.op (.call 153 [(.v 0 0)]) <|
.op (.extract (.v 0 0) 0) <|
.op (.extract (.v 1 0) 1) <|
.fin [.tmp 2, .tmp 3] [(.v 1 0), (.v 0 0)])
 (.fail))))
theorem d94 (a0 : Value) : denF Tryz.f94 a94 [a0] = t94.sp 0 (rows [a0]) [] := by kernel_rfl
/-- bollard/bollardref12.Encode -/
def a95 : Ann := [(12, [(0, [15])]), (122, [(0, [4, 18]), (1, []), (2, [4])])]
def t95 : T :=
.bind (.op (.builtin .len [175] 3 [false] [(.v 0 0)]) <|
.op (.bin .gtr 3 (.tmp 10) (.const (.int .i64 8)) (.v 0 0) (.c (.int .i64 8))) <|
.ite (.v 0 0) (.done 0 [(.c (.bool true))]) (.op (.call 154 [(.v 2 0)]) <|
.done 0 [(.v 0 0)])) <|
.alt 0 (.ite (.v 0 0) (.fin [.tmp 2, .tmp 3] [(.c (.slice none 0 0)), (.c (.int .i64 1))])
 (.op (.builtin .len [175] 3 [false] [(.v 1 0)]) <|
.loop [(.c (.slice none 0 0)), (.c (.int .i64 0))] (
.op (.bin .lss 3 (.tmp 18) (.tmp 17) (.v 0 1) (.v 1 0)) <|
.ite (.v 0 0) (.op (.indexAt 175 (.v 4 0) (.v 1 1)) <|
.op (.load 174 (.v 0 0)) <|
.op (.alloc 174) <|
.op (.store 174 (.v 0 0) (.v 1 0)) <|
.op (.load 174 (.v 1 0)) <|
.op (.call 155 [(.v 0 0)]) <|
.op (.extract (.v 0 0) 0) <|
.op (.extract (.v 1 0) 1) <|
.op (.bin .neq 45 (.tmp 27) (.const (.int .i64 0)) (.v 0 0) (.c (.int .i64 0))) <|
.ite (.v 0 0) (.done 1 [(.c (.slice none 0 0)), (.c (.int .i64 1))])
 (.op (.builtin .append [60, 60] 60 [false, false] [(.v 10 0), (.v 2 0)]) <|
.op (.bin .add 3 (.tmp 18) (.const (.int .i64 1)) (.v 11 1) (.c (.int .i64 1))) <|
.done 0 [(.v 1 0), (.v 0 0)]))
 (.done 2 [(.v 1 0)])) <|
.alt 0 (.fail)
 (.alt 1 (.finRow [.tmp 2, .tmp 3] 0)
 (.alt 2 (.op (.builtin .len [60] 3 [false] [(.v 0 0)]) <|
.op (.bin .sub 3 (.const (.int .i64 128)) (.tmp 35) (.c (.int .i64 128)) (.v 0 0)) <|
.op (.builtin .append [60, 3] 60 [false, false] [(.v 2 0), (.v 0 0)]) <|
.fin [.tmp 2, .tmp 3] [(.v 0 0), (.c (.int .i64 0))])
 (.fail)))))
 (.fail)
theorem d95 (a0 : Value) : denF Tryz.f95 a95 [a0] = t95.sp 0 (rows [a0]) [] := by kernel_rfl
/-- bollard/disk.Of -/
def a96 : Ann := [(28, [(0, [17])])]
def t96 : T :=
.bind (.op (.builtin .len [75] 3 [false] [(.v 0 0)]) <|
.op (.bin .lss 3 (.tmp 6) (.const (.int .i64 1)) (.v 0 0) (.c (.int .i64 1))) <|
.ite (.v 0 0) (.done 0 [(.c (.bool true))]) (.op (.builtin .len [75] 3 [false] [(.v 2 0)]) <|
.op (.bin .gtr 3 (.tmp 10) (.const (.int .i64 2048)) (.v 0 0) (.c (.int .i64 2048))) <|
.ite (.v 0 0) (.done 0 [(.c (.bool true))]) (.op (.call 157 [(.v 4 0), (.c (.func (.func 156) #[] #[]))]) <|
.done 0 [(.v 0 0)]))) <|
.alt 0 (.ite (.v 0 0) (.fin [.tmp 2, .tmp 3] [(.c (.pointer none)), (.c (.int .i64 1))])
 (.op (.call 158 [(.v 1 0)]) <|
.op (.map 238 none) <|
.op (.build 241 [(0, (.v 1 0)), (2, (.v 0 0))]) <|
.op (.box 241 (.v 0 0)) <|
.fin [.tmp 2, .tmp 3] [(.v 0 0), (.c (.int .i64 0))]))
 (.fail)
theorem d96 (a0 : Value) : denF Tryz.f96 a96 [a0] = t96.sp 0 (rows [a0]) [] := by kernel_rfl
/-- bollard/bollardplain.Image -/
def a97 : Ann := [(58, [(0, [3, 8]), (2, [3])])]
def t97 : T :=
.op (.builtin .len [75] 3 [false] [(.v 0 0)]) <|
.loop [(.c (.slice none 0 0)), (.c (.int .i64 0))] (
.op (.bin .lss 3 (.tmp 8) (.tmp 7) (.v 0 1) (.v 1 0)) <|
.ite (.v 0 0) (.op (.indexAt 75 (.v 3 0) (.v 1 1)) <|
.op (.load 60 (.v 0 0)) <|
.op (.call 159 [(.v 0 0)]) <|
.op (.buildSlice 75 1 [(0, (.v 0 0))]) <|
.op (.builtin .append [75, 75] 75 [false, false] [(.v 5 0), (.v 0 0)]) <|
.op (.bin .add 3 (.tmp 8) (.const (.int .i64 1)) (.v 6 1) (.c (.int .i64 1))) <|
.done 0 [(.v 1 0), (.v 0 0)])
 (.done 2 [(.v 1 0)])) <|
.alt 0 (.fail)
 (.alt 2 (.fin [.tmp 2] [(.v 0 0)])
 (.fail))
theorem d97 (a0 : Value) : denF Tryz.f97 a97 [a0] = t97.sp 0 (rows [a0]) [] := by kernel_rfl
/-- bollard/bollardref02.Of -/
def a98 : Ann := [(12, [(0, [14])]), (122, [(0, [22]), (1, []), (2, [])])]
def t98 : T :=
.bind (.op (.builtin .len [75] 3 [false] [(.v 0 0)]) <|
.op (.bin .lss 3 (.tmp 8) (.const (.int .i64 1)) (.v 0 0) (.c (.int .i64 1))) <|
.ite (.v 0 0) (.done 0 [(.c (.bool true))]) (.op (.builtin .len [75] 3 [false] [(.v 2 0)]) <|
.op (.bin .gtr 3 (.tmp 12) (.const (.int .i64 2048)) (.v 0 0) (.c (.int .i64 2048))) <|
.done 0 [(.v 0 0)])) <|
.alt 0 (.ite (.v 0 0) (.fin [.tmp 2, .tmp 3] [(.c (.pointer none)), (.c (.int .i64 1))])
 (.op (.builtin .len [75] 3 [false] [(.v 1 0)]) <|
.op (.make 51 (.v 0 0) (.v 0 0)) <|
.op (.build 243 [(2, (.v 0 0))]) <|
.op (.box 243 (.v 0 0)) <|
.op (.builtin .len [75] 3 [false] [(.v 5 0)]) <|
.loop [(.c (.int .i64 0))] (
.op (.bin .lss 3 (.tmp 22) (.tmp 21) (.v 0 0) (.v 1 0)) <|
.ite (.v 0 0) (.op (.indexAt 75 (.v 8 0) (.v 1 0)) <|
.op (.load 60 (.v 0 0)) <|
.op (.builtin .len [60] 3 [false] [(.v 0 0)]) <|
.op (.bin .neq 3 (.tmp 27) (.const (.int .i64 128)) (.v 0 0) (.c (.int .i64 128))) <|
.ite (.v 0 0) (.done 1 [(.c (.pointer none)), (.c (.int .i64 1))])
 (.drew <|
.rd (.nil (.v 7 0)) <|
.rd (.fieldAt 243 (.v 0 0) 0) <|
.rd (.load 75 (.v 0 0)) <|
.op (.call 160 [(.v 5 0)]) <|
.chk (.load 75 (.v 2 0)) (.v 1 0) <|
.chk (.fieldAt 243 (.v 3 0) 0) (.v 2 0) <|
.chk (.nil (.v 11 0)) (.v 3 0) <|
.op (.buildSlice 75 1 [(0, (.v 0 0))]) <|
.chk (.load 75 (.v 3 0)) (.v 2 0) <|
.chk (.fieldAt 243 (.v 4 0) 0) (.v 3 0) <|
.chk (.nil (.v 12 0)) (.v 4 0) <|
.op (.builtin .append [75, 75] 75 [false, false] [(.v 2 0), (.v 0 0)]) <|
.rd (.nil (.v 13 0)) <|
.rd (.fieldAt 243 (.v 0 0) 0) <|
.op (.store 75 (.v 0 0) (.v 2 0)) <|
.op (.bin .add 3 (.tmp 22) (.const (.int .i64 1)) (.v 14 0) (.c (.int .i64 1))) <|
.done 0 [(.v 0 0)]))
 (.done 2 [])) <|
.alt 0 (.fail)
 (.alt 1 (.finRow [.tmp 2, .tmp 3] 0)
 (.alt 2 (.fin [.tmp 2, .tmp 3] [(.v 2 0), (.c (.int .i64 0))])
 (.fail)))))
 (.fail)
theorem d98 (a0 : Value) : denF Tryz.f98 a98 [a0] = t98.sp 0 (rows [a0]) [] := by kernel_rfl
/-- bollard/volume.Open -/
def a99 : Ann := []
def t99 : T :=
.op (.call 161 [(.v 0 0), (.v 1 0)]) <|
.op (.extract (.v 0 0) 0) <|
.op (.extract (.v 1 0) 1) <|
.op (.bin .neq 45 (.tmp 14) (.const (.int .i64 0)) (.v 0 0) (.c (.int .i64 0))) <|
.ite (.v 0 0) (.fin [.tmp 4, .tmp 5] [(.c (.pointer none)), (.v 1 0)])
 (.op (.call 162 []) <|
.op (.map 35 none) <|
.op (.build 40 [(1, (.v 6 0)), (2, (.v 4 0)), (3, (.v 1 0)), (4, (.v 0 0))]) <|
.op (.box 40 (.v 0 0)) <|
.fin [.tmp 4, .tmp 5] [(.v 0 0), (.c (.int .i64 0))])
theorem d99 (a0 a1 : Value) : denF Tryz.f99 a99 [a0, a1] = t99.sp 0 (rows [a0, a1]) [] := by kernel_rfl
/-- bollard/bollardref09.Open -/
def a100 : Ann := []
def t100 : T :=
.op (.bin .eql 68 (.tmp 8) (.const (.pointer none)) (.v 0 0) (.c (.pointer none))) <|
.ite (.v 0 0) (.fin [.tmp 4, .tmp 5] [(.c (.pointer none)), (.c (.int .i64 2))])
 (.op (.call 163 [(.v 1 0), (.v 2 0)]) <|
.op (.extract (.v 0 0) 0) <|
.op (.extract (.v 1 0) 1) <|
.op (.bin .neq 45 (.tmp 16) (.const (.int .i64 0)) (.v 0 0) (.c (.int .i64 0))) <|
.ite (.v 0 0) (.fin [.tmp 4, .tmp 5] [(.c (.pointer none)), (.v 1 0)])
 (.op (.build 253 []) <|
.op (.box 253 (.v 0 0)) <|
.op (.build 257 [(0, (.v 7 0)), (1, (.v 4 0)), (2, (.v 0 0))]) <|
.op (.box 257 (.v 0 0)) <|
.fin [.tmp 4, .tmp 5] [(.v 0 0), (.c (.int .i64 0))]))
theorem d100 (a0 a1 : Value) : denF Tryz.f100 a100 [a0, a1] = t100.sp 0 (rows [a0, a1]) [] := by kernel_rfl
/-- (*bollard/disk.Disk).Blocks -/
def a108 : Ann := []
def t108 : T :=
.op (.bin .eql 32 (.tmp 3) (.const (.pointer none)) (.v 0 0) (.c (.pointer none))) <|
.ite (.v 0 0) (.fin [.tmp 2] [(.c (.int .i64 0))])
 (.op (.nil (.v 1 0)) <|
.op (.fieldAt 241 (.v 0 0) 0) <|
.op (.load 75 (.v 0 0)) <|
.op (.builtin .len [75] 3 [false] [(.v 0 0)]) <|
.fin [.tmp 2] [(.v 0 0)])
theorem d108 (a0 : Value) : denF Tryz.f108 a108 [a0] = t108.sp 0 (rows [a0]) [] := by kernel_rfl
/-- bollard/geom.at -/
def a109 : Ann := [(12, [(0, [18])])]
def t109 : T :=
.op (.box 23 (.v 0 0)) <|
.bind (.op (.load 23 (.v 0 0)) <|
.op (.call 65 [(.v 0 0)]) <|
.op (.bin .neq 45 (.tmp 9) (.const (.int .i64 0)) (.v 0 0) (.c (.int .i64 0))) <|
.ite (.v 0 0) (.done 0 [(.c (.bool true))]) (.op (.fieldAt 23 (.v 3 0) 0) <|
.op (.load 3 (.v 0 0)) <|
.op (.bin .sub 3 (.tmp 14) (.const (.int .i64 1)) (.v 0 0) (.c (.int .i64 1))) <|
.op (.call 130 [(.v 8 0), (.c (.int .i64 0)), (.v 0 0)]) <|
.op (.un .not (.v 0 0)) <|
.done 0 [(.v 0 0)])) <|
.alt 0 (.ite (.v 0 0) (.fin [.tmp 6, .tmp 7] [(.c (.int .i64 0)), (.c (.bool false))])
 (.op (.fieldAt 23 (.v 1 0) 1) <|
.op (.load 3 (.v 0 0)) <|
.op (.bin .mul 3 (.tmp 19) (.tmp 21) (.v 5 0) (.v 0 0)) <|
.op (.bin .add 3 (.tmp 22) (.tmp 23) (.v 0 0) (.v 7 0)) <|
.fin [.tmp 6, .tmp 7] [(.v 0 0), (.c (.bool true))]))
 (.fail)
theorem d109 (a0 a1 a2 : Value) : denF Tryz.f109 a109 [a0, a1, a2] = t109.sp 0 (rows [a0, a1, a2]) [] := by kernel_rfl
/-- (*bollard/cache.Cache).Get -/
def a112 : Ann := []
def t112 : T :=
.op (.call 189 [(.v 0 0), (.v 1 0)]) <|
.op (.extract (.v 0 0) 0) <|
.op (.extract (.v 1 0) 1) <|
.op (.bin .neq 45 (.tmp 14) (.const (.int .i64 0)) (.v 0 0) (.c (.int .i64 0))) <|
.ite (.v 0 0) (.fin [.tmp 4, .tmp 5] [(.c (.slice none 0 0)), (.v 1 0)])
 (.op (.nil (.v 2 0)) <|
.op (.fieldAt 285 (.v 0 0) 0) <|
.op (.load 60 (.v 0 0)) <|
.op (.call 159 [(.v 0 0)]) <|
.fin [.tmp 4, .tmp 5] [(.v 0 0), (.c (.int .i64 0))])
theorem d112 (a0 a1 : Value) : denF Tryz.f112 a112 [a0, a1] = t112.sp 0 (rows [a0, a1]) [] := by kernel_rfl
/-- (*bollard/patch.Set).Now -/
def a113 : Ann := []
def t113 : T :=
.op (.call 121 [(.v 0 0)]) <|
.op (.un .not (.v 0 0)) <|
.ite (.v 0 0) (.fin [.tmp 6, .tmp 7] [(.c (.slice none 0 0)), (.c (.int .i64 2))])
 (.op (.builtin .len [60] 3 [false] [(.v 4 0)]) <|
.op (.bin .neq 3 (.tmp 14) (.const (.int .i64 128)) (.v 0 0) (.c (.int .i64 128))) <|
.ite (.v 0 0) (.fin [.tmp 6, .tmp 7] [(.c (.slice none 0 0)), (.c (.int .i64 1))])
 (.op (.call 191 [(.v 4 0), (.v 5 0)]) <|
.op (.call 190 [(.v 5 0), (.v 7 0), (.v 0 0)]) <|
.fin [.tmp 6, .tmp 7] [(.v 0 0), (.c (.int .i64 0))]))
theorem d113 (a0 a1 a2 : Value) : denF Tryz.f113 a113 [a0, a1, a2] = t113.sp 0 (rows [a0, a1, a2]) [] := by kernel_rfl
/-- (*bollard/patch.Set).own -/
def a121 : Ann := [(6, [(0, [2])])]
def t121 : T :=
.bind (.op (.bin .neq 34 (.tmp 3) (.const (.pointer none)) (.v 0 0) (.c (.pointer none))) <|
.ite (.v 0 0) (.op (.nil (.v 1 0)) <|
.op (.fieldAt 206 (.v 0 0) 3) <|
.op (.load 4 (.v 0 0)) <|
.done 0 [(.v 0 0)]) (.done 0 [(.c (.bool false))])) <|
.alt 0 (.fin [.tmp 2] [(.v 0 0)])
 (.fail)
theorem d121 (a0 : Value) : denF Tryz.f121 a121 [a0] = t121.sp 0 (rows [a0]) [] := by kernel_rfl
/-- slices.Clone[[]byte,byte] -/
def a126 : Ann := []
def t126 : T :=
.op (.bin .eql 60 (.tmp 3) (.const (.slice none 0 0)) (.v 0 0) (.c (.slice none 0 0))) <|
.ite (.v 0 0) (.fin [.tmp 2] [(.c (.slice none 0 0))])
 (.op (.buildSlice 60 0 []) <|
.op (.builtin .append [60, 60] 60 [false, false] [(.v 0 0), (.v 2 0)]) <|
.fin [.tmp 2] [(.v 0 0)])
theorem d126 (a0 : Value) : denF Tryz.f126 a126 [a0] = t126.sp 0 (rows [a0]) [] := by kernel_rfl
/-- bollard/geom.between -/
def a130 : Ann := [(6, [(0, [6])])]
def t130 : T :=
.bind (.op (.bin .geq 3 (.tmp 7) (.tmp 8) (.v 0 0) (.v 1 0)) <|
.ite (.v 0 0) (.op (.bin .leq 3 (.tmp 11) (.tmp 12) (.v 1 0) (.v 3 0)) <|
.done 0 [(.v 0 0)]) (.done 0 [(.c (.bool false))])) <|
.alt 0 (.fin [.tmp 6] [(.v 0 0)])
 (.fail)
theorem d130 (a0 a1 a2 : Value) : denF Tryz.f130 a130 [a0, a1, a2] = t130.sp 0 (rows [a0, a1, a2]) [] := by kernel_rfl
/-- bollard/geom.front -/
def a131 : Ann := []
def t131 : T :=
.op (.box 23 (.v 0 0)) <|
.op (.fieldAt 23 (.v 0 0) 2) <|
.op (.load 3 (.v 0 0)) <|
.op (.bin .quo 3 (.tmp 4) (.const (.int .i64 4)) (.v 0 0) (.c (.int .i64 4))) <|
.op (.bin .add 3 (.const (.int .i64 2)) (.tmp 5) (.c (.int .i64 2)) (.v 0 0)) <|
.fin [.tmp 2] [(.v 0 0)]
theorem d131 (a0 : Value) : denF Tryz.f131 a131 [a0] = t131.sp 0 (rows [a0]) [] := by kernel_rfl
/-- bollard/geom.all -/
def a132 : Ann := []
def t132 : T :=
.op (.box 23 (.v 0 0)) <|
.op (.load 23 (.v 0 0)) <|
.op (.call 65 [(.v 0 0)]) <|
.op (.bin .neq 45 (.tmp 6) (.const (.int .i64 0)) (.v 0 0) (.c (.int .i64 0))) <|
.ite (.v 0 0) (.fin [.tmp 4] [(.c (.int .i64 0))])
 (.op (.fieldAt 23 (.v 3 0) 0) <|
.op (.load 3 (.v 0 0)) <|
.op (.bin .mul 3 (.tmp 9) (.tmp 10) (.v 0 0) (.v 7 0)) <|
.fin [.tmp 4] [(.v 0 0)])
theorem d132 (a0 a1 : Value) : denF Tryz.f132 a132 [a0, a1] = t132.sp 0 (rows [a0, a1]) [] := by kernel_rfl
/-- slices.IndexFunc[[]int,int] -/
def a146 : Ann := [(26, [(0, [8]), (1, []), (2, [])])]
def t146 : T :=
.op (.builtin .len [51] 3 [false] [(.v 0 0)]) <|
.loop [(.c (.int .i64 0))] (
.op (.bin .lss 3 (.tmp 8) (.tmp 7) (.v 0 0) (.v 1 0)) <|
.ite (.v 0 0) (.op (.indexAt 51 (.v 3 0) (.v 1 0)) <|
.op (.load 3 (.v 0 0)) <|
.op (.callV (.v 6 0) [(.v 0 0)]) <|
.ite (.v 0 0) (.done 1 [(.v 4 0)])
 (.op (.bin .add 3 (.tmp 8) (.const (.int .i64 1)) (.v 4 0) (.c (.int .i64 1))) <|
.done 0 [(.v 0 0)]))
 (.done 2 [])) <|
.alt 0 (.fail)
 (.alt 1 (.finRow [.tmp 4] 0)
 (.alt 2 (.fin [.tmp 4] [(.c (.int .i64 (-1)))])
 (.fail)))
theorem d146 (a0 a1 : Value) : denF Tryz.f146 a146 [a0, a1] = t146.sp 0 (rows [a0, a1]) [] := by kernel_rfl
/-- bollard/bollardref03.EncodeSuper -/
def a148 : Ann := [(12, [(0, [18])])]
def t148 : T :=
.op (.box 232 (.v 0 0)) <|
.bind (.op (.fieldAt 232 (.v 0 0) 0) <|
.op (.load 23 (.v 0 0)) <|
.op (.call 200 [(.v 0 0)]) <|
.op (.un .not (.v 0 0)) <|
.ite (.v 0 0) (.done 0 [(.c (.bool true))]) (.op (.fieldAt 232 (.v 4 0) 1) <|
.op (.load 3 (.v 0 0)) <|
.op (.bin .lss 3 (.tmp 11) (.const (.int .i64 0)) (.v 0 0) (.c (.int .i64 0))) <|
.ite (.v 0 0) (.done 0 [(.c (.bool true))]) (.op (.fieldAt 232 (.v 7 0) 1) <|
.op (.load 3 (.v 0 0)) <|
.op (.bin .geq 3 (.tmp 16) (.const (.int .i64 4294967296)) (.v 0 0) (.c (.int .i64 4294967296))) <|
.done 0 [(.v 0 0)]))) <|
.alt 0 (.ite (.v 0 0) (.fin [.tmp 2, .tmp 3] [(.c (.slice none 0 0)), (.c (.int .i64 1))])
 (.op (.buildSlice 60 4 [(0, (.c (.int .u8 98))), (1, (.c (.int .u8 111))), (2, (.c (.int .u8 108))), (3, (.c (.int .u8 108)))]) <|
.op (.conv 60 60 (.v 0 0)) <|
.op (.builtin .append [60, 3] 60 [false, true] [(.v 0 0), (.c (.int .i64 124))]) <|
.op (.fieldAt 232 (.v 4 0) 0) <|
.op (.fieldAt 23 (.v 0 0) 0) <|
.op (.load 3 (.v 0 0)) <|
.op (.call 152 [(.v 3 0), (.c (.int .i64 4)), (.c (.int .i64 1)), (.v 0 0)]) <|
.op (.fieldAt 232 (.v 8 0) 0) <|
.op (.fieldAt 23 (.v 0 0) 1) <|
.op (.load 3 (.v 0 0)) <|
.op (.bin .sub 3 (.tmp 30) (.const (.int .i64 1)) (.v 0 0) (.c (.int .i64 1))) <|
.op (.call 152 [(.v 4 0), (.c (.int .i64 5)), (.c (.int .i64 1)), (.v 0 0)]) <|
.op (.fieldAt 232 (.v 13 0) 0) <|
.op (.fieldAt 23 (.v 0 0) 2) <|
.op (.load 3 (.v 0 0)) <|
.op (.call 152 [(.v 3 0), (.c (.int .i64 6)), (.c (.int .i64 1)), (.v 0 0)]) <|
.op (.fieldAt 232 (.v 17 0) 1) <|
.op (.load 3 (.v 0 0)) <|
.op (.call 152 [(.v 2 0), (.c (.int .i64 8)), (.c (.int .i64 4)), (.v 0 0)]) <|
.op (.call 153 [(.v 0 0)]) <|
.op (.extract (.v 0 0) 0) <|
.op (.extract (.v 1 0) 1) <|
.fin [.tmp 2, .tmp 3] [(.v 1 0), (.v 0 0)]))
 (.fail)
theorem d148 (a0 : Value) : denF Tryz.f148 a148 [a0] = t148.sp 0 (rows [a0]) [] := by kernel_rfl
/-- bollard/bollardref05.With -/
def a149 : Ann := [(12, [(0, [17])]), (61, [(0, [])])]
def t149 : T :=
.bind (.op (.bin .lss 3 (.tmp 9) (.const (.int .i64 0)) (.v 1 0) (.c (.int .i64 0))) <|
.ite (.v 0 0) (.done 0 [(.c (.bool true))]) (.op (.bin .quo 3 (.tmp 12) (.const (.int .i64 8)) (.v 2 0) (.c (.int .i64 8))) <|
.op (.builtin .len [60] 3 [false] [(.v 2 0)]) <|
.op (.bin .geq 3 (.tmp 13) (.tmp 15) (.v 1 0) (.v 0 0)) <|
.done 0 [(.v 0 0)])) <|
.alt 0 (.ite (.v 0 0) (.fin [.tmp 6, .tmp 7] [(.c (.slice none 0 0)), (.c (.int .i64 50))])
 (.op (.buildSlice 60 0 []) <|
.op (.builtin .append [60, 60] 60 [false, false] [(.v 0 0), (.v 2 0)]) <|
.op (.call 201 [(.v 3 0), (.v 4 0)]) <|
.op (.bin .neq 4 (.tmp 23) (.tmp 24) (.v 0 0) (.v 6 0)) <|
.bind (.ite (.v 0 0) (.drew <|
.rd (.bin .quo 3 (.tmp 27) (.const (.int .i64 8)) (.v 6 0) (.c (.int .i64 8))) <|
.rd (.bin .quo 3 (.tmp 30) (.const (.int .i64 8)) (.v 7 0) (.c (.int .i64 8))) <|
.rd (.indexAt 60 (.v 4 0) (.v 0 0)) <|
.rd (.load 5 (.v 0 0)) <|
.rd (.bin .rem 3 (.tmp 34) (.const (.int .i64 8)) (.v 10 0) (.c (.int .i64 8))) <|
.rd (.bin .shl 5 (.const (.int .u8 1)) (.tmp 35) (.c (.int .u8 1)) (.v 0 0)) <|
.rd (.bin .xor 5 (.tmp 33) (.tmp 36) (.v 2 0) (.v 0 0)) <|
.rd (.indexAt 60 (.v 9 0) (.v 6 0)) <|
.op (.store 5 (.v 0 0) (.v 1 0)) <|
.done 0 [])
 (.done 0 [])) <|
.alt 0 (.fin [.tmp 6, .tmp 7] [(.v 3 0), (.c (.int .i64 0))])
 (.fail)))
 (.fail)
theorem d149 (a0 a1 a2 : Value) : denF Tryz.f149 a149 [a0, a1, a2] = t149.sp 0 (rows [a0, a1, a2]) [] := by kernel_rfl
/-- bollard/bollardref03.EncodeGroup -/
def a150 : Ann := [(12, [(0, [12])])]
def t150 : T :=
.op (.box 160 (.v 0 0)) <|
.bind (.op (.fieldAt 160 (.v 0 0) 0) <|
.op (.load 3 (.v 0 0)) <|
.op (.bin .lss 3 (.tmp 6) (.const (.int .i64 0)) (.v 0 0) (.c (.int .i64 0))) <|
.ite (.v 0 0) (.done 0 [(.c (.bool true))]) (.op (.fieldAt 160 (.v 3 0) 0) <|
.op (.load 3 (.v 0 0)) <|
.op (.bin .gtr 3 (.tmp 10) (.const (.int .i64 7)) (.v 0 0) (.c (.int .i64 7))) <|
.done 0 [(.v 0 0)])) <|
.alt 0 (.ite (.v 0 0) (.fin [.tmp 2, .tmp 3] [(.c (.slice none 0 0)), (.c (.int .i64 1))])
 (.op (.buildSlice 60 2 [(0, (.c (.int .u8 104))), (1, (.c (.int .u8 100)))]) <|
.op (.conv 60 60 (.v 0 0)) <|
.op (.fieldAt 160 (.v 3 0) 0) <|
.op (.load 3 (.v 0 0)) <|
.op (.conv 3 5 (.v 0 0)) <|
.op (.buildSlice 60 2 [(0, (.v 0 0)), (1, (.c (.int .u8 0)))]) <|
.op (.builtin .append [60, 60] 60 [false, false] [(.v 4 0), (.v 0 0)]) <|
.drew <|
.rd (.fieldAt 160 (.v 8 0) 1) <|
.rd (.slice 157 (.v 0 0) none none none) <|
.rd (.fieldAt 160 (.v 10 0) 2) <|
.rd (.slice 158 (.v 0 0) none none none) <|
.op (.builtin .append [60, 60] 60 [false, false] [(.v 4 0), (.v 2 0)]) <|
.chk (.slice 158 (.v 2 0) none none none) (.v 1 0) <|
.chk (.fieldAt 160 (.v 13 0) 2) (.v 2 0) <|
.op (.builtin .append [60, 60] 60 [false, false] [(.v 0 0), (.v 1 0)]) <|
.op (.builtin .append [60, 3] 60 [false, true] [(.v 0 0), (.c (.int .i64 84))]) <|
.fin [.tmp 2, .tmp 3] [(.v 0 0), (.c (.int .i64 0))]))
 (.fail)
theorem d150 (a0 : Value) : denF Tryz.f150 a150 [a0] = t150.sp 0 (rows [a0]) [] := by kernel_rfl
/-- bollard/bollardref03.mayDinode -/
def a151 : Ann := [(28, [(0, [38])]), (122, [(0, [41]), (1, []), (2, [])]), (62, [(0, [2])])]
def t151 : T :=
.op (.box 44 (.v 0 0)) <|
.op (.fieldAt 44 (.v 0 0) 0) <|
.op (.load 3 (.v 0 0)) <|
.op (.bin .eql 3 (.tmp 6) (.const (.int .i64 0)) (.v 0 0) (.c (.int .i64 0))) <|
.ite (.v 0 0) (.op (.load 44 (.v 3 0)) <|
.op (.build 44 []) <|
.op (.bin .eql 44 (.tmp 8) (.tmp 9) (.v 1 0) (.v 0 0)) <|
.fin [.tmp 2] [(.v 0 0)])
 (.bind (.op (.fieldAt 44 (.v 3 0) 0) <|
.op (.load 3 (.v 0 0)) <|
.op (.bin .neq 3 (.tmp 12) (.const (.int .i64 1)) (.v 0 0) (.c (.int .i64 1))) <|
.ite (.v 0 0) (.op (.fieldAt 44 (.v 6 0) 0) <|
.op (.load 3 (.v 0 0)) <|
.op (.bin .neq 3 (.tmp 16) (.const (.int .i64 2)) (.v 0 0) (.c (.int .i64 2))) <|
.ite (.v 0 0) (.done 0 [(.c (.bool true))]) (.op (.fieldAt 44 (.v 9 0) 1) <|
.op (.load 3 (.v 0 0)) <|
.op (.bin .lss 3 (.tmp 21) (.const (.int .i64 0)) (.v 0 0) (.c (.int .i64 0))) <|
.ite (.v 0 0) (.done 0 [(.c (.bool true))]) (.op (.fieldAt 44 (.v 12 0) 1) <|
.op (.load 3 (.v 0 0)) <|
.op (.bin .gtr 3 (.tmp 26) (.const (.int .i64 1000)) (.v 0 0) (.c (.int .i64 1000))) <|
.ite (.v 0 0) (.done 0 [(.c (.bool true))]) (.op (.fieldAt 44 (.v 15 0) 2) <|
.op (.load 3 (.v 0 0)) <|
.op (.bin .lss 3 (.tmp 31) (.const (.int .i64 0)) (.v 0 0) (.c (.int .i64 0))) <|
.ite (.v 0 0) (.done 0 [(.c (.bool true))]) (.op (.fieldAt 44 (.v 18 0) 2) <|
.op (.load 3 (.v 0 0)) <|
.op (.bin .gtr 3 (.tmp 36) (.const (.int .i64 532992)) (.v 0 0) (.c (.int .i64 532992))) <|
.done 0 [(.v 0 0)]))))) (.op (.fieldAt 44 (.v 6 0) 1) <|
.op (.load 3 (.v 0 0)) <|
.op (.bin .lss 3 (.tmp 21) (.const (.int .i64 0)) (.v 0 0) (.c (.int .i64 0))) <|
.ite (.v 0 0) (.done 0 [(.c (.bool true))]) (.op (.fieldAt 44 (.v 9 0) 1) <|
.op (.load 3 (.v 0 0)) <|
.op (.bin .gtr 3 (.tmp 26) (.const (.int .i64 1000)) (.v 0 0) (.c (.int .i64 1000))) <|
.ite (.v 0 0) (.done 0 [(.c (.bool true))]) (.op (.fieldAt 44 (.v 12 0) 2) <|
.op (.load 3 (.v 0 0)) <|
.op (.bin .lss 3 (.tmp 31) (.const (.int .i64 0)) (.v 0 0) (.c (.int .i64 0))) <|
.ite (.v 0 0) (.done 0 [(.c (.bool true))]) (.op (.fieldAt 44 (.v 15 0) 2) <|
.op (.load 3 (.v 0 0)) <|
.op (.bin .gtr 3 (.tmp 36) (.const (.int .i64 532992)) (.v 0 0) (.c (.int .i64 532992))) <|
.done 0 [(.v 0 0)]))))) <|
.alt 0 (.ite (.v 0 0) (.fin [.tmp 2] [(.c (.bool false))])
 (.op (.fieldAt 44 (.v 4 0) 3) <|
.op (.load 42 (.v 0 0)) <|
.loop [(.c (.int .i64 0))] (
.op (.bin .lss 3 (.tmp 41) (.const (.int .i64 4)) (.v 0 0) (.c (.int .i64 4))) <|
.ite (.v 0 0) (.op (.index 42 (.v 2 0) (.v 1 0)) <|
.op (.call 202 [(.v 0 0)]) <|
.op (.un .not (.v 0 0)) <|
.ite (.v 0 0) (.done 1 [(.c (.bool false))])
 (.op (.bin .add 3 (.tmp 41) (.const (.int .i64 1)) (.v 4 0) (.c (.int .i64 1))) <|
.done 0 [(.v 0 0)]))
 (.done 2 [])) <|
.alt 0 (.fail)
 (.alt 1 (.finRow [.tmp 2] 0)
 (.alt 2 (.bind (.op (.fieldAt 44 (.v 7 0) 4) <|
.op (.load 3 (.v 0 0)) <|
.op (.call 202 [(.v 0 0)]) <|
.ite (.v 0 0) (.op (.fieldAt 44 (.v 10 0) 5) <|
.op (.load 3 (.v 0 0)) <|
.op (.call 202 [(.v 0 0)]) <|
.ite (.v 0 0) (.op (.fieldAt 44 (.v 13 0) 0) <|
.op (.load 3 (.v 0 0)) <|
.op (.bin .neq 3 (.tmp 58) (.const (.int .i64 2)) (.v 0 0) (.c (.int .i64 2))) <|
.ite (.v 0 0) (.done 0 [(.c (.bool true))]) (.op (.fieldAt 44 (.v 16 0) 2) <|
.op (.load 3 (.v 0 0)) <|
.op (.bin .rem 3 (.tmp 62) (.const (.int .i64 128)) (.v 0 0) (.c (.int .i64 128))) <|
.op (.bin .eql 3 (.tmp 63) (.const (.int .i64 0)) (.v 0 0) (.c (.int .i64 0))) <|
.done 0 [(.v 0 0)])) (.done 0 [(.c (.bool false))])) (.done 0 [(.c (.bool false))])) <|
.alt 0 (.fin [.tmp 2] [(.v 0 0)])
 (.fail))
 (.fail)))))
 (.fail))
theorem d151 (a0 : Value) : denF Tryz.f151 a151 [a0] = t151.sp 0 (rows [a0]) [] := by kernel_rfl
/-- bollard/bollardref03.number -/
def a152 : Ann := []
def t152 : T :=
.op (.call 203 [(.v 0 0), (.v 1 0), (.v 2 0), (.v 3 0)]) <|
.op (.extract (.v 0 0) 0) <|
.op (.extract (.v 1 0) 1) <|
.fin [.tmp 8] [(.v 1 0)]
theorem d152 (a0 a1 a2 a3 : Value) : denF Tryz.f152 a152 [a0, a1, a2, a3] = t152.sp 0 (rows [a0, a1, a2, a3]) [] := by kernel_rfl
/-- bollard/bollardref01.Seal -/
def a153 : Ann := []
def t153 : T :=
.op (.builtin .len [60] 3 [false] [(.v 0 0)]) <|
.op (.bin .lss 3 (.tmp 5) (.const (.int .i64 4)) (.v 0 0) (.c (.int .i64 4))) <|
.ite (.v 0 0) (.fin [.tmp 2, .tmp 3] [(.c (.slice none 0 0)), (.c (.int .i64 10))])
 (.op (.builtin .len [60] 3 [false] [(.v 2 0)]) <|
.op (.bin .sub 3 (.tmp 9) (.const (.int .i64 4)) (.v 0 0) (.c (.int .i64 4))) <|
.op (.builtin .len [60] 3 [false] [(.v 4 0)]) <|
.op (.bin .sub 3 (.tmp 13) (.const (.int .i64 4)) (.v 0 0) (.c (.int .i64 4))) <|
.op (.slice 60 (.v 6 0) none (some (.v 0 0)) none) <|
.op (.call 204 [(.v 0 0)]) <|
.op (.call 203 [(.v 8 0), (.v 4 0), (.c (.int .i64 4)), (.v 0 0)]) <|
.op (.extract (.v 0 0) 0) <|
.op (.extract (.v 1 0) 1) <|
.fin [.tmp 2, .tmp 3] [(.v 1 0), (.v 0 0)])
theorem d153 (a0 : Value) : denF Tryz.f153 a153 [a0] = t153.sp 0 (rows [a0]) [] := by kernel_rfl
/-- bollard/bollardref12.clash -/
def a154 : Ann := [(26, [(0, [9]), (1, []), (2, [])]), (6758, [(0, [18]), (1, []), (4, [])]), (865074, [(0, [36])])]
def t154 : T :=
.op (.builtin .len [175] 3 [false] [(.v 0 0)]) <|
.loop [(.c (.int .i64 0))] (
.op (.bin .lss 3 (.tmp 9) (.tmp 8) (.v 0 0) (.v 1 0)) <|
.ite (.v 0 0) (.op (.indexAt 175 (.v 3 0) (.v 1 0)) <|
.op (.load 174 (.v 0 0)) <|
.op (.alloc 174) <|
.op (.store 174 (.v 0 0) (.v 1 0)) <|
.op (.slice 175 (.v 7 0) none (some (.v 5 0)) none) <|
.op (.builtin .len [175] 3 [false] [(.v 0 0)]) <|
.loop [(.c (.int .i64 0))] (
.op (.bin .lss 3 (.tmp 18) (.tmp 17) (.v 0 0) (.v 1 0)) <|
.ite (.v 0 0) (.op (.indexAt 175 (.v 3 0) (.v 1 0)) <|
.op (.load 174 (.v 0 0)) <|
.op (.alloc 174) <|
.op (.store 174 (.v 0 0) (.v 1 0)) <|
.bind (.op (.fieldAt 174 (.v 9 0) 0) <|
.op (.load 3 (.v 0 0)) <|
.op (.bin .neq 3 (.tmp 23) (.const (.int .i64 0)) (.v 0 0) (.c (.int .i64 0))) <|
.ite (.v 0 0) (.op (.fieldAt 174 (.v 4 0) 0) <|
.op (.load 3 (.v 0 0)) <|
.op (.bin .neq 3 (.tmp 27) (.const (.int .i64 0)) (.v 0 0) (.c (.int .i64 0))) <|
.ite (.v 0 0) (.op (.fieldAt 174 (.v 15 0) 1) <|
.op (.load 9 (.v 0 0)) <|
.op (.fieldAt 174 (.v 9 0) 1) <|
.op (.load 9 (.v 0 0)) <|
.op (.bin .eql 9 (.tmp 32) (.tmp 34) (.v 2 0) (.v 0 0)) <|
.done 0 [(.v 0 0)]) (.done 0 [(.c (.bool false))])) (.done 0 [(.c (.bool false))])) <|
.alt 0 (.ite (.v 0 0) (.done 1 [(.c (.bool true))])
 (.op (.bin .add 3 (.tmp 18) (.const (.int .i64 1)) (.v 6 0) (.c (.int .i64 1))) <|
.done 0 [(.v 0 0)]))
 (.fail))
 (.done 4 [])) <|
.alt 0 (.fail)
 (.alt 1 (.doneRow 1 0)
 (.alt 4 (.op (.bin .add 3 (.tmp 9) (.const (.int .i64 1)) (.v 8 0) (.c (.int .i64 1))) <|
.done 0 [(.v 0 0)])
 (.fail))))
 (.done 2 [])) <|
.alt 0 (.fail)
 (.alt 1 (.finRow [.tmp 2] 0)
 (.alt 2 (.fin [.tmp 2] [(.c (.bool false))])
 (.fail)))
theorem d154 (a0 : Value) : denF Tryz.f154 a154 [a0] = t154.sp 0 (rows [a0]) [] := by kernel_rfl
/-- bollard/bollardref03.EncodeEntry -/
def a155 : Ann := [(60, [(0, [33])])]
def t155 : T :=
.op (.box 174 (.v 0 0)) <|
.op (.make 60 (.c (.int .i64 16)) (.c (.int .i64 16))) <|
.op (.load 174 (.v 1 0)) <|
.op (.build 174 []) <|
.op (.bin .eql 174 (.tmp 6) (.tmp 7) (.v 1 0) (.v 0 0)) <|
.ite (.v 0 0) (.fin [.tmp 2, .tmp 3] [(.v 3 0), (.c (.int .i64 0))])
 (.bind (.op (.fieldAt 174 (.v 4 0) 0) <|
.op (.load 3 (.v 0 0)) <|
.op (.bin .lss 3 (.tmp 11) (.const (.int .i64 1)) (.v 0 0) (.c (.int .i64 1))) <|
.ite (.v 0 0) (.done 0 [(.c (.bool true))]) (.op (.fieldAt 174 (.v 7 0) 0) <|
.op (.load 3 (.v 0 0)) <|
.op (.bin .gtr 3 (.tmp 15) (.const (.int .i64 511)) (.v 0 0) (.c (.int .i64 511))) <|
.ite (.v 0 0) (.done 0 [(.c (.bool true))]) (.op (.fieldAt 174 (.v 10 0) 1) <|
.op (.load 9 (.v 0 0)) <|
.op (.call 205 [(.v 0 0)]) <|
.op (.un .not (.v 0 0)) <|
.ite (.v 0 0) (.op (.fieldAt 174 (.v 14 0) 1) <|
.op (.load 9 (.v 0 0)) <|
.op (.bin .neq 9 (.tmp 25) (.const (.string ⟨#[46]⟩)) (.v 0 0) (.c (.string ⟨#[46]⟩))) <|
.ite (.v 0 0) (.op (.fieldAt 174 (.v 17 0) 1) <|
.op (.load 9 (.v 0 0)) <|
.op (.bin .neq 9 (.tmp 30) (.const (.string ⟨#[46, 46]⟩)) (.v 0 0) (.c (.string ⟨#[46, 46]⟩))) <|
.done 0 [(.v 0 0)]) (.done 0 [(.c (.bool false))])) (.done 0 [(.c (.bool false))])))) <|
.alt 0 (.ite (.v 0 0) (.fin [.tmp 2, .tmp 3] [(.c (.slice none 0 0)), (.c (.int .i64 1))])
 (.op (.fieldAt 174 (.v 5 0) 0) <|
.op (.load 3 (.v 0 0)) <|
.op (.call 152 [(.v 6 0), (.c (.int .i64 0)), (.c (.int .i64 2)), (.v 0 0)]) <|
.op (.fieldAt 174 (.v 8 0) 1) <|
.op (.load 9 (.v 0 0)) <|
.op (.builtin .len [9] 3 [false] [(.v 0 0)]) <|
.op (.call 152 [(.v 3 0), (.c (.int .i64 2)), (.c (.int .i64 1)), (.v 0 0)]) <|
.drew <|
.rd (.slice 60 (.v 0 0) (some (.c (.int .i64 3))) none none) <|
.rd (.fieldAt 174 (.v 13 0) 1) <|
.rd (.load 9 (.v 0 0)) <|
.op (.builtin .copy [60, 9] 3 [false, false] [(.v 2 0), (.v 0 0)]) <|
.fin [.tmp 2, .tmp 3] [(.v 4 0), (.c (.int .i64 0))]))
 (.fail))
theorem d155 (a0 : Value) : denF Tryz.f155 a155 [a0] = t155.sp 0 (rows [a0]) [] := by kernel_rfl
/-- bollard/disk.Of$1 -/
def a156 : Ann := []
def t156 : T :=
.op (.builtin .len [60] 3 [false] [(.v 0 0)]) <|
.op (.bin .neq 3 (.tmp 4) (.const (.int .i64 128)) (.v 0 0) (.c (.int .i64 128))) <|
.fin [.tmp 2] [(.v 0 0)]
theorem d156 (a0 : Value) : denF Tryz.f156 a156 [a0] = t156.sp 0 (rows [a0]) [] := by kernel_rfl
/-- slices.ContainsFunc[[][]byte,[]byte] -/
def a157 : Ann := []
def t157 : T :=
.op (.call 206 [(.v 0 0), (.v 1 0)]) <|
.op (.bin .geq 3 (.tmp 7) (.const (.int .i64 0)) (.v 0 0) (.c (.int .i64 0))) <|
.fin [.tmp 4] [(.v 0 0)]
theorem d157 (a0 a1 : Value) : denF Tryz.f157 a157 [a0, a1] = t157.sp 0 (rows [a0, a1]) [] := by kernel_rfl
/-- bollard/disk.image -/
def a158 : Ann := [(58, [(0, [3, 8]), (2, [3])])]
def t158 : T :=
.op (.builtin .len [75] 3 [false] [(.v 0 0)]) <|
.loop [(.c (.slice none 0 0)), (.c (.int .i64 0))] (
.op (.bin .lss 3 (.tmp 8) (.tmp 7) (.v 0 1) (.v 1 0)) <|
.ite (.v 0 0) (.op (.indexAt 75 (.v 3 0) (.v 1 1)) <|
.op (.load 60 (.v 0 0)) <|
.op (.call 159 [(.v 0 0)]) <|
.op (.buildSlice 75 1 [(0, (.v 0 0))]) <|
.op (.builtin .append [75, 75] 75 [false, false] [(.v 5 0), (.v 0 0)]) <|
.op (.bin .add 3 (.tmp 8) (.const (.int .i64 1)) (.v 6 1) (.c (.int .i64 1))) <|
.done 0 [(.v 1 0), (.v 0 0)])
 (.done 2 [(.v 1 0)])) <|
.alt 0 (.fail)
 (.alt 2 (.fin [.tmp 2] [(.v 0 0)])
 (.fail))
theorem d158 (a0 : Value) : denF Tryz.f158 a158 [a0] = t158.sp 0 (rows [a0]) [] := by kernel_rfl
/-- bytes.Clone -/
def a159 : Ann := []
def t159 : T :=
.op (.bin .eql 60 (.tmp 3) (.const (.slice none 0 0)) (.v 0 0) (.c (.slice none 0 0))) <|
.ite (.v 0 0) (.fin [.tmp 2] [(.c (.slice none 0 0))])
 (.op (.buildSlice 60 0 []) <|
.op (.builtin .append [60, 60] 60 [false, false] [(.v 0 0), (.v 2 0)]) <|
.fin [.tmp 2] [(.v 0 0)])
theorem d159 (a0 : Value) : denF Tryz.f159 a159 [a0] = t159.sp 0 (rows [a0]) [] := by kernel_rfl
/-- bollard/bollardref02.copied -/
def a160 : Ann := []
def t160 : T :=
.op (.buildSlice 60 0 []) <|
.op (.builtin .append [60, 60] 60 [false, false] [(.v 0 0), (.v 1 0)]) <|
.fin [.tmp 2] [(.v 0 0)]
theorem d160 (a0 : Value) : denF Tryz.f160 a160 [a0] = t160.sp 0 (rows [a0]) [] := by kernel_rfl
/-- bollard/cache.New -/
def a161 : Ann := [(28, [(0, [14])])]
def t161 : T :=
.op (.call 108 [(.v 0 0)]) <|
.op (.bin .eql 3 (.tmp 7) (.const (.int .i64 0)) (.v 0 0) (.c (.int .i64 0))) <|
.ite (.v 0 0) (.fin [.tmp 4, .tmp 5] [(.c (.pointer none)), (.c (.int .i64 2))])
 (.bind (.op (.bin .lss 3 (.tmp 9) (.const (.int .i64 1)) (.v 3 0) (.c (.int .i64 1))) <|
.ite (.v 0 0) (.done 0 [(.c (.bool true))]) (.op (.bin .gtr 3 (.tmp 12) (.const (.int .i64 64)) (.v 4 0) (.c (.int .i64 64))) <|
.done 0 [(.v 0 0)])) <|
.alt 0 (.ite (.v 0 0) (.fin [.tmp 4, .tmp 5] [(.c (.pointer none)), (.c (.int .i64 1))])
 (.op (.map 298 none) <|
.op (.build 300 [(0, (.v 4 0)), (1, (.v 5 0)), (2, (.v 0 0))]) <|
.op (.box 300 (.v 0 0)) <|
.fin [.tmp 4, .tmp 5] [(.v 0 0), (.c (.int .i64 0))]))
 (.fail))
theorem d161 (a0 a1 : Value) : denF Tryz.f161 a161 [a0, a1] = t161.sp 0 (rows [a0, a1]) [] := by kernel_rfl
/-- bollard/patch.New -/
def a162 : Ann := []
def t162 : T :=
.op (.map 203 none) <|
.op (.map 204 none) <|
.op (.build 206 [(1, (.v 1 0)), (2, (.v 0 0)), (3, (.c (.bool true)))]) <|
.op (.box 206 (.v 0 0)) <|
.fin [.tmp 0] [(.v 0 0)]
theorem d162 : denF Tryz.f162 a162 [] = t162.sp 0 (rows []) [] := by kernel_rfl
/-- bollard/bollardref06.New -/
def a163 : Ann := [(28, [(0, [13])])]
def t163 : T :=
.op (.bin .eql 68 (.tmp 6) (.const (.pointer none)) (.v 0 0) (.c (.pointer none))) <|
.ite (.v 0 0) (.fin [.tmp 4, .tmp 5] [(.c (.pointer none)), (.c (.int .i64 2))])
 (.bind (.op (.bin .lss 3 (.tmp 8) (.const (.int .i64 1)) (.v 2 0) (.c (.int .i64 1))) <|
.ite (.v 0 0) (.done 0 [(.c (.bool true))]) (.op (.bin .gtr 3 (.tmp 11) (.const (.int .i64 64)) (.v 3 0) (.c (.int .i64 64))) <|
.done 0 [(.v 0 0)])) <|
.alt 0 (.ite (.v 0 0) (.fin [.tmp 4, .tmp 5] [(.c (.pointer none)), (.c (.int .i64 1))])
 (.op (.build 303 [(0, (.v 2 0)), (1, (.v 3 0))]) <|
.op (.box 303 (.v 0 0)) <|
.fin [.tmp 4, .tmp 5] [(.v 0 0), (.c (.int .i64 0))]))
 (.fail))
theorem d163 (a0 a1 : Value) : denF Tryz.f163 a163 [a0, a1] = t163.sp 0 (rows [a0, a1]) [] := by kernel_rfl
/-- (*bollard/cache.Cache).get -/
def a189 : Ann := [(61, [(0, [7]), (1, [])])]
def t189 : T :=
.op (.call 224 [(.v 0 0), (.v 1 0)]) <|
.op (.bin .neq 45 (.tmp 14) (.const (.int .i64 0)) (.v 0 0) (.c (.int .i64 0))) <|
.ite (.v 0 0) (.fin [.tmp 4, .tmp 5] [(.c (.pointer none)), (.v 1 0)])
 (.op (.nil (.v 2 0)) <|
.op (.fieldAt 300 (.v 0 0) 2) <|
.op (.load 298 (.v 0 0)) <|
.op (.lookup 298 (.v 0 0) (.v 6 0) true) <|
.op (.extract (.v 0 0) 0) <|
.op (.extract (.v 1 0) 1) <|
.bind (.ite (.v 0 0) (.op (.nil (.v 8 0)) <|
.op (.fieldAt 300 (.v 0 0) 4) <|
.op (.load 3 (.v 0 0)) <|
.op (.bin .add 3 (.tmp 30) (.const (.int .i64 1)) (.v 0 0) (.c (.int .i64 1))) <|
.op (.nil (.v 12 0)) <|
.op (.fieldAt 300 (.v 0 0) 4) <|
.op (.store 3 (.v 0 0) (.v 2 0)) <|
.done 0 [(.v 8 0)])
 (.op (.nil (.v 8 0)) <|
.op (.fieldAt 300 (.v 0 0) 5) <|
.op (.load 3 (.v 0 0)) <|
.op (.bin .add 3 (.tmp 37) (.const (.int .i64 1)) (.v 0 0) (.c (.int .i64 1))) <|
.op (.nil (.v 12 0)) <|
.op (.fieldAt 300 (.v 0 0) 5) <|
.op (.store 3 (.v 0 0) (.v 2 0)) <|
.op (.call 225 [(.v 15 0), (.v 16 0)]) <|
.op (.extract (.v 0 0) 0) <|
.op (.extract (.v 1 0) 1) <|
.op (.bin .neq 45 (.tmp 47) (.const (.int .i64 0)) (.v 0 0) (.c (.int .i64 0))) <|
.ite (.v 0 0) (.done 1 [(.c (.pointer none)), (.v 1 0)])
 (.done 0 [(.v 2 0)]))) <|
.alt 0 (.op (.nil (.v 9 0)) <|
.op (.fieldAt 300 (.v 0 0) 3) <|
.op (.load 3 (.v 0 0)) <|
.op (.bin .add 3 (.tmp 54) (.const (.int .i64 1)) (.v 0 0) (.c (.int .i64 1))) <|
.op (.nil (.v 13 0)) <|
.op (.fieldAt 300 (.v 0 0) 3) <|
.op (.store 3 (.v 0 0) (.v 2 0)) <|
.op (.nil (.v 16 0)) <|
.op (.fieldAt 300 (.v 0 0) 3) <|
.op (.load 3 (.v 0 0)) <|
.op (.nil (.v 10 0)) <|
.op (.fieldAt 285 (.v 0 0) 2) <|
.op (.store 3 (.v 0 0) (.v 2 0)) <|
.fin [.tmp 4, .tmp 5] [(.v 13 0), (.c (.int .i64 0))])
 (.alt 1 (.finRow [.tmp 4, .tmp 5] 0)
 (.fail)))
theorem d189 (a0 a1 : Value) : denF Tryz.f189 a189 [a0, a1] = t189.sp 0 (rows [a0, a1]) [] := by kernel_rfl
/-- (*bollard/patch.Set).over -/
def a190 : Ann := [(58, [(0, [15]), (2, [])])]
def t190 : T :=
.op (.call 126 [(.v 1 0)]) <|
.op (.builtin .len [51] 3 [false] [(.v 3 0)]) <|
.loop [(.c (.int .i64 0))] (
.op (.bin .lss 3 (.tmp 15) (.tmp 14) (.v 0 0) (.v 1 0)) <|
.ite (.v 0 0) (.op (.indexAt 51 (.v 6 0) (.v 1 0)) <|
.op (.load 3 (.v 0 0)) <|
.op (.nil (.v 6 0)) <|
.op (.fieldAt 206 (.v 0 0) 2) <|
.op (.load 204 (.v 0 0)) <|
.op (.lookup 204 (.v 0 0) (.v 3 0) false) <|
.op (.alloc 209) <|
.op (.store 209 (.v 0 0) (.v 1 0)) <|
.drew <|
.rd (.fieldAt 209 (.v 1 0) 2) <|
.rd (.load 3 (.v 0 0)) <|
.rd (.slice 60 (.v 13 0) (some (.v 0 0)) none none) <|
.rd (.fieldAt 209 (.v 4 0) 3) <|
.rd (.load 60 (.v 0 0)) <|
.op (.builtin .copy [60, 60] 3 [false, false] [(.v 2 0), (.v 0 0)]) <|
.op (.bin .add 3 (.tmp 15) (.const (.int .i64 1)) (.v 15 0) (.c (.int .i64 1))) <|
.done 0 [(.v 0 0)])
 (.done 2 [])) <|
.alt 0 (.fail)
 (.alt 2 (.fin [.tmp 6] [(.v 2 0)])
 (.fail))
theorem d190 (a0 a1 a2 : Value) : denF Tryz.f190 a190 [a0, a1, a2] = t190.sp 0 (rows [a0, a1, a2]) [] := by kernel_rfl
/-- (*bollard/patch.Set).Of -/
def a191 : Ann := []
def t191 : T :=
.op (.box 34 (.v 0 0)) <|
.op (.box 3 (.v 2 0)) <|
.op (.load 34 (.v 1 0)) <|
.op (.call 121 [(.v 0 0)]) <|
.op (.un .not (.v 0 0)) <|
.ite (.v 0 0) (.fin [.tmp 4] [(.c (.slice none 0 0))])
 (.op (.load 34 (.v 4 0)) <|
.op (.call 226 [(.v 0 0)]) <|
.op (.func (.func 227) [] [(.v 6 0), (.v 5 0)]) <|
.op (.call 89 [(.v 1 0), (.v 0 0)]) <|
.fin [.tmp 4] [(.v 0 0)])
theorem d191 (a0 a1 : Value) : denF Tryz.f191 a191 [a0, a1] = t191.sp 0 (rows [a0, a1]) [] := by kernel_rfl
/-- bollard/bollardref03.may -/
def a200 : Ann := [(6, [(0, [2])])]
def t200 : T :=
.op (.box 23 (.v 0 0)) <|
.bind (.op (.fieldAt 23 (.v 0 0) 0) <|
.op (.load 3 (.v 0 0)) <|
.op (.bin .geq 3 (.tmp 4) (.const (.int .i64 1)) (.v 0 0) (.c (.int .i64 1))) <|
.ite (.v 0 0) (.op (.fieldAt 23 (.v 3 0) 0) <|
.op (.load 3 (.v 0 0)) <|
.op (.bin .leq 3 (.tmp 8) (.const (.int .i64 8)) (.v 0 0) (.c (.int .i64 8))) <|
.ite (.v 0 0) (.op (.fieldAt 23 (.v 6 0) 1) <|
.op (.load 3 (.v 0 0)) <|
.op (.bin .geq 3 (.tmp 13) (.const (.int .i64 8)) (.v 0 0) (.c (.int .i64 8))) <|
.ite (.v 0 0) (.op (.fieldAt 23 (.v 9 0) 1) <|
.op (.load 3 (.v 0 0)) <|
.op (.bin .leq 3 (.tmp 18) (.const (.int .i64 256)) (.v 0 0) (.c (.int .i64 256))) <|
.ite (.v 0 0) (.op (.fieldAt 23 (.v 12 0) 2) <|
.op (.load 3 (.v 0 0)) <|
.op (.bin .geq 3 (.tmp 23) (.const (.int .i64 4)) (.v 0 0) (.c (.int .i64 4))) <|
.ite (.v 0 0) (.op (.fieldAt 23 (.v 15 0) 2) <|
.op (.load 3 (.v 0 0)) <|
.op (.bin .leq 3 (.tmp 28) (.const (.int .i64 64)) (.v 0 0) (.c (.int .i64 64))) <|
.ite (.v 0 0) (.op (.fieldAt 23 (.v 18 0) 2) <|
.op (.load 3 (.v 0 0)) <|
.op (.bin .rem 3 (.tmp 33) (.const (.int .i64 4)) (.v 0 0) (.c (.int .i64 4))) <|
.op (.bin .eql 3 (.tmp 34) (.const (.int .i64 0)) (.v 0 0) (.c (.int .i64 0))) <|
.ite (.v 0 0) (.op (.fieldAt 23 (.v 22 0) 1) <|
.op (.load 3 (.v 0 0)) <|
.op (.fieldAt 23 (.v 24 0) 2) <|
.op (.load 3 (.v 0 0)) <|
.op (.bin .quo 3 (.tmp 41) (.const (.int .i64 4)) (.v 0 0) (.c (.int .i64 4))) <|
.op (.bin .add 3 (.const (.int .i64 3)) (.tmp 42) (.c (.int .i64 3)) (.v 0 0)) <|
.op (.bin .geq 3 (.tmp 39) (.tmp 43) (.v 4 0) (.v 0 0)) <|
.done 0 [(.v 0 0)]) (.done 0 [(.c (.bool false))])) (.done 0 [(.c (.bool false))])) (.done 0 [(.c (.bool false))])) (.done 0 [(.c (.bool false))])) (.done 0 [(.c (.bool false))])) (.done 0 [(.c (.bool false))])) (.done 0 [(.c (.bool false))])) <|
.alt 0 (.fin [.tmp 2] [(.v 0 0)])
 (.fail)
theorem d200 (a0 : Value) : denF Tryz.f200 a200 [a0] = t200.sp 0 (rows [a0]) [] := by kernel_rfl
/-- bollard/bollardref05.Has -/
def a201 : Ann := [(6, [(0, [4])])]
def t201 : T :=
.bind (.op (.bin .geq 3 (.tmp 5) (.const (.int .i64 0)) (.v 1 0) (.c (.int .i64 0))) <|
.ite (.v 0 0) (.op (.bin .quo 3 (.tmp 8) (.const (.int .i64 8)) (.v 2 0) (.c (.int .i64 8))) <|
.op (.builtin .len [60] 3 [false] [(.v 2 0)]) <|
.op (.bin .lss 3 (.tmp 9) (.tmp 11) (.v 1 0) (.v 0 0)) <|
.ite (.v 0 0) (.op (.bin .quo 3 (.tmp 16) (.const (.int .i64 8)) (.v 5 0) (.c (.int .i64 8))) <|
.op (.indexAt 60 (.v 5 0) (.v 0 0)) <|
.op (.load 5 (.v 0 0)) <|
.op (.bin .rem 3 (.tmp 20) (.const (.int .i64 8)) (.v 8 0) (.c (.int .i64 8))) <|
.op (.bin .shr 5 (.tmp 19) (.tmp 21) (.v 1 0) (.v 0 0)) <|
.op (.bin .rem 5 (.tmp 22) (.const (.int .u8 2)) (.v 0 0) (.c (.int .u8 2))) <|
.op (.bin .eql 5 (.tmp 23) (.const (.int .u8 1)) (.v 0 0) (.c (.int .u8 1))) <|
.done 0 [(.v 0 0)]) (.done 0 [(.c (.bool false))])) (.done 0 [(.c (.bool false))])) <|
.alt 0 (.fin [.tmp 4] [(.v 0 0)])
 (.fail)
theorem d201 (a0 a1 : Value) : denF Tryz.f201 a201 [a0, a1] = t201.sp 0 (rows [a0, a1]) [] := by kernel_rfl
/-- bollard/bollardref03.address -/
def a202 : Ann := [(6, [(0, [2])])]
def t202 : T :=
.bind (.op (.bin .geq 3 (.tmp 3) (.const (.int .i64 0)) (.v 0 0) (.c (.int .i64 0))) <|
.ite (.v 0 0) (.op (.bin .lss 3 (.tmp 6) (.const (.int .i64 2048)) (.v 1 0) (.c (.int .i64 2048))) <|
.done 0 [(.v 0 0)]) (.done 0 [(.c (.bool false))])) <|
.alt 0 (.fin [.tmp 2] [(.v 0 0)])
 (.fail)
theorem d202 (a0 : Value) : denF Tryz.f202 a202 [a0] = t202.sp 0 (rows [a0]) [] := by kernel_rfl
/-- bollard/bollardref01.Put -/
def a203 : Ann := [(12, [(0, [32])]), (250, [(0, [3, 43]), (2, [])])]
def t203 : T :=
.bind (.op (.bin .lss 3 (.tmp 12) (.const (.int .i64 1)) (.v 2 0) (.c (.int .i64 1))) <|
.ite (.v 0 0) (.done 0 [(.c (.bool true))]) (.op (.bin .gtr 3 (.tmp 15) (.const (.int .i64 4)) (.v 3 0) (.c (.int .i64 4))) <|
.ite (.v 0 0) (.done 0 [(.c (.bool true))]) (.op (.bin .lss 3 (.tmp 19) (.const (.int .i64 0)) (.v 3 0) (.c (.int .i64 0))) <|
.ite (.v 0 0) (.done 0 [(.c (.bool true))]) (.op (.bin .lss 3 (.tmp 23) (.const (.int .i64 0)) (.v 6 0) (.c (.int .i64 0))) <|
.ite (.v 0 0) (.done 0 [(.c (.bool true))]) (.op (.bin .mul 3 (.const (.int .i64 8)) (.tmp 28) (.c (.int .i64 8)) (.v 6 0)) <|
.op (.bin .shl 3 (.const (.int .i64 1)) (.tmp 29) (.c (.int .i64 1)) (.v 0 0)) <|
.op (.bin .geq 3 (.tmp 27) (.tmp 30) (.v 9 0) (.v 0 0)) <|
.done 0 [(.v 0 0)]))))) <|
.alt 0 (.ite (.v 0 0) (.fin [.tmp 8, .tmp 9] [(.c (.slice none 0 0)), (.c (.int .i64 1))])
 (.op (.builtin .len [60] 3 [false] [(.v 1 0)]) <|
.op (.bin .sub 3 (.tmp 35) (.tmp 36) (.v 0 0) (.v 4 0)) <|
.op (.bin .gtr 3 (.tmp 33) (.tmp 37) (.v 4 0) (.v 0 0)) <|
.ite (.v 0 0) (.fin [.tmp 8, .tmp 9] [(.c (.slice none 0 0)), (.c (.int .i64 10))])
 (.op (.buildSlice 60 0 []) <|
.op (.builtin .append [60, 60] 60 [false, false] [(.v 0 0), (.v 5 0)]) <|
.loop [(.v 9 0), (.c (.int .i64 0))] (
.op (.bin .lss 3 (.tmp 43) (.tmp 42) (.v 0 1) (.v 9 0)) <|
.ite (.v 0 0) (.op (.bin .add 3 (.tmp 47) (.tmp 48) (.v 9 0) (.v 1 1)) <|
.op (.bin .rem 3 (.tmp 50) (.const (.int .i64 256)) (.v 2 0) (.c (.int .i64 256))) <|
.op (.conv 3 5 (.v 0 0)) <|
.op (.indexAt 60 (.v 5 0) (.v 2 0)) <|
.op (.store 5 (.v 0 0) (.v 1 0)) <|
.op (.bin .quo 3 (.tmp 54) (.const (.int .i64 256)) (.v 6 0) (.c (.int .i64 256))) <|
.op (.bin .add 3 (.tmp 43) (.const (.int .i64 1)) (.v 7 1) (.c (.int .i64 1))) <|
.done 0 [(.v 1 0), (.v 0 0)])
 (.done 2 [])) <|
.alt 0 (.fail)
 (.alt 2 (.fin [.tmp 8, .tmp 9] [(.v 1 0), (.c (.int .i64 0))])
 (.fail)))))
 (.fail)
theorem d203 (a0 a1 a2 a3 : Value) : denF Tryz.f203 a203 [a0, a1, a2, a3] = t203.sp 0 (rows [a0, a1, a2, a3]) [] := by kernel_rfl
/-- bollard/bollardref01.Sum -/
def a204 : Ann := [(58, [(0, [3, 4, 9]), (2, [3, 4])])]
def t204 : T :=
.op (.builtin .len [60] 3 [false] [(.v 0 0)]) <|
.loop [(.c (.int .i64 1)), (.c (.int .i64 0)), (.c (.int .i64 0))] (
.op (.bin .lss 3 (.tmp 9) (.tmp 8) (.v 0 2) (.v 1 0)) <|
.ite (.v 0 0) (.op (.indexAt 60 (.v 3 0) (.v 1 2)) <|
.op (.load 5 (.v 0 0)) <|
.op (.conv 5 3 (.v 0 0)) <|
.op (.bin .add 3 (.tmp 13) (.tmp 15) (.v 4 0) (.v 0 0)) <|
.op (.bin .rem 3 (.tmp 16) (.const (.int .i64 65521)) (.v 0 0) (.c (.int .i64 65521))) <|
.op (.bin .add 3 (.tmp 18) (.tmp 19) (.v 6 1) (.v 0 0)) <|
.op (.bin .rem 3 (.tmp 20) (.const (.int .i64 65521)) (.v 0 0) (.c (.int .i64 65521))) <|
.op (.bin .add 3 (.tmp 9) (.const (.int .i64 1)) (.v 8 2) (.c (.int .i64 1))) <|
.done 0 [(.v 3 0), (.v 1 0), (.v 0 0)])
 (.done 2 [(.v 1 0), (.v 1 1)])) <|
.alt 0 (.fail)
 (.alt 2 (.op (.bin .mul 3 (.tmp 23) (.const (.int .i64 65536)) (.v 0 1) (.c (.int .i64 65536))) <|
.op (.bin .add 3 (.tmp 24) (.tmp 25) (.v 0 0) (.v 1 0)) <|
.fin [.tmp 2] [(.v 0 0)])
 (.fail))
theorem d204 (a0 : Value) : denF Tryz.f204 a204 [a0] = t204.sp 0 (rows [a0]) [] := by kernel_rfl
/-- bollard/bollardref03.IsName -/
def a205 : Ann := [(12, [(0, [18])]), (58, [(0, [3]), (1, []), (2, [])]), (1864, [(0, [40])])]
def t205 : T :=
.bind (.op (.bin .eql 9 (.tmp 4) (.const (.string ⟨#[]⟩)) (.v 0 0) (.c (.string ⟨#[]⟩))) <|
.ite (.v 0 0) (.done 0 [(.c (.bool true))]) (.op (.builtin .len [9] 3 [false] [(.v 1 0)]) <|
.op (.bin .gtr 3 (.tmp 8) (.const (.int .i64 13)) (.v 0 0) (.c (.int .i64 13))) <|
.ite (.v 0 0) (.done 0 [(.c (.bool true))]) (.op (.bin .eql 9 (.tmp 12) (.const (.string ⟨#[46]⟩)) (.v 3 0) (.c (.string ⟨#[46]⟩))) <|
.ite (.v 0 0) (.done 0 [(.c (.bool true))]) (.op (.bin .eql 9 (.tmp 16) (.const (.string ⟨#[46, 46]⟩)) (.v 4 0) (.c (.string ⟨#[46, 46]⟩))) <|
.done 0 [(.v 0 0)])))) <|
.alt 0 (.ite (.v 0 0) (.fin [.tmp 2] [(.c (.bool false))])
 (.loop [(.c (.int .i64 0))] (
.op (.builtin .len [9] 3 [false] [(.v 2 0)]) <|
.op (.bin .lss 3 (.tmp 19) (.tmp 21) (.v 1 0) (.v 0 0)) <|
.ite (.v 0 0) (.bind (.op (.index 9 (.v 4 0) (.v 2 0)) <|
.op (.bin .lss 5 (.tmp 27) (.const (.int .u8 33)) (.v 0 0) (.c (.int .u8 33))) <|
.ite (.v 0 0) (.done 0 [(.c (.bool true))]) (.op (.index 9 (.v 6 0) (.v 4 0)) <|
.op (.bin .gtr 5 (.tmp 32) (.const (.int .u8 126)) (.v 0 0) (.c (.int .u8 126))) <|
.ite (.v 0 0) (.done 0 [(.c (.bool true))]) (.op (.index 9 (.v 8 0) (.v 6 0)) <|
.op (.bin .eql 5 (.tmp 38) (.const (.int .u8 47)) (.v 0 0) (.c (.int .u8 47))) <|
.done 0 [(.v 0 0)]))) <|
.alt 0 (.ite (.v 0 0) (.done 1 [(.c (.bool false))])
 (.op (.bin .add 3 (.tmp 23) (.const (.int .i64 1)) (.v 3 0) (.c (.int .i64 1))) <|
.done 0 [(.v 0 0)]))
 (.fail))
 (.done 2 [])) <|
.alt 0 (.fail)
 (.alt 1 (.finRow [.tmp 2] 0)
 (.alt 2 (.fin [.tmp 2] [(.c (.bool true))])
 (.fail)))))
 (.fail)
theorem d205 (a0 : Value) : denF Tryz.f205 a205 [a0] = t205.sp 0 (rows [a0]) [] := by kernel_rfl
/-- slices.IndexFunc[[][]byte,[]byte] -/
def a206 : Ann := [(26, [(0, [8]), (1, []), (2, [])])]
def t206 : T :=
.op (.builtin .len [75] 3 [false] [(.v 0 0)]) <|
.loop [(.c (.int .i64 0))] (
.op (.bin .lss 3 (.tmp 8) (.tmp 7) (.v 0 0) (.v 1 0)) <|
.ite (.v 0 0) (.op (.indexAt 75 (.v 3 0) (.v 1 0)) <|
.op (.load 60 (.v 0 0)) <|
.op (.callV (.v 6 0) [(.v 0 0)]) <|
.ite (.v 0 0) (.done 1 [(.v 4 0)])
 (.op (.bin .add 3 (.tmp 8) (.const (.int .i64 1)) (.v 4 0) (.c (.int .i64 1))) <|
.done 0 [(.v 0 0)]))
 (.done 2 [])) <|
.alt 0 (.fail)
 (.alt 1 (.finRow [.tmp 4] 0)
 (.alt 2 (.fin [.tmp 4] [(.c (.int .i64 (-1)))])
 (.fail)))
theorem d206 (a0 a1 : Value) : denF Tryz.f206 a206 [a0, a1] = t206.sp 0 (rows [a0, a1]) [] := by kernel_rfl
/-- (*bollard/cache.Cache).look -/
def a224 : Ann := [(12, [(0, [13])]), (28, [(0, [24])])]
def t224 : T :=
.bind (.op (.bin .eql 33 (.tmp 5) (.const (.pointer none)) (.v 0 0) (.c (.pointer none))) <|
.ite (.v 0 0) (.done 0 [(.c (.bool true))]) (.op (.nil (.v 1 0)) <|
.op (.fieldAt 300 (.v 0 0) 2) <|
.op (.load 298 (.v 0 0)) <|
.op (.bin .eql 298 (.tmp 11) (.const (.map none)) (.v 0 0) (.c (.map none))) <|
.done 0 [(.v 0 0)])) <|
.alt 0 (.ite (.v 0 0) (.fin [.tmp 4] [(.c (.int .i64 2))])
 (.bind (.op (.bin .lss 3 (.tmp 14) (.const (.int .i64 0)) (.v 2 0) (.c (.int .i64 0))) <|
.ite (.v 0 0) (.done 0 [(.c (.bool true))]) (.op (.nil (.v 2 0)) <|
.op (.fieldAt 300 (.v 0 0) 0) <|
.op (.load 32 (.v 0 0)) <|
.op (.call 108 [(.v 0 0)]) <|
.op (.bin .geq 3 (.tmp 17) (.tmp 22) (.v 7 0) (.v 0 0)) <|
.done 0 [(.v 0 0)])) <|
.alt 0 (.ite (.v 0 0) (.fin [.tmp 4] [(.c (.int .i64 1))])
 (.fin [.tmp 4] [(.c (.int .i64 0))]))
 (.fail)))
 (.fail)
theorem d224 (a0 a1 : Value) : denF Tryz.f224 a224 [a0, a1] = t224.sp 0 (rows [a0, a1]) [] := by kernel_rfl
/-- (*bollard/cache.Cache).load -/
def a225 : Ann := [(60, [(0, [30])]), (509, [(0, [])])]
def t225 : T :=
.drew <|
.rd (.nil (.v 0 0)) <|
.rd (.fieldAt 300 (.v 0 0) 2) <|
.rd (.load 298 (.v 0 0)) <|
.rd (.builtin .len [298] 3 [false] [(.v 0 0)]) <|
.rd (.nil (.v 4 0)) <|
.rd (.fieldAt 300 (.v 0 0) 1) <|
.rd (.load 3 (.v 0 0)) <|
.rd (.bin .geq 3 (.tmp 15) (.tmp 19) (.v 3 0) (.v 0 0)) <|
.op (.call 240 [(.v 8 0)]) <|
.op (.extract (.v 0 0) 0) <|
.op (.extract (.v 1 0) 1) <|
.bind (.ite (.v 3 0) (.op (.un .not (.v 0 0)) <|
.done 0 [(.v 0 0)]) (.done 0 [(.c (.bool false))])) <|
.alt 0 (.ite (.v 0 0) (.fin [.tmp 4, .tmp 5] [(.c (.pointer none)), (.c (.int .i64 60))])
 (.op (.nil (.v 12 0)) <|
.op (.fieldAt 300 (.v 0 0) 0) <|
.op (.load 32 (.v 0 0)) <|
.op (.call 241 [(.v 0 0), (.v 16 0)]) <|
.op (.extract (.v 0 0) 0) <|
.op (.extract (.v 1 0) 1) <|
.op (.bin .neq 45 (.tmp 40) (.const (.int .i64 0)) (.v 0 0) (.c (.int .i64 0))) <|
.ite (.v 0 0) (.fin [.tmp 4, .tmp 5] [(.c (.pointer none)), (.v 1 0)])
 (.bind (.ite (.v 11 0) (.op (.nil (.v 19 0)) <|
.op (.fieldAt 300 (.v 0 0) 2) <|
.op (.load 298 (.v 0 0)) <|
.op (.builtin .delete [298, 3] 0 [false, false] [(.v 0 0), (.v 12 0)]) <|
.done 0 [])
 (.done 0 [])) <|
.alt 0 (.op (.nil (.v 20 0)) <|
.op (.fieldAt 300 (.v 0 0) 2) <|
.op (.load 298 (.v 0 0)) <|
.op (.build 285 [(0, (.v 6 0))]) <|
.op (.box 285 (.v 0 0)) <|
.op (.mapSet 298 (.v 2 0) (.v 26 0) (.v 0 0)) <|
.op (.nil (.v 26 0)) <|
.op (.fieldAt 300 (.v 0 0) 2) <|
.op (.load 298 (.v 0 0)) <|
.op (.lookup 298 (.v 0 0) (.v 30 0) false) <|
.fin [.tmp 4, .tmp 5] [(.v 0 0), (.c (.int .i64 0))])
 (.fail))))
 (.fail)
theorem d225 (a0 a1 : Value) : denF Tryz.f225 a225 [a0, a1] = t225.sp 0 (rows [a0, a1]) [] := by kernel_rfl
/-- (*bollard/patch.Set).all -/
def a226 : Ann := []
def t226 : T :=
.op (.nil (.v 0 0)) <|
.op (.fieldAt 206 (.v 0 0) 2) <|
.op (.load 204 (.v 0 0)) <|
.op (.call 242 [(.v 0 0)]) <|
.op (.call 213 [(.v 0 0)]) <|
.fin [.tmp 2] [(.v 0 0)]
theorem d226 (a0 : Value) : denF Tryz.f226 a226 [a0] = t226.sp 0 (rows [a0]) [] := by kernel_rfl
/-- (*bollard/cache.Cache).victim -/
def a240 : Ann := [(26, [(0, [9]), (1, []), (2, [])])]
def t240 : T :=
.op (.call 259 [(.v 0 0)]) <|
.op (.builtin .len [51] 3 [false] [(.v 0 0)]) <|
.loop [(.c (.int .i64 0))] (
.op (.bin .lss 3 (.tmp 9) (.tmp 8) (.v 0 0) (.v 1 0)) <|
.ite (.v 0 0) (.op (.indexAt 51 (.v 3 0) (.v 1 0)) <|
.op (.load 3 (.v 0 0)) <|
.op (.nil (.v 6 0)) <|
.op (.fieldAt 300 (.v 0 0) 2) <|
.op (.load 298 (.v 0 0)) <|
.op (.lookup 298 (.v 0 0) (.v 3 0) false) <|
.op (.nil (.v 0 0)) <|
.op (.fieldAt 285 (.v 0 0) 1) <|
.op (.load 3 (.v 0 0)) <|
.op (.bin .eql 3 (.tmp 21) (.const (.int .i64 0)) (.v 0 0) (.c (.int .i64 0))) <|
.ite (.v 0 0) (.done 1 [(.v 8 0), (.c (.bool true))])
 (.op (.bin .add 3 (.tmp 9) (.const (.int .i64 1)) (.v 11 0) (.c (.int .i64 1))) <|
.done 0 [(.v 0 0)]))
 (.done 2 [])) <|
.alt 0 (.fail)
 (.alt 1 (.finRow [.tmp 2, .tmp 3] 0)
 (.alt 2 (.fin [.tmp 2, .tmp 3] [(.c (.int .i64 0)), (.c (.bool false))])
 (.fail)))
theorem d240 (a0 : Value) : denF Tryz.f240 a240 [a0] = t240.sp 0 (rows [a0]) [] := by kernel_rfl
/-- (*bollard/disk.Disk).Read -/
def a241 : Ann := []
def t241 : T :=
.op (.call 260 [(.v 0 0), (.v 1 0)]) <|
.op (.bin .neq 45 (.tmp 10) (.const (.int .i64 0)) (.v 0 0) (.c (.int .i64 0))) <|
.ite (.v 0 0) (.fin [.tmp 4, .tmp 5] [(.c (.slice none 0 0)), (.v 1 0)])
 (.op (.nil (.v 2 0)) <|
.op (.fieldAt 241 (.v 0 0) 2) <|
.op (.load 238 (.v 0 0)) <|
.op (.lookup 238 (.v 0 0) (.v 6 0) false) <|
.op (.bin .gtr 3 (.tmp 18) (.const (.int .i64 0)) (.v 0 0) (.c (.int .i64 0))) <|
.ite (.v 0 0) (.op (.nil (.v 7 0)) <|
.op (.fieldAt 241 (.v 0 0) 2) <|
.op (.load 238 (.v 0 0)) <|
.op (.lookup 238 (.v 0 0) (.v 11 0) false) <|
.op (.bin .sub 3 (.tmp 25) (.const (.int .i64 1)) (.v 0 0) (.c (.int .i64 1))) <|
.op (.mapSet 238 (.v 2 0) (.v 13 0) (.v 0 0)) <|
.fin [.tmp 4, .tmp 5] [(.c (.slice none 0 0)), (.c (.int .i64 4))])
 (.op (.nil (.v 7 0)) <|
.op (.fieldAt 241 (.v 0 0) 0) <|
.op (.load 75 (.v 0 0)) <|
.op (.indexAt 75 (.v 0 0) (.v 11 0)) <|
.op (.load 60 (.v 0 0)) <|
.op (.call 159 [(.v 0 0)]) <|
.fin [.tmp 4, .tmp 5] [(.v 0 0), (.c (.int .i64 0))]))
theorem d241 (a0 a1 : Value) : denF Tryz.f241 a241 [a0, a1] = t241.sp 0 (rows [a0, a1]) [] := by kernel_rfl
/-- maps.Keys[map[int]bollard/api.Patch,int,bollard/api.Patch] -/
def a242 : Ann := []
def t242 : T :=
.op (.box 204 (.v 0 0)) <|
.op (.func (.func 261) [] [(.v 0 0)]) <|
.fin [.tmp 2] [(.v 0 0)]
theorem d242 (a0 : Value) : denF Tryz.f242 a242 [a0] = t242.sp 0 (rows [a0]) [] := by kernel_rfl
/-- (*bollard/cache.Cache).Held -/
def a259 : Ann := []
def t259 : T :=
.op (.box 33 (.v 0 0)) <|
.op (.load 33 (.v 0 0)) <|
.op (.bin .eql 33 (.tmp 3) (.const (.pointer none)) (.v 0 0) (.c (.pointer none))) <|
.ite (.v 0 0) (.fin [.tmp 2] [(.c (.slice none 0 0))])
 (.op (.load 33 (.v 2 0)) <|
.op (.nil (.v 0 0)) <|
.op (.fieldAt 300 (.v 0 0) 2) <|
.op (.load 298 (.v 0 0)) <|
.op (.call 273 [(.v 0 0)]) <|
.op (.func (.func 274) [] [(.v 7 0)]) <|
.op (.call 272 [(.v 1 0), (.v 0 0)]) <|
.fin [.tmp 2] [(.v 0 0)])
theorem d259 (a0 : Value) : denF Tryz.f259 a259 [a0] = t259.sp 0 (rows [a0]) [] := by kernel_rfl
/-- (*bollard/disk.Disk).look -/
def a260 : Ann := [(28, [(0, [18])])]
def t260 : T :=
.op (.call 275 [(.v 0 0)]) <|
.op (.un .not (.v 0 0)) <|
.ite (.v 0 0) (.fin [.tmp 4] [(.c (.int .i64 2))])
 (.bind (.op (.bin .lss 3 (.tmp 8) (.const (.int .i64 0)) (.v 3 0) (.c (.int .i64 0))) <|
.ite (.v 0 0) (.done 0 [(.c (.bool true))]) (.op (.nil (.v 3 0)) <|
.op (.fieldAt 241 (.v 0 0) 0) <|
.op (.load 75 (.v 0 0)) <|
.op (.builtin .len [75] 3 [false] [(.v 0 0)]) <|
.op (.bin .geq 3 (.tmp 11) (.tmp 16) (.v 8 0) (.v 0 0)) <|
.done 0 [(.v 0 0)])) <|
.alt 0 (.ite (.v 0 0) (.fin [.tmp 4] [(.c (.int .i64 1))])
 (.fin [.tmp 4] [(.c (.int .i64 0))]))
 (.fail))
theorem d260 (a0 a1 : Value) : denF Tryz.f260 a260 [a0, a1] = t260.sp 0 (rows [a0, a1]) [] := by kernel_rfl
/-- maps.Keys[map[int]*bollard/cache.buffer,int,*bollard/cache.buffer] -/
def a273 : Ann := []
def t273 : T :=
.op (.box 298 (.v 0 0)) <|
.op (.func (.func 283) [] [(.v 0 0)]) <|
.fin [.tmp 2] [(.v 0 0)]
theorem d273 (a0 : Value) : denF Tryz.f273 a273 [a0] = t273.sp 0 (rows [a0]) [] := by kernel_rfl
/-- (*bollard/disk.Disk).made -/
def a275 : Ann := [(6, [(0, [2])])]
def t275 : T :=
.bind (.op (.bin .neq 32 (.tmp 3) (.const (.pointer none)) (.v 0 0) (.c (.pointer none))) <|
.ite (.v 0 0) (.op (.nil (.v 1 0)) <|
.op (.fieldAt 241 (.v 0 0) 0) <|
.op (.load 75 (.v 0 0)) <|
.op (.builtin .len [75] 3 [false] [(.v 0 0)]) <|
.op (.bin .gtr 3 (.tmp 10) (.const (.int .i64 0)) (.v 0 0) (.c (.int .i64 0))) <|
.done 0 [(.v 0 0)]) (.done 0 [(.c (.bool false))])) <|
.alt 0 (.fin [.tmp 2] [(.v 0 0)])
 (.fail)
theorem d275 (a0 : Value) : denF Tryz.f275 a275 [a0] = t275.sp 0 (rows [a0]) [] := by kernel_rfl
def tbl : FuncId → Option (Nat × T)
  | 4 => some (3, t4)
  | 6 => some (3, t6)
  | 13 => some (5, t13)
  | 14 => some (5, t14)
  | 15 => some (4, t15)
  | 16 => some (1, t16)
  | 20 => some (3, t20)
  | 21 => some (2, t21)
  | 22 => some (1, t22)
  | 25 => some (2, t25)
  | 30 => some (2, t30)
  | 37 => some (3, t37)
  | 43 => some (1, t43)
  | 44 => some (2, t44)
  | 47 => some (1, t47)
  | 48 => some (2, t48)
  | 49 => some (1, t49)
  | 51 => some (2, t51)
  | 52 => some (1, t52)
  | 63 => some (2, t63)
  | 65 => some (1, t65)
  | 66 => some (1, t66)
  | 68 => some (3, t68)
  | 69 => some (1, t69)
  | 89 => some (2, t89)
  | 92 => some (1, t92)
  | 93 => some (2, t93)
  | 94 => some (1, t94)
  | 95 => some (1, t95)
  | 96 => some (1, t96)
  | 97 => some (1, t97)
  | 98 => some (1, t98)
  | 99 => some (2, t99)
  | 100 => some (2, t100)
  | 108 => some (1, t108)
  | 109 => some (3, t109)
  | 112 => some (2, t112)
  | 113 => some (3, t113)
  | 121 => some (1, t121)
  | 126 => some (1, t126)
  | 130 => some (3, t130)
  | 131 => some (1, t131)
  | 132 => some (2, t132)
  | 146 => some (2, t146)
  | 148 => some (1, t148)
  | 149 => some (3, t149)
  | 150 => some (1, t150)
  | 151 => some (1, t151)
  | 152 => some (4, t152)
  | 153 => some (1, t153)
  | 154 => some (1, t154)
  | 155 => some (1, t155)
  | 156 => some (1, t156)
  | 157 => some (2, t157)
  | 158 => some (1, t158)
  | 159 => some (1, t159)
  | 160 => some (1, t160)
  | 161 => some (2, t161)
  | 162 => some (0, t162)
  | 163 => some (2, t163)
  | 189 => some (2, t189)
  | 190 => some (3, t190)
  | 191 => some (2, t191)
  | 200 => some (1, t200)
  | 201 => some (2, t201)
  | 202 => some (1, t202)
  | 203 => some (4, t203)
  | 204 => some (1, t204)
  | 205 => some (1, t205)
  | 206 => some (2, t206)
  | 224 => some (2, t224)
  | 225 => some (2, t225)
  | 226 => some (1, t226)
  | 240 => some (1, t240)
  | 241 => some (2, t241)
  | 242 => some (1, t242)
  | 259 => some (1, t259)
  | 260 => some (2, t260)
  | 273 => some (1, t273)
  | 275 => some (1, t275)
  | _ => none
theorem tblOk : TblOk Tryz.prog tbl := by
  intro f n t h
  unfold tbl at h
  split at h
  · cases h
    refine ⟨_, a4, Tryz.func4, by kernel_rfl, by kernel_rfl, fun args hl => ?_⟩
    obtain ⟨x0, x1, x2, rfl⟩ := args3 hl
    exact d4 x0 x1 x2
  · cases h
    refine ⟨_, a6, Tryz.func6, by kernel_rfl, by kernel_rfl, fun args hl => ?_⟩
    obtain ⟨x0, x1, x2, rfl⟩ := args3 hl
    exact d6 x0 x1 x2
  · cases h
    refine ⟨_, a13, Tryz.func13, by kernel_rfl, by kernel_rfl, fun args hl => ?_⟩
    obtain ⟨x0, x1, x2, x3, x4, rfl⟩ := args5 hl
    exact d13 x0 x1 x2 x3 x4
  · cases h
    refine ⟨_, a14, Tryz.func14, by kernel_rfl, by kernel_rfl, fun args hl => ?_⟩
    obtain ⟨x0, x1, x2, x3, x4, rfl⟩ := args5 hl
    exact d14 x0 x1 x2 x3 x4
  · cases h
    refine ⟨_, a15, Tryz.func15, by kernel_rfl, by kernel_rfl, fun args hl => ?_⟩
    obtain ⟨x0, x1, x2, x3, rfl⟩ := args4 hl
    exact d15 x0 x1 x2 x3
  · cases h
    refine ⟨_, a16, Tryz.func16, by kernel_rfl, by kernel_rfl, fun args hl => ?_⟩
    obtain ⟨x0, rfl⟩ := args1 hl
    exact d16 x0
  · cases h
    refine ⟨_, a20, Tryz.func20, by kernel_rfl, by kernel_rfl, fun args hl => ?_⟩
    obtain ⟨x0, x1, x2, rfl⟩ := args3 hl
    exact d20 x0 x1 x2
  · cases h
    refine ⟨_, a21, Tryz.func21, by kernel_rfl, by kernel_rfl, fun args hl => ?_⟩
    obtain ⟨x0, x1, rfl⟩ := args2 hl
    exact d21 x0 x1
  · cases h
    refine ⟨_, a22, Tryz.func22, by kernel_rfl, by kernel_rfl, fun args hl => ?_⟩
    obtain ⟨x0, rfl⟩ := args1 hl
    exact d22 x0
  · cases h
    refine ⟨_, a25, Tryz.func25, by kernel_rfl, by kernel_rfl, fun args hl => ?_⟩
    obtain ⟨x0, x1, rfl⟩ := args2 hl
    exact d25 x0 x1
  · cases h
    refine ⟨_, a30, Tryz.func30, by kernel_rfl, by kernel_rfl, fun args hl => ?_⟩
    obtain ⟨x0, x1, rfl⟩ := args2 hl
    exact d30 x0 x1
  · cases h
    refine ⟨_, a37, Tryz.func37, by kernel_rfl, by kernel_rfl, fun args hl => ?_⟩
    obtain ⟨x0, x1, x2, rfl⟩ := args3 hl
    exact d37 x0 x1 x2
  · cases h
    refine ⟨_, a43, Tryz.func43, by kernel_rfl, by kernel_rfl, fun args hl => ?_⟩
    obtain ⟨x0, rfl⟩ := args1 hl
    exact d43 x0
  · cases h
    refine ⟨_, a44, Tryz.func44, by kernel_rfl, by kernel_rfl, fun args hl => ?_⟩
    obtain ⟨x0, x1, rfl⟩ := args2 hl
    exact d44 x0 x1
  · cases h
    refine ⟨_, a47, Tryz.func47, by kernel_rfl, by kernel_rfl, fun args hl => ?_⟩
    obtain ⟨x0, rfl⟩ := args1 hl
    exact d47 x0
  · cases h
    refine ⟨_, a48, Tryz.func48, by kernel_rfl, by kernel_rfl, fun args hl => ?_⟩
    obtain ⟨x0, x1, rfl⟩ := args2 hl
    exact d48 x0 x1
  · cases h
    refine ⟨_, a49, Tryz.func49, by kernel_rfl, by kernel_rfl, fun args hl => ?_⟩
    obtain ⟨x0, rfl⟩ := args1 hl
    exact d49 x0
  · cases h
    refine ⟨_, a51, Tryz.func51, by kernel_rfl, by kernel_rfl, fun args hl => ?_⟩
    obtain ⟨x0, x1, rfl⟩ := args2 hl
    exact d51 x0 x1
  · cases h
    refine ⟨_, a52, Tryz.func52, by kernel_rfl, by kernel_rfl, fun args hl => ?_⟩
    obtain ⟨x0, rfl⟩ := args1 hl
    exact d52 x0
  · cases h
    refine ⟨_, a63, Tryz.func63, by kernel_rfl, by kernel_rfl, fun args hl => ?_⟩
    obtain ⟨x0, x1, rfl⟩ := args2 hl
    exact d63 x0 x1
  · cases h
    refine ⟨_, a65, Tryz.func65, by kernel_rfl, by kernel_rfl, fun args hl => ?_⟩
    obtain ⟨x0, rfl⟩ := args1 hl
    exact d65 x0
  · cases h
    refine ⟨_, a66, Tryz.func66, by kernel_rfl, by kernel_rfl, fun args hl => ?_⟩
    obtain ⟨x0, rfl⟩ := args1 hl
    exact d66 x0
  · cases h
    refine ⟨_, a68, Tryz.func68, by kernel_rfl, by kernel_rfl, fun args hl => ?_⟩
    obtain ⟨x0, x1, x2, rfl⟩ := args3 hl
    exact d68 x0 x1 x2
  · cases h
    refine ⟨_, a69, Tryz.func69, by kernel_rfl, by kernel_rfl, fun args hl => ?_⟩
    obtain ⟨x0, rfl⟩ := args1 hl
    exact d69 x0
  · cases h
    refine ⟨_, a89, Tryz.func89, by kernel_rfl, by kernel_rfl, fun args hl => ?_⟩
    obtain ⟨x0, x1, rfl⟩ := args2 hl
    exact d89 x0 x1
  · cases h
    refine ⟨_, a92, Tryz.func92, by kernel_rfl, by kernel_rfl, fun args hl => ?_⟩
    obtain ⟨x0, rfl⟩ := args1 hl
    exact d92 x0
  · cases h
    refine ⟨_, a93, Tryz.func93, by kernel_rfl, by kernel_rfl, fun args hl => ?_⟩
    obtain ⟨x0, x1, rfl⟩ := args2 hl
    exact d93 x0 x1
  · cases h
    refine ⟨_, a94, Tryz.func94, by kernel_rfl, by kernel_rfl, fun args hl => ?_⟩
    obtain ⟨x0, rfl⟩ := args1 hl
    exact d94 x0
  · cases h
    refine ⟨_, a95, Tryz.func95, by kernel_rfl, by kernel_rfl, fun args hl => ?_⟩
    obtain ⟨x0, rfl⟩ := args1 hl
    exact d95 x0
  · cases h
    refine ⟨_, a96, Tryz.func96, by kernel_rfl, by kernel_rfl, fun args hl => ?_⟩
    obtain ⟨x0, rfl⟩ := args1 hl
    exact d96 x0
  · cases h
    refine ⟨_, a97, Tryz.func97, by kernel_rfl, by kernel_rfl, fun args hl => ?_⟩
    obtain ⟨x0, rfl⟩ := args1 hl
    exact d97 x0
  · cases h
    refine ⟨_, a98, Tryz.func98, by kernel_rfl, by kernel_rfl, fun args hl => ?_⟩
    obtain ⟨x0, rfl⟩ := args1 hl
    exact d98 x0
  · cases h
    refine ⟨_, a99, Tryz.func99, by kernel_rfl, by kernel_rfl, fun args hl => ?_⟩
    obtain ⟨x0, x1, rfl⟩ := args2 hl
    exact d99 x0 x1
  · cases h
    refine ⟨_, a100, Tryz.func100, by kernel_rfl, by kernel_rfl, fun args hl => ?_⟩
    obtain ⟨x0, x1, rfl⟩ := args2 hl
    exact d100 x0 x1
  · cases h
    refine ⟨_, a108, Tryz.func108, by kernel_rfl, by kernel_rfl, fun args hl => ?_⟩
    obtain ⟨x0, rfl⟩ := args1 hl
    exact d108 x0
  · cases h
    refine ⟨_, a109, Tryz.func109, by kernel_rfl, by kernel_rfl, fun args hl => ?_⟩
    obtain ⟨x0, x1, x2, rfl⟩ := args3 hl
    exact d109 x0 x1 x2
  · cases h
    refine ⟨_, a112, Tryz.func112, by kernel_rfl, by kernel_rfl, fun args hl => ?_⟩
    obtain ⟨x0, x1, rfl⟩ := args2 hl
    exact d112 x0 x1
  · cases h
    refine ⟨_, a113, Tryz.func113, by kernel_rfl, by kernel_rfl, fun args hl => ?_⟩
    obtain ⟨x0, x1, x2, rfl⟩ := args3 hl
    exact d113 x0 x1 x2
  · cases h
    refine ⟨_, a121, Tryz.func121, by kernel_rfl, by kernel_rfl, fun args hl => ?_⟩
    obtain ⟨x0, rfl⟩ := args1 hl
    exact d121 x0
  · cases h
    refine ⟨_, a126, Tryz.func126, by kernel_rfl, by kernel_rfl, fun args hl => ?_⟩
    obtain ⟨x0, rfl⟩ := args1 hl
    exact d126 x0
  · cases h
    refine ⟨_, a130, Tryz.func130, by kernel_rfl, by kernel_rfl, fun args hl => ?_⟩
    obtain ⟨x0, x1, x2, rfl⟩ := args3 hl
    exact d130 x0 x1 x2
  · cases h
    refine ⟨_, a131, Tryz.func131, by kernel_rfl, by kernel_rfl, fun args hl => ?_⟩
    obtain ⟨x0, rfl⟩ := args1 hl
    exact d131 x0
  · cases h
    refine ⟨_, a132, Tryz.func132, by kernel_rfl, by kernel_rfl, fun args hl => ?_⟩
    obtain ⟨x0, x1, rfl⟩ := args2 hl
    exact d132 x0 x1
  · cases h
    refine ⟨_, a146, Tryz.func146, by kernel_rfl, by kernel_rfl, fun args hl => ?_⟩
    obtain ⟨x0, x1, rfl⟩ := args2 hl
    exact d146 x0 x1
  · cases h
    refine ⟨_, a148, Tryz.func148, by kernel_rfl, by kernel_rfl, fun args hl => ?_⟩
    obtain ⟨x0, rfl⟩ := args1 hl
    exact d148 x0
  · cases h
    refine ⟨_, a149, Tryz.func149, by kernel_rfl, by kernel_rfl, fun args hl => ?_⟩
    obtain ⟨x0, x1, x2, rfl⟩ := args3 hl
    exact d149 x0 x1 x2
  · cases h
    refine ⟨_, a150, Tryz.func150, by kernel_rfl, by kernel_rfl, fun args hl => ?_⟩
    obtain ⟨x0, rfl⟩ := args1 hl
    exact d150 x0
  · cases h
    refine ⟨_, a151, Tryz.func151, by kernel_rfl, by kernel_rfl, fun args hl => ?_⟩
    obtain ⟨x0, rfl⟩ := args1 hl
    exact d151 x0
  · cases h
    refine ⟨_, a152, Tryz.func152, by kernel_rfl, by kernel_rfl, fun args hl => ?_⟩
    obtain ⟨x0, x1, x2, x3, rfl⟩ := args4 hl
    exact d152 x0 x1 x2 x3
  · cases h
    refine ⟨_, a153, Tryz.func153, by kernel_rfl, by kernel_rfl, fun args hl => ?_⟩
    obtain ⟨x0, rfl⟩ := args1 hl
    exact d153 x0
  · cases h
    refine ⟨_, a154, Tryz.func154, by kernel_rfl, by kernel_rfl, fun args hl => ?_⟩
    obtain ⟨x0, rfl⟩ := args1 hl
    exact d154 x0
  · cases h
    refine ⟨_, a155, Tryz.func155, by kernel_rfl, by kernel_rfl, fun args hl => ?_⟩
    obtain ⟨x0, rfl⟩ := args1 hl
    exact d155 x0
  · cases h
    refine ⟨_, a156, Tryz.func156, by kernel_rfl, by kernel_rfl, fun args hl => ?_⟩
    obtain ⟨x0, rfl⟩ := args1 hl
    exact d156 x0
  · cases h
    refine ⟨_, a157, Tryz.func157, by kernel_rfl, by kernel_rfl, fun args hl => ?_⟩
    obtain ⟨x0, x1, rfl⟩ := args2 hl
    exact d157 x0 x1
  · cases h
    refine ⟨_, a158, Tryz.func158, by kernel_rfl, by kernel_rfl, fun args hl => ?_⟩
    obtain ⟨x0, rfl⟩ := args1 hl
    exact d158 x0
  · cases h
    refine ⟨_, a159, Tryz.func159, by kernel_rfl, by kernel_rfl, fun args hl => ?_⟩
    obtain ⟨x0, rfl⟩ := args1 hl
    exact d159 x0
  · cases h
    refine ⟨_, a160, Tryz.func160, by kernel_rfl, by kernel_rfl, fun args hl => ?_⟩
    obtain ⟨x0, rfl⟩ := args1 hl
    exact d160 x0
  · cases h
    refine ⟨_, a161, Tryz.func161, by kernel_rfl, by kernel_rfl, fun args hl => ?_⟩
    obtain ⟨x0, x1, rfl⟩ := args2 hl
    exact d161 x0 x1
  · cases h
    refine ⟨_, a162, Tryz.func162, by kernel_rfl, by kernel_rfl, fun args hl => ?_⟩
    obtain rfl : args = [] := by simpa using hl
    exact d162
  · cases h
    refine ⟨_, a163, Tryz.func163, by kernel_rfl, by kernel_rfl, fun args hl => ?_⟩
    obtain ⟨x0, x1, rfl⟩ := args2 hl
    exact d163 x0 x1
  · cases h
    refine ⟨_, a189, Tryz.func189, by kernel_rfl, by kernel_rfl, fun args hl => ?_⟩
    obtain ⟨x0, x1, rfl⟩ := args2 hl
    exact d189 x0 x1
  · cases h
    refine ⟨_, a190, Tryz.func190, by kernel_rfl, by kernel_rfl, fun args hl => ?_⟩
    obtain ⟨x0, x1, x2, rfl⟩ := args3 hl
    exact d190 x0 x1 x2
  · cases h
    refine ⟨_, a191, Tryz.func191, by kernel_rfl, by kernel_rfl, fun args hl => ?_⟩
    obtain ⟨x0, x1, rfl⟩ := args2 hl
    exact d191 x0 x1
  · cases h
    refine ⟨_, a200, Tryz.func200, by kernel_rfl, by kernel_rfl, fun args hl => ?_⟩
    obtain ⟨x0, rfl⟩ := args1 hl
    exact d200 x0
  · cases h
    refine ⟨_, a201, Tryz.func201, by kernel_rfl, by kernel_rfl, fun args hl => ?_⟩
    obtain ⟨x0, x1, rfl⟩ := args2 hl
    exact d201 x0 x1
  · cases h
    refine ⟨_, a202, Tryz.func202, by kernel_rfl, by kernel_rfl, fun args hl => ?_⟩
    obtain ⟨x0, rfl⟩ := args1 hl
    exact d202 x0
  · cases h
    refine ⟨_, a203, Tryz.func203, by kernel_rfl, by kernel_rfl, fun args hl => ?_⟩
    obtain ⟨x0, x1, x2, x3, rfl⟩ := args4 hl
    exact d203 x0 x1 x2 x3
  · cases h
    refine ⟨_, a204, Tryz.func204, by kernel_rfl, by kernel_rfl, fun args hl => ?_⟩
    obtain ⟨x0, rfl⟩ := args1 hl
    exact d204 x0
  · cases h
    refine ⟨_, a205, Tryz.func205, by kernel_rfl, by kernel_rfl, fun args hl => ?_⟩
    obtain ⟨x0, rfl⟩ := args1 hl
    exact d205 x0
  · cases h
    refine ⟨_, a206, Tryz.func206, by kernel_rfl, by kernel_rfl, fun args hl => ?_⟩
    obtain ⟨x0, x1, rfl⟩ := args2 hl
    exact d206 x0 x1
  · cases h
    refine ⟨_, a224, Tryz.func224, by kernel_rfl, by kernel_rfl, fun args hl => ?_⟩
    obtain ⟨x0, x1, rfl⟩ := args2 hl
    exact d224 x0 x1
  · cases h
    refine ⟨_, a225, Tryz.func225, by kernel_rfl, by kernel_rfl, fun args hl => ?_⟩
    obtain ⟨x0, x1, rfl⟩ := args2 hl
    exact d225 x0 x1
  · cases h
    refine ⟨_, a226, Tryz.func226, by kernel_rfl, by kernel_rfl, fun args hl => ?_⟩
    obtain ⟨x0, rfl⟩ := args1 hl
    exact d226 x0
  · cases h
    refine ⟨_, a240, Tryz.func240, by kernel_rfl, by kernel_rfl, fun args hl => ?_⟩
    obtain ⟨x0, rfl⟩ := args1 hl
    exact d240 x0
  · cases h
    refine ⟨_, a241, Tryz.func241, by kernel_rfl, by kernel_rfl, fun args hl => ?_⟩
    obtain ⟨x0, x1, rfl⟩ := args2 hl
    exact d241 x0 x1
  · cases h
    refine ⟨_, a242, Tryz.func242, by kernel_rfl, by kernel_rfl, fun args hl => ?_⟩
    obtain ⟨x0, rfl⟩ := args1 hl
    exact d242 x0
  · cases h
    refine ⟨_, a259, Tryz.func259, by kernel_rfl, by kernel_rfl, fun args hl => ?_⟩
    obtain ⟨x0, rfl⟩ := args1 hl
    exact d259 x0
  · cases h
    refine ⟨_, a260, Tryz.func260, by kernel_rfl, by kernel_rfl, fun args hl => ?_⟩
    obtain ⟨x0, x1, rfl⟩ := args2 hl
    exact d260 x0 x1
  · cases h
    refine ⟨_, a273, Tryz.func273, by kernel_rfl, by kernel_rfl, fun args hl => ?_⟩
    obtain ⟨x0, rfl⟩ := args1 hl
    exact d273 x0
  · cases h
    refine ⟨_, a275, Tryz.func275, by kernel_rfl, by kernel_rfl, fun args hl => ?_⟩
    obtain ⟨x0, rfl⟩ := args1 hl
    exact d275 x0
  · cases h
end Go.Proofs.YtbnaoejdpggekaaGreat.Fn
