/-
  What the program's tables say.
-/
import Derived.Test.YtehdpfhpiplbgaaSteps
import Derived.Test.YtehdpfhpiplbgaaProg
namespace Go.Proofs.Ytehdpfhpiplbgaa
open Go.AV

theorem hm : Try.prog.follows .mixedOrders = true := by kernel_rfl
theorem t_arrN_22 : arrN Try.prog 22 = none := by kernel_rfl
theorem t_arrN_23 : arrN Try.prog 23 = none := by kernel_rfl
theorem t_arrN_24 : arrN Try.prog 24 = none := by kernel_rfl
theorem t_arrN_35 : arrN Try.prog 35 = none := by kernel_rfl
theorem t_bplan_26 : bplan Try.prog 26 = some ([(0, 1), (1, 1), (2, 1), (3, 1), (4, 1)], [Value.slice none 0 0, Value.int IntKind.i64 (0), Value.int IntKind.i64 (0), Value.slice none 0 0, Value.slice none 0 0]) := by kernel_rfl
theorem t_bplan_28 : bplan Try.prog 28 = some ([(0, 1), (1, 1), (2, 1), (3, 1)], [Value.int IntKind.i64 (0), Value.int IntKind.i64 (0), Value.int IntKind.i64 (0), Value.int IntKind.i64 (0)]) := by kernel_rfl
theorem t_bplan_49 : bplan Try.prog 49 = some ([(0, 1), (1, 1), (2, 1)], [Value.int IntKind.i64 (0), Value.int IntKind.i64 (0), Value.int IntKind.i64 (0)]) := by kernel_rfl
theorem t_bytesN_3 : bytesN Try.prog 3 = some 8 := by kernel_rfl
theorem t_bytesN_23 : bytesN Try.prog 23 = some 24 := by kernel_rfl
theorem t_bytesN_28 : bytesN Try.prog 28 = some 32 := by kernel_rfl
theorem t_bytesN_49 : bytesN Try.prog 49 = some 24 := by kernel_rfl
theorem t_cellsN_3 : cellsN Try.prog 3 = some (1, false) := by kernel_rfl
theorem t_cellsN_22 : cellsN Try.prog 22 = some (1, false) := by kernel_rfl
theorem t_cellsN_23 : cellsN Try.prog 23 = some (1, false) := by kernel_rfl
theorem t_cellsN_24 : cellsN Try.prog 24 = some (1, false) := by kernel_rfl
theorem t_cellsN_26 : cellsN Try.prog 26 = some (5, true) := by kernel_rfl
theorem t_cellsN_28 : cellsN Try.prog 28 = some (4, true) := by kernel_rfl
theorem t_cellsN_49 : cellsN Try.prog 49 = some (3, true) := by kernel_rfl
theorem t_convK_3_41 : convK Try.prog 3 41 = some IntKind.u64 := by kernel_rfl
theorem t_convK_41_3 : convK Try.prog 41 3 = some IntKind.i64 := by kernel_rfl
theorem t_elemN_22 : elemN Try.prog 22 = some (28, 4) := by kernel_rfl
theorem t_elemN_23 : elemN Try.prog 23 = some (3, 1) := by kernel_rfl
theorem t_elemN_24 : elemN Try.prog 24 = some (49, 3) := by kernel_rfl
theorem t_elemN_35 : elemN Try.prog 35 = some (23, 1) := by kernel_rfl
theorem t_fieldOff_26_0 : fieldOff Try.prog 26 0 = some 0 := by kernel_rfl
theorem t_fieldOff_26_1 : fieldOff Try.prog 26 1 = some 1 := by kernel_rfl
theorem t_fieldOff_26_2 : fieldOff Try.prog 26 2 = some 2 := by kernel_rfl
theorem t_fieldOff_26_3 : fieldOff Try.prog 26 3 = some 3 := by kernel_rfl
theorem t_fieldOff_26_4 : fieldOff Try.prog 26 4 = some 4 := by kernel_rfl
theorem t_fieldOff_28_0 : fieldOff Try.prog 28 0 = some 0 := by kernel_rfl
theorem t_fieldOff_28_1 : fieldOff Try.prog 28 1 = some 1 := by kernel_rfl
theorem t_fieldOff_28_2 : fieldOff Try.prog 28 2 = some 2 := by kernel_rfl
theorem t_fieldOff_28_3 : fieldOff Try.prog 28 3 = some 3 := by kernel_rfl
theorem t_fieldOff_49_0 : fieldOff Try.prog 49 0 = some 0 := by kernel_rfl
theorem t_fieldOff_49_1 : fieldOff Try.prog 49 1 = some 1 := by kernel_rfl
theorem t_fieldOff_49_2 : fieldOff Try.prog 49 2 = some 2 := by kernel_rfl
theorem t_isBool_2 : isBool Try.prog 2 = false := by kernel_rfl
theorem t_isBool_3 : isBool Try.prog 3 = false := by kernel_rfl
theorem t_isBool_4 : isBool Try.prog 4 = true := by kernel_rfl
theorem t_isBool_9 : isBool Try.prog 9 = false := by kernel_rfl
theorem t_isBool_41 : isBool Try.prog 41 = false := by kernel_rfl
theorem t_isPtr_2 : isPtr Try.prog 2 = false := by kernel_rfl
theorem t_isPtr_3 : isPtr Try.prog 3 = false := by kernel_rfl
theorem t_isPtr_4 : isPtr Try.prog 4 = false := by kernel_rfl
theorem t_isPtr_9 : isPtr Try.prog 9 = false := by kernel_rfl
theorem t_isPtr_41 : isPtr Try.prog 41 = false := by kernel_rfl
theorem t_isSlice_2 : isSlice Try.prog 2 = false := by kernel_rfl
theorem t_isSlice_3 : isSlice Try.prog 3 = false := by kernel_rfl
theorem t_isSlice_4 : isSlice Try.prog 4 = false := by kernel_rfl
theorem t_isSlice_9 : isSlice Try.prog 9 = false := by kernel_rfl
theorem t_isSlice_22 : isSlice Try.prog 22 = true := by kernel_rfl
theorem t_isSlice_23 : isSlice Try.prog 23 = true := by kernel_rfl
theorem t_isSlice_24 : isSlice Try.prog 24 = true := by kernel_rfl
theorem t_isSlice_35 : isSlice Try.prog 35 = true := by kernel_rfl
theorem t_isSlice_41 : isSlice Try.prog 41 = false := by kernel_rfl
theorem t_isStr_22 : isStr Try.prog 22 = false := by kernel_rfl
theorem t_isStr_23 : isStr Try.prog 23 = false := by kernel_rfl
theorem t_isStr_24 : isStr Try.prog 24 = false := by kernel_rfl
theorem t_isStr_35 : isStr Try.prog 35 = false := by kernel_rfl
theorem t_sizeN_3 : sizeN Try.prog 3 = some 1 := by kernel_rfl
theorem t_sizeN_22 : sizeN Try.prog 22 = some 1 := by kernel_rfl
theorem t_sizeN_23 : sizeN Try.prog 23 = some 1 := by kernel_rfl
theorem t_sizeN_24 : sizeN Try.prog 24 = some 1 := by kernel_rfl
theorem t_sizeN_26 : sizeN Try.prog 26 = some 5 := by kernel_rfl
theorem t_sizeN_28 : sizeN Try.prog 28 = some 4 := by kernel_rfl
theorem t_sizeN_49 : sizeN Try.prog 49 = some 3 := by kernel_rfl
theorem t_zeroL_3 : zeroL Try.prog 3 = some [Value.int IntKind.i64 (0)] := by kernel_rfl
theorem t_zeroL_23 : zeroL Try.prog 23 = some [Value.slice none 0 0] := by kernel_rfl
theorem t_zeroL_26 : zeroL Try.prog 26 = some [Value.slice none 0 0, Value.int IntKind.i64 (0), Value.int IntKind.i64 (0), Value.slice none 0 0, Value.slice none 0 0] := by kernel_rfl
theorem t_zeroL_28 : zeroL Try.prog 28 = some [Value.int IntKind.i64 (0), Value.int IntKind.i64 (0), Value.int IntKind.i64 (0), Value.int IntKind.i64 (0)] := by kernel_rfl
theorem t_zeroL_49 : zeroL Try.prog 49 = some [Value.int IntKind.i64 (0), Value.int IntKind.i64 (0), Value.int IntKind.i64 (0)] := by kernel_rfl

theorem facts : type_of% (And.intro (And.intro (And.intro (And.intro (And.intro (And.intro @t_arrN_22 @t_arrN_23) (And.intro @t_arrN_24 @t_arrN_35)) (And.intro (And.intro @t_bplan_26 @t_bplan_28) (And.intro @t_bplan_49 @t_bytesN_3))) (And.intro (And.intro (And.intro @t_bytesN_23 @t_bytesN_28) (And.intro @t_bytesN_49 @t_cellsN_3)) (And.intro (And.intro @t_cellsN_22 @t_cellsN_23) (And.intro @t_cellsN_24 (And.intro @t_cellsN_26 @t_cellsN_28))))) (And.intro (And.intro (And.intro (And.intro @t_cellsN_49 @t_convK_3_41) (And.intro @t_convK_41_3 @t_elemN_22)) (And.intro (And.intro @t_elemN_23 @t_elemN_24) (And.intro @t_elemN_35 (And.intro @t_fieldOff_26_0 @t_fieldOff_26_1)))) (And.intro (And.intro (And.intro @t_fieldOff_26_2 @t_fieldOff_26_3) (And.intro @t_fieldOff_26_4 @t_fieldOff_28_0)) (And.intro (And.intro @t_fieldOff_28_1 @t_fieldOff_28_2) (And.intro @t_fieldOff_28_3 (And.intro @t_fieldOff_49_0 @t_fieldOff_49_1)))))) (And.intro (And.intro (And.intro (And.intro (And.intro @t_fieldOff_49_2 @t_isBool_2) (And.intro @t_isBool_3 @t_isBool_4)) (And.intro (And.intro @t_isBool_9 @t_isBool_41) (And.intro @t_isPtr_2 (And.intro @t_isPtr_3 @t_isPtr_4)))) (And.intro (And.intro (And.intro @t_isPtr_9 @t_isPtr_41) (And.intro @t_isSlice_2 @t_isSlice_3)) (And.intro (And.intro @t_isSlice_4 @t_isSlice_9) (And.intro @t_isSlice_22 (And.intro @t_isSlice_23 @t_isSlice_24))))) (And.intro (And.intro (And.intro (And.intro @t_isSlice_35 @t_isSlice_41) (And.intro @t_isStr_22 @t_isStr_23)) (And.intro (And.intro @t_isStr_24 @t_isStr_35) (And.intro @t_sizeN_3 (And.intro @t_sizeN_22 @t_sizeN_23)))) (And.intro (And.intro (And.intro @t_sizeN_24 @t_sizeN_26) (And.intro @t_sizeN_28 @t_sizeN_49)) (And.intro (And.intro @t_zeroL_3 @t_zeroL_23) (And.intro @t_zeroL_26 (And.intro @t_zeroL_28 @t_zeroL_49))))))) := (And.intro (And.intro (And.intro (And.intro (And.intro (And.intro @t_arrN_22 @t_arrN_23) (And.intro @t_arrN_24 @t_arrN_35)) (And.intro (And.intro @t_bplan_26 @t_bplan_28) (And.intro @t_bplan_49 @t_bytesN_3))) (And.intro (And.intro (And.intro @t_bytesN_23 @t_bytesN_28) (And.intro @t_bytesN_49 @t_cellsN_3)) (And.intro (And.intro @t_cellsN_22 @t_cellsN_23) (And.intro @t_cellsN_24 (And.intro @t_cellsN_26 @t_cellsN_28))))) (And.intro (And.intro (And.intro (And.intro @t_cellsN_49 @t_convK_3_41) (And.intro @t_convK_41_3 @t_elemN_22)) (And.intro (And.intro @t_elemN_23 @t_elemN_24) (And.intro @t_elemN_35 (And.intro @t_fieldOff_26_0 @t_fieldOff_26_1)))) (And.intro (And.intro (And.intro @t_fieldOff_26_2 @t_fieldOff_26_3) (And.intro @t_fieldOff_26_4 @t_fieldOff_28_0)) (And.intro (And.intro @t_fieldOff_28_1 @t_fieldOff_28_2) (And.intro @t_fieldOff_28_3 (And.intro @t_fieldOff_49_0 @t_fieldOff_49_1)))))) (And.intro (And.intro (And.intro (And.intro (And.intro @t_fieldOff_49_2 @t_isBool_2) (And.intro @t_isBool_3 @t_isBool_4)) (And.intro (And.intro @t_isBool_9 @t_isBool_41) (And.intro @t_isPtr_2 (And.intro @t_isPtr_3 @t_isPtr_4)))) (And.intro (And.intro (And.intro @t_isPtr_9 @t_isPtr_41) (And.intro @t_isSlice_2 @t_isSlice_3)) (And.intro (And.intro @t_isSlice_4 @t_isSlice_9) (And.intro @t_isSlice_22 (And.intro @t_isSlice_23 @t_isSlice_24))))) (And.intro (And.intro (And.intro (And.intro @t_isSlice_35 @t_isSlice_41) (And.intro @t_isStr_22 @t_isStr_23)) (And.intro (And.intro @t_isStr_24 @t_isStr_35) (And.intro @t_sizeN_3 (And.intro @t_sizeN_22 @t_sizeN_23)))) (And.intro (And.intro (And.intro @t_sizeN_24 @t_sizeN_26) (And.intro @t_sizeN_28 @t_sizeN_49)) (And.intro (And.intro @t_zeroL_3 @t_zeroL_23) (And.intro @t_zeroL_26 (And.intro @t_zeroL_28 @t_zeroL_49)))))))

end Go.Proofs.Ytehdpfhpiplbgaa
