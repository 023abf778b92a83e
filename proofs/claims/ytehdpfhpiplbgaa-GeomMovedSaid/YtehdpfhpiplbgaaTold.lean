/-
  The small hall that each law tries.
-/
import Derived.Test.YtehdpfhpiplbgaaMk
namespace Go.Proofs.Ytehdpfhpiplbgaa
open Go.AV
set_option linter.unusedSimpArgs false
set_option linter.unusedVariables false

def tv : Venue := ⟨[⟨0, 0, 0, 0⟩, ⟨0, 3, 4, 0⟩, ⟨0, 4, 0, 0⟩], 1, 5, [], []⟩
def tv0 : Venue := ⟨[], 0, 0, [], []⟩

theorem told_graph : PureC Try.prog 16 [tv.v] (rowsV [[2], [2], [0, 1]]) := by
  have := graph_pure tv
  rwa [show graphL tv = [[2], [2], [0, 1]] by decide +kernel] at this
theorem told_graph0 : PureC Try.prog 16 [tv0.v] (rowsV []) := by
  have := graph_pure tv0
  rwa [show graphL tv0 = [] by decide +kernel] at this
theorem told_near : PureC Try.prog 14 [tv.v, .lit (.int .i64 0), .lit (.int .i64 0), .lit (.int .i64 5)] (.lst 1 [.lit (.int .i64 0), .lit (.int .i64 2)]) := by
  have := near_pure tv 0 0 5
  rwa [show nearL tv 0 0 5 = [0, 2] by decide +kernel] at this
theorem told_far : PureC Try.prog 9 [Seat.v ⟨0, 0, 0, 0⟩, Seat.v ⟨0, 3, 4, 0⟩] (.lit (.int .i64 25)) := by
  have := far_pure ⟨0, 0, 0, 0⟩ ⟨0, 3, 4, 0⟩
  rwa [show farS ⟨0, 0, 0, 0⟩ ⟨0, 3, 4, 0⟩ = 25 by decide +kernel] at this
theorem told_far2 : PureC Try.prog 9 [Seat.v ⟨0, 1048577, 0, 0⟩, Seat.v ⟨0, 0, 0, 0⟩] (.lit (.int .i64 0)) := by
  have := far_pure ⟨0, 1048577, 0, 0⟩ ⟨0, 0, 0, 0⟩
  rwa [show farS ⟨0, 1048577, 0, 0⟩ ⟨0, 0, 0, 0⟩ = 0 by decide +kernel] at this
theorem told_clash1 : PureC Try.prog 11 [tv.v, .lit (.int .i64 0), .lit (.int .i64 1)] (.lit (.bool false)) := by
  have := clash_pure tv 0 1
  rwa [show clashB tv 0 1 = false by decide +kernel] at this
theorem told_clash2 : PureC Try.prog 11 [tv.v, .lit (.int .i64 0), .lit (.int .i64 2)] (.lit (.bool true)) := by
  have := clash_pure tv 0 2
  rwa [show clashB tv 0 2 = true by decide +kernel] at this
theorem told_clash0 : PureC Try.prog 11 [tv.v, .lit (.int .i64 0), .lit (.int .i64 0)] (.lit (.bool false)) := by
  have := clash_pure tv 0 0
  rwa [show clashB tv 0 0 = false by decide +kernel] at this
theorem told_clash9 : PureC Try.prog 11 [tv.v, .lit (.int .i64 0), .lit (.int .i64 9)] (.lit (.bool false)) := by
  have := clash_pure tv 0 9
  rwa [show clashB tv 0 9 = false by decide +kernel] at this
theorem told_co0 : CoL [] [.agg [.lit (.slice none 0 0), .lit (.int .i64 0), .lit (.int .i64 0), .lit (.slice none 0 0), .lit (.slice none 0 0)]] [tv0.v] :=
  .cons (co_agg (.cons .nil (.cons (.tree rfl) (.cons (.tree rfl) (.cons .nil (.cons .nil .nil)))))) .nil

set_option maxHeartbeats 4000000 in
theorem told_pure : PureC Try.prog 8 [] (.lit (.bool true)) := by
  refine pure_of_golw 85 hm Try.func8 rfl rfl (by decide +kernel) ?_
  simp -implicitDefEqProofs only [steps0, steps1, steps2, steps3, steps4, Nat.reduceAdd, Nat.reduceEqDiff, reduceIte, evBox, Nat.reduceSub, Nat.reducePow, Nat.reduceMul, Int.reduceLT, Int.reduceLE, Int.reduceAdd, Int.reduceToNat, Nat.reduceLT, Nat.reduceLeDiff, Int.reduceEq, Int.reduceNeg, facts]
  refine bkl_seqw ?_
  simp -implicitDefEqProofs only [steps0, steps1, steps2, steps3, steps4, Nat.reduceAdd, Nat.reduceEqDiff, reduceIte, evBox, Nat.reduceSub, Nat.reducePow, Nat.reduceMul, Int.reduceLT, Int.reduceLE, Int.reduceAdd, Int.reduceToNat, Nat.reduceLT, Nat.reduceLeDiff, Int.reduceEq, Int.reduceNeg, facts]
  refine bkl_into [.lit (.bool false), .ptr 0 0] [some (.box tv.v.cells)] ⟨[some 1], [(0, .row 28 4 3 (cellsOf (tv.seats.map Seat.v)))], by decide, by simp [og, cellsOf, tv, Seat.v, V.cells], by simp [intoT, renF, wk_lit, wk_ptr], ?_⟩ ?_
  · refine ⟨⟨by simp, _, rfl, .box (wkL_cons.2 ⟨wk_rest (List.mem_singleton.2 rfl) rfl rfl (fun x hx => by obtain ⟨s, _, rfl⟩ := List.mem_map.1 hx; rfl) rfl, wkL_cons.2 ⟨wk_tree rfl, wkL_cons.2 ⟨wk_tree rfl, wkL_cons.2 ⟨.co .nil, wkL_cons.2 ⟨.co .nil, wkL_nil.2 trivial⟩⟩⟩⟩⟩)⟩, trivial⟩
  refine golw_of ?_
  simp -implicitDefEqProofs only [steps0, steps1, steps2, steps3, steps4, Nat.reduceAdd, Nat.reduceEqDiff, reduceIte, evBox, Nat.reduceSub, Nat.reducePow, Nat.reduceMul, Int.reduceLT, Int.reduceLE, Int.reduceAdd, Int.reduceToNat, Nat.reduceLT, Nat.reduceLeDiff, Int.reduceEq, Int.reduceNeg, facts, tv, Venue.v, V.cells, List.map, Seat.v]
  repeat' first
    | ((with_reducible refine exl_iscall ?_); refine exl_gives [] (by kernel_rfl) told_graph0 rfl told_co0 (by simp) (by simp) ?_; simp -implicitDefEqProofs only [steps0, steps1, steps2, steps3, steps4, Nat.reduceAdd, Nat.reduceEqDiff, reduceIte, evBox, Nat.reduceSub, Nat.reducePow, Nat.reduceMul, Int.reduceLT, Int.reduceLE, Int.reduceAdd, Int.reduceToNat, Nat.reduceLT, Nat.reduceLeDiff, Int.reduceEq, Int.reduceNeg, facts, rowsV, intsV, iV, List.map, beq_self_eq_true, *])
    | ((with_reducible refine exl_iscall ?_); refine exl_pure (by kernel_rfl) (told_graph) rfl rfl ?_; simp -implicitDefEqProofs only [steps0, steps1, steps2, steps3, steps4, Nat.reduceAdd, Nat.reduceEqDiff, reduceIte, evBox, Nat.reduceSub, Nat.reducePow, Nat.reduceMul, Int.reduceLT, Int.reduceLE, Int.reduceAdd, Int.reduceToNat, Nat.reduceLT, Nat.reduceLeDiff, Int.reduceEq, Int.reduceNeg, facts, rowsV, intsV, iV, List.map, beq_self_eq_true, *])
    | ((with_reducible refine exl_iscall ?_); refine exl_pure (by kernel_rfl) (told_near) rfl rfl ?_; simp -implicitDefEqProofs only [steps0, steps1, steps2, steps3, steps4, Nat.reduceAdd, Nat.reduceEqDiff, reduceIte, evBox, Nat.reduceSub, Nat.reducePow, Nat.reduceMul, Int.reduceLT, Int.reduceLE, Int.reduceAdd, Int.reduceToNat, Nat.reduceLT, Nat.reduceLeDiff, Int.reduceEq, Int.reduceNeg, facts, rowsV, intsV, iV, List.map, beq_self_eq_true, *])
    | ((with_reducible refine exl_iscall ?_); refine exl_pure (by kernel_rfl) (told_far) rfl rfl ?_; simp -implicitDefEqProofs only [steps0, steps1, steps2, steps3, steps4, Nat.reduceAdd, Nat.reduceEqDiff, reduceIte, evBox, Nat.reduceSub, Nat.reducePow, Nat.reduceMul, Int.reduceLT, Int.reduceLE, Int.reduceAdd, Int.reduceToNat, Nat.reduceLT, Nat.reduceLeDiff, Int.reduceEq, Int.reduceNeg, facts, rowsV, intsV, iV, List.map, beq_self_eq_true, *])
    | ((with_reducible refine exl_iscall ?_); refine exl_pure (by kernel_rfl) (told_far2) rfl rfl ?_; simp -implicitDefEqProofs only [steps0, steps1, steps2, steps3, steps4, Nat.reduceAdd, Nat.reduceEqDiff, reduceIte, evBox, Nat.reduceSub, Nat.reducePow, Nat.reduceMul, Int.reduceLT, Int.reduceLE, Int.reduceAdd, Int.reduceToNat, Nat.reduceLT, Nat.reduceLeDiff, Int.reduceEq, Int.reduceNeg, facts, rowsV, intsV, iV, List.map, beq_self_eq_true, *])
    | ((with_reducible refine exl_iscall ?_); refine exl_pure (by kernel_rfl) (told_clash1) rfl rfl ?_; simp -implicitDefEqProofs only [steps0, steps1, steps2, steps3, steps4, Nat.reduceAdd, Nat.reduceEqDiff, reduceIte, evBox, Nat.reduceSub, Nat.reducePow, Nat.reduceMul, Int.reduceLT, Int.reduceLE, Int.reduceAdd, Int.reduceToNat, Nat.reduceLT, Nat.reduceLeDiff, Int.reduceEq, Int.reduceNeg, facts, rowsV, intsV, iV, List.map, beq_self_eq_true, *])
    | ((with_reducible refine exl_iscall ?_); refine exl_pure (by kernel_rfl) (told_clash2) rfl rfl ?_; simp -implicitDefEqProofs only [steps0, steps1, steps2, steps3, steps4, Nat.reduceAdd, Nat.reduceEqDiff, reduceIte, evBox, Nat.reduceSub, Nat.reducePow, Nat.reduceMul, Int.reduceLT, Int.reduceLE, Int.reduceAdd, Int.reduceToNat, Nat.reduceLT, Nat.reduceLeDiff, Int.reduceEq, Int.reduceNeg, facts, rowsV, intsV, iV, List.map, beq_self_eq_true, *])
    | ((with_reducible refine exl_iscall ?_); refine exl_pure (by kernel_rfl) (told_clash0) rfl rfl ?_; simp -implicitDefEqProofs only [steps0, steps1, steps2, steps3, steps4, Nat.reduceAdd, Nat.reduceEqDiff, reduceIte, evBox, Nat.reduceSub, Nat.reducePow, Nat.reduceMul, Int.reduceLT, Int.reduceLE, Int.reduceAdd, Int.reduceToNat, Nat.reduceLT, Nat.reduceLeDiff, Int.reduceEq, Int.reduceNeg, facts, rowsV, intsV, iV, List.map, beq_self_eq_true, *])
    | ((with_reducible refine exl_iscall ?_); refine exl_pure (by kernel_rfl) (told_clash9) rfl rfl ?_; simp -implicitDefEqProofs only [steps0, steps1, steps2, steps3, steps4, Nat.reduceAdd, Nat.reduceEqDiff, reduceIte, evBox, Nat.reduceSub, Nat.reducePow, Nat.reduceMul, Int.reduceLT, Int.reduceLE, Int.reduceAdd, Int.reduceToNat, Nat.reduceLT, Nat.reduceLeDiff, Int.reduceEq, Int.reduceNeg, facts, rowsV, intsV, iV, List.map, beq_self_eq_true, *])
    | (simp -implicitDefEqProofs only [steps0, steps1, steps2, steps3, steps4, Nat.reduceAdd, Nat.reduceEqDiff, reduceIte, evBox, Nat.reduceSub, Nat.reducePow, Nat.reduceMul, Int.reduceLT, Int.reduceLE, Int.reduceAdd, Int.reduceToNat, Nat.reduceLT, Nat.reduceLeDiff, Int.reduceEq, Int.reduceNeg, facts, rowsV, intsV, iV, List.map, beq_self_eq_true, *])
    | ((with_reducible refine gdk_split (fun h => ?_) (fun h => ?_)) <;> simp -implicitDefEqProofs only [steps0, steps1, steps2, steps3, steps4, Nat.reduceAdd, Nat.reduceEqDiff, reduceIte, evBox, Nat.reduceSub, Nat.reducePow, Nat.reduceMul, Int.reduceLT, Int.reduceLE, Int.reduceAdd, Int.reduceToNat, Nat.reduceLT, Nat.reduceLeDiff, Int.reduceEq, Int.reduceNeg, facts, rowsV, intsV, iV, List.map, beq_self_eq_true, *])
    | ((with_reducible refine cdk_split (fun h => ?_) (fun h => ?_)) <;> simp -implicitDefEqProofs only [steps0, steps1, steps2, steps3, steps4, Nat.reduceAdd, Nat.reduceEqDiff, reduceIte, evBox, Nat.reduceSub, Nat.reducePow, Nat.reduceMul, Int.reduceLT, Int.reduceLE, Int.reduceAdd, Int.reduceToNat, Nat.reduceLT, Nat.reduceLeDiff, Int.reduceEq, Int.reduceNeg, facts, rowsV, intsV, iV, List.map, beq_self_eq_true, *])
    | ((with_reducible refine exl_drawn ?_ ?_); (focus kernel_rfl); simp -implicitDefEqProofs only [steps0, steps1, steps2, steps3, steps4, Nat.reduceAdd, Nat.reduceEqDiff, reduceIte, evBox, Nat.reduceSub, Nat.reducePow, Nat.reduceMul, Int.reduceLT, Int.reduceLE, Int.reduceAdd, Int.reduceToNat, Nat.reduceLT, Nat.reduceLeDiff, Int.reduceEq, Int.reduceNeg, facts, rowsV, intsV, iV, List.map, beq_self_eq_true, *])
  exact ends_tmp (d := 0) rfl (.inr rfl) rfl rfl

end Go.Proofs.Ytehdpfhpiplbgaa
