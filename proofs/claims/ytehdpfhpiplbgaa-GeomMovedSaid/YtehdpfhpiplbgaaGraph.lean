/-
  Which seats clash.
-/
import Derived.Test.YtehdpfhpiplbgaaNear
namespace Go.Proofs.Ytehdpfhpiplbgaa
open Go.AV
set_option linter.unusedSimpArgs false
set_option linter.unusedVariables false

def closeP (v : Venue) (a b : Nat) : Bool :=
  match v.seats[a]?, v.seats[b]? with
  | some s, some t => decide (farS s t < sq v.radius)
  | _, _ => false
def graphP (v : Venue) (a b : Nat) : Bool := ((a : Int) != (b : Int)) && closeP v a b
def graphRow (v : Venue) (a : Nat) : List Int := upTo (graphP v a) v.seats.length
def graphL (v : Venue) : List (List Int) := if mayB v then (List.range v.seats.length).map (graphRow v) else []
def rowsV (l : List (List Int)) : V := .lst 1 (l.map intsV)

def grF (v : Venue) (a : Nat) : V := intsV (graphRow v a)
theorem grF_tree (v : Venue) (a : Nat) : (grF v a).isTree = true := rfl

theorem graph_pure (v : Venue) : PureC Try.prog 16 [v.v] (rowsV (graphL v)) := by
  refine pure_agg (l := v.seats.map Seat.v) (es := 4) 0 0 rfl rfl fun hlen => ?_
  rw [List.length_map] at hlen
  refine pure_of_gol 54 hm Try.func16 rfl rfl (by decide +kernel) ?_
  simp -implicitDefEqProofs only [steps0, steps1, steps2, steps3, steps4, Nat.reduceAdd, Nat.reduceEqDiff, reduceIte, evBox, Nat.reduceSub, Nat.reducePow, Nat.reduceMul, Int.reduceLT, Int.reduceLE, Int.reduceAdd, Int.reduceToNat, Nat.reduceLT, Nat.reduceLeDiff, Int.reduceEq, Int.reduceNeg, facts, Venue.v, List.length_map]
  repeat' first
    | ((with_reducible refine exl_iscall ?_); refine exl_pure (by kernel_rfl) (may_pure v) rfl rfl ?_; simp -implicitDefEqProofs only [steps0, steps1, steps2, steps3, steps4, Nat.reduceAdd, Nat.reduceEqDiff, reduceIte, evBox, Nat.reduceSub, Nat.reducePow, Nat.reduceMul, Int.reduceLT, Int.reduceLE, Int.reduceAdd, Int.reduceToNat, Nat.reduceLT, Nat.reduceLeDiff, Int.reduceEq, Int.reduceNeg, facts, List.length_map, *])
    | (simp -implicitDefEqProofs only [steps0, steps1, steps2, steps3, steps4, Nat.reduceAdd, Nat.reduceEqDiff, reduceIte, evBox, Nat.reduceSub, Nat.reducePow, Nat.reduceMul, Int.reduceLT, Int.reduceLE, Int.reduceAdd, Int.reduceToNat, Nat.reduceLT, Nat.reduceLeDiff, Int.reduceEq, Int.reduceNeg, facts, List.length_map, *])
    | ((with_reducible refine gdk_split (fun h => ?_) (fun h => ?_)) <;> simp -implicitDefEqProofs only [steps0, steps1, steps2, steps3, steps4, Nat.reduceAdd, Nat.reduceEqDiff, reduceIte, evBox, Nat.reduceSub, Nat.reducePow, Nat.reduceMul, Int.reduceLT, Int.reduceLE, Int.reduceAdd, Int.reduceToNat, Nat.reduceLT, Nat.reduceLeDiff, Int.reduceEq, Int.reduceNeg, facts, List.length_map, *])
    | ((with_reducible refine cdk_split (fun h => ?_) (fun h => ?_)) <;> simp -implicitDefEqProofs only [steps0, steps1, steps2, steps3, steps4, Nat.reduceAdd, Nat.reduceEqDiff, reduceIte, evBox, Nat.reduceSub, Nat.reducePow, Nat.reduceMul, Int.reduceLT, Int.reduceLE, Int.reduceAdd, Int.reduceToNat, Nat.reduceLT, Nat.reduceLeDiff, Int.reduceEq, Int.reduceNeg, facts, List.length_map, *])
    | ((with_reducible refine exl_drawn ?_ ?_); (focus kernel_rfl); simp -implicitDefEqProofs only [steps0, steps1, steps2, steps3, steps4, Nat.reduceAdd, Nat.reduceEqDiff, reduceIte, evBox, Nat.reduceSub, Nat.reducePow, Nat.reduceMul, Int.reduceLT, Int.reduceLE, Int.reduceAdd, Int.reduceToNat, Nat.reduceLT, Nat.reduceLeDiff, Int.reduceEq, Int.reduceNeg, facts, List.length_map, *])
  · exact ends_co [] (.inr rfl) (v := nilV) rfl (by simp) (by rw [show graphL v = [] by simp_all [graphL]]; exact .nil)
  have hL : graphL v = (List.range v.seats.length).map (graphRow v) := by simp_all [graphL]
  have hlen := mayB_len (v := v) (by simp_all)
  have hr : IntKind.i64.wrap (v.radius * v.radius) = sq v.radius := by
    have h4 : inR v.radius 0 1048576 = true := by simp_all [mayB]
    simp only [inR, Bool.and_eq_true, decide_eq_true_eq] at h4
    have := sq_bound (n := v.radius) (m := 1048576) (by omega) (by omega)
    exact w64 (n := sq v.radius) (by omega)
  clear h
  have hmk : 24 * v.seats.length ≤ 281474976710656 := by omega
  have hml : v.seats.length ≤ maxLen := by unfold maxLen; omega
  repeat' first
    | (simp -implicitDefEqProofs only [steps0, steps1, steps2, steps3, steps4, Nat.reduceAdd, Nat.reduceEqDiff, reduceIte, evBox, Nat.reduceSub, Nat.reducePow, Nat.reduceMul, Int.reduceLT, Int.reduceLE, Int.reduceAdd, Int.reduceToNat, Nat.reduceLT, Nat.reduceLeDiff, Int.reduceEq, Int.reduceNeg, facts, List.length_map, *])
    | ((with_reducible refine gdk_split (fun h => ?_) (fun h => ?_)) <;> simp -implicitDefEqProofs only [steps0, steps1, steps2, steps3, steps4, Nat.reduceAdd, Nat.reduceEqDiff, reduceIte, evBox, Nat.reduceSub, Nat.reducePow, Nat.reduceMul, Int.reduceLT, Int.reduceLE, Int.reduceAdd, Int.reduceToNat, Nat.reduceLT, Nat.reduceLeDiff, Int.reduceEq, Int.reduceNeg, facts, List.length_map, *])
    | ((with_reducible refine cdk_split (fun h => ?_) (fun h => ?_)) <;> simp -implicitDefEqProofs only [steps0, steps1, steps2, steps3, steps4, Nat.reduceAdd, Nat.reduceEqDiff, reduceIte, evBox, Nat.reduceSub, Nat.reducePow, Nat.reduceMul, Int.reduceLT, Int.reduceLE, Int.reduceAdd, Int.reduceToNat, Nat.reduceLT, Nat.reduceLeDiff, Int.reduceEq, Int.reduceNeg, facts, List.length_map, *])
    | ((with_reducible refine exl_drawn ?_ ?_); (focus kernel_rfl); simp -implicitDefEqProofs only [steps0, steps1, steps2, steps3, steps4, Nat.reduceAdd, Nat.reduceEqDiff, reduceIte, evBox, Nat.reduceSub, Nat.reducePow, Nat.reduceMul, Int.reduceLT, Int.reduceLE, Int.reduceAdd, Int.reduceToNat, Nat.reduceLT, Nat.reduceLeDiff, Int.reduceEq, Int.reduceNeg, facts, List.length_map, *])
  refine gol_loop (fun a : Nat => .junk :: .ptr 0 0 :: .junk :: .ref 1 :: jn 12 [.lst 4 (v.seats.map Seat.v), .lit (.int .i64 v.seats.length), .lit (.int .i64 a)])
    (fun a => [some (.box v.v.cells), some (.row 23 1 v.seats.length (genL (grF v) v.seats.length a))]) (fun a => v.seats.length - a) (fun a => a ≤ v.seats.length) 0 hm (by decide +kernel) (Nat.zero_le _)
    ⟨[some 0, some 1], [], by decide, by simp, by (simp [intoT, renF, wks, genL_zero, nilV, Venue.v, V.cells, allTree_repl]; done), by (simp [intoO, oneO, og, renF, owks, tree_ints, genL_zero, nilV, Venue.v, V.cells, allTree_repl]; done)⟩ ?_
  intro a ha
  by_cases hlt : a < v.seats.length
  · obtain ⟨s, hs⟩ : ∃ s, v.seats[a]? = some s := ⟨v.seats[a], by simp [hlt]⟩
    have e0 : decide ((a : Int) < (v.seats.length : Int)) = true := by simp; omega
    have eJ : a + 1 ≤ v.seats.length := hlt
    have eI : (a : Int) < (v.seats.length : Int) := by omega
    have e1 : IntKind.i64.wrap ((a : Int) + 1) = ((a + 1 : Nat) : Int) := by rw [w64 (by omega)]; omega
    rw [genL_mid hlt]
    simp -implicitDefEqProofs only [steps0, steps1, steps2, steps3, steps4, Nat.reduceAdd, Nat.reduceEqDiff, reduceIte, evBox, Nat.reduceSub, Nat.reducePow, Nat.reduceMul, Int.reduceLT, Int.reduceLE, Int.reduceAdd, Int.reduceToNat, Nat.reduceLT, Nat.reduceLeDiff, Int.reduceEq, Int.reduceNeg, facts, e0, Venue.v]
    repeat' first
      | (simp -implicitDefEqProofs only [steps0, steps1, steps2, steps3, steps4, Nat.reduceAdd, Nat.reduceEqDiff, reduceIte, evBox, Nat.reduceSub, Nat.reducePow, Nat.reduceMul, Int.reduceLT, Int.reduceLE, Int.reduceAdd, Int.reduceToNat, Nat.reduceLT, Nat.reduceLeDiff, Int.reduceEq, Int.reduceNeg, facts, List.getElem?_map, List.length_map, Seat.v, *])
      | ((with_reducible refine gdk_split (fun h => ?_) (fun h => ?_)) <;> simp -implicitDefEqProofs only [steps0, steps1, steps2, steps3, steps4, Nat.reduceAdd, Nat.reduceEqDiff, reduceIte, evBox, Nat.reduceSub, Nat.reducePow, Nat.reduceMul, Int.reduceLT, Int.reduceLE, Int.reduceAdd, Int.reduceToNat, Nat.reduceLT, Nat.reduceLeDiff, Int.reduceEq, Int.reduceNeg, facts, List.getElem?_map, List.length_map, Seat.v, *])
      | ((with_reducible refine cdk_split (fun h => ?_) (fun h => ?_)) <;> simp -implicitDefEqProofs only [steps0, steps1, steps2, steps3, steps4, Nat.reduceAdd, Nat.reduceEqDiff, reduceIte, evBox, Nat.reduceSub, Nat.reducePow, Nat.reduceMul, Int.reduceLT, Int.reduceLE, Int.reduceAdd, Int.reduceToNat, Nat.reduceLT, Nat.reduceLeDiff, Int.reduceEq, Int.reduceNeg, facts, List.getElem?_map, List.length_map, Seat.v, *])
      | ((with_reducible refine exl_drawn ?_ ?_); (focus kernel_rfl); simp -implicitDefEqProofs only [steps0, steps1, steps2, steps3, steps4, Nat.reduceAdd, Nat.reduceEqDiff, reduceIte, evBox, Nat.reduceSub, Nat.reducePow, Nat.reduceMul, Int.reduceLT, Int.reduceLE, Int.reduceAdd, Int.reduceToNat, Nat.reduceLT, Nat.reduceLeDiff, Int.reduceEq, Int.reduceNeg, facts, List.getElem?_map, List.length_map, Seat.v, *])
    refine gol_loop (fun b : Nat => .junk :: .ptr 0 0 :: .junk :: .ref 1 :: .lit (.int .i64 a) :: .ptr 2 0 :: jn 10 (.lst 4 (v.seats.map Seat.v) :: .lit (.int .i64 v.seats.length) :: .lit (.int .i64 a) :: jn 5 [.lst 4 (v.seats.map Seat.v), .lit (.int .i64 v.seats.length), .lit (.int .i64 b)]))
      (fun b => [some (.box v.v.cells), some (.row 23 1 v.seats.length (midL (grF v) v.seats.length a (.ref 3))), some (.box s.v.cells), some (.row 3 1 (upTo (graphP v a) b).length ((upTo (graphP v a) b).map iV))])
      (fun b => v.seats.length - b) (fun b => b ≤ v.seats.length) 0 hm (by decide +kernel) (Nat.zero_le _) ⟨[some 0, some 1, some 2, none], [], by decide, by simp, by (simp [intoT, renF, wks, upTo, Venue.v, V.cells, Seat.v, midL_wk (grF_tree v), nilV]; done), by (simp [intoO, oneO, og, renF, owks, tree_ints, upTo, Venue.v, V.cells, Seat.v, midL_wk (grF_tree v), nilV]; done)⟩ ?_
    intro b hb
    have hul := upTo_len (graphP v a) b
    by_cases hbt : b < v.seats.length
    · obtain ⟨t, ht⟩ : ∃ t, v.seats[b]? = some t := ⟨v.seats[b], by simp [hbt]⟩
      have f0 : decide ((b : Int) < (v.seats.length : Int)) = true := by simp; omega
      have f1 : IntKind.i64.wrap ((b : Int) + 1) = ((b + 1 : Nat) : Int) := by rw [w64 (by omega)]; omega
      have hN : graphP v a b = (((a : Int) != (b : Int)) && decide (farS s t < sq v.radius)) := by simp [graphP, closeP, hs, ht]
      have hmax : (upTo (graphP v a) b).length + 1 ≤ maxLen := by unfold maxLen; omega
      have hby : ((upTo (graphP v a) b).length + 1) * 8 ≤ 140737488355328 := by omega
      simp -implicitDefEqProofs only [steps0, steps1, steps2, steps3, steps4, Nat.reduceAdd, Nat.reduceEqDiff, reduceIte, evBox, Nat.reduceSub, Nat.reducePow, Nat.reduceMul, Int.reduceLT, Int.reduceLE, Int.reduceAdd, Int.reduceToNat, Nat.reduceLT, Nat.reduceLeDiff, Int.reduceEq, Int.reduceNeg, facts, f0, Venue.v]
      repeat' first
        | ((with_reducible refine exl_iscall ?_); refine exl_pure (by kernel_rfl) (close_pure s t v.radius) rfl rfl ?_; simp -implicitDefEqProofs only [steps0, steps1, steps2, steps3, steps4, Nat.reduceAdd, Nat.reduceEqDiff, reduceIte, evBox, Nat.reduceSub, Nat.reducePow, Nat.reduceMul, Int.reduceLT, Int.reduceLE, Int.reduceAdd, Int.reduceToNat, Nat.reduceLT, Nat.reduceLeDiff, Int.reduceEq, Int.reduceNeg, facts, List.getElem?_map, List.length_map, Seat.v, midL_get, midL_put, midL_len hlt, *])
        | (simp -implicitDefEqProofs only [steps0, steps1, steps2, steps3, steps4, Nat.reduceAdd, Nat.reduceEqDiff, reduceIte, evBox, Nat.reduceSub, Nat.reducePow, Nat.reduceMul, Int.reduceLT, Int.reduceLE, Int.reduceAdd, Int.reduceToNat, Nat.reduceLT, Nat.reduceLeDiff, Int.reduceEq, Int.reduceNeg, facts, List.getElem?_map, List.length_map, Seat.v, midL_get, midL_put, midL_len hlt, *])
        | ((with_reducible refine gdk_split (fun h => ?_) (fun h => ?_)) <;> simp -implicitDefEqProofs only [steps0, steps1, steps2, steps3, steps4, Nat.reduceAdd, Nat.reduceEqDiff, reduceIte, evBox, Nat.reduceSub, Nat.reducePow, Nat.reduceMul, Int.reduceLT, Int.reduceLE, Int.reduceAdd, Int.reduceToNat, Nat.reduceLT, Nat.reduceLeDiff, Int.reduceEq, Int.reduceNeg, facts, List.getElem?_map, List.length_map, Seat.v, midL_get, midL_put, midL_len hlt, *])
        | ((with_reducible refine cdk_split (fun h => ?_) (fun h => ?_)) <;> simp -implicitDefEqProofs only [steps0, steps1, steps2, steps3, steps4, Nat.reduceAdd, Nat.reduceEqDiff, reduceIte, evBox, Nat.reduceSub, Nat.reducePow, Nat.reduceMul, Int.reduceLT, Int.reduceLE, Int.reduceAdd, Int.reduceToNat, Nat.reduceLT, Nat.reduceLeDiff, Int.reduceEq, Int.reduceNeg, facts, List.getElem?_map, List.length_map, Seat.v, midL_get, midL_put, midL_len hlt, *])
        | ((with_reducible refine exl_drawn ?_ ?_); (focus kernel_rfl); simp -implicitDefEqProofs only [steps0, steps1, steps2, steps3, steps4, Nat.reduceAdd, Nat.reduceEqDiff, reduceIte, evBox, Nat.reduceSub, Nat.reducePow, Nat.reduceMul, Int.reduceLT, Int.reduceLE, Int.reduceAdd, Int.reduceToNat, Nat.reduceLT, Nat.reduceLeDiff, Int.reduceEq, Int.reduceNeg, facts, List.getElem?_map, List.length_map, Seat.v, midL_get, midL_put, midL_len hlt, *])
      · have hU : upTo (graphP v a) (b + 1) = upTo (graphP v a) b ++ [(b : Int)] := by simp [upTo, hN, *]
        exact bkl_again (b + 1) hbt (by omega) ⟨[some 0, some 1, some 2, some 7], [], by decide, by simp, by (simp [intoT, renF, wks, hU, iV, midL_wk (grF_tree v)]; done), by (simp [intoO, oneO, og, renF, owks, tree_ints, hU, iV, midL_wk (grF_tree v)]; done)⟩
      · have hU : upTo (graphP v a) (b + 1) = upTo (graphP v a) b := by simp [upTo, hN, *]
        exact bkl_again (b + 1) hbt (by omega) ⟨[some 0, some 1, some 2, some 3], [], by decide, by simp, by (simp [intoT, renF, wks, hU, iV, midL_wk (grF_tree v)]; done), by (simp [intoO, oneO, og, renF, owks, tree_ints, hU, iV, midL_wk (grF_tree v)]; done)⟩
      · have hU : upTo (graphP v a) (b + 1) = upTo (graphP v a) b := by simp [upTo, hN, *]
        exact bkl_again (b + 1) hbt (by omega) ⟨[some 0, some 1, some 2, some 3], [], by decide, by simp, by (simp [intoT, renF, wks, hU, iV, midL_wk (grF_tree v)]; done), by (simp [intoO, oneO, og, renF, owks, tree_ints, hU, iV, midL_wk (grF_tree v)]; done)⟩
    · have hb' : b = v.seats.length := by omega
      subst hb'
      have f0 : decide (((v.seats.length : Nat) : Int) < ((v.seats.length : Nat) : Int)) = false := by simp
      simp -implicitDefEqProofs only [steps0, steps1, steps2, steps3, steps4, Nat.reduceAdd, Nat.reduceEqDiff, reduceIte, evBox, Nat.reduceSub, Nat.reducePow, Nat.reduceMul, Int.reduceLT, Int.reduceLE, Int.reduceAdd, Int.reduceToNat, Nat.reduceLT, Nat.reduceLeDiff, Int.reduceEq, Int.reduceNeg, facts, f0]
      repeat' first
        | (simp -implicitDefEqProofs only [steps0, steps1, steps2, steps3, steps4, Nat.reduceAdd, Nat.reduceEqDiff, reduceIte, evBox, Nat.reduceSub, Nat.reducePow, Nat.reduceMul, Int.reduceLT, Int.reduceLE, Int.reduceAdd, Int.reduceToNat, Nat.reduceLT, Nat.reduceLeDiff, Int.reduceEq, Int.reduceNeg, facts, List.length_map, *])
        | ((with_reducible refine gdk_split (fun h => ?_) (fun h => ?_)) <;> simp -implicitDefEqProofs only [steps0, steps1, steps2, steps3, steps4, Nat.reduceAdd, Nat.reduceEqDiff, reduceIte, evBox, Nat.reduceSub, Nat.reducePow, Nat.reduceMul, Int.reduceLT, Int.reduceLE, Int.reduceAdd, Int.reduceToNat, Nat.reduceLT, Nat.reduceLeDiff, Int.reduceEq, Int.reduceNeg, facts, List.length_map, *])
        | ((with_reducible refine cdk_split (fun h => ?_) (fun h => ?_)) <;> simp -implicitDefEqProofs only [steps0, steps1, steps2, steps3, steps4, Nat.reduceAdd, Nat.reduceEqDiff, reduceIte, evBox, Nat.reduceSub, Nat.reducePow, Nat.reduceMul, Int.reduceLT, Int.reduceLE, Int.reduceAdd, Int.reduceToNat, Nat.reduceLT, Nat.reduceLeDiff, Int.reduceEq, Int.reduceNeg, facts, List.length_map, *])
        | ((with_reducible refine exl_drawn ?_ ?_); (focus kernel_rfl); simp -implicitDefEqProofs only [steps0, steps1, steps2, steps3, steps4, Nat.reduceAdd, Nat.reduceEqDiff, reduceIte, evBox, Nat.reduceSub, Nat.reducePow, Nat.reduceMul, Int.reduceLT, Int.reduceLE, Int.reduceAdd, Int.reduceToNat, Nat.reduceLT, Nat.reduceLeDiff, Int.reduceEq, Int.reduceNeg, facts, List.length_map, *])
      exact bkl_again (a + 1) hlt (by omega) ⟨[some 0, some 1], [(3, .row 3 1 (graphRow v a).length ((graphRow v a).map iV))], by decide, by (simp [og, graphRow, Venue.v, V.cells, ← midL_next hlt, midL_wk (grF_tree v), grF, intsV, wk_ints (e := 3)]; done), by (simp [intoT, renF, wks, graphRow, Venue.v, V.cells, ← midL_next hlt, midL_wk (grF_tree v), grF, intsV, wk_ints (e := 3)]; done), by (simp [intoO, oneO, og, renF, owks, tree_ints, graphRow, Venue.v, V.cells, ← midL_next hlt, midL_wk (grF_tree v), grF, intsV, wk_ints (e := 3)]; done)⟩
  · have ha' : a = v.seats.length := by omega
    subst ha'
    have f0 : decide (((v.seats.length : Nat) : Int) < ((v.seats.length : Nat) : Int)) = false := by simp
    simp -implicitDefEqProofs only [genL_full, steps0, steps1, steps2, steps3, steps4, Nat.reduceAdd, Nat.reduceEqDiff, reduceIte, evBox, Nat.reduceSub, Nat.reducePow, Nat.reduceMul, Int.reduceLT, Int.reduceLE, Int.reduceAdd, Int.reduceToNat, Nat.reduceLT, Nat.reduceLeDiff, Int.reduceEq, Int.reduceNeg, facts, f0]
    repeat' first
      | (simp -implicitDefEqProofs only [steps0, steps1, steps2, steps3, steps4, Nat.reduceAdd, Nat.reduceEqDiff, reduceIte, evBox, Nat.reduceSub, Nat.reducePow, Nat.reduceMul, Int.reduceLT, Int.reduceLE, Int.reduceAdd, Int.reduceToNat, Nat.reduceLT, Nat.reduceLeDiff, Int.reduceEq, Int.reduceNeg, facts, List.length_map, *])
      | ((with_reducible refine gdk_split (fun h => ?_) (fun h => ?_)) <;> simp -implicitDefEqProofs only [steps0, steps1, steps2, steps3, steps4, Nat.reduceAdd, Nat.reduceEqDiff, reduceIte, evBox, Nat.reduceSub, Nat.reducePow, Nat.reduceMul, Int.reduceLT, Int.reduceLE, Int.reduceAdd, Int.reduceToNat, Nat.reduceLT, Nat.reduceLeDiff, Int.reduceEq, Int.reduceNeg, facts, List.length_map, *])
      | ((with_reducible refine cdk_split (fun h => ?_) (fun h => ?_)) <;> simp -implicitDefEqProofs only [steps0, steps1, steps2, steps3, steps4, Nat.reduceAdd, Nat.reduceEqDiff, reduceIte, evBox, Nat.reduceSub, Nat.reducePow, Nat.reduceMul, Int.reduceLT, Int.reduceLE, Int.reduceAdd, Int.reduceToNat, Nat.reduceLT, Nat.reduceLeDiff, Int.reduceEq, Int.reduceNeg, facts, List.length_map, *])
      | ((with_reducible refine exl_drawn ?_ ?_); (focus kernel_rfl); simp -implicitDefEqProofs only [steps0, steps1, steps2, steps3, steps4, Nat.reduceAdd, Nat.reduceEqDiff, reduceIte, evBox, Nat.reduceSub, Nat.reducePow, Nat.reduceMul, Int.reduceLT, Int.reduceLE, Int.reduceAdd, Int.reduceToNat, Nat.reduceLT, Nat.reduceLeDiff, Int.reduceEq, Int.reduceNeg, facts, List.length_map, *])
    have e9 : rowsV ((List.range v.seats.length).map (graphRow v)) = .lst 1 ((List.range v.seats.length).map (grF v)) := by simp only [rowsV, List.map_map]; rfl
    rw [e9]
    exact ends_co [(1, .row 23 1 v.seats.length ((List.range v.seats.length).map (grF v)))] (.inr rfl) (v := .ref 1) rfl (by simp [og]) (co_rows (fun j => ⟨rfl, rfl⟩) (List.mem_singleton.2 rfl))

end Go.Proofs.Ytehdpfhpiplbgaa
