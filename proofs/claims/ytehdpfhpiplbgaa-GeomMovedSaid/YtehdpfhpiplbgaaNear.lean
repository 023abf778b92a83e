/-
  What is near a place.
-/
import Derived.Test.YtehdpfhpiplbgaaSame
namespace Go.Proofs.Ytehdpfhpiplbgaa
open Go.AV
set_option linter.unusedSimpArgs false
set_option linter.unusedVariables false

/-- The numbers below n that are told by p. -/
def upTo (p : Nat → Bool) : Nat → List Int
  | 0 => []
  | n + 1 => if p n then upTo p n ++ [(n : Int)] else upTo p n

theorem upTo_len (p : Nat → Bool) : ∀ n, (upTo p n).length ≤ n
  | 0 => Nat.le_refl _
  | n + 1 => by
    have := upTo_len p n
    simp only [upTo]; split <;> simp <;> omega

theorem mayB_len {v : Venue} (h : mayB v = true) : v.seats.length ≤ 4096 := by
  simp only [mayB, seatsB, Bool.and_eq_true, decide_eq_true_eq] at h
  omega

def nearP (v : Venue) (x y r : Int) (i : Nat) : Bool := match v.seats[i]? with | some s => decide (farS s ⟨0, x, y, 0⟩ < sq r) | none => false
def nearL (v : Venue) (x y r : Int) : List Int := if mayB v && (coordR x && (coordR y && inR r 1 1048576)) then upTo (nearP v x y r) v.seats.length else []

theorem near_pure (v : Venue) (x y r : Int) : PureC Try.prog 14 [v.v, .lit (.int .i64 x), .lit (.int .i64 y), .lit (.int .i64 r)] (.lst 1 ((nearL v x y r).map iV)) := by
  refine pure_agg (l := v.seats.map Seat.v) (es := 4) 0 0 rfl rfl fun hlen => ?_
  rw [List.length_map] at hlen
  refine pure_of_gol 50 hm Try.func14 rfl rfl (by decide +kernel) ?_
  simp -implicitDefEqProofs only [steps0, steps1, steps2, steps3, steps4, Nat.reduceAdd, Nat.reduceEqDiff, reduceIte, evBox, Nat.reduceSub, Nat.reducePow, Nat.reduceMul, Int.reduceLT, Int.reduceLE, Int.reduceAdd, Int.reduceToNat, Nat.reduceLT, Nat.reduceLeDiff, Int.reduceEq, Int.reduceNeg, facts, Venue.v, List.length_map]
  repeat' first
    | ((with_reducible refine exl_iscall ?_); refine exl_pure (by kernel_rfl) (may_pure v) rfl rfl ?_; simp -implicitDefEqProofs only [steps0, steps1, steps2, steps3, steps4, Nat.reduceAdd, Nat.reduceEqDiff, reduceIte, evBox, Nat.reduceSub, Nat.reducePow, Nat.reduceMul, Int.reduceLT, Int.reduceLE, Int.reduceAdd, Int.reduceToNat, Nat.reduceLT, Nat.reduceLeDiff, Int.reduceEq, Int.reduceNeg, facts, List.length_map, *])
    | ((with_reducible refine exl_iscall ?_); refine exl_pure (by kernel_rfl) (coord_pure _) rfl rfl ?_; simp -implicitDefEqProofs only [steps0, steps1, steps2, steps3, steps4, Nat.reduceAdd, Nat.reduceEqDiff, reduceIte, evBox, Nat.reduceSub, Nat.reducePow, Nat.reduceMul, Int.reduceLT, Int.reduceLE, Int.reduceAdd, Int.reduceToNat, Nat.reduceLT, Nat.reduceLeDiff, Int.reduceEq, Int.reduceNeg, facts, List.length_map, *])
    | ((with_reducible refine exl_iscall ?_); refine exl_pure (by kernel_rfl) (reach_pure _) rfl rfl ?_; simp -implicitDefEqProofs only [steps0, steps1, steps2, steps3, steps4, Nat.reduceAdd, Nat.reduceEqDiff, reduceIte, evBox, Nat.reduceSub, Nat.reducePow, Nat.reduceMul, Int.reduceLT, Int.reduceLE, Int.reduceAdd, Int.reduceToNat, Nat.reduceLT, Nat.reduceLeDiff, Int.reduceEq, Int.reduceNeg, facts, List.length_map, *])
    | (simp -implicitDefEqProofs only [steps0, steps1, steps2, steps3, steps4, Nat.reduceAdd, Nat.reduceEqDiff, reduceIte, evBox, Nat.reduceSub, Nat.reducePow, Nat.reduceMul, Int.reduceLT, Int.reduceLE, Int.reduceAdd, Int.reduceToNat, Nat.reduceLT, Nat.reduceLeDiff, Int.reduceEq, Int.reduceNeg, facts, List.length_map, *])
    | ((with_reducible refine gdk_split (fun h => ?_) (fun h => ?_)) <;> simp -implicitDefEqProofs only [steps0, steps1, steps2, steps3, steps4, Nat.reduceAdd, Nat.reduceEqDiff, reduceIte, evBox, Nat.reduceSub, Nat.reducePow, Nat.reduceMul, Int.reduceLT, Int.reduceLE, Int.reduceAdd, Int.reduceToNat, Nat.reduceLT, Nat.reduceLeDiff, Int.reduceEq, Int.reduceNeg, facts, List.length_map, *])
    | ((with_reducible refine cdk_split (fun h => ?_) (fun h => ?_)) <;> simp -implicitDefEqProofs only [steps0, steps1, steps2, steps3, steps4, Nat.reduceAdd, Nat.reduceEqDiff, reduceIte, evBox, Nat.reduceSub, Nat.reducePow, Nat.reduceMul, Int.reduceLT, Int.reduceLE, Int.reduceAdd, Int.reduceToNat, Nat.reduceLT, Nat.reduceLeDiff, Int.reduceEq, Int.reduceNeg, facts, List.length_map, *])
    | ((with_reducible refine exl_drawn ?_ ?_); (focus kernel_rfl); simp -implicitDefEqProofs only [steps0, steps1, steps2, steps3, steps4, Nat.reduceAdd, Nat.reduceEqDiff, reduceIte, evBox, Nat.reduceSub, Nat.reducePow, Nat.reduceMul, Int.reduceLT, Int.reduceLE, Int.reduceAdd, Int.reduceToNat, Nat.reduceLT, Nat.reduceLeDiff, Int.reduceEq, Int.reduceNeg, facts, List.length_map, *])
  all_goals try simp only [Bool.not_eq_true', Bool.not_eq_false'] at *
  all_goals try exact ends_co [] (.inr rfl) (v := .lit (.slice none 0 0)) rfl (by simp) (by rw [show nearL v x y r = [] by simp [nearL, *]]; exact .nil)
  rename_i h1 h2 h3
  have hL : nearL v x y r = upTo (nearP v x y r) v.seats.length := by simp [nearL, *]
  rw [hL]
  have hr : IntKind.i64.wrap (r * r) = sq r := by
    have h4' := h
    simp only [inR, Bool.and_eq_true, decide_eq_true_eq] at h4'
    have := sq_bound (n := r) (m := 1048576) (by omega) (by omega)
    exact w64 (n := sq r) (by omega)
  have hlen := mayB_len (by assumption)
  clear h1 h2 h3 h hL
  refine gol_loop (fun i : Nat => .junk :: .lit (.int .i64 x) :: .lit (.int .i64 y) :: .lit (.int .i64 r) :: jn 5 (.ref 0 :: jn 21 [.lst 4 (v.seats.map Seat.v), .lit (.int .i64 v.seats.length), .lit (.int .i64 i)]))
    (fun i => [some (.row 3 1 (upTo (nearP v x y r) i).length ((upTo (nearP v x y r) i).map iV))]) (fun i => v.seats.length - i) (fun i => i ≤ v.seats.length) 0 hm (by decide +kernel) (Nat.zero_le _)
    ⟨[none], [], by decide, by simp, by (simp [intoT, renF, wks, upTo]; done), by (simp [intoO, oneO, og, renF, owks, tree_ints, upTo]; done)⟩ ?_
  intro i hi
  have hul := upTo_len (nearP v x y r) i
  by_cases hlt : i < v.seats.length
  · obtain ⟨s, hs⟩ : ∃ s, v.seats[i]? = some s := ⟨v.seats[i], by simp [hlt]⟩
    have e0 : decide ((i : Int) < (v.seats.length : Int)) = true := by simp; omega
    have e1 : IntKind.i64.wrap ((i : Int) + 1) = ((i + 1 : Nat) : Int) := by rw [w64 (by omega)]; omega
    have hN : nearP v x y r i = decide (farS s ⟨0, x, y, 0⟩ < sq r) := by simp [nearP, hs]
    have hmax : (upTo (nearP v x y r) i).length + 1 ≤ maxLen := by unfold maxLen; omega
    have hby : ((upTo (nearP v x y r) i).length + 1) * 8 ≤ 140737488355328 := by omega
    simp -implicitDefEqProofs only [steps0, steps1, steps2, steps3, steps4, Nat.reduceAdd, Nat.reduceEqDiff, reduceIte, evBox, Nat.reduceSub, Nat.reducePow, Nat.reduceMul, Int.reduceLT, Int.reduceLE, Int.reduceAdd, Int.reduceToNat, Nat.reduceLT, Nat.reduceLeDiff, Int.reduceEq, Int.reduceNeg, facts, e0]
    repeat' first
      | ((with_reducible refine exl_iscall ?_); refine exl_pure (by kernel_rfl) (close_pure s ⟨0, x, y, 0⟩ r) rfl rfl ?_; simp -implicitDefEqProofs only [steps0, steps1, steps2, steps3, steps4, Nat.reduceAdd, Nat.reduceEqDiff, reduceIte, evBox, Nat.reduceSub, Nat.reducePow, Nat.reduceMul, Int.reduceLT, Int.reduceLE, Int.reduceAdd, Int.reduceToNat, Nat.reduceLT, Nat.reduceLeDiff, Int.reduceEq, Int.reduceNeg, facts, List.getElem?_map, List.length_map, Seat.v, *])
      | (simp -implicitDefEqProofs only [steps0, steps1, steps2, steps3, steps4, Nat.reduceAdd, Nat.reduceEqDiff, reduceIte, evBox, Nat.reduceSub, Nat.reducePow, Nat.reduceMul, Int.reduceLT, Int.reduceLE, Int.reduceAdd, Int.reduceToNat, Nat.reduceLT, Nat.reduceLeDiff, Int.reduceEq, Int.reduceNeg, facts, List.getElem?_map, List.length_map, Seat.v, *])
      | ((with_reducible refine gdk_split (fun h => ?_) (fun h => ?_)) <;> simp -implicitDefEqProofs only [steps0, steps1, steps2, steps3, steps4, Nat.reduceAdd, Nat.reduceEqDiff, reduceIte, evBox, Nat.reduceSub, Nat.reducePow, Nat.reduceMul, Int.reduceLT, Int.reduceLE, Int.reduceAdd, Int.reduceToNat, Nat.reduceLT, Nat.reduceLeDiff, Int.reduceEq, Int.reduceNeg, facts, List.getElem?_map, List.length_map, Seat.v, *])
      | ((with_reducible refine cdk_split (fun h => ?_) (fun h => ?_)) <;> simp -implicitDefEqProofs only [steps0, steps1, steps2, steps3, steps4, Nat.reduceAdd, Nat.reduceEqDiff, reduceIte, evBox, Nat.reduceSub, Nat.reducePow, Nat.reduceMul, Int.reduceLT, Int.reduceLE, Int.reduceAdd, Int.reduceToNat, Nat.reduceLT, Nat.reduceLeDiff, Int.reduceEq, Int.reduceNeg, facts, List.getElem?_map, List.length_map, Seat.v, *])
      | ((with_reducible refine exl_drawn ?_ ?_); (focus kernel_rfl); simp -implicitDefEqProofs only [steps0, steps1, steps2, steps3, steps4, Nat.reduceAdd, Nat.reduceEqDiff, reduceIte, evBox, Nat.reduceSub, Nat.reducePow, Nat.reduceMul, Int.reduceLT, Int.reduceLE, Int.reduceAdd, Int.reduceToNat, Nat.reduceLT, Nat.reduceLeDiff, Int.reduceEq, Int.reduceNeg, facts, List.getElem?_map, List.length_map, Seat.v, *])
    · have hU : upTo (nearP v x y r) (i + 1) = upTo (nearP v x y r) i ++ [(i : Int)] := by simp [upTo, hN, h]
      exact bkl_again (i + 1) hlt (by omega) ⟨[some 4], [], by decide, by simp, by (simp [intoT, renF, wks, hU, iV]; done), by (simp [intoO, oneO, og, renF, owks, tree_ints, hU, iV]; done)⟩
    · have hU : upTo (nearP v x y r) (i + 1) = upTo (nearP v x y r) i := by simp [upTo, hN, h]
      exact bkl_again (i + 1) hlt (by omega) ⟨[some 0], [], by decide, by simp, by (simp [intoT, renF, wks, hU]; done), by (simp [intoO, oneO, og, renF, owks, tree_ints, hU]; done)⟩
  · have hi' : i = v.seats.length := by omega
    subst hi'
    have e0 : decide (((v.seats.length : Nat) : Int) < ((v.seats.length : Nat) : Int)) = false := by simp
    simp -implicitDefEqProofs only [steps0, steps1, steps2, steps3, steps4, Nat.reduceAdd, Nat.reduceEqDiff, reduceIte, evBox, Nat.reduceSub, Nat.reducePow, Nat.reduceMul, Int.reduceLT, Int.reduceLE, Int.reduceAdd, Int.reduceToNat, Nat.reduceLT, Nat.reduceLeDiff, Int.reduceEq, Int.reduceNeg, facts, e0]
    repeat' first
      | (simp -implicitDefEqProofs only [steps0, steps1, steps2, steps3, steps4, Nat.reduceAdd, Nat.reduceEqDiff, reduceIte, evBox, Nat.reduceSub, Nat.reducePow, Nat.reduceMul, Int.reduceLT, Int.reduceLE, Int.reduceAdd, Int.reduceToNat, Nat.reduceLT, Nat.reduceLeDiff, Int.reduceEq, Int.reduceNeg, facts, List.length_map, *])
      | ((with_reducible refine gdk_split (fun h => ?_) (fun h => ?_)) <;> simp -implicitDefEqProofs only [steps0, steps1, steps2, steps3, steps4, Nat.reduceAdd, Nat.reduceEqDiff, reduceIte, evBox, Nat.reduceSub, Nat.reducePow, Nat.reduceMul, Int.reduceLT, Int.reduceLE, Int.reduceAdd, Int.reduceToNat, Nat.reduceLT, Nat.reduceLeDiff, Int.reduceEq, Int.reduceNeg, facts, List.length_map, *])
      | ((with_reducible refine cdk_split (fun h => ?_) (fun h => ?_)) <;> simp -implicitDefEqProofs only [steps0, steps1, steps2, steps3, steps4, Nat.reduceAdd, Nat.reduceEqDiff, reduceIte, evBox, Nat.reduceSub, Nat.reducePow, Nat.reduceMul, Int.reduceLT, Int.reduceLE, Int.reduceAdd, Int.reduceToNat, Nat.reduceLT, Nat.reduceLeDiff, Int.reduceEq, Int.reduceNeg, facts, List.length_map, *])
      | ((with_reducible refine exl_drawn ?_ ?_); (focus kernel_rfl); simp -implicitDefEqProofs only [steps0, steps1, steps2, steps3, steps4, Nat.reduceAdd, Nat.reduceEqDiff, reduceIte, evBox, Nat.reduceSub, Nat.reducePow, Nat.reduceMul, Int.reduceLT, Int.reduceLE, Int.reduceAdd, Int.reduceToNat, Nat.reduceLT, Nat.reduceLeDiff, Int.reduceEq, Int.reduceNeg, facts, List.length_map, *])
    exact ends_ints 0 rfl (.inr rfl) rfl rfl

end Go.Proofs.Ytehdpfhpiplbgaa
