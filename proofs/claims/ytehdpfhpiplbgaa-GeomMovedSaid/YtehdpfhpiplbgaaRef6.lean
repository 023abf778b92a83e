/-
  What the reference says is near; a seat that fits.
-/
import Derived.Test.YtehdpfhpiplbgaaGraph
namespace Go.Proofs.Ytehdpfhpiplbgaa
open Go.AV
set_option linter.unusedSimpArgs false
set_option linter.unusedVariables false

theorem sq_sub0 {r : Int} (h : -1048576 ≤ r ∧ r ≤ 1048576) : IntKind.i64.wrap (sq (IntKind.i64.wrap (r - 0))) = sq r := by
  have := sq_bound (n := r) (m := 1048576) (by omega) (by omega)
  rw [w64 (n := r - 0) (by omega), show r - 0 = r by omega, w64 (by omega)]

theorem near6_pure (v : Venue) (x y r : Int) : PureC Try.prog 15 [v.v, .lit (.int .i64 x), .lit (.int .i64 y), .lit (.int .i64 r)] (.lst 1 ((nearL v x y r).map iV)) := by
  refine pure_agg (l := v.seats.map Seat.v) (es := 4) 0 0 rfl rfl fun hlen => ?_
  rw [List.length_map] at hlen
  refine pure_of_gol 56 hm Try.func15 rfl rfl (by decide +kernel) ?_
  simp -implicitDefEqProofs only [steps0, steps1, steps2, steps3, steps4, Nat.reduceAdd, Nat.reduceEqDiff, reduceIte, evBox, Nat.reduceSub, Nat.reducePow, Nat.reduceMul, Int.reduceLT, Int.reduceLE, Int.reduceAdd, Int.reduceToNat, Nat.reduceLT, Nat.reduceLeDiff, Int.reduceEq, Int.reduceNeg, facts, Venue.v, List.length_map]
  repeat' first
    | ((with_reducible refine exl_iscall ?_); refine exl_pure (by kernel_rfl) (may2_pure v) rfl rfl ?_; simp -implicitDefEqProofs only [steps0, steps1, steps2, steps3, steps4, Nat.reduceAdd, Nat.reduceEqDiff, reduceIte, evBox, Nat.reduceSub, Nat.reducePow, Nat.reduceMul, Int.reduceLT, Int.reduceLE, Int.reduceAdd, Int.reduceToNat, Nat.reduceLT, Nat.reduceLeDiff, Int.reduceEq, Int.reduceNeg, facts, List.length_map, *])
    | ((with_reducible refine exl_iscall ?_); refine exl_pure (by kernel_rfl) (coord6_pure _) rfl rfl ?_; simp -implicitDefEqProofs only [steps0, steps1, steps2, steps3, steps4, Nat.reduceAdd, Nat.reduceEqDiff, reduceIte, evBox, Nat.reduceSub, Nat.reducePow, Nat.reduceMul, Int.reduceLT, Int.reduceLE, Int.reduceAdd, Int.reduceToNat, Nat.reduceLT, Nat.reduceLeDiff, Int.reduceEq, Int.reduceNeg, facts, List.length_map, *])
    | (simp -implicitDefEqProofs only [steps0, steps1, steps2, steps3, steps4, Nat.reduceAdd, Nat.reduceEqDiff, reduceIte, evBox, Nat.reduceSub, Nat.reducePow, Nat.reduceMul, Int.reduceLT, Int.reduceLE, Int.reduceAdd, Int.reduceToNat, Nat.reduceLT, Nat.reduceLeDiff, Int.reduceEq, Int.reduceNeg, facts, List.length_map, *])
    | ((with_reducible refine gdk_split (fun h => ?_) (fun h => ?_)) <;> simp -implicitDefEqProofs only [steps0, steps1, steps2, steps3, steps4, Nat.reduceAdd, Nat.reduceEqDiff, reduceIte, evBox, Nat.reduceSub, Nat.reducePow, Nat.reduceMul, Int.reduceLT, Int.reduceLE, Int.reduceAdd, Int.reduceToNat, Nat.reduceLT, Nat.reduceLeDiff, Int.reduceEq, Int.reduceNeg, facts, List.length_map, *])
    | ((with_reducible refine cdk_split (fun h => ?_) (fun h => ?_)) <;> simp -implicitDefEqProofs only [steps0, steps1, steps2, steps3, steps4, Nat.reduceAdd, Nat.reduceEqDiff, reduceIte, evBox, Nat.reduceSub, Nat.reducePow, Nat.reduceMul, Int.reduceLT, Int.reduceLE, Int.reduceAdd, Int.reduceToNat, Nat.reduceLT, Nat.reduceLeDiff, Int.reduceEq, Int.reduceNeg, facts, List.length_map, *])
    | ((with_reducible refine exl_drawn ?_ ?_); (focus kernel_rfl); simp -implicitDefEqProofs only [steps0, steps1, steps2, steps3, steps4, Nat.reduceAdd, Nat.reduceEqDiff, reduceIte, evBox, Nat.reduceSub, Nat.reducePow, Nat.reduceMul, Int.reduceLT, Int.reduceLE, Int.reduceAdd, Int.reduceToNat, Nat.reduceLT, Nat.reduceLeDiff, Int.reduceEq, Int.reduceNeg, facts, List.length_map, *])
  all_goals try simp only [Bool.not_eq_true', Bool.not_eq_false', decide_eq_true_eq, decide_eq_false_iff_not] at *
  all_goals try exact ends_co [] (.inr rfl) (v := .lit (.slice none 0 0)) rfl (by simp) (by rw [show nearL v x y r = [] by first | (simp [nearL, *]; done) | (have hn : inR r 1 1048576 = false := (by simp [inR]; omega); simp [nearL, hn])]; exact .nil)
  rename_i h1 h2 h3 h4
  have hrr : inR r 1 1048576 = true := by simp [inR]; omega
  have hL : nearL v x y r = upTo (nearP v x y r) v.seats.length := by simp [nearL, *]
  rw [hL]
  have hr := sq_sub0 (r := r) (by omega)
  have hlen := mayB_len (by assumption)
  clear h1 h2 h3 h4 h hrr hL
  refine gol_loop (fun i : Nat => .junk :: .lit (.int .i64 x) :: .lit (.int .i64 y) :: .lit (.int .i64 r) :: .ptr 0 0 :: jn 4 [.ref 1, .lit (.int .i64 i)])
    (fun i => [some (.box v.v.cells), some (.row 3 1 (upTo (nearP v x y r) i).length ((upTo (nearP v x y r) i).map iV))]) (fun i => v.seats.length - i) (fun i => i ≤ v.seats.length) 0 hm (by decide +kernel) (Nat.zero_le _)
    ⟨[some 0, none], [], by decide, by simp, by (simp [intoT, renF, wks, upTo, Venue.v, V.cells]; done), by (simp [intoO, oneO, og, renF, owks, tree_ints, upTo, Venue.v, V.cells]; done)⟩ ?_
  intro i hi
  have hul := upTo_len (nearP v x y r) i
  by_cases hlt : i < v.seats.length
  · obtain ⟨s, hs⟩ : ∃ s, v.seats[i]? = some s := ⟨v.seats[i], by simp [hlt]⟩
    have e0 : decide ((i : Int) < (v.seats.length : Int)) = true := by simp; omega
    have e1 : IntKind.i64.wrap ((i : Int) + 1) = ((i + 1 : Nat) : Int) := by rw [w64 (by omega)]; omega
    have hN : nearP v x y r i = decide (farS s ⟨0, x, y, 0⟩ < sq r) := by simp [nearP, hs]
    have hmax : (upTo (nearP v x y r) i).length + 1 ≤ maxLen := by unfold maxLen; omega
    have hby : ((upTo (nearP v x y r) i).length + 1) * 8 ≤ 140737488355328 := by omega
    simp -implicitDefEqProofs only [steps0, steps1, steps2, steps3, steps4, Nat.reduceAdd, Nat.reduceEqDiff, reduceIte, evBox, Nat.reduceSub, Nat.reducePow, Nat.reduceMul, Int.reduceLT, Int.reduceLE, Int.reduceAdd, Int.reduceToNat, Nat.reduceLT, Nat.reduceLeDiff, Int.reduceEq, Int.reduceNeg, facts, e0, Venue.v]
    repeat' first
      | ((with_reducible refine exl_iscall ?_); refine exl_pure (by kernel_rfl) (far6_pure s ⟨0, x, y, 0⟩) rfl rfl ?_; simp -implicitDefEqProofs only [steps0, steps1, steps2, steps3, steps4, Nat.reduceAdd, Nat.reduceEqDiff, reduceIte, evBox, Nat.reduceSub, Nat.reducePow, Nat.reduceMul, Int.reduceLT, Int.reduceLE, Int.reduceAdd, Int.reduceToNat, Nat.reduceLT, Nat.reduceLeDiff, Int.reduceEq, Int.reduceNeg, facts, List.getElem?_map, List.length_map, Seat.v, *])
      | ((with_reducible refine exl_iscall ?_); refine exl_pure (by kernel_rfl) (square_pure _ _) rfl rfl ?_; simp -implicitDefEqProofs only [steps0, steps1, steps2, steps3, steps4, Nat.reduceAdd, Nat.reduceEqDiff, reduceIte, evBox, Nat.reduceSub, Nat.reducePow, Nat.reduceMul, Int.reduceLT, Int.reduceLE, Int.reduceAdd, Int.reduceToNat, Nat.reduceLT, Nat.reduceLeDiff, Int.reduceEq, Int.reduceNeg, facts, List.getElem?_map, List.length_map, Seat.v, *])
      | (simp -implicitDefEqProofs only [steps0, steps1, steps2, steps3, steps4, Nat.reduceAdd, Nat.reduceEqDiff, reduceIte, evBox, Nat.reduceSub, Nat.reducePow, Nat.reduceMul, Int.reduceLT, Int.reduceLE, Int.reduceAdd, Int.reduceToNat, Nat.reduceLT, Nat.reduceLeDiff, Int.reduceEq, Int.reduceNeg, facts, List.getElem?_map, List.length_map, Seat.v, *])
      | ((with_reducible refine gdk_split (fun h => ?_) (fun h => ?_)) <;> simp -implicitDefEqProofs only [steps0, steps1, steps2, steps3, steps4, Nat.reduceAdd, Nat.reduceEqDiff, reduceIte, evBox, Nat.reduceSub, Nat.reducePow, Nat.reduceMul, Int.reduceLT, Int.reduceLE, Int.reduceAdd, Int.reduceToNat, Nat.reduceLT, Nat.reduceLeDiff, Int.reduceEq, Int.reduceNeg, facts, List.getElem?_map, List.length_map, Seat.v, *])
      | ((with_reducible refine cdk_split (fun h => ?_) (fun h => ?_)) <;> simp -implicitDefEqProofs only [steps0, steps1, steps2, steps3, steps4, Nat.reduceAdd, Nat.reduceEqDiff, reduceIte, evBox, Nat.reduceSub, Nat.reducePow, Nat.reduceMul, Int.reduceLT, Int.reduceLE, Int.reduceAdd, Int.reduceToNat, Nat.reduceLT, Nat.reduceLeDiff, Int.reduceEq, Int.reduceNeg, facts, List.getElem?_map, List.length_map, Seat.v, *])
      | ((with_reducible refine exl_drawn ?_ ?_); (focus kernel_rfl); simp -implicitDefEqProofs only [steps0, steps1, steps2, steps3, steps4, Nat.reduceAdd, Nat.reduceEqDiff, reduceIte, evBox, Nat.reduceSub, Nat.reducePow, Nat.reduceMul, Int.reduceLT, Int.reduceLE, Int.reduceAdd, Int.reduceToNat, Nat.reduceLT, Nat.reduceLeDiff, Int.reduceEq, Int.reduceNeg, facts, List.getElem?_map, List.length_map, Seat.v, *])
    · have hU : upTo (nearP v x y r) (i + 1) = upTo (nearP v x y r) i ++ [(i : Int)] := by simp [upTo, hN, *]
      exact bkl_again (i + 1) hlt (by omega) ⟨[some 0, some 3], [], by decide, by simp, by (simp [intoT, renF, wks, hU, iV]; done), by (simp [intoO, oneO, og, renF, owks, tree_ints, hU, iV]; done)⟩
    · have hU : upTo (nearP v x y r) (i + 1) = upTo (nearP v x y r) i := by simp [upTo, hN, *]
      exact bkl_again (i + 1) hlt (by omega) ⟨[some 0, some 1], [], by decide, by simp, by (simp [intoT, renF, wks, hU]; done), by (simp [intoO, oneO, og, renF, owks, tree_ints, hU]; done)⟩
  · have hi' : i = v.seats.length := by omega
    subst hi'
    have e0 : decide (((v.seats.length : Nat) : Int) < ((v.seats.length : Nat) : Int)) = false := by simp
    simp -implicitDefEqProofs only [steps0, steps1, steps2, steps3, steps4, Nat.reduceAdd, Nat.reduceEqDiff, reduceIte, evBox, Nat.reduceSub, Nat.reducePow, Nat.reduceMul, Int.reduceLT, Int.reduceLE, Int.reduceAdd, Int.reduceToNat, Nat.reduceLT, Nat.reduceLeDiff, Int.reduceEq, Int.reduceNeg, facts, e0, Venue.v]
    repeat' first
      | (simp -implicitDefEqProofs only [steps0, steps1, steps2, steps3, steps4, Nat.reduceAdd, Nat.reduceEqDiff, reduceIte, evBox, Nat.reduceSub, Nat.reducePow, Nat.reduceMul, Int.reduceLT, Int.reduceLE, Int.reduceAdd, Int.reduceToNat, Nat.reduceLT, Nat.reduceLeDiff, Int.reduceEq, Int.reduceNeg, facts, List.length_map, *])
      | ((with_reducible refine gdk_split (fun h => ?_) (fun h => ?_)) <;> simp -implicitDefEqProofs only [steps0, steps1, steps2, steps3, steps4, Nat.reduceAdd, Nat.reduceEqDiff, reduceIte, evBox, Nat.reduceSub, Nat.reducePow, Nat.reduceMul, Int.reduceLT, Int.reduceLE, Int.reduceAdd, Int.reduceToNat, Nat.reduceLT, Nat.reduceLeDiff, Int.reduceEq, Int.reduceNeg, facts, List.length_map, *])
      | ((with_reducible refine cdk_split (fun h => ?_) (fun h => ?_)) <;> simp -implicitDefEqProofs only [steps0, steps1, steps2, steps3, steps4, Nat.reduceAdd, Nat.reduceEqDiff, reduceIte, evBox, Nat.reduceSub, Nat.reducePow, Nat.reduceMul, Int.reduceLT, Int.reduceLE, Int.reduceAdd, Int.reduceToNat, Nat.reduceLT, Nat.reduceLeDiff, Int.reduceEq, Int.reduceNeg, facts, List.length_map, *])
      | ((with_reducible refine exl_drawn ?_ ?_); (focus kernel_rfl); simp -implicitDefEqProofs only [steps0, steps1, steps2, steps3, steps4, Nat.reduceAdd, Nat.reduceEqDiff, reduceIte, evBox, Nat.reduceSub, Nat.reducePow, Nat.reduceMul, Int.reduceLT, Int.reduceLE, Int.reduceAdd, Int.reduceToNat, Nat.reduceLT, Nat.reduceLeDiff, Int.reduceEq, Int.reduceNeg, facts, List.length_map, *])
    exact ends_ints 1 rfl (.inr rfl) rfl rfl

theorem wrap_u64 (n : Int) : IntKind.u64.wrap n = n % 18446744073709551616 := by simp [IntKind.wrap, IntKind.bits, IntKind.signed]

def uw (n : Int) : Int := IntKind.u64.wrap n
def fitI (n : Int) : Int := IntKind.i64.wrap (IntKind.i64.wrap ((uw n).tmod 2097153) - 1048576)
def fitS (s : Seat) : Seat := ⟨0, fitI s.x, fitI s.y, 0⟩

theorem fitI_eq (n : Int) : fitI n = uw n % 2097153 - 1048576 ∧ -1048576 ≤ fitI n ∧ fitI n ≤ 1048576 := by
  have h : 0 ≤ uw n := by rw [uw, wrap_u64]; omega
  have e : fitI n = uw n % 2097153 - 1048576 := by
    unfold fitI
    rw [Int.tmod_eq_emod_of_nonneg h, w64 (n := uw n % 2097153) (by omega), w64 (by omega)]
  exact ⟨e, by omega, by omega⟩

theorem fit_pure (s : Seat) : PureC Try.prog 18 [s.v] (fitS s).v := by
  refine pure_of_gol 16 hm Try.func18 rfl rfl (by decide +kernel) ?_
  simp -implicitDefEqProofs only [Seat.v, steps0, steps1, steps2, steps3, steps4, Nat.reduceAdd, Nat.reduceEqDiff, reduceIte, evBox, Nat.reduceSub, Nat.reducePow, Nat.reduceMul, Int.reduceLT, Int.reduceLE, Int.reduceAdd, Int.reduceToNat, Nat.reduceLT, Nat.reduceLeDiff, Int.reduceEq, Int.reduceNeg, facts]
  repeat' first
    | (simp -implicitDefEqProofs only [steps0, steps1, steps2, steps3, steps4, Nat.reduceAdd, Nat.reduceEqDiff, reduceIte, evBox, Nat.reduceSub, Nat.reducePow, Nat.reduceMul, Int.reduceLT, Int.reduceLE, Int.reduceAdd, Int.reduceToNat, Nat.reduceLT, Nat.reduceLeDiff, Int.reduceEq, Int.reduceNeg, facts, *])
    | ((with_reducible refine gdk_split (fun h => ?_) (fun h => ?_)) <;> simp -implicitDefEqProofs only [steps0, steps1, steps2, steps3, steps4, Nat.reduceAdd, Nat.reduceEqDiff, reduceIte, evBox, Nat.reduceSub, Nat.reducePow, Nat.reduceMul, Int.reduceLT, Int.reduceLE, Int.reduceAdd, Int.reduceToNat, Nat.reduceLT, Nat.reduceLeDiff, Int.reduceEq, Int.reduceNeg, facts, *])
    | ((with_reducible refine cdk_split (fun h => ?_) (fun h => ?_)) <;> simp -implicitDefEqProofs only [steps0, steps1, steps2, steps3, steps4, Nat.reduceAdd, Nat.reduceEqDiff, reduceIte, evBox, Nat.reduceSub, Nat.reducePow, Nat.reduceMul, Int.reduceLT, Int.reduceLE, Int.reduceAdd, Int.reduceToNat, Nat.reduceLT, Nat.reduceLeDiff, Int.reduceEq, Int.reduceNeg, facts, *])
    | ((with_reducible refine exl_drawn ?_ ?_); (focus kernel_rfl); simp -implicitDefEqProofs only [steps0, steps1, steps2, steps3, steps4, Nat.reduceAdd, Nat.reduceEqDiff, reduceIte, evBox, Nat.reduceSub, Nat.reducePow, Nat.reduceMul, Int.reduceLT, Int.reduceLE, Int.reduceAdd, Int.reduceToNat, Nat.reduceLT, Nat.reduceLeDiff, Int.reduceEq, Int.reduceNeg, facts, *])
  exact ends_cell [] rfl t_cellsN_28 (.inr rfl) rfl rfl rfl (by simp) (.tree rfl)

end Go.Proofs.Ytehdpfhpiplbgaa
