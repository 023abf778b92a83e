/-
  Distances and clashes.
-/
import Derived.Test.YtehdpfhpiplbgaaVen
namespace Go.Proofs.Ytehdpfhpiplbgaa
open Go.AV
set_option linter.unusedSimpArgs false
set_option linter.unusedVariables false

def sq (n : Int) : Int := n * n
def onMap (s : Seat) : Bool := coordR s.x && coordR s.y
def farS (a b : Seat) : Int := if onMap a && onMap b then sq (a.x - b.x) + sq (a.y - b.y) else 0

theorem square_pure (a b : Int) : PureC Try.prog 22 [.lit (.int .i64 a), .lit (.int .i64 b)] (.lit (.int .i64 (IntKind.i64.wrap (sq (IntKind.i64.wrap (a - b)))))) := by
  refine pure_of_gol 12 hm Try.func22 rfl rfl (by decide +kernel) ?_
  simp -implicitDefEqProofs only [steps0, steps1, steps2, steps3, steps4, Nat.reduceAdd, Nat.reduceEqDiff, reduceIte, evBox, Nat.reduceSub, Nat.reducePow, Nat.reduceMul, Int.reduceLT, Int.reduceLE, Int.reduceAdd, Int.reduceToNat, Nat.reduceLT, Nat.reduceLeDiff, Int.reduceEq, Int.reduceNeg, facts]
  repeat' first
    | (simp -implicitDefEqProofs only [steps0, steps1, steps2, steps3, steps4, Nat.reduceAdd, Nat.reduceEqDiff, reduceIte, evBox, Nat.reduceSub, Nat.reducePow, Nat.reduceMul, Int.reduceLT, Int.reduceLE, Int.reduceAdd, Int.reduceToNat, Nat.reduceLT, Nat.reduceLeDiff, Int.reduceEq, Int.reduceNeg, facts, *])
    | ((with_reducible refine gdk_split (fun h => ?_) (fun h => ?_)) <;> simp -implicitDefEqProofs only [steps0, steps1, steps2, steps3, steps4, Nat.reduceAdd, Nat.reduceEqDiff, reduceIte, evBox, Nat.reduceSub, Nat.reducePow, Nat.reduceMul, Int.reduceLT, Int.reduceLE, Int.reduceAdd, Int.reduceToNat, Nat.reduceLT, Nat.reduceLeDiff, Int.reduceEq, Int.reduceNeg, facts, *])
    | ((with_reducible refine cdk_split (fun h => ?_) (fun h => ?_)) <;> simp -implicitDefEqProofs only [steps0, steps1, steps2, steps3, steps4, Nat.reduceAdd, Nat.reduceEqDiff, reduceIte, evBox, Nat.reduceSub, Nat.reducePow, Nat.reduceMul, Int.reduceLT, Int.reduceLE, Int.reduceAdd, Int.reduceToNat, Nat.reduceLT, Nat.reduceLeDiff, Int.reduceEq, Int.reduceNeg, facts, *])
    | ((with_reducible refine exl_drawn ?_ ?_); (focus kernel_rfl); simp -implicitDefEqProofs only [steps0, steps1, steps2, steps3, steps4, Nat.reduceAdd, Nat.reduceEqDiff, reduceIte, evBox, Nat.reduceSub, Nat.reducePow, Nat.reduceMul, Int.reduceLT, Int.reduceLE, Int.reduceAdd, Int.reduceToNat, Nat.reduceLT, Nat.reduceLeDiff, Int.reduceEq, Int.reduceNeg, facts, *])
  all_goals exact ends_tmp (d := 4) rfl (.inr rfl) (by simp [tg, sq]) rfl

theorem coordR_iff {n : Int} : coordR n = true ↔ -1048576 ≤ n ∧ n ≤ 1048576 := by simp [coordR, inR]

theorem sq_bound {n m : Int} (h : -m ≤ n ∧ n ≤ m) (hm : 0 ≤ m) : 0 ≤ sq n ∧ sq n ≤ m * m := by
  unfold sq
  refine ⟨?_, ?_⟩
  · rcases Int.le_total 0 n with h0 | h0
    · exact Int.mul_nonneg h0 h0
    · have := Int.mul_nonneg (a := -n) (b := -n) (by omega) (by omega); rwa [Int.neg_mul_neg] at this
  · rcases Int.le_total 0 n with h0 | h0
    · exact Int.mul_le_mul h.2 h.2 h0 hm
    · have := Int.mul_le_mul (a := -n) (b := -n) (c := m) (d := m) (by omega) (by omega) (by omega) hm; rwa [Int.neg_mul_neg] at this

theorem wsub {a b : Int} (ha : coordR a = true) (hb : coordR b = true) : IntKind.i64.wrap (a - b) = a - b := by
  rw [coordR_iff] at ha hb
  exact w64 (by omega)

theorem sq_coord {a b : Int} (ha : coordR a = true) (hb : coordR b = true) : 0 ≤ sq (a - b) ∧ sq (a - b) ≤ 4398046511104 := by
  rw [coordR_iff] at ha hb
  exact sq_bound (m := 2097152) (by omega) (by omega)

theorem far6_pure (a b : Seat) : PureC Try.prog 10 [a.v, b.v] (.lit (.int .i64 (farS a b))) := by
  refine pure_of_gol 38 hm Try.func10 rfl rfl (by decide +kernel) ?_
  simp -implicitDefEqProofs only [Seat.v, steps0, steps1, steps2, steps3, steps4, Nat.reduceAdd, Nat.reduceEqDiff, reduceIte, evBox, Nat.reduceSub, Nat.reducePow, Nat.reduceMul, Int.reduceLT, Int.reduceLE, Int.reduceAdd, Int.reduceToNat, Nat.reduceLT, Nat.reduceLeDiff, Int.reduceEq, Int.reduceNeg, facts]
  repeat' first
    | ((with_reducible refine exl_iscall ?_); refine exl_pure (by kernel_rfl) (coord6_pure _) rfl rfl ?_; simp -implicitDefEqProofs only [steps0, steps1, steps2, steps3, steps4, Nat.reduceAdd, Nat.reduceEqDiff, reduceIte, evBox, Nat.reduceSub, Nat.reducePow, Nat.reduceMul, Int.reduceLT, Int.reduceLE, Int.reduceAdd, Int.reduceToNat, Nat.reduceLT, Nat.reduceLeDiff, Int.reduceEq, Int.reduceNeg, facts, *])
    | ((with_reducible refine exl_iscall ?_); refine exl_pure (by kernel_rfl) (square_pure _ _) rfl rfl ?_; simp -implicitDefEqProofs only [steps0, steps1, steps2, steps3, steps4, Nat.reduceAdd, Nat.reduceEqDiff, reduceIte, evBox, Nat.reduceSub, Nat.reducePow, Nat.reduceMul, Int.reduceLT, Int.reduceLE, Int.reduceAdd, Int.reduceToNat, Nat.reduceLT, Nat.reduceLeDiff, Int.reduceEq, Int.reduceNeg, facts, *])
    | (simp -implicitDefEqProofs only [steps0, steps1, steps2, steps3, steps4, Nat.reduceAdd, Nat.reduceEqDiff, reduceIte, evBox, Nat.reduceSub, Nat.reducePow, Nat.reduceMul, Int.reduceLT, Int.reduceLE, Int.reduceAdd, Int.reduceToNat, Nat.reduceLT, Nat.reduceLeDiff, Int.reduceEq, Int.reduceNeg, facts, *])
    | ((with_reducible refine gdk_split (fun h => ?_) (fun h => ?_)) <;> simp -implicitDefEqProofs only [steps0, steps1, steps2, steps3, steps4, Nat.reduceAdd, Nat.reduceEqDiff, reduceIte, evBox, Nat.reduceSub, Nat.reducePow, Nat.reduceMul, Int.reduceLT, Int.reduceLE, Int.reduceAdd, Int.reduceToNat, Nat.reduceLT, Nat.reduceLeDiff, Int.reduceEq, Int.reduceNeg, facts, *])
    | ((with_reducible refine cdk_split (fun h => ?_) (fun h => ?_)) <;> simp -implicitDefEqProofs only [steps0, steps1, steps2, steps3, steps4, Nat.reduceAdd, Nat.reduceEqDiff, reduceIte, evBox, Nat.reduceSub, Nat.reducePow, Nat.reduceMul, Int.reduceLT, Int.reduceLE, Int.reduceAdd, Int.reduceToNat, Nat.reduceLT, Nat.reduceLeDiff, Int.reduceEq, Int.reduceNeg, facts, *])
    | ((with_reducible refine exl_drawn ?_ ?_); (focus kernel_rfl); simp -implicitDefEqProofs only [steps0, steps1, steps2, steps3, steps4, Nat.reduceAdd, Nat.reduceEqDiff, reduceIte, evBox, Nat.reduceSub, Nat.reducePow, Nat.reduceMul, Int.reduceLT, Int.reduceLE, Int.reduceAdd, Int.reduceToNat, Nat.reduceLT, Nat.reduceLeDiff, Int.reduceEq, Int.reduceNeg, facts, *])
  all_goals refine ends_tmp (d := 4) rfl (.inr rfl) ?_ rfl
  all_goals simp only [Bool.not_eq_true', Bool.not_eq_false'] at *
  all_goals simp [tg, farS, onMap, *]
  rename_i h1 h2 h3
  have h4 : coordR b.y = true := by assumption
  have k1 := sq_coord h1 h3
  have k2 := sq_coord h2 h4
  rw [wsub h1 h3, wsub h2 h4, w64 (n := sq (a.x - b.x)) (by omega), w64 (n := sq (a.y - b.y)) (by omega), w64 (by omega)]

def toI : Nat → Int
  | 0 => 0
  | 1 => 1
  | _ => 2

theorem wrap1 : IntKind.i64.wrap 1 = 1 := by decide +kernel
theorem wrap2 : IntKind.i64.wrap 2 = 2 := by decide +kernel

def farI (a b : Seat) (i : Nat) : Prop := i ≤ 2 ∧ (0 < i → onMap a = true) ∧ (1 < i → onMap b = true)

theorem far_pure (a b : Seat) : PureC Try.prog 9 [a.v, b.v] (.lit (.int .i64 (farS a b))) := by
  refine pure_of_gol 45 hm Try.func9 rfl rfl (by decide +kernel) ?_
  simp -implicitDefEqProofs only [Seat.v, steps0, steps1, steps2, steps3, steps4, Nat.reduceAdd, Nat.reduceEqDiff, reduceIte, evBox, Nat.reduceSub, Nat.reducePow, Nat.reduceMul, Int.reduceLT, Int.reduceLE, Int.reduceAdd, Int.reduceToNat, Nat.reduceLT, Nat.reduceLeDiff, Int.reduceEq, Int.reduceNeg, facts]
  refine gol_loop (fun i : Nat => [.junk, .junk, .ptr 0 0, .ptr 1 0, .lit (.int .i64 0), .junk, .junk, .junk, .junk, .junk, .junk, .ref 2, .lit (.int .i64 2), .lit (.int .i64 (toI i))])
    (fun _ => [some (.box a.v.cells), some (.box b.v.cells), some (.row 28 4 2 (a.v.cells ++ b.v.cells))]) (fun i => 2 - i)
    (farI a b) 0 hm (by decide +kernel) (show farI a b 0 from ⟨by omega, by omega, by omega⟩)
    ⟨[some 0, some 1, some 2], [], by decide, by simp, by (simp [intoT, renF, wks, toI, Seat.v, V.cells]; done), by (simp [intoO, oneO, og, renF, owks, tree_ints, toI, Seat.v, V.cells]; done)⟩ ?_
  rintro i ⟨hi, hp, hq⟩
  rcases (show i = 0 ∨ i = 1 ∨ i = 2 by omega) with rfl | rfl | rfl
  · clear hp hq hi
    simp -implicitDefEqProofs only [steps0, steps1, steps2, steps3, steps4, Nat.reduceAdd, Nat.reduceEqDiff, reduceIte, evBox, Nat.reduceSub, Nat.reducePow, Nat.reduceMul, Int.reduceLT, Int.reduceLE, Int.reduceAdd, Int.reduceToNat, Nat.reduceLT, Nat.reduceLeDiff, Int.reduceEq, Int.reduceNeg, facts, toI, Seat.v]
    repeat' first
      | ((with_reducible refine exl_iscall ?_); refine exl_pure (by kernel_rfl) (coord_pure _) rfl rfl ?_; simp -implicitDefEqProofs only [steps0, steps1, steps2, steps3, steps4, Nat.reduceAdd, Nat.reduceEqDiff, reduceIte, evBox, Nat.reduceSub, Nat.reducePow, Nat.reduceMul, Int.reduceLT, Int.reduceLE, Int.reduceAdd, Int.reduceToNat, Nat.reduceLT, Nat.reduceLeDiff, Int.reduceEq, Int.reduceNeg, facts, wrap1, wrap2, *])
      | (simp -implicitDefEqProofs only [steps0, steps1, steps2, steps3, steps4, Nat.reduceAdd, Nat.reduceEqDiff, reduceIte, evBox, Nat.reduceSub, Nat.reducePow, Nat.reduceMul, Int.reduceLT, Int.reduceLE, Int.reduceAdd, Int.reduceToNat, Nat.reduceLT, Nat.reduceLeDiff, Int.reduceEq, Int.reduceNeg, facts, wrap1, wrap2, *])
      | ((with_reducible refine gdk_split (fun h => ?_) (fun h => ?_)) <;> simp -implicitDefEqProofs only [steps0, steps1, steps2, steps3, steps4, Nat.reduceAdd, Nat.reduceEqDiff, reduceIte, evBox, Nat.reduceSub, Nat.reducePow, Nat.reduceMul, Int.reduceLT, Int.reduceLE, Int.reduceAdd, Int.reduceToNat, Nat.reduceLT, Nat.reduceLeDiff, Int.reduceEq, Int.reduceNeg, facts, wrap1, wrap2, *])
      | ((with_reducible refine cdk_split (fun h => ?_) (fun h => ?_)) <;> simp -implicitDefEqProofs only [steps0, steps1, steps2, steps3, steps4, Nat.reduceAdd, Nat.reduceEqDiff, reduceIte, evBox, Nat.reduceSub, Nat.reducePow, Nat.reduceMul, Int.reduceLT, Int.reduceLE, Int.reduceAdd, Int.reduceToNat, Nat.reduceLT, Nat.reduceLeDiff, Int.reduceEq, Int.reduceNeg, facts, wrap1, wrap2, *])
      | ((with_reducible refine exl_drawn ?_ ?_); (focus kernel_rfl); simp -implicitDefEqProofs only [steps0, steps1, steps2, steps3, steps4, Nat.reduceAdd, Nat.reduceEqDiff, reduceIte, evBox, Nat.reduceSub, Nat.reducePow, Nat.reduceMul, Int.reduceLT, Int.reduceLE, Int.reduceAdd, Int.reduceToNat, Nat.reduceLT, Nat.reduceLeDiff, Int.reduceEq, Int.reduceNeg, facts, wrap1, wrap2, *])
    all_goals first
      | (refine bkl_again 1 (show farI a b 1 from ⟨by omega, fun _ => ?_, by omega⟩) (by omega) ⟨[some 0, some 1, some 2], [], by decide, by simp, by (simp [intoT, renF, wks, toI, Seat.v, V.cells]; done), by (simp [intoO, oneO, og, renF, owks, tree_ints, toI, Seat.v, V.cells]; done)⟩
         simp_all [onMap])
      | exact ends_tmp (d := 4) rfl (.inr rfl) (by simp_all [tg, farS, onMap]) rfl
  · have ha := hp (by omega)
    clear hp hq hi
    simp -implicitDefEqProofs only [steps0, steps1, steps2, steps3, steps4, Nat.reduceAdd, Nat.reduceEqDiff, reduceIte, evBox, Nat.reduceSub, Nat.reducePow, Nat.reduceMul, Int.reduceLT, Int.reduceLE, Int.reduceAdd, Int.reduceToNat, Nat.reduceLT, Nat.reduceLeDiff, Int.reduceEq, Int.reduceNeg, facts, toI, Seat.v]
    repeat' first
      | ((with_reducible refine exl_iscall ?_); refine exl_pure (by kernel_rfl) (coord_pure _) rfl rfl ?_; simp -implicitDefEqProofs only [steps0, steps1, steps2, steps3, steps4, Nat.reduceAdd, Nat.reduceEqDiff, reduceIte, evBox, Nat.reduceSub, Nat.reducePow, Nat.reduceMul, Int.reduceLT, Int.reduceLE, Int.reduceAdd, Int.reduceToNat, Nat.reduceLT, Nat.reduceLeDiff, Int.reduceEq, Int.reduceNeg, facts, wrap1, wrap2, *])
      | (simp -implicitDefEqProofs only [steps0, steps1, steps2, steps3, steps4, Nat.reduceAdd, Nat.reduceEqDiff, reduceIte, evBox, Nat.reduceSub, Nat.reducePow, Nat.reduceMul, Int.reduceLT, Int.reduceLE, Int.reduceAdd, Int.reduceToNat, Nat.reduceLT, Nat.reduceLeDiff, Int.reduceEq, Int.reduceNeg, facts, wrap1, wrap2, *])
      | ((with_reducible refine gdk_split (fun h => ?_) (fun h => ?_)) <;> simp -implicitDefEqProofs only [steps0, steps1, steps2, steps3, steps4, Nat.reduceAdd, Nat.reduceEqDiff, reduceIte, evBox, Nat.reduceSub, Nat.reducePow, Nat.reduceMul, Int.reduceLT, Int.reduceLE, Int.reduceAdd, Int.reduceToNat, Nat.reduceLT, Nat.reduceLeDiff, Int.reduceEq, Int.reduceNeg, facts, wrap1, wrap2, *])
      | ((with_reducible refine cdk_split (fun h => ?_) (fun h => ?_)) <;> simp -implicitDefEqProofs only [steps0, steps1, steps2, steps3, steps4, Nat.reduceAdd, Nat.reduceEqDiff, reduceIte, evBox, Nat.reduceSub, Nat.reducePow, Nat.reduceMul, Int.reduceLT, Int.reduceLE, Int.reduceAdd, Int.reduceToNat, Nat.reduceLT, Nat.reduceLeDiff, Int.reduceEq, Int.reduceNeg, facts, wrap1, wrap2, *])
      | ((with_reducible refine exl_drawn ?_ ?_); (focus kernel_rfl); simp -implicitDefEqProofs only [steps0, steps1, steps2, steps3, steps4, Nat.reduceAdd, Nat.reduceEqDiff, reduceIte, evBox, Nat.reduceSub, Nat.reducePow, Nat.reduceMul, Int.reduceLT, Int.reduceLE, Int.reduceAdd, Int.reduceToNat, Nat.reduceLT, Nat.reduceLeDiff, Int.reduceEq, Int.reduceNeg, facts, wrap1, wrap2, *])
    all_goals first
      | (refine bkl_again 2 (show farI a b 2 from ⟨by omega, fun _ => ha, fun _ => ?_⟩) (by omega) ⟨[some 0, some 1, some 2], [], by decide, by simp, by (simp [intoT, renF, wks, toI, Seat.v, V.cells]; done), by (simp [intoO, oneO, og, renF, owks, tree_ints, toI, Seat.v, V.cells]; done)⟩
         simp only [Bool.not_eq_false'] at *
         simp [onMap, *])
      | exact ends_tmp (d := 4) rfl (.inr rfl) (by simp_all [tg, farS, onMap]) rfl
  · have ha := hp (by omega)
    have hb := hq (by omega)
    clear hp hq hi
    simp -implicitDefEqProofs only [steps0, steps1, steps2, steps3, steps4, Nat.reduceAdd, Nat.reduceEqDiff, reduceIte, evBox, Nat.reduceSub, Nat.reducePow, Nat.reduceMul, Int.reduceLT, Int.reduceLE, Int.reduceAdd, Int.reduceToNat, Nat.reduceLT, Nat.reduceLeDiff, Int.reduceEq, Int.reduceNeg, facts, toI, Seat.v]
    repeat' first
      | (simp -implicitDefEqProofs only [steps0, steps1, steps2, steps3, steps4, Nat.reduceAdd, Nat.reduceEqDiff, reduceIte, evBox, Nat.reduceSub, Nat.reducePow, Nat.reduceMul, Int.reduceLT, Int.reduceLE, Int.reduceAdd, Int.reduceToNat, Nat.reduceLT, Nat.reduceLeDiff, Int.reduceEq, Int.reduceNeg, facts, wrap1, wrap2, *])
      | ((with_reducible refine gdk_split (fun h => ?_) (fun h => ?_)) <;> simp -implicitDefEqProofs only [steps0, steps1, steps2, steps3, steps4, Nat.reduceAdd, Nat.reduceEqDiff, reduceIte, evBox, Nat.reduceSub, Nat.reducePow, Nat.reduceMul, Int.reduceLT, Int.reduceLE, Int.reduceAdd, Int.reduceToNat, Nat.reduceLT, Nat.reduceLeDiff, Int.reduceEq, Int.reduceNeg, facts, wrap1, wrap2, *])
      | ((with_reducible refine cdk_split (fun h => ?_) (fun h => ?_)) <;> simp -implicitDefEqProofs only [steps0, steps1, steps2, steps3, steps4, Nat.reduceAdd, Nat.reduceEqDiff, reduceIte, evBox, Nat.reduceSub, Nat.reducePow, Nat.reduceMul, Int.reduceLT, Int.reduceLE, Int.reduceAdd, Int.reduceToNat, Nat.reduceLT, Nat.reduceLeDiff, Int.reduceEq, Int.reduceNeg, facts, wrap1, wrap2, *])
      | ((with_reducible refine exl_drawn ?_ ?_); (focus kernel_rfl); simp -implicitDefEqProofs only [steps0, steps1, steps2, steps3, steps4, Nat.reduceAdd, Nat.reduceEqDiff, reduceIte, evBox, Nat.reduceSub, Nat.reducePow, Nat.reduceMul, Int.reduceLT, Int.reduceLE, Int.reduceAdd, Int.reduceToNat, Nat.reduceLT, Nat.reduceLeDiff, Int.reduceEq, Int.reduceNeg, facts, wrap1, wrap2, *])
    have ha' := ha
    have hb' := hb
    simp only [onMap, Bool.and_eq_true] at ha' hb'
    have k1 := sq_coord ha'.1 hb'.1
    have k2 := sq_coord ha'.2 hb'.2
    refine ends_tmp (d := 4) rfl (.inr rfl) ?_ rfl
    simp only [tg, wsub ha'.1 hb'.1, wsub ha'.2 hb'.2, farS, ha, hb, Bool.and_self, if_true]
    rw [show (a.x - b.x) * (a.x - b.x) = sq (a.x - b.x) from rfl, show (a.y - b.y) * (a.y - b.y) = sq (a.y - b.y) from rfl, w64 (n := sq (a.x - b.x)) (by omega), w64 (n := sq (a.y - b.y)) (by omega), w64 (by omega)]

theorem close_pure (a b : Seat) (r : Int) : PureC Try.prog 25 [a.v, b.v, .lit (.int .i64 r)] (.lit (.bool (decide (farS a b < IntKind.i64.wrap (r * r))))) := by
  refine pure_of_gol 14 hm Try.func25 rfl rfl (by decide +kernel) ?_
  simp -implicitDefEqProofs only [Seat.v, steps0, steps1, steps2, steps3, steps4, Nat.reduceAdd, Nat.reduceEqDiff, reduceIte, evBox, Nat.reduceSub, Nat.reducePow, Nat.reduceMul, Int.reduceLT, Int.reduceLE, Int.reduceAdd, Int.reduceToNat, Nat.reduceLT, Nat.reduceLeDiff, Int.reduceEq, Int.reduceNeg, facts]
  repeat' first
    | ((with_reducible refine exl_iscall ?_); refine exl_pure (by kernel_rfl) (far_pure a b) rfl rfl ?_; simp -implicitDefEqProofs only [steps0, steps1, steps2, steps3, steps4, Nat.reduceAdd, Nat.reduceEqDiff, reduceIte, evBox, Nat.reduceSub, Nat.reducePow, Nat.reduceMul, Int.reduceLT, Int.reduceLE, Int.reduceAdd, Int.reduceToNat, Nat.reduceLT, Nat.reduceLeDiff, Int.reduceEq, Int.reduceNeg, facts, *])
    | (simp -implicitDefEqProofs only [steps0, steps1, steps2, steps3, steps4, Nat.reduceAdd, Nat.reduceEqDiff, reduceIte, evBox, Nat.reduceSub, Nat.reducePow, Nat.reduceMul, Int.reduceLT, Int.reduceLE, Int.reduceAdd, Int.reduceToNat, Nat.reduceLT, Nat.reduceLeDiff, Int.reduceEq, Int.reduceNeg, facts, *])
    | ((with_reducible refine gdk_split (fun h => ?_) (fun h => ?_)) <;> simp -implicitDefEqProofs only [steps0, steps1, steps2, steps3, steps4, Nat.reduceAdd, Nat.reduceEqDiff, reduceIte, evBox, Nat.reduceSub, Nat.reducePow, Nat.reduceMul, Int.reduceLT, Int.reduceLE, Int.reduceAdd, Int.reduceToNat, Nat.reduceLT, Nat.reduceLeDiff, Int.reduceEq, Int.reduceNeg, facts, *])
    | ((with_reducible refine cdk_split (fun h => ?_) (fun h => ?_)) <;> simp -implicitDefEqProofs only [steps0, steps1, steps2, steps3, steps4, Nat.reduceAdd, Nat.reduceEqDiff, reduceIte, evBox, Nat.reduceSub, Nat.reducePow, Nat.reduceMul, Int.reduceLT, Int.reduceLE, Int.reduceAdd, Int.reduceToNat, Nat.reduceLT, Nat.reduceLeDiff, Int.reduceEq, Int.reduceNeg, facts, *])
    | ((with_reducible refine exl_drawn ?_ ?_); (focus kernel_rfl); simp -implicitDefEqProofs only [steps0, steps1, steps2, steps3, steps4, Nat.reduceAdd, Nat.reduceEqDiff, reduceIte, evBox, Nat.reduceSub, Nat.reducePow, Nat.reduceMul, Int.reduceLT, Int.reduceLE, Int.reduceAdd, Int.reduceToNat, Nat.reduceLT, Nat.reduceLeDiff, Int.reduceEq, Int.reduceNeg, facts, *])
  all_goals exact ends_tmp (d := 6) rfl (.inr rfl) (by simp [tg]) rfl

end Go.Proofs.Ytehdpfhpiplbgaa
