/-
  GeomFar: distances are the same both ways, nothing just at one place, and no way is longer than by a third place.
-/
import Derived.Test.YtehdpfhpiplbgaaTold
namespace Go.Proofs.Ytehdpfhpiplbgaa
open Go.AV
set_option linter.unusedSimpArgs false
set_option linter.unusedVariables false

theorem sq_nonneg (n : Int) : 0 ≤ sq n := (sq_bound (m := if 0 ≤ n then n else -n) (by split <;> omega) (by split <;> omega)).1

theorem sq_tri (p q : Int) : sq (p + q) ≤ 2 * (sq p + sq q) := by
  have h := sq_nonneg (p - q)
  have e : sq (p + q) + sq (p - q) = 2 * (sq p + sq q) := by simp only [sq, Int.add_mul, Int.mul_add, Int.sub_mul, Int.mul_sub]; omega
  omega

theorem sq_zero {n : Int} (h : sq n = 0) : n = 0 := by
  unfold sq at h
  rcases Int.mul_eq_zero.1 h with h | h <;> exact h

theorem fit_map (s : Seat) : onMap (fitS s) = true := by
  have h1 := fitI_eq s.x
  have h2 := fitI_eq s.y
  simp only [onMap, Bool.and_eq_true, coordR_iff, fitS]
  omega

theorem far_fit (a b : Seat) (ha : onMap a = true) (hb : onMap b = true) : farS a b = sq (a.x - b.x) + sq (a.y - b.y) ∧ 0 ≤ farS a b ∧ farS a b ≤ 8796093022208 := by
  have e : farS a b = sq (a.x - b.x) + sq (a.y - b.y) := by simp [farS, ha, hb]
  simp only [onMap, Bool.and_eq_true] at ha hb
  have k1 := sq_coord ha.1 hb.1
  have k2 := sq_coord ha.2 hb.2
  exact ⟨e, by omega, by omega⟩

theorem far_sym (a b : Seat) (ha : onMap a = true) (hb : onMap b = true) : farS b a = farS a b := by
  rw [(far_fit a b ha hb).1, (far_fit b a hb ha).1]
  simp only [sq, Int.add_mul, Int.mul_add, Int.sub_mul, Int.mul_sub]; omega

theorem far_zero (a b : Seat) (ha : onMap a = true) (hb : onMap b = true) : (farS a b == 0) = ((a.x == b.x) && (a.y == b.y)) := by
  rw [(far_fit a b ha hb).1, Bool.eq_iff_iff]
  simp only [beq_iff_eq, Bool.and_eq_true]
  have h1 := sq_nonneg (a.x - b.x)
  have h2 := sq_nonneg (a.y - b.y)
  constructor
  · intro h
    have := sq_zero (n := a.x - b.x) (by omega)
    have := sq_zero (n := a.y - b.y) (by omega)
    omega
  · rintro ⟨h3, h4⟩
    rw [h3, h4]
    simp [sq]

theorem far_tri (a b c : Seat) (ha : onMap a = true) (hb : onMap b = true) (hc : onMap c = true) : farS a c ≤ 2 * (farS a b + farS b c) := by
  rw [(far_fit a b ha hb).1, (far_fit b c hb hc).1, (far_fit a c ha hc).1]
  have h1 := sq_tri (a.x - b.x) (b.x - c.x)
  have h2 := sq_tri (a.y - b.y) (b.y - c.y)
  rw [show a.x - b.x + (b.x - c.x) = a.x - c.x by omega] at h1
  rw [show a.y - b.y + (b.y - c.y) = a.y - c.y by omega] at h2
  omega

set_option maxHeartbeats 4000000 in
theorem lawFar_pure (a b c : Seat) : PureC Try.prog 4 [a.v, b.v, c.v] (.lit (.bool true)) := by
  have fa := fit_map a
  have fb := fit_map b
  have fc := fit_map c
  have pa := fit_pure a
  have pb := fit_pure b
  have pc := fit_pure c
  generalize fitS a = x at fa pa
  generalize fitS b = y at fb pb
  generalize fitS c = z at fc pc
  have h1 := far_fit x y fa fb
  have h2 := far_fit y z fb fc
  have w1 : IntKind.i64.wrap (farS x y + farS y z) = farS x y + farS y z := w64 (by omega)
  have w2 : IntKind.i64.wrap (2 * (farS x y + farS y z)) = 2 * (farS x y + farS y z) := w64 (by omega)
  have d1 : decide (0 ≤ farS x y) = true := by simp; omega
  have d2 : decide (farS x z ≤ 2 * (farS x y + farS y z)) = true := by simpa using far_tri x y z fa fb fc
  have s1 := far_sym x y fa fb
  have z1 := far_zero x y fa fb
  clear h1 h2 fa fb fc
  refine pure_of_gol 65 hm Try.func4 rfl rfl (by decide +kernel) ?_
  simp -implicitDefEqProofs only [Seat.v, steps0, steps1, steps2, steps3, steps4, Nat.reduceAdd, Nat.reduceEqDiff, reduceIte, evBox, Nat.reduceSub, Nat.reducePow, Nat.reduceMul, Int.reduceLT, Int.reduceLE, Int.reduceAdd, Int.reduceToNat, Nat.reduceLT, Nat.reduceLeDiff, Int.reduceEq, Int.reduceNeg, facts]
  repeat' first
    | ((with_reducible refine exl_iscall ?_); refine exl_pure (by kernel_rfl) (pa) rfl rfl ?_; simp -implicitDefEqProofs only [steps0, steps1, steps2, steps3, steps4, Nat.reduceAdd, Nat.reduceEqDiff, reduceIte, evBox, Nat.reduceSub, Nat.reducePow, Nat.reduceMul, Int.reduceLT, Int.reduceLE, Int.reduceAdd, Int.reduceToNat, Nat.reduceLT, Nat.reduceLeDiff, Int.reduceEq, Int.reduceNeg, facts, Seat.v, beq_self_eq_true, *])
    | ((with_reducible refine exl_iscall ?_); refine exl_pure (by kernel_rfl) (pb) rfl rfl ?_; simp -implicitDefEqProofs only [steps0, steps1, steps2, steps3, steps4, Nat.reduceAdd, Nat.reduceEqDiff, reduceIte, evBox, Nat.reduceSub, Nat.reducePow, Nat.reduceMul, Int.reduceLT, Int.reduceLE, Int.reduceAdd, Int.reduceToNat, Nat.reduceLT, Nat.reduceLeDiff, Int.reduceEq, Int.reduceNeg, facts, Seat.v, beq_self_eq_true, *])
    | ((with_reducible refine exl_iscall ?_); refine exl_pure (by kernel_rfl) (pc) rfl rfl ?_; simp -implicitDefEqProofs only [steps0, steps1, steps2, steps3, steps4, Nat.reduceAdd, Nat.reduceEqDiff, reduceIte, evBox, Nat.reduceSub, Nat.reducePow, Nat.reduceMul, Int.reduceLT, Int.reduceLE, Int.reduceAdd, Int.reduceToNat, Nat.reduceLT, Nat.reduceLeDiff, Int.reduceEq, Int.reduceNeg, facts, Seat.v, beq_self_eq_true, *])
    | ((with_reducible refine exl_iscall ?_); refine exl_pure (by kernel_rfl) (far_pure x y) rfl rfl ?_; simp -implicitDefEqProofs only [steps0, steps1, steps2, steps3, steps4, Nat.reduceAdd, Nat.reduceEqDiff, reduceIte, evBox, Nat.reduceSub, Nat.reducePow, Nat.reduceMul, Int.reduceLT, Int.reduceLE, Int.reduceAdd, Int.reduceToNat, Nat.reduceLT, Nat.reduceLeDiff, Int.reduceEq, Int.reduceNeg, facts, Seat.v, beq_self_eq_true, *])
    | ((with_reducible refine exl_iscall ?_); refine exl_pure (by kernel_rfl) (far_pure y z) rfl rfl ?_; simp -implicitDefEqProofs only [steps0, steps1, steps2, steps3, steps4, Nat.reduceAdd, Nat.reduceEqDiff, reduceIte, evBox, Nat.reduceSub, Nat.reducePow, Nat.reduceMul, Int.reduceLT, Int.reduceLE, Int.reduceAdd, Int.reduceToNat, Nat.reduceLT, Nat.reduceLeDiff, Int.reduceEq, Int.reduceNeg, facts, Seat.v, beq_self_eq_true, *])
    | ((with_reducible refine exl_iscall ?_); refine exl_pure (by kernel_rfl) (far_pure x z) rfl rfl ?_; simp -implicitDefEqProofs only [steps0, steps1, steps2, steps3, steps4, Nat.reduceAdd, Nat.reduceEqDiff, reduceIte, evBox, Nat.reduceSub, Nat.reducePow, Nat.reduceMul, Int.reduceLT, Int.reduceLE, Int.reduceAdd, Int.reduceToNat, Nat.reduceLT, Nat.reduceLeDiff, Int.reduceEq, Int.reduceNeg, facts, Seat.v, beq_self_eq_true, *])
    | ((with_reducible refine exl_iscall ?_); refine exl_pure (by kernel_rfl) (far_pure y x) rfl rfl ?_; simp -implicitDefEqProofs only [steps0, steps1, steps2, steps3, steps4, Nat.reduceAdd, Nat.reduceEqDiff, reduceIte, evBox, Nat.reduceSub, Nat.reducePow, Nat.reduceMul, Int.reduceLT, Int.reduceLE, Int.reduceAdd, Int.reduceToNat, Nat.reduceLT, Nat.reduceLeDiff, Int.reduceEq, Int.reduceNeg, facts, Seat.v, beq_self_eq_true, *])
    | ((with_reducible refine exl_iscall ?_); refine exl_pure (by kernel_rfl) (told_pure) rfl rfl ?_; simp -implicitDefEqProofs only [steps0, steps1, steps2, steps3, steps4, Nat.reduceAdd, Nat.reduceEqDiff, reduceIte, evBox, Nat.reduceSub, Nat.reducePow, Nat.reduceMul, Int.reduceLT, Int.reduceLE, Int.reduceAdd, Int.reduceToNat, Nat.reduceLT, Nat.reduceLeDiff, Int.reduceEq, Int.reduceNeg, facts, Seat.v, beq_self_eq_true, *])
    | (simp -implicitDefEqProofs only [steps0, steps1, steps2, steps3, steps4, Nat.reduceAdd, Nat.reduceEqDiff, reduceIte, evBox, Nat.reduceSub, Nat.reducePow, Nat.reduceMul, Int.reduceLT, Int.reduceLE, Int.reduceAdd, Int.reduceToNat, Nat.reduceLT, Nat.reduceLeDiff, Int.reduceEq, Int.reduceNeg, facts, Seat.v, beq_self_eq_true, *])
    | ((with_reducible refine gdk_split (fun h => ?_) (fun h => ?_)) <;> simp -implicitDefEqProofs only [steps0, steps1, steps2, steps3, steps4, Nat.reduceAdd, Nat.reduceEqDiff, reduceIte, evBox, Nat.reduceSub, Nat.reducePow, Nat.reduceMul, Int.reduceLT, Int.reduceLE, Int.reduceAdd, Int.reduceToNat, Nat.reduceLT, Nat.reduceLeDiff, Int.reduceEq, Int.reduceNeg, facts, Seat.v, beq_self_eq_true, *])
    | ((with_reducible refine cdk_split (fun h => ?_) (fun h => ?_)) <;> simp -implicitDefEqProofs only [steps0, steps1, steps2, steps3, steps4, Nat.reduceAdd, Nat.reduceEqDiff, reduceIte, evBox, Nat.reduceSub, Nat.reducePow, Nat.reduceMul, Int.reduceLT, Int.reduceLE, Int.reduceAdd, Int.reduceToNat, Nat.reduceLT, Nat.reduceLeDiff, Int.reduceEq, Int.reduceNeg, facts, Seat.v, beq_self_eq_true, *])
    | ((with_reducible refine exl_drawn ?_ ?_); (focus kernel_rfl); simp -implicitDefEqProofs only [steps0, steps1, steps2, steps3, steps4, Nat.reduceAdd, Nat.reduceEqDiff, reduceIte, evBox, Nat.reduceSub, Nat.reducePow, Nat.reduceMul, Int.reduceLT, Int.reduceLE, Int.reduceAdd, Int.reduceToNat, Nat.reduceLT, Nat.reduceLeDiff, Int.reduceEq, Int.reduceNeg, facts, Seat.v, beq_self_eq_true, *])
  all_goals first
    | (exfalso; rename_i h; simp at h; done)
    | exact ends_tmp (d := 6) rfl (.inr rfl) (by simp [tg]) rfl

end Go.Proofs.Ytehdpfhpiplbgaa
