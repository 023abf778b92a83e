/-
  What a venue's parts must meet: both tellings.
-/
import Derived.Test.YtehdpfhpiplbgaaInts
namespace Go.Proofs.Ytehdpfhpiplbgaa
open Go.AV
set_option linter.unusedSimpArgs false
set_option linter.unusedVariables false

def seatS (s : Seat) : Bool := inR s.row 0 999 && coordR s.x && coordR s.y && inR s.kind 0 2

theorem seat_pure (s : Seat) : PureC Try.prog 41 [s.v] (.lit (.bool (seatS s))) := by
  refine pure_of_gol 24 hm Try.func41 rfl rfl (by decide +kernel) ?_
  simp -implicitDefEqProofs only [Seat.v, steps0, steps1, steps2, steps3, steps4, Nat.reduceAdd, Nat.reduceEqDiff, reduceIte, evBox, Nat.reduceSub, Nat.reducePow, Nat.reduceMul, Int.reduceLT, Int.reduceLE, Int.reduceAdd, Int.reduceToNat, Nat.reduceLT, Nat.reduceLeDiff, Int.reduceEq, Int.reduceNeg, facts]
  repeat' first
    | ((with_reducible refine exl_iscall ?_); refine exl_pure (by kernel_rfl) (row_pure _) rfl rfl ?_; simp -implicitDefEqProofs only [steps0, steps1, steps2, steps3, steps4, Nat.reduceAdd, Nat.reduceEqDiff, reduceIte, evBox, Nat.reduceSub, Nat.reducePow, Nat.reduceMul, Int.reduceLT, Int.reduceLE, Int.reduceAdd, Int.reduceToNat, Nat.reduceLT, Nat.reduceLeDiff, Int.reduceEq, Int.reduceNeg, facts, *])
    | ((with_reducible refine exl_iscall ?_); refine exl_pure (by kernel_rfl) (coord_pure _) rfl rfl ?_; simp -implicitDefEqProofs only [steps0, steps1, steps2, steps3, steps4, Nat.reduceAdd, Nat.reduceEqDiff, reduceIte, evBox, Nat.reduceSub, Nat.reducePow, Nat.reduceMul, Int.reduceLT, Int.reduceLE, Int.reduceAdd, Int.reduceToNat, Nat.reduceLT, Nat.reduceLeDiff, Int.reduceEq, Int.reduceNeg, facts, *])
    | (simp -implicitDefEqProofs only [steps0, steps1, steps2, steps3, steps4, Nat.reduceAdd, Nat.reduceEqDiff, reduceIte, evBox, Nat.reduceSub, Nat.reducePow, Nat.reduceMul, Int.reduceLT, Int.reduceLE, Int.reduceAdd, Int.reduceToNat, Nat.reduceLT, Nat.reduceLeDiff, Int.reduceEq, Int.reduceNeg, facts, *])
    | ((with_reducible refine gdk_split (fun h => ?_) (fun h => ?_)) <;> simp -implicitDefEqProofs only [steps0, steps1, steps2, steps3, steps4, Nat.reduceAdd, Nat.reduceEqDiff, reduceIte, evBox, Nat.reduceSub, Nat.reducePow, Nat.reduceMul, Int.reduceLT, Int.reduceLE, Int.reduceAdd, Int.reduceToNat, Nat.reduceLT, Nat.reduceLeDiff, Int.reduceEq, Int.reduceNeg, facts, *])
    | ((with_reducible refine cdk_split (fun h => ?_) (fun h => ?_)) <;> simp -implicitDefEqProofs only [steps0, steps1, steps2, steps3, steps4, Nat.reduceAdd, Nat.reduceEqDiff, reduceIte, evBox, Nat.reduceSub, Nat.reducePow, Nat.reduceMul, Int.reduceLT, Int.reduceLE, Int.reduceAdd, Int.reduceToNat, Nat.reduceLT, Nat.reduceLeDiff, Int.reduceEq, Int.reduceNeg, facts, *])
    | ((with_reducible refine exl_drawn ?_ ?_); (focus kernel_rfl); simp -implicitDefEqProofs only [steps0, steps1, steps2, steps3, steps4, Nat.reduceAdd, Nat.reduceEqDiff, reduceIte, evBox, Nat.reduceSub, Nat.reducePow, Nat.reduceMul, Int.reduceLT, Int.reduceLE, Int.reduceAdd, Int.reduceToNat, Nat.reduceLT, Nat.reduceLeDiff, Int.reduceEq, Int.reduceNeg, facts, *])
  all_goals refine ends_tmp (d := 2) rfl (.inr rfl) ?_ rfl
  all_goals simp only [beq_iff_eq, beq_eq_false_iff_ne, ne_eq] at *
  all_goals simp [tg, seatS, *]
  all_goals (try simp [inR, *])
  all_goals (intros; omega)

def seatAt (l : List Seat) (j : Nat) : Bool :=
  match l[j]? with
  | none => true
  | some s => seatS s && (j == 0 || (match l[j - 1]? with | some r => lessS r s | none => true))

def allB (n : Nat) (p : Nat → Bool) : Bool := (List.range n).all p

theorem allB_true {n : Nat} {p : Nat → Bool} (h : ∀ j, j < n → p j = true) : allB n p = true := by simpa [allB] using h
theorem allB_false {n j : Nat} {p : Nat → Bool} (hj : j < n) (h : p j = false) : allB n p = false := by
  cases hb : allB n p with
  | false => rfl
  | true => rw [allB, List.all_eq_true] at hb; rw [hb j (by simpa using hj)] at h; cases h

def seatsB (l : List Seat) : Bool := allB l.length (seatAt l) && (decide (0 < (l.length : Int)) && decide ((l.length : Int) ≤ 4096))

theorem seatAt_eq {l : List Seat} {i : Nat} {s r : Seat} (hs : l[i]? = some s) (hr : decide (0 < (i : Int)) = true → l[i - 1]? = some r) : seatAt l i = (seatS s && (!decide (0 < (i : Int)) || lessS r s)) := by
  unfold seatAt
  rw [hs]
  by_cases h : 0 < i
  · have h' : decide (0 < (i : Int)) = true := by simpa using h
    simp only [hr h', h']
    have : (i == 0) = false := by simp; omega
    simp [this]
  · have h' : i = 0 := by omega
    subst h'
    simp

theorem seats_pure (l : List Seat) : PureC Try.prog 36 [.lst 4 (l.map Seat.v)] (.lit (.bool (seatsB l))) := by
  refine pure_lst 0 rfl fun hlen => ?_
  rw [List.length_map] at hlen
  refine pure_of_gol 38 hm Try.func36 rfl rfl (by decide +kernel) ?_
  simp -implicitDefEqProofs only [steps0, steps1, steps2, steps3, steps4, Nat.reduceAdd, Nat.reduceEqDiff, reduceIte, evBox, Nat.reduceSub, Nat.reducePow, Nat.reduceMul, Int.reduceLT, Int.reduceLE, Int.reduceAdd, Int.reduceToNat, Nat.reduceLT, Nat.reduceLeDiff, Int.reduceEq, Int.reduceNeg, facts, List.length_map]
  refine gol_loop (fun i : Nat => [.lst 4 (l.map Seat.v), .junk, .lit (.bool false), .junk, .junk, .lst 4 (l.map Seat.v), .lit (.int .i64 l.length), .lit (.int .i64 i)]) (fun _ => []) (fun i => l.length - i)
    (fun i => i ≤ l.length ∧ ∀ j, j < i → seatAt l j = true) 0 hm (by decide +kernel) ⟨Nat.zero_le _, by simp⟩ ⟨[], [], by decide, by simp, by (simp [intoT, renF, wks]; done), by (simp [intoO, oneO, og, renF, owks, tree_ints]; done)⟩ ?_
  rintro i ⟨hi, hp⟩
  simp -implicitDefEqProofs only [steps0, steps1, steps2, steps3, steps4, Nat.reduceAdd, Nat.reduceEqDiff, reduceIte, evBox, Nat.reduceSub, Nat.reducePow, Nat.reduceMul, Int.reduceLT, Int.reduceLE, Int.reduceAdd, Int.reduceToNat, Nat.reduceLT, Nat.reduceLeDiff, Int.reduceEq, Int.reduceNeg, facts]
  by_cases hlt : i < l.length
  · obtain ⟨s, hs⟩ : ∃ s, l[i]? = some s := ⟨l[i], by simp [hlt]⟩
    obtain ⟨r, hr⟩ : ∃ r, decide (0 < (i : Int)) = true → l[i - 1]? = some r := ⟨l[i - 1], fun _ => by simp⟩
    have hA := seatAt_eq hs hr
    have e0 : decide ((i : Int) < (l.length : Int)) = true := by simp; omega
    have e1 : IntKind.i64.wrap ((i : Int) + 1) = ((i + 1 : Nat) : Int) := by rw [w64 (by omega)]; omega
    have e2 : decide (0 < (i : Int)) = true → IntKind.i64.wrap ((i : Int) - 1) = ((i - 1 : Nat) : Int) := fun h => by simp at h; rw [w64 (by omega)]; omega
    simp -implicitDefEqProofs only [steps0, steps1, steps2, steps3, steps4, Nat.reduceAdd, Nat.reduceEqDiff, reduceIte, evBox, Nat.reduceSub, Nat.reducePow, Nat.reduceMul, Int.reduceLT, Int.reduceLE, Int.reduceAdd, Int.reduceToNat, Nat.reduceLT, Nat.reduceLeDiff, Int.reduceEq, Int.reduceNeg, facts, e0, hs, List.getElem?_map, Seat.v]
    repeat' first
      | ((with_reducible refine exl_iscall ?_); refine exl_pure (by kernel_rfl) (seat_pure _) rfl rfl ?_; simp -implicitDefEqProofs only [steps0, steps1, steps2, steps3, steps4, Nat.reduceAdd, Nat.reduceEqDiff, reduceIte, evBox, Nat.reduceSub, Nat.reducePow, Nat.reduceMul, Int.reduceLT, Int.reduceLE, Int.reduceAdd, Int.reduceToNat, Nat.reduceLT, Nat.reduceLeDiff, Int.reduceEq, Int.reduceNeg, facts, e1, e2, hs, hr, List.getElem?_map, List.length_map, Seat.v, *])
      | ((with_reducible refine exl_iscall ?_); refine exl_pure (by kernel_rfl) (less_pure _ _) rfl rfl ?_; simp -implicitDefEqProofs only [steps0, steps1, steps2, steps3, steps4, Nat.reduceAdd, Nat.reduceEqDiff, reduceIte, evBox, Nat.reduceSub, Nat.reducePow, Nat.reduceMul, Int.reduceLT, Int.reduceLE, Int.reduceAdd, Int.reduceToNat, Nat.reduceLT, Nat.reduceLeDiff, Int.reduceEq, Int.reduceNeg, facts, e1, e2, hs, hr, List.getElem?_map, List.length_map, Seat.v, *])
      | (simp -implicitDefEqProofs only [steps0, steps1, steps2, steps3, steps4, Nat.reduceAdd, Nat.reduceEqDiff, reduceIte, evBox, Nat.reduceSub, Nat.reducePow, Nat.reduceMul, Int.reduceLT, Int.reduceLE, Int.reduceAdd, Int.reduceToNat, Nat.reduceLT, Nat.reduceLeDiff, Int.reduceEq, Int.reduceNeg, facts, e1, e2, hs, hr, List.getElem?_map, List.length_map, Seat.v, *])
      | ((with_reducible refine gdk_split (fun h => ?_) (fun h => ?_)) <;> simp -implicitDefEqProofs only [steps0, steps1, steps2, steps3, steps4, Nat.reduceAdd, Nat.reduceEqDiff, reduceIte, evBox, Nat.reduceSub, Nat.reducePow, Nat.reduceMul, Int.reduceLT, Int.reduceLE, Int.reduceAdd, Int.reduceToNat, Nat.reduceLT, Nat.reduceLeDiff, Int.reduceEq, Int.reduceNeg, facts, e1, e2, hs, hr, List.getElem?_map, List.length_map, Seat.v, *])
      | ((with_reducible refine cdk_split (fun h => ?_) (fun h => ?_)) <;> simp -implicitDefEqProofs only [steps0, steps1, steps2, steps3, steps4, Nat.reduceAdd, Nat.reduceEqDiff, reduceIte, evBox, Nat.reduceSub, Nat.reducePow, Nat.reduceMul, Int.reduceLT, Int.reduceLE, Int.reduceAdd, Int.reduceToNat, Nat.reduceLT, Nat.reduceLeDiff, Int.reduceEq, Int.reduceNeg, facts, e1, e2, hs, hr, List.getElem?_map, List.length_map, Seat.v, *])
      | ((with_reducible refine exl_drawn ?_ ?_); (focus kernel_rfl); simp -implicitDefEqProofs only [steps0, steps1, steps2, steps3, steps4, Nat.reduceAdd, Nat.reduceEqDiff, reduceIte, evBox, Nat.reduceSub, Nat.reducePow, Nat.reduceMul, Int.reduceLT, Int.reduceLE, Int.reduceAdd, Int.reduceToNat, Nat.reduceLT, Nat.reduceLeDiff, Int.reduceEq, Int.reduceNeg, facts, e1, e2, hs, hr, List.getElem?_map, List.length_map, Seat.v, *])
    all_goals first
      | (refine bkl_again (i + 1) ⟨hlt, fun j hj => ?_⟩ (by omega) ⟨[], [], by decide, by simp, by (simp [intoT, renF, wks]; done), by (simp [intoO, oneO, og, renF, owks, tree_ints]; done)⟩
         rcases Nat.lt_or_eq_of_le (Nat.le_of_lt_succ hj) with hj | rfl
         · exact hp j hj
         · rw [hA]; simp_all)
      | exact ends_tmp (d := 2) rfl (.inr rfl) (by simp only [seatsB]; rw [allB_false hlt (by rw [hA]; simp_all)]; rfl) rfl
  · have e0 : decide ((i : Int) < (l.length : Int)) = false := by simp; omega
    have hall : allB l.length (seatAt l) = true := allB_true fun j hj => hp j (by omega)
    simp -implicitDefEqProofs only [steps0, steps1, steps2, steps3, steps4, Nat.reduceAdd, Nat.reduceEqDiff, reduceIte, evBox, Nat.reduceSub, Nat.reducePow, Nat.reduceMul, Int.reduceLT, Int.reduceLE, Int.reduceAdd, Int.reduceToNat, Nat.reduceLT, Nat.reduceLeDiff, Int.reduceEq, Int.reduceNeg, facts, e0, List.length_map]
    repeat' first
      | (simp -implicitDefEqProofs only [steps0, steps1, steps2, steps3, steps4, Nat.reduceAdd, Nat.reduceEqDiff, reduceIte, evBox, Nat.reduceSub, Nat.reducePow, Nat.reduceMul, Int.reduceLT, Int.reduceLE, Int.reduceAdd, Int.reduceToNat, Nat.reduceLT, Nat.reduceLeDiff, Int.reduceEq, Int.reduceNeg, facts, List.length_map, *])
      | ((with_reducible refine gdk_split (fun h => ?_) (fun h => ?_)) <;> simp -implicitDefEqProofs only [steps0, steps1, steps2, steps3, steps4, Nat.reduceAdd, Nat.reduceEqDiff, reduceIte, evBox, Nat.reduceSub, Nat.reducePow, Nat.reduceMul, Int.reduceLT, Int.reduceLE, Int.reduceAdd, Int.reduceToNat, Nat.reduceLT, Nat.reduceLeDiff, Int.reduceEq, Int.reduceNeg, facts, List.length_map, *])
      | ((with_reducible refine cdk_split (fun h => ?_) (fun h => ?_)) <;> simp -implicitDefEqProofs only [steps0, steps1, steps2, steps3, steps4, Nat.reduceAdd, Nat.reduceEqDiff, reduceIte, evBox, Nat.reduceSub, Nat.reducePow, Nat.reduceMul, Int.reduceLT, Int.reduceLE, Int.reduceAdd, Int.reduceToNat, Nat.reduceLT, Nat.reduceLeDiff, Int.reduceEq, Int.reduceNeg, facts, List.length_map, *])
      | ((with_reducible refine exl_drawn ?_ ?_); (focus kernel_rfl); simp -implicitDefEqProofs only [steps0, steps1, steps2, steps3, steps4, Nat.reduceAdd, Nat.reduceEqDiff, reduceIte, evBox, Nat.reduceSub, Nat.reducePow, Nat.reduceMul, Int.reduceLT, Int.reduceLE, Int.reduceAdd, Int.reduceToNat, Nat.reduceLT, Nat.reduceLeDiff, Int.reduceEq, Int.reduceNeg, facts, List.length_map, *])
    all_goals exact ends_tmp (d := 2) rfl (.inr rfl) (by simp only [seatsB, hall, Bool.true_and, Bool.false_and, *] <;> simp [tg]) rfl

theorem seats2_pure (l : List Seat) : PureC Try.prog 32 [.lst 4 (l.map Seat.v)] (.lit (.bool (seatsB l))) := by
  refine pure_lst 0 rfl fun hlen => ?_
  rw [List.length_map] at hlen
  refine pure_of_gol 59 hm Try.func32 rfl rfl (by decide +kernel) ?_
  simp -implicitDefEqProofs only [steps0, steps1, steps2, steps3, steps4, Nat.reduceAdd, Nat.reduceEqDiff, reduceIte, evBox, Nat.reduceSub, Nat.reducePow, Nat.reduceMul, Int.reduceLT, Int.reduceLE, Int.reduceAdd, Int.reduceToNat, Nat.reduceLT, Nat.reduceLeDiff, Int.reduceEq, Int.reduceNeg, facts, List.length_map]
  refine gol_loop (fun i : Nat => [.lst 4 (l.map Seat.v), .junk, .lit (.bool false), .lit (.int .i64 i)]) (fun _ => []) (fun i => l.length - i)
    (fun i => i ≤ l.length ∧ ∀ j, j < i → seatAt l j = true) 0 hm (by decide +kernel) ⟨Nat.zero_le _, by simp⟩ ⟨[], [], by decide, by simp, by (simp [intoT, renF, wks]; done), by (simp [intoO, oneO, og, renF, owks, tree_ints]; done)⟩ ?_
  rintro i ⟨hi, hp⟩
  simp -implicitDefEqProofs only [steps0, steps1, steps2, steps3, steps4, Nat.reduceAdd, Nat.reduceEqDiff, reduceIte, evBox, Nat.reduceSub, Nat.reducePow, Nat.reduceMul, Int.reduceLT, Int.reduceLE, Int.reduceAdd, Int.reduceToNat, Nat.reduceLT, Nat.reduceLeDiff, Int.reduceEq, Int.reduceNeg, facts, List.length_map]
  by_cases hlt : i < l.length
  · obtain ⟨s, hs⟩ : ∃ s, l[i]? = some s := ⟨l[i], by simp [hlt]⟩
    obtain ⟨r, hr⟩ : ∃ r, decide (0 < (i : Int)) = true → l[i - 1]? = some r := ⟨l[i - 1], fun _ => by simp⟩
    have hA := seatAt_eq hs hr
    have e0 : decide ((i : Int) < (l.length : Int)) = true := by simp; omega
    have e1 : IntKind.i64.wrap ((i : Int) + 1) = ((i + 1 : Nat) : Int) := by rw [w64 (by omega)]; omega
    have e2 : decide (0 < (i : Int)) = true → IntKind.i64.wrap ((i : Int) - 1) = ((i - 1 : Nat) : Int) := fun h => by simp at h; rw [w64 (by omega)]; omega
    simp -implicitDefEqProofs only [steps0, steps1, steps2, steps3, steps4, Nat.reduceAdd, Nat.reduceEqDiff, reduceIte, evBox, Nat.reduceSub, Nat.reducePow, Nat.reduceMul, Int.reduceLT, Int.reduceLE, Int.reduceAdd, Int.reduceToNat, Nat.reduceLT, Nat.reduceLeDiff, Int.reduceEq, Int.reduceNeg, facts, e0, hs, List.getElem?_map, Seat.v]
    repeat' first
      | ((with_reducible refine exl_iscall ?_); refine exl_pure (by kernel_rfl) (in2_pure _ _ _) rfl rfl ?_; simp -implicitDefEqProofs only [steps0, steps1, steps2, steps3, steps4, Nat.reduceAdd, Nat.reduceEqDiff, reduceIte, evBox, Nat.reduceSub, Nat.reducePow, Nat.reduceMul, Int.reduceLT, Int.reduceLE, Int.reduceAdd, Int.reduceToNat, Nat.reduceLT, Nat.reduceLeDiff, Int.reduceEq, Int.reduceNeg, facts, e1, e2, hs, hr, List.getElem?_map, List.length_map, Seat.v, *])
      | ((with_reducible refine exl_iscall ?_); refine exl_pure (by kernel_rfl) (coord2_pure _) rfl rfl ?_; simp -implicitDefEqProofs only [steps0, steps1, steps2, steps3, steps4, Nat.reduceAdd, Nat.reduceEqDiff, reduceIte, evBox, Nat.reduceSub, Nat.reducePow, Nat.reduceMul, Int.reduceLT, Int.reduceLE, Int.reduceAdd, Int.reduceToNat, Nat.reduceLT, Nat.reduceLeDiff, Int.reduceEq, Int.reduceNeg, facts, e1, e2, hs, hr, List.getElem?_map, List.length_map, Seat.v, *])
      | ((with_reducible refine exl_iscall ?_); refine exl_pure (by kernel_rfl) (less2_pure _ _) rfl rfl ?_; simp -implicitDefEqProofs only [steps0, steps1, steps2, steps3, steps4, Nat.reduceAdd, Nat.reduceEqDiff, reduceIte, evBox, Nat.reduceSub, Nat.reducePow, Nat.reduceMul, Int.reduceLT, Int.reduceLE, Int.reduceAdd, Int.reduceToNat, Nat.reduceLT, Nat.reduceLeDiff, Int.reduceEq, Int.reduceNeg, facts, e1, e2, hs, hr, List.getElem?_map, List.length_map, Seat.v, *])
      | (simp -implicitDefEqProofs only [steps0, steps1, steps2, steps3, steps4, Nat.reduceAdd, Nat.reduceEqDiff, reduceIte, evBox, Nat.reduceSub, Nat.reducePow, Nat.reduceMul, Int.reduceLT, Int.reduceLE, Int.reduceAdd, Int.reduceToNat, Nat.reduceLT, Nat.reduceLeDiff, Int.reduceEq, Int.reduceNeg, facts, e1, e2, hs, hr, List.getElem?_map, List.length_map, Seat.v, *])
      | ((with_reducible refine gdk_split (fun h => ?_) (fun h => ?_)) <;> simp -implicitDefEqProofs only [steps0, steps1, steps2, steps3, steps4, Nat.reduceAdd, Nat.reduceEqDiff, reduceIte, evBox, Nat.reduceSub, Nat.reducePow, Nat.reduceMul, Int.reduceLT, Int.reduceLE, Int.reduceAdd, Int.reduceToNat, Nat.reduceLT, Nat.reduceLeDiff, Int.reduceEq, Int.reduceNeg, facts, e1, e2, hs, hr, List.getElem?_map, List.length_map, Seat.v, *])
      | ((with_reducible refine cdk_split (fun h => ?_) (fun h => ?_)) <;> simp -implicitDefEqProofs only [steps0, steps1, steps2, steps3, steps4, Nat.reduceAdd, Nat.reduceEqDiff, reduceIte, evBox, Nat.reduceSub, Nat.reducePow, Nat.reduceMul, Int.reduceLT, Int.reduceLE, Int.reduceAdd, Int.reduceToNat, Nat.reduceLT, Nat.reduceLeDiff, Int.reduceEq, Int.reduceNeg, facts, e1, e2, hs, hr, List.getElem?_map, List.length_map, Seat.v, *])
      | ((with_reducible refine exl_drawn ?_ ?_); (focus kernel_rfl); simp -implicitDefEqProofs only [steps0, steps1, steps2, steps3, steps4, Nat.reduceAdd, Nat.reduceEqDiff, reduceIte, evBox, Nat.reduceSub, Nat.reducePow, Nat.reduceMul, Int.reduceLT, Int.reduceLE, Int.reduceAdd, Int.reduceToNat, Nat.reduceLT, Nat.reduceLeDiff, Int.reduceEq, Int.reduceNeg, facts, e1, e2, hs, hr, List.getElem?_map, List.length_map, Seat.v, *])
    all_goals first
      | (refine bkl_again (i + 1) ⟨hlt, fun j hj => ?_⟩ (by omega) ⟨[], [], by decide, by simp, by (simp [intoT, renF, wks]; done), by (simp [intoO, oneO, og, renF, owks, tree_ints]; done)⟩
         rcases Nat.lt_or_eq_of_le (Nat.le_of_lt_succ hj) with hj | rfl
         · exact hp j hj
         · rw [hA]; simp_all [seatS])
      | exact ends_tmp (d := 2) rfl (.inr rfl) (by simp only [seatsB]; rw [allB_false hlt (by rw [hA]; simp_all [seatS])]; rfl) rfl
  · have e0 : decide ((i : Int) < (l.length : Int)) = false := by simp; omega
    have hall : allB l.length (seatAt l) = true := allB_true fun j hj => hp j (by omega)
    simp -implicitDefEqProofs only [steps0, steps1, steps2, steps3, steps4, Nat.reduceAdd, Nat.reduceEqDiff, reduceIte, evBox, Nat.reduceSub, Nat.reducePow, Nat.reduceMul, Int.reduceLT, Int.reduceLE, Int.reduceAdd, Int.reduceToNat, Nat.reduceLT, Nat.reduceLeDiff, Int.reduceEq, Int.reduceNeg, facts, e0, List.length_map]
    repeat' first
      | (simp -implicitDefEqProofs only [steps0, steps1, steps2, steps3, steps4, Nat.reduceAdd, Nat.reduceEqDiff, reduceIte, evBox, Nat.reduceSub, Nat.reducePow, Nat.reduceMul, Int.reduceLT, Int.reduceLE, Int.reduceAdd, Int.reduceToNat, Nat.reduceLT, Nat.reduceLeDiff, Int.reduceEq, Int.reduceNeg, facts, List.length_map, *])
      | ((with_reducible refine gdk_split (fun h => ?_) (fun h => ?_)) <;> simp -implicitDefEqProofs only [steps0, steps1, steps2, steps3, steps4, Nat.reduceAdd, Nat.reduceEqDiff, reduceIte, evBox, Nat.reduceSub, Nat.reducePow, Nat.reduceMul, Int.reduceLT, Int.reduceLE, Int.reduceAdd, Int.reduceToNat, Nat.reduceLT, Nat.reduceLeDiff, Int.reduceEq, Int.reduceNeg, facts, List.length_map, *])
      | ((with_reducible refine cdk_split (fun h => ?_) (fun h => ?_)) <;> simp -implicitDefEqProofs only [steps0, steps1, steps2, steps3, steps4, Nat.reduceAdd, Nat.reduceEqDiff, reduceIte, evBox, Nat.reduceSub, Nat.reducePow, Nat.reduceMul, Int.reduceLT, Int.reduceLE, Int.reduceAdd, Int.reduceToNat, Nat.reduceLT, Nat.reduceLeDiff, Int.reduceEq, Int.reduceNeg, facts, List.length_map, *])
      | ((with_reducible refine exl_drawn ?_ ?_); (focus kernel_rfl); simp -implicitDefEqProofs only [steps0, steps1, steps2, steps3, steps4, Nat.reduceAdd, Nat.reduceEqDiff, reduceIte, evBox, Nat.reduceSub, Nat.reducePow, Nat.reduceMul, Int.reduceLT, Int.reduceLE, Int.reduceAdd, Int.reduceToNat, Nat.reduceLT, Nat.reduceLeDiff, Int.reduceEq, Int.reduceNeg, facts, List.length_map, *])
    all_goals exact ends_tmp (d := 2) rfl (.inr rfl) (by (have : decide (0 < (l.length : Int)) = decide (1 ≤ (l.length : Int)) := by simp; omega); simp only [seatsB, hall, Bool.true_and, Bool.false_and, *] <;> simp [tg]) rfl

def killAt (l : List Int) (n : Int) (j : Nat) : Bool :=
  match l[j]? with
  | none => true
  | some s => (decide (0 ≤ s) && decide (s < n)) && (j == 0 || (match l[j - 1]? with | some r => decide (r < s) | none => true))

theorem killAt_eq {l : List Int} {n : Int} {i : Nat} {s r : Int} (hs : l[i]? = some s) (hr : decide (0 < (i : Int)) = true → l[i - 1]? = some r) : killAt l n i = ((decide (0 ≤ s) && decide (s < n)) && (!decide (0 < (i : Int)) || decide (r < s))) := by
  unfold killAt
  rw [hs]
  by_cases h : 0 < i
  · have h' : decide (0 < (i : Int)) = true := by simpa using h
    simp only [hr h', h']
    have : (i == 0) = false := by simp; omega
    simp [this]
  · have h' : i = 0 := by omega
    subst h'
    simp

def killsB (l : List Int) (n : Int) : Bool := allB l.length (killAt l n) && decide ((l.length : Int) ≤ 200)

theorem kills_pure (l : List Int) (n : Int) : PureC Try.prog 37 [.lst 1 (l.map iV), .lit (.int .i64 n)] (.lit (.bool (killsB l n))) := by
  refine pure_lst 0 rfl fun hlen => ?_
  rw [List.length_map] at hlen
  refine pure_of_gol 38 hm Try.func37 rfl rfl (by decide +kernel) ?_
  simp -implicitDefEqProofs only [steps0, steps1, steps2, steps3, steps4, Nat.reduceAdd, Nat.reduceEqDiff, reduceIte, evBox, Nat.reduceSub, Nat.reducePow, Nat.reduceMul, Int.reduceLT, Int.reduceLE, Int.reduceAdd, Int.reduceToNat, Nat.reduceLT, Nat.reduceLeDiff, Int.reduceEq, Int.reduceNeg, facts, List.length_map]
  refine gol_loop (fun i : Nat => [.lst 1 (l.map iV), .lit (.int .i64 n), .junk, .junk, .lit (.bool false), .junk, .junk, .lst 1 (l.map iV), .lit (.int .i64 l.length), .lit (.int .i64 i)]) (fun _ => []) (fun i => l.length - i)
    (fun i => i ≤ l.length ∧ ∀ j, j < i → killAt l n j = true) 0 hm (by decide +kernel) ⟨Nat.zero_le _, by simp⟩ ⟨[], [], by decide, by simp, by (simp [intoT, renF, wks]; done), by (simp [intoO, oneO, og, renF, owks, tree_ints]; done)⟩ ?_
  rintro i ⟨hi, hp⟩
  simp -implicitDefEqProofs only [steps0, steps1, steps2, steps3, steps4, Nat.reduceAdd, Nat.reduceEqDiff, reduceIte, evBox, Nat.reduceSub, Nat.reducePow, Nat.reduceMul, Int.reduceLT, Int.reduceLE, Int.reduceAdd, Int.reduceToNat, Nat.reduceLT, Nat.reduceLeDiff, Int.reduceEq, Int.reduceNeg, facts, List.length_map]
  by_cases hlt : i < l.length
  · obtain ⟨s, hs⟩ : ∃ s, l[i]? = some s := ⟨l[i], by simp [hlt]⟩
    obtain ⟨r, hr⟩ : ∃ r, decide (0 < (i : Int)) = true → l[i - 1]? = some r := ⟨l[i - 1], fun _ => by simp⟩
    have hA := killAt_eq (n := n) hs hr
    have e0 : decide ((i : Int) < (l.length : Int)) = true := by simp; omega
    have e1 : IntKind.i64.wrap ((i : Int) + 1) = ((i + 1 : Nat) : Int) := by rw [w64 (by omega)]; omega
    have e2 : decide (0 < (i : Int)) = true → IntKind.i64.wrap ((i : Int) - 1) = ((i - 1 : Nat) : Int) := fun h => by simp at h; rw [w64 (by omega)]; omega
    simp -implicitDefEqProofs only [steps0, steps1, steps2, steps3, steps4, Nat.reduceAdd, Nat.reduceEqDiff, reduceIte, evBox, Nat.reduceSub, Nat.reducePow, Nat.reduceMul, Int.reduceLT, Int.reduceLE, Int.reduceAdd, Int.reduceToNat, Nat.reduceLT, Nat.reduceLeDiff, Int.reduceEq, Int.reduceNeg, facts, e0, hs, List.getElem?_map, iV]
    repeat' first
      | (simp -implicitDefEqProofs only [steps0, steps1, steps2, steps3, steps4, Nat.reduceAdd, Nat.reduceEqDiff, reduceIte, evBox, Nat.reduceSub, Nat.reducePow, Nat.reduceMul, Int.reduceLT, Int.reduceLE, Int.reduceAdd, Int.reduceToNat, Nat.reduceLT, Nat.reduceLeDiff, Int.reduceEq, Int.reduceNeg, facts, e1, e2, hs, hr, List.getElem?_map, List.length_map, iV, *])
      | ((with_reducible refine gdk_split (fun h => ?_) (fun h => ?_)) <;> simp -implicitDefEqProofs only [steps0, steps1, steps2, steps3, steps4, Nat.reduceAdd, Nat.reduceEqDiff, reduceIte, evBox, Nat.reduceSub, Nat.reducePow, Nat.reduceMul, Int.reduceLT, Int.reduceLE, Int.reduceAdd, Int.reduceToNat, Nat.reduceLT, Nat.reduceLeDiff, Int.reduceEq, Int.reduceNeg, facts, e1, e2, hs, hr, List.getElem?_map, List.length_map, iV, *])
      | ((with_reducible refine cdk_split (fun h => ?_) (fun h => ?_)) <;> simp -implicitDefEqProofs only [steps0, steps1, steps2, steps3, steps4, Nat.reduceAdd, Nat.reduceEqDiff, reduceIte, evBox, Nat.reduceSub, Nat.reducePow, Nat.reduceMul, Int.reduceLT, Int.reduceLE, Int.reduceAdd, Int.reduceToNat, Nat.reduceLT, Nat.reduceLeDiff, Int.reduceEq, Int.reduceNeg, facts, e1, e2, hs, hr, List.getElem?_map, List.length_map, iV, *])
      | ((with_reducible refine exl_drawn ?_ ?_); (focus kernel_rfl); simp -implicitDefEqProofs only [steps0, steps1, steps2, steps3, steps4, Nat.reduceAdd, Nat.reduceEqDiff, reduceIte, evBox, Nat.reduceSub, Nat.reducePow, Nat.reduceMul, Int.reduceLT, Int.reduceLE, Int.reduceAdd, Int.reduceToNat, Nat.reduceLT, Nat.reduceLeDiff, Int.reduceEq, Int.reduceNeg, facts, e1, e2, hs, hr, List.getElem?_map, List.length_map, iV, *])
    all_goals first
      | (refine bkl_again (i + 1) ⟨hlt, fun j hj => ?_⟩ (by omega) ⟨[], [], by decide, by simp, by (simp [intoT, renF, wks, iV]; done), by (simp [intoO, oneO, og, renF, owks, tree_ints, iV]; done)⟩
         rcases Nat.lt_or_eq_of_le (Nat.le_of_lt_succ hj) with hj | rfl
         · exact hp j hj
         · rw [hA]; simp_all <;> omega)
      | exact ends_tmp (d := 4) rfl (.inr rfl) (by simp only [killsB]; rw [allB_false hlt (by rw [hA]; simp_all <;> omega)]; rfl) rfl
  · have e0 : decide ((i : Int) < (l.length : Int)) = false := by simp; omega
    have hall : allB l.length (killAt l n) = true := allB_true fun j hj => hp j (by omega)
    simp -implicitDefEqProofs only [steps0, steps1, steps2, steps3, steps4, Nat.reduceAdd, Nat.reduceEqDiff, reduceIte, evBox, Nat.reduceSub, Nat.reducePow, Nat.reduceMul, Int.reduceLT, Int.reduceLE, Int.reduceAdd, Int.reduceToNat, Nat.reduceLT, Nat.reduceLeDiff, Int.reduceEq, Int.reduceNeg, facts, e0, List.length_map]
    repeat' first
      | (simp -implicitDefEqProofs only [steps0, steps1, steps2, steps3, steps4, Nat.reduceAdd, Nat.reduceEqDiff, reduceIte, evBox, Nat.reduceSub, Nat.reducePow, Nat.reduceMul, Int.reduceLT, Int.reduceLE, Int.reduceAdd, Int.reduceToNat, Nat.reduceLT, Nat.reduceLeDiff, Int.reduceEq, Int.reduceNeg, facts, List.length_map, *])
      | ((with_reducible refine gdk_split (fun h => ?_) (fun h => ?_)) <;> simp -implicitDefEqProofs only [steps0, steps1, steps2, steps3, steps4, Nat.reduceAdd, Nat.reduceEqDiff, reduceIte, evBox, Nat.reduceSub, Nat.reducePow, Nat.reduceMul, Int.reduceLT, Int.reduceLE, Int.reduceAdd, Int.reduceToNat, Nat.reduceLT, Nat.reduceLeDiff, Int.reduceEq, Int.reduceNeg, facts, List.length_map, *])
      | ((with_reducible refine cdk_split (fun h => ?_) (fun h => ?_)) <;> simp -implicitDefEqProofs only [steps0, steps1, steps2, steps3, steps4, Nat.reduceAdd, Nat.reduceEqDiff, reduceIte, evBox, Nat.reduceSub, Nat.reducePow, Nat.reduceMul, Int.reduceLT, Int.reduceLE, Int.reduceAdd, Int.reduceToNat, Nat.reduceLT, Nat.reduceLeDiff, Int.reduceEq, Int.reduceNeg, facts, List.length_map, *])
      | ((with_reducible refine exl_drawn ?_ ?_); (focus kernel_rfl); simp -implicitDefEqProofs only [steps0, steps1, steps2, steps3, steps4, Nat.reduceAdd, Nat.reduceEqDiff, reduceIte, evBox, Nat.reduceSub, Nat.reducePow, Nat.reduceMul, Int.reduceLT, Int.reduceLE, Int.reduceAdd, Int.reduceToNat, Nat.reduceLT, Nat.reduceLeDiff, Int.reduceEq, Int.reduceNeg, facts, List.length_map, *])
    all_goals exact ends_tmp (d := 4) rfl (.inr rfl) (by simp only [killsB, hall, Bool.true_and, Bool.false_and, *] <;> simp [tg]) rfl

theorem kills2_pure (l : List Int) (n : Int) (hn : 0 ≤ n ∧ n ≤ 9223372036854775807) : PureC Try.prog 34 [.lst 1 (l.map iV), .lit (.int .i64 n)] (.lit (.bool (killsB l n))) := by
  refine pure_lst 0 rfl fun hlen => ?_
  rw [List.length_map] at hlen
  refine pure_of_gol 39 hm Try.func34 rfl rfl (by decide +kernel) ?_
  have e3 : IntKind.i64.wrap (n - 1) = n - 1 := w64 (by omega)
  simp -implicitDefEqProofs only [steps0, steps1, steps2, steps3, steps4, Nat.reduceAdd, Nat.reduceEqDiff, reduceIte, evBox, Nat.reduceSub, Nat.reducePow, Nat.reduceMul, Int.reduceLT, Int.reduceLE, Int.reduceAdd, Int.reduceToNat, Nat.reduceLT, Nat.reduceLeDiff, Int.reduceEq, Int.reduceNeg, facts, List.length_map]
  refine gol_loop (fun i : Nat => [.lst 1 (l.map iV), .lit (.int .i64 n), .junk, .junk, .lit (.bool false), .lit (.int .i64 i)]) (fun _ => []) (fun i => l.length - i)
    (fun i => i ≤ l.length ∧ ∀ j, j < i → killAt l n j = true) 0 hm (by decide +kernel) ⟨Nat.zero_le _, by simp⟩ ⟨[], [], by decide, by simp, by (simp [intoT, renF, wks]; done), by (simp [intoO, oneO, og, renF, owks, tree_ints]; done)⟩ ?_
  rintro i ⟨hi, hp⟩
  simp -implicitDefEqProofs only [steps0, steps1, steps2, steps3, steps4, Nat.reduceAdd, Nat.reduceEqDiff, reduceIte, evBox, Nat.reduceSub, Nat.reducePow, Nat.reduceMul, Int.reduceLT, Int.reduceLE, Int.reduceAdd, Int.reduceToNat, Nat.reduceLT, Nat.reduceLeDiff, Int.reduceEq, Int.reduceNeg, facts, List.length_map]
  by_cases hlt : i < l.length
  · obtain ⟨s, hs⟩ : ∃ s, l[i]? = some s := ⟨l[i], by simp [hlt]⟩
    obtain ⟨r, hr⟩ : ∃ r, decide (0 < (i : Int)) = true → l[i - 1]? = some r := ⟨l[i - 1], fun _ => by simp⟩
    have hA := killAt_eq (n := n) hs hr
    have e0 : decide ((i : Int) < (l.length : Int)) = true := by simp; omega
    have e1 : IntKind.i64.wrap ((i : Int) + 1) = ((i + 1 : Nat) : Int) := by rw [w64 (by omega)]; omega
    have e2 : decide (0 < (i : Int)) = true → IntKind.i64.wrap ((i : Int) - 1) = ((i - 1 : Nat) : Int) := fun h => by simp at h; rw [w64 (by omega)]; omega
    simp -implicitDefEqProofs only [steps0, steps1, steps2, steps3, steps4, Nat.reduceAdd, Nat.reduceEqDiff, reduceIte, evBox, Nat.reduceSub, Nat.reducePow, Nat.reduceMul, Int.reduceLT, Int.reduceLE, Int.reduceAdd, Int.reduceToNat, Nat.reduceLT, Nat.reduceLeDiff, Int.reduceEq, Int.reduceNeg, facts, e0, e3, hs, List.getElem?_map, iV]
    repeat' first
      | ((with_reducible refine exl_iscall ?_); refine exl_pure (by kernel_rfl) (in2_pure _ _ _) rfl rfl ?_; simp -implicitDefEqProofs only [steps0, steps1, steps2, steps3, steps4, Nat.reduceAdd, Nat.reduceEqDiff, reduceIte, evBox, Nat.reduceSub, Nat.reducePow, Nat.reduceMul, Int.reduceLT, Int.reduceLE, Int.reduceAdd, Int.reduceToNat, Nat.reduceLT, Nat.reduceLeDiff, Int.reduceEq, Int.reduceNeg, facts, e1, e2, e3, hs, hr, List.getElem?_map, List.length_map, iV, *])
      | (simp -implicitDefEqProofs only [steps0, steps1, steps2, steps3, steps4, Nat.reduceAdd, Nat.reduceEqDiff, reduceIte, evBox, Nat.reduceSub, Nat.reducePow, Nat.reduceMul, Int.reduceLT, Int.reduceLE, Int.reduceAdd, Int.reduceToNat, Nat.reduceLT, Nat.reduceLeDiff, Int.reduceEq, Int.reduceNeg, facts, e1, e2, e3, hs, hr, List.getElem?_map, List.length_map, iV, *])
      | ((with_reducible refine gdk_split (fun h => ?_) (fun h => ?_)) <;> simp -implicitDefEqProofs only [steps0, steps1, steps2, steps3, steps4, Nat.reduceAdd, Nat.reduceEqDiff, reduceIte, evBox, Nat.reduceSub, Nat.reducePow, Nat.reduceMul, Int.reduceLT, Int.reduceLE, Int.reduceAdd, Int.reduceToNat, Nat.reduceLT, Nat.reduceLeDiff, Int.reduceEq, Int.reduceNeg, facts, e1, e2, e3, hs, hr, List.getElem?_map, List.length_map, iV, *])
      | ((with_reducible refine cdk_split (fun h => ?_) (fun h => ?_)) <;> simp -implicitDefEqProofs only [steps0, steps1, steps2, steps3, steps4, Nat.reduceAdd, Nat.reduceEqDiff, reduceIte, evBox, Nat.reduceSub, Nat.reducePow, Nat.reduceMul, Int.reduceLT, Int.reduceLE, Int.reduceAdd, Int.reduceToNat, Nat.reduceLT, Nat.reduceLeDiff, Int.reduceEq, Int.reduceNeg, facts, e1, e2, e3, hs, hr, List.getElem?_map, List.length_map, iV, *])
      | ((with_reducible refine exl_drawn ?_ ?_); (focus kernel_rfl); simp -implicitDefEqProofs only [steps0, steps1, steps2, steps3, steps4, Nat.reduceAdd, Nat.reduceEqDiff, reduceIte, evBox, Nat.reduceSub, Nat.reducePow, Nat.reduceMul, Int.reduceLT, Int.reduceLE, Int.reduceAdd, Int.reduceToNat, Nat.reduceLT, Nat.reduceLeDiff, Int.reduceEq, Int.reduceNeg, facts, e1, e2, e3, hs, hr, List.getElem?_map, List.length_map, iV, *])
    all_goals first
      | (refine bkl_again (i + 1) ⟨hlt, fun j hj => ?_⟩ (by omega) ⟨[], [], by decide, by simp, by (simp [intoT, renF, wks, iV]; done), by (simp [intoO, oneO, og, renF, owks, tree_ints, iV]; done)⟩
         rcases Nat.lt_or_eq_of_le (Nat.le_of_lt_succ hj) with hj | rfl
         · exact hp j hj
         · rw [hA]; simp_all [inR] <;> omega)
      | exact ends_tmp (d := 4) rfl (.inr rfl) (by simp only [killsB]; rw [allB_false hlt (by rw [hA]; simp_all [inR] <;> omega)]; rfl) rfl
  · have e0 : decide ((i : Int) < (l.length : Int)) = false := by simp; omega
    have hall : allB l.length (killAt l n) = true := allB_true fun j hj => hp j (by omega)
    simp -implicitDefEqProofs only [steps0, steps1, steps2, steps3, steps4, Nat.reduceAdd, Nat.reduceEqDiff, reduceIte, evBox, Nat.reduceSub, Nat.reducePow, Nat.reduceMul, Int.reduceLT, Int.reduceLE, Int.reduceAdd, Int.reduceToNat, Nat.reduceLT, Nat.reduceLeDiff, Int.reduceEq, Int.reduceNeg, facts, e0, List.length_map]
    repeat' first
      | (simp -implicitDefEqProofs only [steps0, steps1, steps2, steps3, steps4, Nat.reduceAdd, Nat.reduceEqDiff, reduceIte, evBox, Nat.reduceSub, Nat.reducePow, Nat.reduceMul, Int.reduceLT, Int.reduceLE, Int.reduceAdd, Int.reduceToNat, Nat.reduceLT, Nat.reduceLeDiff, Int.reduceEq, Int.reduceNeg, facts, List.length_map, *])
      | ((with_reducible refine gdk_split (fun h => ?_) (fun h => ?_)) <;> simp -implicitDefEqProofs only [steps0, steps1, steps2, steps3, steps4, Nat.reduceAdd, Nat.reduceEqDiff, reduceIte, evBox, Nat.reduceSub, Nat.reducePow, Nat.reduceMul, Int.reduceLT, Int.reduceLE, Int.reduceAdd, Int.reduceToNat, Nat.reduceLT, Nat.reduceLeDiff, Int.reduceEq, Int.reduceNeg, facts, List.length_map, *])
      | ((with_reducible refine cdk_split (fun h => ?_) (fun h => ?_)) <;> simp -implicitDefEqProofs only [steps0, steps1, steps2, steps3, steps4, Nat.reduceAdd, Nat.reduceEqDiff, reduceIte, evBox, Nat.reduceSub, Nat.reducePow, Nat.reduceMul, Int.reduceLT, Int.reduceLE, Int.reduceAdd, Int.reduceToNat, Nat.reduceLT, Nat.reduceLeDiff, Int.reduceEq, Int.reduceNeg, facts, List.length_map, *])
      | ((with_reducible refine exl_drawn ?_ ?_); (focus kernel_rfl); simp -implicitDefEqProofs only [steps0, steps1, steps2, steps3, steps4, Nat.reduceAdd, Nat.reduceEqDiff, reduceIte, evBox, Nat.reduceSub, Nat.reducePow, Nat.reduceMul, Int.reduceLT, Int.reduceLE, Int.reduceAdd, Int.reduceToNat, Nat.reduceLT, Nat.reduceLeDiff, Int.reduceEq, Int.reduceNeg, facts, List.length_map, *])
    all_goals exact ends_tmp (d := 4) rfl (.inr rfl) (by simp only [killsB, hall, Bool.true_and, Bool.false_and, *] <;> simp [tg]) rfl

def poleS (p : Pole) : Bool := coordR p.x && coordR p.y && inR p.r 1 1048576
def poleAt (l : List Pole) (j : Nat) : Bool := match l[j]? with | none => true | some p => poleS p
def polesB (l : List Pole) : Bool := allB l.length (poleAt l) && decide ((l.length : Int) ≤ 200)

theorem poles_pure (l : List Pole) : PureC Try.prog 38 [.lst 3 (l.map Pole.v)] (.lit (.bool (polesB l))) := by
  refine pure_lst 0 rfl fun hlen => ?_
  rw [List.length_map] at hlen
  refine pure_of_gol 31 hm Try.func38 rfl rfl (by decide +kernel) ?_
  simp -implicitDefEqProofs only [steps0, steps1, steps2, steps3, steps4, Nat.reduceAdd, Nat.reduceEqDiff, reduceIte, evBox, Nat.reduceSub, Nat.reducePow, Nat.reduceMul, Int.reduceLT, Int.reduceLE, Int.reduceAdd, Int.reduceToNat, Nat.reduceLT, Nat.reduceLeDiff, Int.reduceEq, Int.reduceNeg, facts, List.length_map]
  refine gol_loop (fun i : Nat => [.lst 3 (l.map Pole.v), .junk, .lit (.bool false), .junk, .junk, .lst 3 (l.map Pole.v), .lit (.int .i64 l.length), .lit (.int .i64 i)]) (fun _ => []) (fun i => l.length - i)
    (fun i => i ≤ l.length ∧ ∀ j, j < i → poleAt l j = true) 0 hm (by decide +kernel) ⟨Nat.zero_le _, by simp⟩ ⟨[], [], by decide, by simp, by (simp [intoT, renF, wks]; done), by (simp [intoO, oneO, og, renF, owks, tree_ints]; done)⟩ ?_
  rintro i ⟨hi, hp⟩
  simp -implicitDefEqProofs only [steps0, steps1, steps2, steps3, steps4, Nat.reduceAdd, Nat.reduceEqDiff, reduceIte, evBox, Nat.reduceSub, Nat.reducePow, Nat.reduceMul, Int.reduceLT, Int.reduceLE, Int.reduceAdd, Int.reduceToNat, Nat.reduceLT, Nat.reduceLeDiff, Int.reduceEq, Int.reduceNeg, facts, List.length_map]
  by_cases hlt : i < l.length
  · obtain ⟨s, hs⟩ : ∃ s, l[i]? = some s := ⟨l[i], by simp [hlt]⟩
    have hA : poleAt l i = poleS s := by simp [poleAt, hs]
    have e0 : decide ((i : Int) < (l.length : Int)) = true := by simp; omega
    have e1 : IntKind.i64.wrap ((i : Int) + 1) = ((i + 1 : Nat) : Int) := by rw [w64 (by omega)]; omega
    simp -implicitDefEqProofs only [steps0, steps1, steps2, steps3, steps4, Nat.reduceAdd, Nat.reduceEqDiff, reduceIte, evBox, Nat.reduceSub, Nat.reducePow, Nat.reduceMul, Int.reduceLT, Int.reduceLE, Int.reduceAdd, Int.reduceToNat, Nat.reduceLT, Nat.reduceLeDiff, Int.reduceEq, Int.reduceNeg, facts, e0, hs, List.getElem?_map, Pole.v]
    repeat' first
      | ((with_reducible refine exl_iscall ?_); refine exl_pure (by kernel_rfl) (coord_pure _) rfl rfl ?_; simp -implicitDefEqProofs only [steps0, steps1, steps2, steps3, steps4, Nat.reduceAdd, Nat.reduceEqDiff, reduceIte, evBox, Nat.reduceSub, Nat.reducePow, Nat.reduceMul, Int.reduceLT, Int.reduceLE, Int.reduceAdd, Int.reduceToNat, Nat.reduceLT, Nat.reduceLeDiff, Int.reduceEq, Int.reduceNeg, facts, e1, hs, List.getElem?_map, List.length_map, Pole.v, *])
      | ((with_reducible refine exl_iscall ?_); refine exl_pure (by kernel_rfl) (reach_pure _) rfl rfl ?_; simp -implicitDefEqProofs only [steps0, steps1, steps2, steps3, steps4, Nat.reduceAdd, Nat.reduceEqDiff, reduceIte, evBox, Nat.reduceSub, Nat.reducePow, Nat.reduceMul, Int.reduceLT, Int.reduceLE, Int.reduceAdd, Int.reduceToNat, Nat.reduceLT, Nat.reduceLeDiff, Int.reduceEq, Int.reduceNeg, facts, e1, hs, List.getElem?_map, List.length_map, Pole.v, *])
      | (simp -implicitDefEqProofs only [steps0, steps1, steps2, steps3, steps4, Nat.reduceAdd, Nat.reduceEqDiff, reduceIte, evBox, Nat.reduceSub, Nat.reducePow, Nat.reduceMul, Int.reduceLT, Int.reduceLE, Int.reduceAdd, Int.reduceToNat, Nat.reduceLT, Nat.reduceLeDiff, Int.reduceEq, Int.reduceNeg, facts, e1, hs, List.getElem?_map, List.length_map, Pole.v, *])
      | ((with_reducible refine gdk_split (fun h => ?_) (fun h => ?_)) <;> simp -implicitDefEqProofs only [steps0, steps1, steps2, steps3, steps4, Nat.reduceAdd, Nat.reduceEqDiff, reduceIte, evBox, Nat.reduceSub, Nat.reducePow, Nat.reduceMul, Int.reduceLT, Int.reduceLE, Int.reduceAdd, Int.reduceToNat, Nat.reduceLT, Nat.reduceLeDiff, Int.reduceEq, Int.reduceNeg, facts, e1, hs, List.getElem?_map, List.length_map, Pole.v, *])
      | ((with_reducible refine cdk_split (fun h => ?_) (fun h => ?_)) <;> simp -implicitDefEqProofs only [steps0, steps1, steps2, steps3, steps4, Nat.reduceAdd, Nat.reduceEqDiff, reduceIte, evBox, Nat.reduceSub, Nat.reducePow, Nat.reduceMul, Int.reduceLT, Int.reduceLE, Int.reduceAdd, Int.reduceToNat, Nat.reduceLT, Nat.reduceLeDiff, Int.reduceEq, Int.reduceNeg, facts, e1, hs, List.getElem?_map, List.length_map, Pole.v, *])
      | ((with_reducible refine exl_drawn ?_ ?_); (focus kernel_rfl); simp -implicitDefEqProofs only [steps0, steps1, steps2, steps3, steps4, Nat.reduceAdd, Nat.reduceEqDiff, reduceIte, evBox, Nat.reduceSub, Nat.reducePow, Nat.reduceMul, Int.reduceLT, Int.reduceLE, Int.reduceAdd, Int.reduceToNat, Nat.reduceLT, Nat.reduceLeDiff, Int.reduceEq, Int.reduceNeg, facts, e1, hs, List.getElem?_map, List.length_map, Pole.v, *])
    all_goals first
      | (refine bkl_again (i + 1) ⟨hlt, fun j hj => ?_⟩ (by omega) ⟨[], [], by decide, by simp, by (simp [intoT, renF, wks]; done), by (simp [intoO, oneO, og, renF, owks, tree_ints]; done)⟩
         rcases Nat.lt_or_eq_of_le (Nat.le_of_lt_succ hj) with hj | rfl
         · exact hp j hj
         · rw [hA]; simp_all [poleS])
      | exact ends_tmp (d := 2) rfl (.inr rfl) (by simp only [polesB]; rw [allB_false hlt (by rw [hA]; simp_all [poleS])]; rfl) rfl
  · have e0 : decide ((i : Int) < (l.length : Int)) = false := by simp; omega
    have hall : allB l.length (poleAt l) = true := allB_true fun j hj => hp j (by omega)
    simp -implicitDefEqProofs only [steps0, steps1, steps2, steps3, steps4, Nat.reduceAdd, Nat.reduceEqDiff, reduceIte, evBox, Nat.reduceSub, Nat.reducePow, Nat.reduceMul, Int.reduceLT, Int.reduceLE, Int.reduceAdd, Int.reduceToNat, Nat.reduceLT, Nat.reduceLeDiff, Int.reduceEq, Int.reduceNeg, facts, e0, List.length_map]
    repeat' first
      | (simp -implicitDefEqProofs only [steps0, steps1, steps2, steps3, steps4, Nat.reduceAdd, Nat.reduceEqDiff, reduceIte, evBox, Nat.reduceSub, Nat.reducePow, Nat.reduceMul, Int.reduceLT, Int.reduceLE, Int.reduceAdd, Int.reduceToNat, Nat.reduceLT, Nat.reduceLeDiff, Int.reduceEq, Int.reduceNeg, facts, List.length_map, *])
      | ((with_reducible refine gdk_split (fun h => ?_) (fun h => ?_)) <;> simp -implicitDefEqProofs only [steps0, steps1, steps2, steps3, steps4, Nat.reduceAdd, Nat.reduceEqDiff, reduceIte, evBox, Nat.reduceSub, Nat.reducePow, Nat.reduceMul, Int.reduceLT, Int.reduceLE, Int.reduceAdd, Int.reduceToNat, Nat.reduceLT, Nat.reduceLeDiff, Int.reduceEq, Int.reduceNeg, facts, List.length_map, *])
      | ((with_reducible refine cdk_split (fun h => ?_) (fun h => ?_)) <;> simp -implicitDefEqProofs only [steps0, steps1, steps2, steps3, steps4, Nat.reduceAdd, Nat.reduceEqDiff, reduceIte, evBox, Nat.reduceSub, Nat.reducePow, Nat.reduceMul, Int.reduceLT, Int.reduceLE, Int.reduceAdd, Int.reduceToNat, Nat.reduceLT, Nat.reduceLeDiff, Int.reduceEq, Int.reduceNeg, facts, List.length_map, *])
      | ((with_reducible refine exl_drawn ?_ ?_); (focus kernel_rfl); simp -implicitDefEqProofs only [steps0, steps1, steps2, steps3, steps4, Nat.reduceAdd, Nat.reduceEqDiff, reduceIte, evBox, Nat.reduceSub, Nat.reducePow, Nat.reduceMul, Int.reduceLT, Int.reduceLE, Int.reduceAdd, Int.reduceToNat, Nat.reduceLT, Nat.reduceLeDiff, Int.reduceEq, Int.reduceNeg, facts, List.length_map, *])
    all_goals exact ends_tmp (d := 2) rfl (.inr rfl) (by simp only [polesB, hall, Bool.true_and, Bool.false_and, *] <;> simp [tg]) rfl

theorem poles2_pure (l : List Pole) : PureC Try.prog 35 [.lst 3 (l.map Pole.v)] (.lit (.bool (polesB l))) := by
  refine pure_lst 0 rfl fun hlen => ?_
  rw [List.length_map] at hlen
  refine pure_of_gol 38 hm Try.func35 rfl rfl (by decide +kernel) ?_
  simp -implicitDefEqProofs only [steps0, steps1, steps2, steps3, steps4, Nat.reduceAdd, Nat.reduceEqDiff, reduceIte, evBox, Nat.reduceSub, Nat.reducePow, Nat.reduceMul, Int.reduceLT, Int.reduceLE, Int.reduceAdd, Int.reduceToNat, Nat.reduceLT, Nat.reduceLeDiff, Int.reduceEq, Int.reduceNeg, facts, List.length_map]
  refine gol_loop (fun i : Nat => [.lst 3 (l.map Pole.v), .junk, .lit (.bool false), .lit (.int .i64 i)]) (fun _ => []) (fun i => l.length - i)
    (fun i => i ≤ l.length ∧ ∀ j, j < i → poleAt l j = true) 0 hm (by decide +kernel) ⟨Nat.zero_le _, by simp⟩ ⟨[], [], by decide, by simp, by (simp [intoT, renF, wks]; done), by (simp [intoO, oneO, og, renF, owks, tree_ints]; done)⟩ ?_
  rintro i ⟨hi, hp⟩
  simp -implicitDefEqProofs only [steps0, steps1, steps2, steps3, steps4, Nat.reduceAdd, Nat.reduceEqDiff, reduceIte, evBox, Nat.reduceSub, Nat.reducePow, Nat.reduceMul, Int.reduceLT, Int.reduceLE, Int.reduceAdd, Int.reduceToNat, Nat.reduceLT, Nat.reduceLeDiff, Int.reduceEq, Int.reduceNeg, facts, List.length_map]
  by_cases hlt : i < l.length
  · obtain ⟨s, hs⟩ : ∃ s, l[i]? = some s := ⟨l[i], by simp [hlt]⟩
    have hA : poleAt l i = poleS s := by simp [poleAt, hs]
    have e0 : decide ((i : Int) < (l.length : Int)) = true := by simp; omega
    have e1 : IntKind.i64.wrap ((i : Int) + 1) = ((i + 1 : Nat) : Int) := by rw [w64 (by omega)]; omega
    simp -implicitDefEqProofs only [steps0, steps1, steps2, steps3, steps4, Nat.reduceAdd, Nat.reduceEqDiff, reduceIte, evBox, Nat.reduceSub, Nat.reducePow, Nat.reduceMul, Int.reduceLT, Int.reduceLE, Int.reduceAdd, Int.reduceToNat, Nat.reduceLT, Nat.reduceLeDiff, Int.reduceEq, Int.reduceNeg, facts, e0, hs, List.getElem?_map, Pole.v]
    repeat' first
      | ((with_reducible refine exl_iscall ?_); refine exl_pure (by kernel_rfl) (coord2_pure _) rfl rfl ?_; simp -implicitDefEqProofs only [steps0, steps1, steps2, steps3, steps4, Nat.reduceAdd, Nat.reduceEqDiff, reduceIte, evBox, Nat.reduceSub, Nat.reducePow, Nat.reduceMul, Int.reduceLT, Int.reduceLE, Int.reduceAdd, Int.reduceToNat, Nat.reduceLT, Nat.reduceLeDiff, Int.reduceEq, Int.reduceNeg, facts, e1, hs, List.getElem?_map, List.length_map, Pole.v, *])
      | ((with_reducible refine exl_iscall ?_); refine exl_pure (by kernel_rfl) (in2_pure _ _ _) rfl rfl ?_; simp -implicitDefEqProofs only [steps0, steps1, steps2, steps3, steps4, Nat.reduceAdd, Nat.reduceEqDiff, reduceIte, evBox, Nat.reduceSub, Nat.reducePow, Nat.reduceMul, Int.reduceLT, Int.reduceLE, Int.reduceAdd, Int.reduceToNat, Nat.reduceLT, Nat.reduceLeDiff, Int.reduceEq, Int.reduceNeg, facts, e1, hs, List.getElem?_map, List.length_map, Pole.v, *])
      | (simp -implicitDefEqProofs only [steps0, steps1, steps2, steps3, steps4, Nat.reduceAdd, Nat.reduceEqDiff, reduceIte, evBox, Nat.reduceSub, Nat.reducePow, Nat.reduceMul, Int.reduceLT, Int.reduceLE, Int.reduceAdd, Int.reduceToNat, Nat.reduceLT, Nat.reduceLeDiff, Int.reduceEq, Int.reduceNeg, facts, e1, hs, List.getElem?_map, List.length_map, Pole.v, *])
      | ((with_reducible refine gdk_split (fun h => ?_) (fun h => ?_)) <;> simp -implicitDefEqProofs only [steps0, steps1, steps2, steps3, steps4, Nat.reduceAdd, Nat.reduceEqDiff, reduceIte, evBox, Nat.reduceSub, Nat.reducePow, Nat.reduceMul, Int.reduceLT, Int.reduceLE, Int.reduceAdd, Int.reduceToNat, Nat.reduceLT, Nat.reduceLeDiff, Int.reduceEq, Int.reduceNeg, facts, e1, hs, List.getElem?_map, List.length_map, Pole.v, *])
      | ((with_reducible refine cdk_split (fun h => ?_) (fun h => ?_)) <;> simp -implicitDefEqProofs only [steps0, steps1, steps2, steps3, steps4, Nat.reduceAdd, Nat.reduceEqDiff, reduceIte, evBox, Nat.reduceSub, Nat.reducePow, Nat.reduceMul, Int.reduceLT, Int.reduceLE, Int.reduceAdd, Int.reduceToNat, Nat.reduceLT, Nat.reduceLeDiff, Int.reduceEq, Int.reduceNeg, facts, e1, hs, List.getElem?_map, List.length_map, Pole.v, *])
      | ((with_reducible refine exl_drawn ?_ ?_); (focus kernel_rfl); simp -implicitDefEqProofs only [steps0, steps1, steps2, steps3, steps4, Nat.reduceAdd, Nat.reduceEqDiff, reduceIte, evBox, Nat.reduceSub, Nat.reducePow, Nat.reduceMul, Int.reduceLT, Int.reduceLE, Int.reduceAdd, Int.reduceToNat, Nat.reduceLT, Nat.reduceLeDiff, Int.reduceEq, Int.reduceNeg, facts, e1, hs, List.getElem?_map, List.length_map, Pole.v, *])
    all_goals first
      | (refine bkl_again (i + 1) ⟨hlt, fun j hj => ?_⟩ (by omega) ⟨[], [], by decide, by simp, by (simp [intoT, renF, wks]; done), by (simp [intoO, oneO, og, renF, owks, tree_ints]; done)⟩
         rcases Nat.lt_or_eq_of_le (Nat.le_of_lt_succ hj) with hj | rfl
         · exact hp j hj
         · rw [hA]; simp_all [poleS])
      | exact ends_tmp (d := 2) rfl (.inr rfl) (by simp only [polesB]; rw [allB_false hlt (by rw [hA]; simp_all [poleS])]; rfl) rfl
  · have e0 : decide ((i : Int) < (l.length : Int)) = false := by simp; omega
    have hall : allB l.length (poleAt l) = true := allB_true fun j hj => hp j (by omega)
    simp -implicitDefEqProofs only [steps0, steps1, steps2, steps3, steps4, Nat.reduceAdd, Nat.reduceEqDiff, reduceIte, evBox, Nat.reduceSub, Nat.reducePow, Nat.reduceMul, Int.reduceLT, Int.reduceLE, Int.reduceAdd, Int.reduceToNat, Nat.reduceLT, Nat.reduceLeDiff, Int.reduceEq, Int.reduceNeg, facts, e0, List.length_map]
    repeat' first
      | (simp -implicitDefEqProofs only [steps0, steps1, steps2, steps3, steps4, Nat.reduceAdd, Nat.reduceEqDiff, reduceIte, evBox, Nat.reduceSub, Nat.reducePow, Nat.reduceMul, Int.reduceLT, Int.reduceLE, Int.reduceAdd, Int.reduceToNat, Nat.reduceLT, Nat.reduceLeDiff, Int.reduceEq, Int.reduceNeg, facts, List.length_map, *])
      | ((with_reducible refine gdk_split (fun h => ?_) (fun h => ?_)) <;> simp -implicitDefEqProofs only [steps0, steps1, steps2, steps3, steps4, Nat.reduceAdd, Nat.reduceEqDiff, reduceIte, evBox, Nat.reduceSub, Nat.reducePow, Nat.reduceMul, Int.reduceLT, Int.reduceLE, Int.reduceAdd, Int.reduceToNat, Nat.reduceLT, Nat.reduceLeDiff, Int.reduceEq, Int.reduceNeg, facts, List.length_map, *])
      | ((with_reducible refine cdk_split (fun h => ?_) (fun h => ?_)) <;> simp -implicitDefEqProofs only [steps0, steps1, steps2, steps3, steps4, Nat.reduceAdd, Nat.reduceEqDiff, reduceIte, evBox, Nat.reduceSub, Nat.reducePow, Nat.reduceMul, Int.reduceLT, Int.reduceLE, Int.reduceAdd, Int.reduceToNat, Nat.reduceLT, Nat.reduceLeDiff, Int.reduceEq, Int.reduceNeg, facts, List.length_map, *])
      | ((with_reducible refine exl_drawn ?_ ?_); (focus kernel_rfl); simp -implicitDefEqProofs only [steps0, steps1, steps2, steps3, steps4, Nat.reduceAdd, Nat.reduceEqDiff, reduceIte, evBox, Nat.reduceSub, Nat.reducePow, Nat.reduceMul, Int.reduceLT, Int.reduceLE, Int.reduceAdd, Int.reduceToNat, Nat.reduceLT, Nat.reduceLeDiff, Int.reduceEq, Int.reduceNeg, facts, List.length_map, *])
    all_goals exact ends_tmp (d := 2) rfl (.inr rfl) (by simp only [polesB, hall, Bool.true_and, Bool.false_and, *] <;> simp [tg]) rfl

end Go.Proofs.Ytehdpfhpiplbgaa
