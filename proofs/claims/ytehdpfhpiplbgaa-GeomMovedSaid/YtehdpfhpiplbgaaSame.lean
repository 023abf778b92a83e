/-
  Lists of numbers: the same, and few.
-/
import Derived.Test.YtehdpfhpiplbgaaMay
namespace Go.Proofs.Ytehdpfhpiplbgaa
open Go.AV
set_option linter.unusedSimpArgs false
set_option linter.unusedVariables false

def fewB (v : Venue) : Bool := decide ((v.seats.length : Int) ≤ 40) && (decide ((v.kills.length : Int) ≤ 40) && decide ((v.poles.length : Int) ≤ 40))

theorem few_pure (v : Venue) : PureC Try.prog 7 [v.v] (.lit (.bool (fewB v))) := by
  refine pure_of_gol 19 hm Try.func7 rfl rfl (by decide +kernel) ?_
  simp -implicitDefEqProofs only [steps0, steps1, steps2, steps3, steps4, Nat.reduceAdd, Nat.reduceEqDiff, reduceIte, evBox, Nat.reduceSub, Nat.reducePow, Nat.reduceMul, Int.reduceLT, Int.reduceLE, Int.reduceAdd, Int.reduceToNat, Nat.reduceLT, Nat.reduceLeDiff, Int.reduceEq, Int.reduceNeg, facts, Venue.v, List.length_map]
  repeat' first
    | (simp -implicitDefEqProofs only [steps0, steps1, steps2, steps3, steps4, Nat.reduceAdd, Nat.reduceEqDiff, reduceIte, evBox, Nat.reduceSub, Nat.reducePow, Nat.reduceMul, Int.reduceLT, Int.reduceLE, Int.reduceAdd, Int.reduceToNat, Nat.reduceLT, Nat.reduceLeDiff, Int.reduceEq, Int.reduceNeg, facts, List.length_map, *])
    | ((with_reducible refine gdk_split (fun h => ?_) (fun h => ?_)) <;> simp -implicitDefEqProofs only [steps0, steps1, steps2, steps3, steps4, Nat.reduceAdd, Nat.reduceEqDiff, reduceIte, evBox, Nat.reduceSub, Nat.reducePow, Nat.reduceMul, Int.reduceLT, Int.reduceLE, Int.reduceAdd, Int.reduceToNat, Nat.reduceLT, Nat.reduceLeDiff, Int.reduceEq, Int.reduceNeg, facts, List.length_map, *])
    | ((with_reducible refine cdk_split (fun h => ?_) (fun h => ?_)) <;> simp -implicitDefEqProofs only [steps0, steps1, steps2, steps3, steps4, Nat.reduceAdd, Nat.reduceEqDiff, reduceIte, evBox, Nat.reduceSub, Nat.reducePow, Nat.reduceMul, Int.reduceLT, Int.reduceLE, Int.reduceAdd, Int.reduceToNat, Nat.reduceLT, Nat.reduceLeDiff, Int.reduceEq, Int.reduceNeg, facts, List.length_map, *])
    | ((with_reducible refine exl_drawn ?_ ?_); (focus kernel_rfl); simp -implicitDefEqProofs only [steps0, steps1, steps2, steps3, steps4, Nat.reduceAdd, Nat.reduceEqDiff, reduceIte, evBox, Nat.reduceSub, Nat.reducePow, Nat.reduceMul, Int.reduceLT, Int.reduceLE, Int.reduceAdd, Int.reduceToNat, Nat.reduceLT, Nat.reduceLeDiff, Int.reduceEq, Int.reduceNeg, facts, List.length_map, *])
  all_goals exact ends_tmp (d := 2) rfl (.inr rfl) (by simp only [tg, fewB, Bool.true_and, Bool.false_and, *] <;> simp) rfl

def sameB (l m : List Int) : Bool := (l.length == m.length) && allB l.length fun j => l[j]? == m[j]?

theorem sameB_iff {l m : List Int} : sameB l m = true ↔ l = m := by
  constructor
  · intro h
    simp only [sameB, Bool.and_eq_true, beq_iff_eq, allB, List.all_eq_true, List.mem_range] at h
    refine List.ext_getElem? fun j => ?_
    by_cases hj : j < l.length
    · exact h.2 j hj
    · rw [List.getElem?_eq_none (by omega), List.getElem?_eq_none (by omega)]
  · rintro rfl
    simp [sameB, allB]

theorem same_pure (l m : List Int) : PureC Try.prog 13 [.lst 1 (l.map iV), .lst 1 (m.map iV)] (.lit (.bool (sameB l m))) := by
  refine pure_lst 0 rfl fun hlen => ?_
  refine pure_lst 1 rfl fun hlen2 => ?_
  rw [List.length_map] at hlen hlen2
  refine pure_of_gol 26 hm Try.func13 rfl rfl (by decide +kernel) ?_
  simp -implicitDefEqProofs only [steps0, steps1, steps2, steps3, steps4, Nat.reduceAdd, Nat.reduceEqDiff, reduceIte, evBox, Nat.reduceSub, Nat.reducePow, Nat.reduceMul, Int.reduceLT, Int.reduceLE, Int.reduceAdd, Int.reduceToNat, Nat.reduceLT, Nat.reduceLeDiff, Int.reduceEq, Int.reduceNeg, facts, List.length_map]
  by_cases hne : l.length = m.length
  · have e9 : ((l.length : Int) != (m.length : Int)) = false := by simp [hne]
    have hb : (l.length == m.length) = true := by simp [hne]
    have hlm : ∀ i, i < l.length → i < m.length := fun i h => hne ▸ h
    clear hne
    simp -implicitDefEqProofs only [steps0, steps1, steps2, steps3, steps4, Nat.reduceAdd, Nat.reduceEqDiff, reduceIte, evBox, Nat.reduceSub, Nat.reducePow, Nat.reduceMul, Int.reduceLT, Int.reduceLE, Int.reduceAdd, Int.reduceToNat, Nat.reduceLT, Nat.reduceLeDiff, Int.reduceEq, Int.reduceNeg, facts, e9]
    refine gol_loop (fun i : Nat => [.lst 1 (l.map iV), .lst 1 (m.map iV), .junk, .junk, .lit (.bool false), .lit (.int .i64 i)]) (fun _ => []) (fun i => l.length - i)
      (fun i => i ≤ l.length ∧ ∀ j, j < i → (l[j]? == m[j]?) = true) 0 hm (by decide +kernel) ⟨Nat.zero_le _, by simp⟩ ⟨[], [], by decide, by simp, by (simp [intoT, renF, wks]; done), by (simp [intoO, oneO, og, renF, owks, tree_ints]; done)⟩ ?_
    rintro i ⟨hi, hp⟩
    simp -implicitDefEqProofs only [steps0, steps1, steps2, steps3, steps4, Nat.reduceAdd, Nat.reduceEqDiff, reduceIte, evBox, Nat.reduceSub, Nat.reducePow, Nat.reduceMul, Int.reduceLT, Int.reduceLE, Int.reduceAdd, Int.reduceToNat, Nat.reduceLT, Nat.reduceLeDiff, Int.reduceEq, Int.reduceNeg, facts, List.length_map]
    by_cases hlt : i < l.length
    · obtain ⟨s, hs⟩ : ∃ s, l[i]? = some s := ⟨l[i], by simp [hlt]⟩
      obtain ⟨t, ht⟩ : ∃ t, m[i]? = some t := ⟨m[i]'(hlm i hlt), List.getElem?_eq_getElem (hlm i hlt)⟩
      have e0 : decide ((i : Int) < (l.length : Int)) = true := by simp; omega
      have e1 : IntKind.i64.wrap ((i : Int) + 1) = ((i + 1 : Nat) : Int) := by rw [w64 (by omega)]; omega
      simp -implicitDefEqProofs only [steps0, steps1, steps2, steps3, steps4, Nat.reduceAdd, Nat.reduceEqDiff, reduceIte, evBox, Nat.reduceSub, Nat.reducePow, Nat.reduceMul, Int.reduceLT, Int.reduceLE, Int.reduceAdd, Int.reduceToNat, Nat.reduceLT, Nat.reduceLeDiff, Int.reduceEq, Int.reduceNeg, facts, e0, hs, ht, List.getElem?_map, iV]
      repeat' first
        | (simp -implicitDefEqProofs only [steps0, steps1, steps2, steps3, steps4, Nat.reduceAdd, Nat.reduceEqDiff, reduceIte, evBox, Nat.reduceSub, Nat.reducePow, Nat.reduceMul, Int.reduceLT, Int.reduceLE, Int.reduceAdd, Int.reduceToNat, Nat.reduceLT, Nat.reduceLeDiff, Int.reduceEq, Int.reduceNeg, facts, List.getElem?_map, List.length_map, iV, *])
        | ((with_reducible refine gdk_split (fun h => ?_) (fun h => ?_)) <;> simp -implicitDefEqProofs only [steps0, steps1, steps2, steps3, steps4, Nat.reduceAdd, Nat.reduceEqDiff, reduceIte, evBox, Nat.reduceSub, Nat.reducePow, Nat.reduceMul, Int.reduceLT, Int.reduceLE, Int.reduceAdd, Int.reduceToNat, Nat.reduceLT, Nat.reduceLeDiff, Int.reduceEq, Int.reduceNeg, facts, List.getElem?_map, List.length_map, iV, *])
        | ((with_reducible refine cdk_split (fun h => ?_) (fun h => ?_)) <;> simp -implicitDefEqProofs only [steps0, steps1, steps2, steps3, steps4, Nat.reduceAdd, Nat.reduceEqDiff, reduceIte, evBox, Nat.reduceSub, Nat.reducePow, Nat.reduceMul, Int.reduceLT, Int.reduceLE, Int.reduceAdd, Int.reduceToNat, Nat.reduceLT, Nat.reduceLeDiff, Int.reduceEq, Int.reduceNeg, facts, List.getElem?_map, List.length_map, iV, *])
        | ((with_reducible refine exl_drawn ?_ ?_); (focus kernel_rfl); simp -implicitDefEqProofs only [steps0, steps1, steps2, steps3, steps4, Nat.reduceAdd, Nat.reduceEqDiff, reduceIte, evBox, Nat.reduceSub, Nat.reducePow, Nat.reduceMul, Int.reduceLT, Int.reduceLE, Int.reduceAdd, Int.reduceToNat, Nat.reduceLT, Nat.reduceLeDiff, Int.reduceEq, Int.reduceNeg, facts, List.getElem?_map, List.length_map, iV, *])
      all_goals first
        | (refine bkl_again (i + 1) ⟨hlt, fun j hj => ?_⟩ (by omega) ⟨[], [], by decide, by simp, by (simp [intoT, renF, wks, iV]; done), by (simp [intoO, oneO, og, renF, owks, tree_ints, iV]; done)⟩
           rcases Nat.lt_or_eq_of_le (Nat.le_of_lt_succ hj) with hj | rfl
           · exact hp j hj
           · rw [hs, ht]; simp_all)
        | exact ends_tmp (d := 4) rfl (.inr rfl) (by simp only [sameB]; rw [allB_false hlt (by rw [hs, ht]; simp_all)]; simp [tg]) rfl
    · have e0 : decide ((i : Int) < (l.length : Int)) = false := by simp; omega
      have hall : allB l.length (fun j => l[j]? == m[j]?) = true := allB_true fun j hj => hp j (by omega)
      simp -implicitDefEqProofs only [steps0, steps1, steps2, steps3, steps4, Nat.reduceAdd, Nat.reduceEqDiff, reduceIte, evBox, Nat.reduceSub, Nat.reducePow, Nat.reduceMul, Int.reduceLT, Int.reduceLE, Int.reduceAdd, Int.reduceToNat, Nat.reduceLT, Nat.reduceLeDiff, Int.reduceEq, Int.reduceNeg, facts, e0, List.length_map]
      repeat' first
        | (simp -implicitDefEqProofs only [steps0, steps1, steps2, steps3, steps4, Nat.reduceAdd, Nat.reduceEqDiff, reduceIte, evBox, Nat.reduceSub, Nat.reducePow, Nat.reduceMul, Int.reduceLT, Int.reduceLE, Int.reduceAdd, Int.reduceToNat, Nat.reduceLT, Nat.reduceLeDiff, Int.reduceEq, Int.reduceNeg, facts, List.length_map, *])
        | ((with_reducible refine gdk_split (fun h => ?_) (fun h => ?_)) <;> simp -implicitDefEqProofs only [steps0, steps1, steps2, steps3, steps4, Nat.reduceAdd, Nat.reduceEqDiff, reduceIte, evBox, Nat.reduceSub, Nat.reducePow, Nat.reduceMul, Int.reduceLT, Int.reduceLE, Int.reduceAdd, Int.reduceToNat, Nat.reduceLT, Nat.reduceLeDiff, Int.reduceEq, Int.reduceNeg, facts, List.length_map, *])
        | ((with_reducible refine cdk_split (fun h => ?_) (fun h => ?_)) <;> simp -implicitDefEqProofs only [steps0, steps1, steps2, steps3, steps4, Nat.reduceAdd, Nat.reduceEqDiff, reduceIte, evBox, Nat.reduceSub, Nat.reducePow, Nat.reduceMul, Int.reduceLT, Int.reduceLE, Int.reduceAdd, Int.reduceToNat, Nat.reduceLT, Nat.reduceLeDiff, Int.reduceEq, Int.reduceNeg, facts, List.length_map, *])
        | ((with_reducible refine exl_drawn ?_ ?_); (focus kernel_rfl); simp -implicitDefEqProofs only [steps0, steps1, steps2, steps3, steps4, Nat.reduceAdd, Nat.reduceEqDiff, reduceIte, evBox, Nat.reduceSub, Nat.reducePow, Nat.reduceMul, Int.reduceLT, Int.reduceLE, Int.reduceAdd, Int.reduceToNat, Nat.reduceLT, Nat.reduceLeDiff, Int.reduceEq, Int.reduceNeg, facts, List.length_map, *])
      all_goals exact ends_tmp (d := 4) rfl (.inr rfl) (by simp only [tg, sameB, hall, hb, Bool.and_self]) rfl
  · have e9 : ((l.length : Int) != (m.length : Int)) = true := by simp; omega
    simp -implicitDefEqProofs only [steps0, steps1, steps2, steps3, steps4, Nat.reduceAdd, Nat.reduceEqDiff, reduceIte, evBox, Nat.reduceSub, Nat.reducePow, Nat.reduceMul, Int.reduceLT, Int.reduceLE, Int.reduceAdd, Int.reduceToNat, Nat.reduceLT, Nat.reduceLeDiff, Int.reduceEq, Int.reduceNeg, facts, e9]
    repeat' first
      | (simp -implicitDefEqProofs only [steps0, steps1, steps2, steps3, steps4, Nat.reduceAdd, Nat.reduceEqDiff, reduceIte, evBox, Nat.reduceSub, Nat.reducePow, Nat.reduceMul, Int.reduceLT, Int.reduceLE, Int.reduceAdd, Int.reduceToNat, Nat.reduceLT, Nat.reduceLeDiff, Int.reduceEq, Int.reduceNeg, facts, *])
      | ((with_reducible refine gdk_split (fun h => ?_) (fun h => ?_)) <;> simp -implicitDefEqProofs only [steps0, steps1, steps2, steps3, steps4, Nat.reduceAdd, Nat.reduceEqDiff, reduceIte, evBox, Nat.reduceSub, Nat.reducePow, Nat.reduceMul, Int.reduceLT, Int.reduceLE, Int.reduceAdd, Int.reduceToNat, Nat.reduceLT, Nat.reduceLeDiff, Int.reduceEq, Int.reduceNeg, facts, *])
      | ((with_reducible refine cdk_split (fun h => ?_) (fun h => ?_)) <;> simp -implicitDefEqProofs only [steps0, steps1, steps2, steps3, steps4, Nat.reduceAdd, Nat.reduceEqDiff, reduceIte, evBox, Nat.reduceSub, Nat.reducePow, Nat.reduceMul, Int.reduceLT, Int.reduceLE, Int.reduceAdd, Int.reduceToNat, Nat.reduceLT, Nat.reduceLeDiff, Int.reduceEq, Int.reduceNeg, facts, *])
      | ((with_reducible refine exl_drawn ?_ ?_); (focus kernel_rfl); simp -implicitDefEqProofs only [steps0, steps1, steps2, steps3, steps4, Nat.reduceAdd, Nat.reduceEqDiff, reduceIte, evBox, Nat.reduceSub, Nat.reducePow, Nat.reduceMul, Int.reduceLT, Int.reduceLE, Int.reduceAdd, Int.reduceToNat, Nat.reduceLT, Nat.reduceLeDiff, Int.reduceEq, Int.reduceNeg, facts, *])
    all_goals exact ends_tmp (d := 4) rfl (.inr rfl) (by simp [tg, sameB, hne]) rfl

end Go.Proofs.Ytehdpfhpiplbgaa
