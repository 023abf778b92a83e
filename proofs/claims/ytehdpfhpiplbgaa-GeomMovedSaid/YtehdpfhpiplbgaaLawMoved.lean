/-
  GeomMoved: moved as a whole, a venue has the same clashes; with a greater radius no fewer.
-/
import Derived.Test.YtehdpfhpiplbgaaMoved
namespace Go.Proofs.Ytehdpfhpiplbgaa
open Go.AV
set_option linter.unusedSimpArgs false
set_option linter.unusedVariables false

theorem thousand (n : Int) (k : Nat) (h0 : 0 < k) (h1 : k ≤ 1000) : ∃ a : Int, IntKind.i64.wrap ((IntKind.u64.wrap n).tmod (k : Int)) = a ∧ 0 ≤ a ∧ a ≤ k := by
  obtain ⟨h1, h2, h3⟩ := part_bound n k h0 (by omega)
  exact ⟨_, h1, h2, by omega⟩

set_option maxRecDepth 100000 in
set_option maxHeartbeats 4000000 in
theorem movedLaw (v : Venue) (ht : Tidy v) (dx dy dk : Int) (hx : 0 ≤ dx ∧ dx ≤ 1000) (hy : 0 ≤ dy ∧ dy ≤ 1000) (hk : 0 ≤ dk ∧ dk ≤ 50) (l : List Int) (a b c : Int)
    (hmk : PureC Try.prog 19 [.lst 1 (l.map iV), .lit (.int .i64 20)] v.v)
    (ea : IntKind.i64.wrap ((IntKind.u64.wrap a).tmod 1000) = dx) (eb : IntKind.i64.wrap ((IntKind.u64.wrap b).tmod 1000) = dy) (ec : IntKind.i64.wrap ((IntKind.u64.wrap c).tmod 50) = dk) :
    PureC Try.prog 5 [.lst 1 (l.map iV), .lit (.int .i64 a), .lit (.int .i64 b), .lit (.int .i64 c)] (.lit (.bool true)) := by
  have hlen := ht.len1
  have hL : v.seats.length ≤ 4096 := hlen.2
  have hA1 : v.seats.length ≤ maxLen := by unfold maxLen; omega
  have hA2 : v.seats.length * 32 ≤ 140737488355328 := by omega
  have hrad := ht.rad
  have er : IntKind.i64.wrap (v.radius + dk) = v.radius + dk := w64 (by omega)
  refine pure_of_golw 173 hm Try.func5 rfl rfl (by decide +kernel) ?_
  simp -implicitDefEqProofs only [steps0, steps1, steps2, steps3, steps4, Nat.reduceAdd, Nat.reduceEqDiff, reduceIte, evBox, Nat.reduceSub, Nat.reducePow, Nat.reduceMul, Int.reduceLT, Int.reduceLE, Int.reduceAdd, Int.reduceToNat, Nat.reduceLT, Nat.reduceLeDiff, Int.reduceEq, Int.reduceNeg, facts]
  repeat' first
    | ((with_reducible refine exl_iscall ?_); refine exl_pure (by kernel_rfl) (hmk) rfl rfl ?_; simp -implicitDefEqProofs only [steps0, steps1, steps2, steps3, steps4, Nat.reduceAdd, Nat.reduceEqDiff, reduceIte, evBox, Nat.reduceSub, Nat.reducePow, Nat.reduceMul, Int.reduceLT, Int.reduceLE, Int.reduceAdd, Int.reduceToNat, Nat.reduceLT, Nat.reduceLeDiff, Int.reduceEq, Int.reduceNeg, facts, List.length_map, Venue.v, *])
    | (simp -implicitDefEqProofs only [steps0, steps1, steps2, steps3, steps4, Nat.reduceAdd, Nat.reduceEqDiff, reduceIte, evBox, Nat.reduceSub, Nat.reducePow, Nat.reduceMul, Int.reduceLT, Int.reduceLE, Int.reduceAdd, Int.reduceToNat, Nat.reduceLT, Nat.reduceLeDiff, Int.reduceEq, Int.reduceNeg, facts, List.length_map, Venue.v, *])
    | ((with_reducible refine gdk_split (fun h => ?_) (fun h => ?_)) <;> simp -implicitDefEqProofs only [steps0, steps1, steps2, steps3, steps4, Nat.reduceAdd, Nat.reduceEqDiff, reduceIte, evBox, Nat.reduceSub, Nat.reducePow, Nat.reduceMul, Int.reduceLT, Int.reduceLE, Int.reduceAdd, Int.reduceToNat, Nat.reduceLT, Nat.reduceLeDiff, Int.reduceEq, Int.reduceNeg, facts, List.length_map, Venue.v, *])
    | ((with_reducible refine cdk_split (fun h => ?_) (fun h => ?_)) <;> simp -implicitDefEqProofs only [steps0, steps1, steps2, steps3, steps4, Nat.reduceAdd, Nat.reduceEqDiff, reduceIte, evBox, Nat.reduceSub, Nat.reducePow, Nat.reduceMul, Int.reduceLT, Int.reduceLE, Int.reduceAdd, Int.reduceToNat, Nat.reduceLT, Nat.reduceLeDiff, Int.reduceEq, Int.reduceNeg, facts, List.length_map, Venue.v, *])
    | ((with_reducible refine exl_drawn ?_ ?_); (focus kernel_rfl); simp -implicitDefEqProofs only [steps0, steps1, steps2, steps3, steps4, Nat.reduceAdd, Nat.reduceEqDiff, reduceIte, evBox, Nat.reduceSub, Nat.reducePow, Nat.reduceMul, Int.reduceLT, Int.reduceLE, Int.reduceAdd, Int.reduceToNat, Nat.reduceLT, Nat.reduceLeDiff, Int.reduceEq, Int.reduceNeg, facts, List.length_map, Venue.v, *])
    | ((with_reducible refine cdkw_split (fun h => ?_) (fun h => ?_)) <;> simp -implicitDefEqProofs only [steps0, steps1, steps2, steps3, steps4, Nat.reduceAdd, Nat.reduceEqDiff, reduceIte, evBox, Nat.reduceSub, Nat.reducePow, Nat.reduceMul, Int.reduceLT, Int.reduceLE, Int.reduceAdd, Int.reduceToNat, Nat.reduceLT, Nat.reduceLeDiff, Int.reduceEq, Int.reduceNeg, facts, List.length_map, Venue.v, *])
    | ((with_reducible refine bkl_seqw ?_); simp -implicitDefEqProofs only [steps0, steps1, steps2, steps3, steps4, Nat.reduceAdd, Nat.reduceEqDiff, reduceIte, evBox, Nat.reduceSub, Nat.reducePow, Nat.reduceMul, Int.reduceLT, Int.reduceLE, Int.reduceAdd, Int.reduceToNat, Nat.reduceLT, Nat.reduceLeDiff, Int.reduceEq, Int.reduceNeg, facts, List.length_map, Venue.v, *])
  refine gol_loop (fun i : Nat => jn 3 (.lit (.int .i64 c) :: jn 5 (.ptr 0 0 :: .ptr 1 0 :: .lit (.int .i64 dx) :: .lit (.int .i64 dy) :: [.lit (.int .i64 (i : Int))])))
    (fun i => [some (.box v.v.cells), some (.box [.ref 2, .lit (.int .i64 v.gap), .lit (.int .i64 v.radius), .lst 1 (v.kills.map iV), .lst 3 (v.poles.map Pole.v)]), some (.row 28 4 v.seats.length (seatCells (partly v dx dy i)))])
    (fun i => v.seats.length - i) (fun i => i ≤ v.seats.length) 0 hm (by decide +kernel) (Nat.zero_le _) ⟨[some 0, some 2, some 5], [], by decide, by simp, by (simp [intoT, renF, wks, partly_zero, show ∀ l, cellsOf (List.map Seat.v l) = seatCells l from fun _ => rfl, seatCells_tree, Venue.v, V.cells]; done), by (simp [intoO, oneO, og, renF, owks, tree_ints, partly_zero, show ∀ l, cellsOf (List.map Seat.v l) = seatCells l from fun _ => rfl, seatCells_tree, Venue.v, V.cells]; done)⟩ ?_
  intro i hi
  by_cases hlt : i < v.seats.length
  · obtain ⟨s, hs⟩ : ∃ s, v.seats[i]? = some s := ⟨v.seats[i], by simp [hlt]⟩
    obtain ⟨hp1, hp2⟩ := partly_mid (dx := dx) (dy := dy) hs
    have hsb := ht.seat i s hs
    have w1 : IntKind.i64.wrap (s.x + dx) = s.x + dx := w64 (by omega)
    have w2 : IntKind.i64.wrap (s.y - dy) = s.y - dy := w64 (by omega)
    have e0 : decide ((i : Int) < (v.seats.length : Int)) = true := by simp; omega
    have e1 : IntKind.i64.wrap ((i : Int) + 1) = ((i + 1 : Nat) : Int) := by rw [w64 (by omega)]; omega
    have eI : (i : Int) < (v.seats.length : Int) := by omega
    have hP : ((v.seats.take i).map (mvS dx dy)).length = i := by simp; omega
    have hq : (v.seats.drop (i + 1)).length = v.seats.length - (i + 1) := by simp
    have c1 : seatCells (partly v dx dy i) = seatMid ((v.seats.take i).map (mvS dx dy)) s (v.seats.drop (i + 1)) := by rw [hp1]; rfl
    have c2 : seatCells (partly v dx dy (i + 1)) = seatMid ((v.seats.take i).map (mvS dx dy)) ⟨s.row, s.x + dx, s.y - dy, s.kind⟩ (v.seats.drop (i + 1)) := by rw [hp2]; rfl
    have k1 : i * 4 + 1 + 1 ≤ v.seats.length * 4 := by omega
    have k2 : i * 4 + 2 + 1 ≤ v.seats.length * 4 := by omega
    generalize (v.seats.take i).map (mvS dx dy) = pre at *
    generalize v.seats.drop (i + 1) = post at *
    have kl : ∀ s, (seatMid pre s post).length = v.seats.length * 4 := fun s => by rw [seatMid_len, hP, hq]; omega
    have gx := (seatMid_get (post := post) (s := s) hP).1
    have gy := (seatMid_get (post := post) (s := s) hP).2
    have px : ∀ s z, splice (seatMid pre s post) (i * 4 + 1) [.lit (.int .i64 z)] = seatMid pre ⟨s.row, z, s.y, s.kind⟩ post := fun s z => seatMid_putx hP
    have py : ∀ s z, splice (seatMid pre s post) (i * 4 + 2) [.lit (.int .i64 z)] = seatMid pre ⟨s.row, s.x, z, s.kind⟩ post := fun s z => seatMid_puty hP
    clear hp1 hp2 hq hP hsb hA1 hA2 hrad hlen ht
    rw [c1]
    simp -implicitDefEqProofs only [steps0, steps1, steps2, steps3, steps4, Nat.reduceAdd, Nat.reduceEqDiff, reduceIte, evBox, Nat.reduceSub, Nat.reducePow, Nat.reduceMul, Int.reduceLT, Int.reduceLE, Int.reduceAdd, Int.reduceToNat, Nat.reduceLT, Nat.reduceLeDiff, Int.reduceEq, Int.reduceNeg, facts, e0]
    repeat' first
      | (simp -implicitDefEqProofs only [steps0, steps1, steps2, steps3, steps4, Nat.reduceAdd, Nat.reduceEqDiff, reduceIte, evBox, Nat.reduceSub, Nat.reducePow, Nat.reduceMul, Int.reduceLT, Int.reduceLE, Int.reduceAdd, Int.reduceToNat, Nat.reduceLT, Nat.reduceLeDiff, Int.reduceEq, Int.reduceNeg, facts, List.length_map, Venue.v, *])
      | ((with_reducible refine gdk_split (fun h => ?_) (fun h => ?_)) <;> simp -implicitDefEqProofs only [steps0, steps1, steps2, steps3, steps4, Nat.reduceAdd, Nat.reduceEqDiff, reduceIte, evBox, Nat.reduceSub, Nat.reducePow, Nat.reduceMul, Int.reduceLT, Int.reduceLE, Int.reduceAdd, Int.reduceToNat, Nat.reduceLT, Nat.reduceLeDiff, Int.reduceEq, Int.reduceNeg, facts, List.length_map, Venue.v, *])
      | ((with_reducible refine cdk_split (fun h => ?_) (fun h => ?_)) <;> simp -implicitDefEqProofs only [steps0, steps1, steps2, steps3, steps4, Nat.reduceAdd, Nat.reduceEqDiff, reduceIte, evBox, Nat.reduceSub, Nat.reducePow, Nat.reduceMul, Int.reduceLT, Int.reduceLE, Int.reduceAdd, Int.reduceToNat, Nat.reduceLT, Nat.reduceLeDiff, Int.reduceEq, Int.reduceNeg, facts, List.length_map, Venue.v, *])
      | ((with_reducible refine exl_drawn ?_ ?_); (focus kernel_rfl); simp -implicitDefEqProofs only [steps0, steps1, steps2, steps3, steps4, Nat.reduceAdd, Nat.reduceEqDiff, reduceIte, evBox, Nat.reduceSub, Nat.reducePow, Nat.reduceMul, Int.reduceLT, Int.reduceLE, Int.reduceAdd, Int.reduceToNat, Nat.reduceLT, Nat.reduceLeDiff, Int.reduceEq, Int.reduceNeg, facts, List.length_map, Venue.v, *])
    exact bkl_again (i + 1) hlt (by omega) ⟨[some 0, some 1, some 2], [], by decide, by simp, by (simp [intoT, renF, wks, c2, seatMid, seatCells_tree, Venue.v, V.cells]; done), by (simp [intoO, oneO, og, renF, owks, tree_ints, c2, seatMid, seatCells_tree, Venue.v, V.cells]; done)⟩
  · have hi' : i = v.seats.length := by omega
    subst hi'
    have f0 : decide (((v.seats.length : Nat) : Int) < ((v.seats.length : Nat) : Int)) = false := by simp
    have gV := graph_pure v
    have gU := graph_pure (moveV v dx dy)
    have gW := graph_pure (wideV v dk)
    have mU := move_may ht hx hy
    have mW := wide_may ht hk
    have lV := graphL_len ht.may
    have lU := graphL_len mU
    have lW := graphL_len mW
    have aV : ∀ i, i < v.seats.length → ((graphL v).map intsV)[i]? = some (intsV (graphRow v i)) := fun i hi => by simp [graphL_get ht.may hi]
    have aU : ∀ i, i < v.seats.length → ((graphL (moveV v dx dy)).map intsV)[i]? = some (intsV (graphRow v i)) := fun i hi => by
      rw [List.getElem?_map, graphL_get mU (by simpa [moveV] using hi), graph_moved ht hx hy]; rfl
    have aW : ∀ i, i < v.seats.length → ((graphL (wideV v dk)).map intsV)[i]? = some (intsV (graphRow (wideV v dk) i)) := fun i hi => by simp [graphL_get mW (i := i) hi]
    have lU' : (moveV v dx dy).seats.length = v.seats.length := by simp [moveV]
    simp only [rowsV] at gV gU gW
    have nV : ((graphL v).map intsV).length = v.seats.length := by simp [lV]
    have nU : ((graphL (moveV v dx dy)).map intsV).length = v.seats.length := by simp [lU, lU']
    have nW : ((graphL (wideV v dk)).map intsV).length = v.seats.length := by simp [lW]; rfl
    generalize (graphL v).map intsV = GV at *
    generalize (graphL (moveV v dx dy)).map intsV = GU at *
    generalize (graphL (wideV v dk)).map intsV = GW at *
    rw [partly_full]
    simp -implicitDefEqProofs only [steps0, steps1, steps2, steps3, steps4, Nat.reduceAdd, Nat.reduceEqDiff, reduceIte, evBox, Nat.reduceSub, Nat.reducePow, Nat.reduceMul, Int.reduceLT, Int.reduceLE, Int.reduceAdd, Int.reduceToNat, Nat.reduceLT, Nat.reduceLeDiff, Int.reduceEq, Int.reduceNeg, facts, f0]
    refine bkl_into (jn 3 (.lit (.int .i64 c) :: jn 5 (.ptr 0 0 :: [.ptr 1 0]))) [some (.box v.v.cells), some (.box (moveV v dx dy).v.cells)]
      ⟨[some 0, some 1], [(2, .row 28 4 v.seats.length (seatCells (moveV v dx dy).seats))], by decide, by simp [og], by simp [intoT, renF, wks],
        ⟨⟨by simp, _, rfl, .box (wkL_trees rfl)⟩, ⟨by simp, _, rfl, .box (wkL_cons.2 ⟨wk_rest (List.mem_singleton.2 rfl) rfl (by simp [moveV]) (fun x hx => by obtain ⟨s, _, rfl⟩ := List.mem_map.1 hx; rfl) (seatCells_tree _), wkL_trees rfl⟩)⟩, trivial⟩⟩ ?_
    refine golw_of ?_
    clear lV lU lW mU hA1 hA2 hlen lU'
    simp -implicitDefEqProofs only [steps0, steps1, steps2, steps3, steps4, Nat.reduceAdd, Nat.reduceEqDiff, reduceIte, evBox, Nat.reduceSub, Nat.reducePow, Nat.reduceMul, Int.reduceLT, Int.reduceLE, Int.reduceAdd, Int.reduceToNat, Nat.reduceLT, Nat.reduceLeDiff, Int.reduceEq, Int.reduceNeg, facts, Venue.v]
    repeat' first
      | ((with_reducible refine exl_iscall ?_); refine exl_pure (by kernel_rfl) (gV) rfl rfl ?_; simp -implicitDefEqProofs only [steps0, steps1, steps2, steps3, steps4, Nat.reduceAdd, Nat.reduceEqDiff, reduceIte, evBox, Nat.reduceSub, Nat.reducePow, Nat.reduceMul, Int.reduceLT, Int.reduceLE, Int.reduceAdd, Int.reduceToNat, Nat.reduceLT, Nat.reduceLeDiff, Int.reduceEq, Int.reduceNeg, facts, List.length_map, bne_self_eq_false, wideV, *])
      | ((with_reducible refine exl_iscall ?_); refine exl_pure (by kernel_rfl) (gU) rfl rfl ?_; simp -implicitDefEqProofs only [steps0, steps1, steps2, steps3, steps4, Nat.reduceAdd, Nat.reduceEqDiff, reduceIte, evBox, Nat.reduceSub, Nat.reducePow, Nat.reduceMul, Int.reduceLT, Int.reduceLE, Int.reduceAdd, Int.reduceToNat, Nat.reduceLT, Nat.reduceLeDiff, Int.reduceEq, Int.reduceNeg, facts, List.length_map, bne_self_eq_false, wideV, *])
      | ((with_reducible refine exl_iscall ?_); refine exl_pure (by kernel_rfl) (gW) rfl rfl ?_; simp -implicitDefEqProofs only [steps0, steps1, steps2, steps3, steps4, Nat.reduceAdd, Nat.reduceEqDiff, reduceIte, evBox, Nat.reduceSub, Nat.reducePow, Nat.reduceMul, Int.reduceLT, Int.reduceLE, Int.reduceAdd, Int.reduceToNat, Nat.reduceLT, Nat.reduceLeDiff, Int.reduceEq, Int.reduceNeg, facts, List.length_map, bne_self_eq_false, wideV, *])
      | (simp -implicitDefEqProofs only [steps0, steps1, steps2, steps3, steps4, Nat.reduceAdd, Nat.reduceEqDiff, reduceIte, evBox, Nat.reduceSub, Nat.reducePow, Nat.reduceMul, Int.reduceLT, Int.reduceLE, Int.reduceAdd, Int.reduceToNat, Nat.reduceLT, Nat.reduceLeDiff, Int.reduceEq, Int.reduceNeg, facts, List.length_map, bne_self_eq_false, wideV, *])
      | ((with_reducible refine gdk_split (fun h => ?_) (fun h => ?_)) <;> simp -implicitDefEqProofs only [steps0, steps1, steps2, steps3, steps4, Nat.reduceAdd, Nat.reduceEqDiff, reduceIte, evBox, Nat.reduceSub, Nat.reducePow, Nat.reduceMul, Int.reduceLT, Int.reduceLE, Int.reduceAdd, Int.reduceToNat, Nat.reduceLT, Nat.reduceLeDiff, Int.reduceEq, Int.reduceNeg, facts, List.length_map, bne_self_eq_false, wideV, *])
      | ((with_reducible refine cdk_split (fun h => ?_) (fun h => ?_)) <;> simp -implicitDefEqProofs only [steps0, steps1, steps2, steps3, steps4, Nat.reduceAdd, Nat.reduceEqDiff, reduceIte, evBox, Nat.reduceSub, Nat.reducePow, Nat.reduceMul, Int.reduceLT, Int.reduceLE, Int.reduceAdd, Int.reduceToNat, Nat.reduceLT, Nat.reduceLeDiff, Int.reduceEq, Int.reduceNeg, facts, List.length_map, bne_self_eq_false, wideV, *])
      | ((with_reducible refine exl_drawn ?_ ?_); (focus kernel_rfl); simp -implicitDefEqProofs only [steps0, steps1, steps2, steps3, steps4, Nat.reduceAdd, Nat.reduceEqDiff, reduceIte, evBox, Nat.reduceSub, Nat.reducePow, Nat.reduceMul, Int.reduceLT, Int.reduceLE, Int.reduceAdd, Int.reduceToNat, Nat.reduceLT, Nat.reduceLeDiff, Int.reduceEq, Int.reduceNeg, facts, List.length_map, bne_self_eq_false, wideV, *])
    clear gV gU gW hmk
    refine gol_loop (fun i : Nat => jn 9 (.ptr 0 0 :: jn 4 (.ptr 1 0 :: .lst 1 GV :: .lst 1 GU :: .lst 1 GW :: [.lit (.int .i64 (i : Int))]))) (fun _ => [some (.box v.v.cells), some (.box (wideV v dk).v.cells)])
      (fun i => v.seats.length - i) (fun i => i ≤ v.seats.length) 0 hm (by decide +kernel) (Nat.zero_le _) ⟨[some 0, some 2], [], by decide, by simp, by (simp [intoT, renF, wks, Venue.v, V.cells, wideV]; done), by (simp [intoO, oneO, og, renF, owks, tree_ints, Venue.v, V.cells, wideV]; done)⟩ ?_
    intro i hi
    by_cases hlt : i < v.seats.length
    · have e0 : decide ((i : Int) < (v.seats.length : Int)) = true := by simp; omega
      have e1 : IntKind.i64.wrap ((i : Int) + 1) = ((i + 1 : Nat) : Int) := by rw [w64 (by omega)]; omega
      have aV' := aV i hlt
      have aU' := aU i hlt
      have aW' := aW i hlt
      have hle := graph_len ht hk i
      have hrow : ∀ (m : Nat) (z : Int), (graphRow v i)[m]? = some z → ∃ j : Nat, z = j ∧ j < v.seats.length ∧ clashB v j i = true ∧ clashB (wideV v dk) i j = true := fun m z hz => by
        obtain ⟨j, h1, h2, h3⟩ := row_at hz
        refine ⟨j, h1, h2, ?_, ?_⟩
        · rw [clash_graph ht.may h2 hlt]; exact graph_sym ht h3
        · rw [clash_graph mW hlt h2]; exact graph_wide ht hk h3
      have hrl : (graphRow v i).length ≤ v.seats.length := upTo_len _ _
      generalize graphRow v i = R at *
      generalize graphRow (wideV v dk) i = R3 at *
      have ss := sameB_self R
      have e3 : decide ((R3.length : Int) < (R.length : Int)) = false := by simp; omega
      clear aV aU aW hle
      simp -implicitDefEqProofs only [steps0, steps1, steps2, steps3, steps4, Nat.reduceAdd, Nat.reduceEqDiff, reduceIte, evBox, Nat.reduceSub, Nat.reducePow, Nat.reduceMul, Int.reduceLT, Int.reduceLE, Int.reduceAdd, Int.reduceToNat, Nat.reduceLT, Nat.reduceLeDiff, Int.reduceEq, Int.reduceNeg, facts, e0, nV]
      repeat' first
        | ((with_reducible refine exl_iscall ?_); refine exl_pure (by kernel_rfl) (same_pure R R) rfl rfl ?_; simp -implicitDefEqProofs only [steps0, steps1, steps2, steps3, steps4, Nat.reduceAdd, Nat.reduceEqDiff, reduceIte, evBox, Nat.reduceSub, Nat.reducePow, Nat.reduceMul, Int.reduceLT, Int.reduceLE, Int.reduceAdd, Int.reduceToNat, Nat.reduceLT, Nat.reduceLeDiff, Int.reduceEq, Int.reduceNeg, facts, List.length_map, nV, intsV, Venue.v, wideV, *])
        | (simp -implicitDefEqProofs only [steps0, steps1, steps2, steps3, steps4, Nat.reduceAdd, Nat.reduceEqDiff, reduceIte, evBox, Nat.reduceSub, Nat.reducePow, Nat.reduceMul, Int.reduceLT, Int.reduceLE, Int.reduceAdd, Int.reduceToNat, Nat.reduceLT, Nat.reduceLeDiff, Int.reduceEq, Int.reduceNeg, facts, List.length_map, nV, intsV, Venue.v, wideV, *])
        | ((with_reducible refine gdk_split (fun h => ?_) (fun h => ?_)) <;> simp -implicitDefEqProofs only [steps0, steps1, steps2, steps3, steps4, Nat.reduceAdd, Nat.reduceEqDiff, reduceIte, evBox, Nat.reduceSub, Nat.reducePow, Nat.reduceMul, Int.reduceLT, Int.reduceLE, Int.reduceAdd, Int.reduceToNat, Nat.reduceLT, Nat.reduceLeDiff, Int.reduceEq, Int.reduceNeg, facts, List.length_map, nV, intsV, Venue.v, wideV, *])
        | ((with_reducible refine cdk_split (fun h => ?_) (fun h => ?_)) <;> simp -implicitDefEqProofs only [steps0, steps1, steps2, steps3, steps4, Nat.reduceAdd, Nat.reduceEqDiff, reduceIte, evBox, Nat.reduceSub, Nat.reducePow, Nat.reduceMul, Int.reduceLT, Int.reduceLE, Int.reduceAdd, Int.reduceToNat, Nat.reduceLT, Nat.reduceLeDiff, Int.reduceEq, Int.reduceNeg, facts, List.length_map, nV, intsV, Venue.v, wideV, *])
        | ((with_reducible refine exl_drawn ?_ ?_); (focus kernel_rfl); simp -implicitDefEqProofs only [steps0, steps1, steps2, steps3, steps4, Nat.reduceAdd, Nat.reduceEqDiff, reduceIte, evBox, Nat.reduceSub, Nat.reducePow, Nat.reduceMul, Int.reduceLT, Int.reduceLE, Int.reduceAdd, Int.reduceToNat, Nat.reduceLT, Nat.reduceLeDiff, Int.reduceEq, Int.reduceNeg, facts, List.length_map, nV, intsV, Venue.v, wideV, *])
      refine gol_loop (fun k : Nat => jn 9 (.ptr 0 0 :: jn 4 (.ptr 1 0 :: .lst 1 GV :: .lst 1 GU :: .lst 1 GW :: .lit (.int .i64 (i : Int)) :: [.lit (.int .i64 (k : Int))]))) (fun _ => [some (.box v.v.cells), some (.box (wideV v dk).v.cells)])
        (fun k => R.length - k) (fun k => k ≤ R.length) 0 hm (by decide +kernel) (Nat.zero_le _) ⟨[some 0, some 1], [], by decide, by simp, by (simp [intoT, renF, wks, Venue.v, V.cells, wideV]; done), by (simp [intoO, oneO, og, renF, owks, tree_ints, Venue.v, V.cells, wideV]; done)⟩ ?_
      intro k hk2
      by_cases hkt : k < R.length
      · obtain ⟨z, hz⟩ : ∃ z, R[k]? = some z := ⟨R[k], by simp [hkt]⟩
        obtain ⟨j, rfl, hj, hc1, hc2⟩ := hrow k z hz
        have f0 : decide ((k : Int) < (R.length : Int)) = true := by simp; omega
        have f1 : IntKind.i64.wrap ((k : Int) + 1) = ((k + 1 : Nat) : Int) := by rw [w64 (by omega)]; omega
        have f2 : decide ((j : Int) < 0) = false := by simp
        have f3 : decide ((v.seats.length : Int) ≤ (j : Int)) = false := by simp; omega
        have q1 := clash_pure v j i
        have q2 := clash_pure (wideV v dk) i j
        rw [hc1] at q1
        rw [hc2] at q2
        clear hrow ss hc1 hc2
        simp -implicitDefEqProofs only [steps0, steps1, steps2, steps3, steps4, Nat.reduceAdd, Nat.reduceEqDiff, reduceIte, evBox, Nat.reduceSub, Nat.reducePow, Nat.reduceMul, Int.reduceLT, Int.reduceLE, Int.reduceAdd, Int.reduceToNat, Nat.reduceLT, Nat.reduceLeDiff, Int.reduceEq, Int.reduceNeg, facts, f0]
        repeat' first
          | ((with_reducible refine exl_iscall ?_); refine exl_pure (by kernel_rfl) (q1) rfl rfl ?_; simp -implicitDefEqProofs only [steps0, steps1, steps2, steps3, steps4, Nat.reduceAdd, Nat.reduceEqDiff, reduceIte, evBox, Nat.reduceSub, Nat.reducePow, Nat.reduceMul, Int.reduceLT, Int.reduceLE, Int.reduceAdd, Int.reduceToNat, Nat.reduceLT, Nat.reduceLeDiff, Int.reduceEq, Int.reduceNeg, facts, List.length_map, List.getElem?_map, nV, intsV, iV, Venue.v, wideV, *])
          | ((with_reducible refine exl_iscall ?_); refine exl_pure (by kernel_rfl) (q2) rfl rfl ?_; simp -implicitDefEqProofs only [steps0, steps1, steps2, steps3, steps4, Nat.reduceAdd, Nat.reduceEqDiff, reduceIte, evBox, Nat.reduceSub, Nat.reducePow, Nat.reduceMul, Int.reduceLT, Int.reduceLE, Int.reduceAdd, Int.reduceToNat, Nat.reduceLT, Nat.reduceLeDiff, Int.reduceEq, Int.reduceNeg, facts, List.length_map, List.getElem?_map, nV, intsV, iV, Venue.v, wideV, *])
          | (simp -implicitDefEqProofs only [steps0, steps1, steps2, steps3, steps4, Nat.reduceAdd, Nat.reduceEqDiff, reduceIte, evBox, Nat.reduceSub, Nat.reducePow, Nat.reduceMul, Int.reduceLT, Int.reduceLE, Int.reduceAdd, Int.reduceToNat, Nat.reduceLT, Nat.reduceLeDiff, Int.reduceEq, Int.reduceNeg, facts, List.length_map, List.getElem?_map, nV, intsV, iV, Venue.v, wideV, *])
          | ((with_reducible refine gdk_split (fun h => ?_) (fun h => ?_)) <;> simp -implicitDefEqProofs only [steps0, steps1, steps2, steps3, steps4, Nat.reduceAdd, Nat.reduceEqDiff, reduceIte, evBox, Nat.reduceSub, Nat.reducePow, Nat.reduceMul, Int.reduceLT, Int.reduceLE, Int.reduceAdd, Int.reduceToNat, Nat.reduceLT, Nat.reduceLeDiff, Int.reduceEq, Int.reduceNeg, facts, List.length_map, List.getElem?_map, nV, intsV, iV, Venue.v, wideV, *])
          | ((with_reducible refine cdk_split (fun h => ?_) (fun h => ?_)) <;> simp -implicitDefEqProofs only [steps0, steps1, steps2, steps3, steps4, Nat.reduceAdd, Nat.reduceEqDiff, reduceIte, evBox, Nat.reduceSub, Nat.reducePow, Nat.reduceMul, Int.reduceLT, Int.reduceLE, Int.reduceAdd, Int.reduceToNat, Nat.reduceLT, Nat.reduceLeDiff, Int.reduceEq, Int.reduceNeg, facts, List.length_map, List.getElem?_map, nV, intsV, iV, Venue.v, wideV, *])
          | ((with_reducible refine exl_drawn ?_ ?_); (focus kernel_rfl); simp -implicitDefEqProofs only [steps0, steps1, steps2, steps3, steps4, Nat.reduceAdd, Nat.reduceEqDiff, reduceIte, evBox, Nat.reduceSub, Nat.reducePow, Nat.reduceMul, Int.reduceLT, Int.reduceLE, Int.reduceAdd, Int.reduceToNat, Nat.reduceLT, Nat.reduceLeDiff, Int.reduceEq, Int.reduceNeg, facts, List.length_map, List.getElem?_map, nV, intsV, iV, Venue.v, wideV, *])
        exact bkl_again (k + 1) hkt (by omega) ⟨[some 0, some 1], [], by decide, by simp, by (simp [intoT, renF, wks, Venue.v, V.cells, wideV]; done), by (simp [intoO, oneO, og, renF, owks, tree_ints, Venue.v, V.cells, wideV]; done)⟩
      · have hk' : k = R.length := by omega
        subst hk'
        have f0 : decide (((R.length : Nat) : Int) < ((R.length : Nat) : Int)) = false := by simp
        clear hrow ss
        simp -implicitDefEqProofs only [steps0, steps1, steps2, steps3, steps4, Nat.reduceAdd, Nat.reduceEqDiff, reduceIte, evBox, Nat.reduceSub, Nat.reducePow, Nat.reduceMul, Int.reduceLT, Int.reduceLE, Int.reduceAdd, Int.reduceToNat, Nat.reduceLT, Nat.reduceLeDiff, Int.reduceEq, Int.reduceNeg, facts, f0]
        repeat' first
          | (simp -implicitDefEqProofs only [steps0, steps1, steps2, steps3, steps4, Nat.reduceAdd, Nat.reduceEqDiff, reduceIte, evBox, Nat.reduceSub, Nat.reducePow, Nat.reduceMul, Int.reduceLT, Int.reduceLE, Int.reduceAdd, Int.reduceToNat, Nat.reduceLT, Nat.reduceLeDiff, Int.reduceEq, Int.reduceNeg, facts, List.length_map, nV, intsV, Venue.v, *])
          | ((with_reducible refine gdk_split (fun h => ?_) (fun h => ?_)) <;> simp -implicitDefEqProofs only [steps0, steps1, steps2, steps3, steps4, Nat.reduceAdd, Nat.reduceEqDiff, reduceIte, evBox, Nat.reduceSub, Nat.reducePow, Nat.reduceMul, Int.reduceLT, Int.reduceLE, Int.reduceAdd, Int.reduceToNat, Nat.reduceLT, Nat.reduceLeDiff, Int.reduceEq, Int.reduceNeg, facts, List.length_map, nV, intsV, Venue.v, *])
          | ((with_reducible refine cdk_split (fun h => ?_) (fun h => ?_)) <;> simp -implicitDefEqProofs only [steps0, steps1, steps2, steps3, steps4, Nat.reduceAdd, Nat.reduceEqDiff, reduceIte, evBox, Nat.reduceSub, Nat.reducePow, Nat.reduceMul, Int.reduceLT, Int.reduceLE, Int.reduceAdd, Int.reduceToNat, Nat.reduceLT, Nat.reduceLeDiff, Int.reduceEq, Int.reduceNeg, facts, List.length_map, nV, intsV, Venue.v, *])
          | ((with_reducible refine exl_drawn ?_ ?_); (focus kernel_rfl); simp -implicitDefEqProofs only [steps0, steps1, steps2, steps3, steps4, Nat.reduceAdd, Nat.reduceEqDiff, reduceIte, evBox, Nat.reduceSub, Nat.reducePow, Nat.reduceMul, Int.reduceLT, Int.reduceLE, Int.reduceAdd, Int.reduceToNat, Nat.reduceLT, Nat.reduceLeDiff, Int.reduceEq, Int.reduceNeg, facts, List.length_map, nV, intsV, Venue.v, *])
        exact bkl_again (i + 1) hlt (by omega) ⟨[some 0, some 1], [], by decide, by simp, by (simp [intoT, renF, wks, Venue.v, V.cells, wideV]; done), by (simp [intoO, oneO, og, renF, owks, tree_ints, Venue.v, V.cells, wideV]; done)⟩
    · have hi' : i = v.seats.length := by omega
      subst hi'
      simp -implicitDefEqProofs only [steps0, steps1, steps2, steps3, steps4, Nat.reduceAdd, Nat.reduceEqDiff, reduceIte, evBox, Nat.reduceSub, Nat.reducePow, Nat.reduceMul, Int.reduceLT, Int.reduceLE, Int.reduceAdd, Int.reduceToNat, Nat.reduceLT, Nat.reduceLeDiff, Int.reduceEq, Int.reduceNeg, facts, f0, nV]
      repeat' first
        | ((with_reducible refine exl_iscall ?_); refine exl_pure (by kernel_rfl) (told_pure) rfl rfl ?_; simp -implicitDefEqProofs only [steps0, steps1, steps2, steps3, steps4, Nat.reduceAdd, Nat.reduceEqDiff, reduceIte, evBox, Nat.reduceSub, Nat.reducePow, Nat.reduceMul, Int.reduceLT, Int.reduceLE, Int.reduceAdd, Int.reduceToNat, Nat.reduceLT, Nat.reduceLeDiff, Int.reduceEq, Int.reduceNeg, facts, List.length_map, nV, *])
        | (simp -implicitDefEqProofs only [steps0, steps1, steps2, steps3, steps4, Nat.reduceAdd, Nat.reduceEqDiff, reduceIte, evBox, Nat.reduceSub, Nat.reducePow, Nat.reduceMul, Int.reduceLT, Int.reduceLE, Int.reduceAdd, Int.reduceToNat, Nat.reduceLT, Nat.reduceLeDiff, Int.reduceEq, Int.reduceNeg, facts, List.length_map, nV, *])
        | ((with_reducible refine gdk_split (fun h => ?_) (fun h => ?_)) <;> simp -implicitDefEqProofs only [steps0, steps1, steps2, steps3, steps4, Nat.reduceAdd, Nat.reduceEqDiff, reduceIte, evBox, Nat.reduceSub, Nat.reducePow, Nat.reduceMul, Int.reduceLT, Int.reduceLE, Int.reduceAdd, Int.reduceToNat, Nat.reduceLT, Nat.reduceLeDiff, Int.reduceEq, Int.reduceNeg, facts, List.length_map, nV, *])
        | ((with_reducible refine cdk_split (fun h => ?_) (fun h => ?_)) <;> simp -implicitDefEqProofs only [steps0, steps1, steps2, steps3, steps4, Nat.reduceAdd, Nat.reduceEqDiff, reduceIte, evBox, Nat.reduceSub, Nat.reducePow, Nat.reduceMul, Int.reduceLT, Int.reduceLE, Int.reduceAdd, Int.reduceToNat, Nat.reduceLT, Nat.reduceLeDiff, Int.reduceEq, Int.reduceNeg, facts, List.length_map, nV, *])
        | ((with_reducible refine exl_drawn ?_ ?_); (focus kernel_rfl); simp -implicitDefEqProofs only [steps0, steps1, steps2, steps3, steps4, Nat.reduceAdd, Nat.reduceEqDiff, reduceIte, evBox, Nat.reduceSub, Nat.reducePow, Nat.reduceMul, Int.reduceLT, Int.reduceLE, Int.reduceAdd, Int.reduceToNat, Nat.reduceLT, Nat.reduceLeDiff, Int.reduceEq, Int.reduceNeg, facts, List.length_map, nV, *])
      exact ends_tmp (d := 8) rfl (.inr rfl) rfl rfl

theorem lawMoved_pure (l : List Int) (a b c : Int) : PureC Try.prog 5 [.lst 1 (l.map iV), .lit (.int .i64 a), .lit (.int .i64 b), .lit (.int .i64 c)] (.lit (.bool true)) := by
  obtain ⟨dx, h1, h2, h3⟩ := thousand a 1000 (by decide) (by decide)
  obtain ⟨dy, k1, k2, k3⟩ := thousand b 1000 (by decide) (by decide)
  obtain ⟨dk, m1, m2, m3⟩ := thousand c 50 (by decide) (by decide)
  exact movedLaw (makeV l 20) (make_tidy l 20 (by decide)) dx dy dk ⟨h2, h3⟩ ⟨k2, k3⟩ ⟨m2, m3⟩ l a b c (make_pure l 20 (by decide) (by decide)) h1 k1 m1

end Go.Proofs.Ytehdpfhpiplbgaa
