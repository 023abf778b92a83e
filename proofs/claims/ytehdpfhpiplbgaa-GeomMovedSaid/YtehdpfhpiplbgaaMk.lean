/-
  Made venues.
-/
import Derived.Test.YtehdpfhpiplbgaaRef6
namespace Go.Proofs.Ytehdpfhpiplbgaa
open Go.AV
set_option linter.unusedSimpArgs false
set_option linter.unusedVariables false

structure MS where
  seats : List Seat
  kills : List Int
  poles : List Pole
  radius : Int
  row : Int
  x : Int

def rowM (m : MS) (u : Int) : Int := if u % 7 = 0 then m.row + 1 else m.row
def xM (m : MS) (u : Int) : Int := if u % 7 = 0 then 0 else if u % 7 = 1 then m.x + 10 + 5 else m.x + 10
def kindM (u : Int) : Int := if u / 7 % 6 = 0 then 1 else if u / 7 % 6 = 1 then 2 else if u / 7 % 6 = 2 then 2 else 0
def seatM (m : MS) (u : Int) : Seat := ⟨rowM m u, xM m u, 10 * rowM m u, kindM u⟩
def poleM (m : MS) (u : Int) : Pole := ⟨xM m u, 10 * rowM m u, 1 + u / 500 % 12⟩
def stepM (m : MS) (u : Int) : MS where
  seats := m.seats ++ [seatM m u]
  kills := if u / 42 % 9 = 0 then m.kills ++ [(m.seats.length : Int)] else m.kills
  poles := if u / 42 % 11 = 1 then m.poles ++ [poleM m u] else m.poles
  radius := if u / 42 % 5 = 3 then u / 300 % 25 else m.radius
  row := rowM m u
  x := xM m u
def initM : MS := ⟨[⟨0, 0, 0, 0⟩], [], [], 0, 0, 0⟩
def runM (l : List Int) : Nat → MS
  | 0 => initM
  | i + 1 => stepM (runM l i) (uw (l.getD i 0))
def MS.v (m : MS) : Venue := ⟨m.seats, 10, m.radius, m.kills, m.poles⟩
def makeN (l : List Int) (most : Nat) : Nat := min l.length (most - 1)
def makeV (l : List Int) (most : Nat) : Venue := (runM l (makeN l most)).v

theorem uw_bound (n : Int) : 0 ≤ uw n ∧ uw n < 18446744073709551616 := by rw [uw, wrap_u64]; omega

theorem small_app {n : Nat} (h : n ≤ 4096) : n + 1 ≤ maxLen ∧ (n + 1) * 8 ≤ 140737488355328 ∧ (n + 1) * 24 ≤ 140737488355328 ∧ (n + 1) * 32 ≤ 140737488355328 := by
  refine ⟨?_, by omega, by omega, by omega⟩
  unfold maxLen; omega
theorem tm {u : Int} (h : 0 ≤ u ∧ u < 18446744073709551616) (k : Int) : u.tmod k = u % k := Int.tmod_eq_emod_of_nonneg h.1
theorem td {u : Int} (h : 0 ≤ u ∧ u < 18446744073709551616) (k : Nat) (hk : 0 < k) : IntKind.u64.wrap (u.tdiv (k : Int)) = u / (k : Int) ∧ 0 ≤ u / (k : Int) ∧ u / (k : Int) < 18446744073709551616 := by
  have h1 : 0 ≤ u / (k : Int) := Int.ediv_nonneg h.1 (by omega)
  have h2 : u / (k : Int) ≤ u := Int.ediv_le_self _ h.1
  have h3 : u / (k : Int) < 18446744073709551616 := by omega
  refine ⟨?_, h1, h3⟩
  rw [Int.tdiv_eq_ediv_of_nonneg h.1, wrap_u64]
  exact Int.emod_eq_of_lt h1 h3
theorem wm (a : Int) (k : Nat) (hk : 0 < k) (hk' : k < 1000) : IntKind.i64.wrap (a % (k : Int)) = a % (k : Int) ∧ IntKind.i64.wrap (1 + a % (k : Int)) = 1 + a % (k : Int) := by
  have h1 := Int.emod_nonneg a (show (k : Int) ≠ 0 by omega)
  have h2 := Int.emod_lt_of_pos a (show 0 < (k : Int) by omega)
  exact ⟨w64 (by omega), w64 (by omega)⟩

theorem rowM_bound {m : MS} {k : Int} (u : Int) (h0 : 0 ≤ m.row) (h1 : m.row ≤ k) : 0 ≤ rowM m u ∧ rowM m u ≤ k + 1 := by
  unfold rowM; split <;> omega

theorem runM_len (l : List Int) : ∀ i, (runM l i).seats.length = 1 + i
  | 0 => rfl
  | i + 1 => by simp [runM, stepM, runM_len l i]; omega
theorem runM_kills (l : List Int) : ∀ i, (runM l i).kills.length ≤ i
  | 0 => Nat.le_refl _
  | i + 1 => by
    have := runM_kills l i
    simp only [runM, stepM]; split <;> simp <;> omega
theorem runM_poles (l : List Int) : ∀ i, (runM l i).poles.length ≤ i
  | 0 => Nat.le_refl _
  | i + 1 => by
    have := runM_poles l i
    simp only [runM, stepM]; split <;> simp <;> omega
theorem runM_bound (l : List Int) : ∀ i, 0 ≤ (runM l i).row ∧ (runM l i).row ≤ i ∧ 0 ≤ (runM l i).x ∧ (runM l i).x ≤ 15 * i
  | 0 => ⟨Int.le_refl 0, Int.le_refl 0, Int.le_refl 0, Int.le_refl 0⟩
  | i + 1 => by
    have := runM_bound l i
    simp only [runM, stepM, rowM, xM]
    split <;> (try split) <;> omega

def seatCells (l : List Seat) : List V := cellsOf (l.map Seat.v)
def poleCells (l : List Pole) : List V := cellsOf (l.map Pole.v)
theorem seatCells_snoc (l : List Seat) (s : Seat) : seatCells (l ++ [s]) = seatCells l ++ [.lit (.int .i64 s.row), .lit (.int .i64 s.x), .lit (.int .i64 s.y), .lit (.int .i64 s.kind)] := by
  simp [seatCells, cellsOf, Seat.v, V.cells]
theorem poleCells_snoc (l : List Pole) (s : Pole) : poleCells (l ++ [s]) = poleCells l ++ [.lit (.int .i64 s.x), .lit (.int .i64 s.y), .lit (.int .i64 s.r)] := by
  simp [poleCells, cellsOf, Pole.v, V.cells]
theorem seatCells_tree (l : List Seat) : V.allTree (seatCells l) = true := by
  induction l with
  | nil => rfl
  | cons a l ih => simp only [seatCells, cellsOf, List.map_cons, List.flatMap_cons, Seat.v, V.cells, List.cons_append, List.nil_append, V.allTree, V.isTree, Bool.true_and] at *; exact ih
theorem poleCells_tree (l : List Pole) : V.allTree (poleCells l) = true := by
  induction l with
  | nil => rfl
  | cons a l ih => simp only [poleCells, cellsOf, List.map_cons, List.flatMap_cons, Pole.v, V.cells, List.cons_append, List.nil_append, V.allTree, V.isTree, Bool.true_and] at *; exact ih

def zeroVenue : List V := [.lit (.slice none 0 0), .lit (.int .i64 0), .lit (.int .i64 0), .lit (.slice none 0 0), .lit (.slice none 0 0)]

set_option maxHeartbeats 4000000 in
theorem make_pure (l : List Int) (most : Nat) (h0 : 1 ≤ most) (h1 : most ≤ 100) : PureC Try.prog 19 [.lst 1 (l.map iV), .lit (.int .i64 (most : Int))] (makeV l most).v := by
  refine pure_lst 0 rfl fun hlen => ?_
  rw [List.length_map] at hlen
  refine pure_of_golw 106 hm Try.func19 rfl rfl (by decide +kernel) ?_
  simp -implicitDefEqProofs only [steps0, steps1, steps2, steps3, steps4, Nat.reduceAdd, Nat.reduceEqDiff, reduceIte, evBox, Nat.reduceSub, Nat.reducePow, Nat.reduceMul, Int.reduceLT, Int.reduceLE, Int.reduceAdd, Int.reduceToNat, Nat.reduceLT, Nat.reduceLeDiff, Int.reduceEq, Int.reduceNeg, facts]
  repeat' first
    | (simp -implicitDefEqProofs only [steps0, steps1, steps2, steps3, steps4, Nat.reduceAdd, Nat.reduceEqDiff, reduceIte, evBox, Nat.reduceSub, Nat.reducePow, Nat.reduceMul, Int.reduceLT, Int.reduceLE, Int.reduceAdd, Int.reduceToNat, Nat.reduceLT, Nat.reduceLeDiff, Int.reduceEq, Int.reduceNeg, facts, *])
    | ((with_reducible refine gdk_split (fun h => ?_) (fun h => ?_)) <;> simp -implicitDefEqProofs only [steps0, steps1, steps2, steps3, steps4, Nat.reduceAdd, Nat.reduceEqDiff, reduceIte, evBox, Nat.reduceSub, Nat.reducePow, Nat.reduceMul, Int.reduceLT, Int.reduceLE, Int.reduceAdd, Int.reduceToNat, Nat.reduceLT, Nat.reduceLeDiff, Int.reduceEq, Int.reduceNeg, facts, *])
    | ((with_reducible refine cdk_split (fun h => ?_) (fun h => ?_)) <;> simp -implicitDefEqProofs only [steps0, steps1, steps2, steps3, steps4, Nat.reduceAdd, Nat.reduceEqDiff, reduceIte, evBox, Nat.reduceSub, Nat.reducePow, Nat.reduceMul, Int.reduceLT, Int.reduceLE, Int.reduceAdd, Int.reduceToNat, Nat.reduceLT, Nat.reduceLeDiff, Int.reduceEq, Int.reduceNeg, facts, *])
    | ((with_reducible refine exl_drawn ?_ ?_); (focus kernel_rfl); simp -implicitDefEqProofs only [steps0, steps1, steps2, steps3, steps4, Nat.reduceAdd, Nat.reduceEqDiff, reduceIte, evBox, Nat.reduceSub, Nat.reducePow, Nat.reduceMul, Int.reduceLT, Int.reduceLE, Int.reduceAdd, Int.reduceToNat, Nat.reduceLT, Nat.reduceLeDiff, Int.reduceEq, Int.reduceNeg, facts, *])
    | ((with_reducible refine cdkw_split (fun h => ?_) (fun h => ?_)) <;> simp -implicitDefEqProofs only [steps0, steps1, steps2, steps3, steps4, Nat.reduceAdd, Nat.reduceEqDiff, reduceIte, evBox, Nat.reduceSub, Nat.reducePow, Nat.reduceMul, Int.reduceLT, Int.reduceLE, Int.reduceAdd, Int.reduceToNat, Nat.reduceLT, Nat.reduceLeDiff, Int.reduceEq, Int.reduceNeg, facts, *])
    | ((with_reducible refine bkl_seqw ?_); simp -implicitDefEqProofs only [steps0, steps1, steps2, steps3, steps4, Nat.reduceAdd, Nat.reduceEqDiff, reduceIte, evBox, Nat.reduceSub, Nat.reducePow, Nat.reduceMul, Int.reduceLT, Int.reduceLE, Int.reduceAdd, Int.reduceToNat, Nat.reduceLT, Nat.reduceLeDiff, Int.reduceEq, Int.reduceNeg, facts, *])
  refine gol_loopw (fun i : Nat => .lst 1 (l.map iV) :: .lit (.int .i64 (most : Int)) :: .junk :: .junk :: .ptr 0 0 :: .ptr 2 0 :: .lit (.int .i64 (runM l i).row) :: .lit (.int .i64 (runM l i).x) :: [.lit (.int .i64 i)])
    (fun i => [some (.box zeroVenue), some (.row 28 4 (1 + i) (seatCells (runM l i).seats)), some (.box [.ref 1, .lit (.int .i64 10), .lit (.int .i64 (runM l i).radius), .ref 3, .ref 4]),
      some (.row 3 1 (runM l i).kills.length ((runM l i).kills.map iV)), some (.row 49 3 (runM l i).poles.length (poleCells (runM l i).poles))])
    (fun i => l.length - i) (fun i => i ≤ l.length ∧ i < most) 0 hm (by decide +kernel) ⟨Nat.zero_le _, h0⟩ ⟨[some 0, some 1, some 2, none, none], [], by decide, by simp, by (simp [intoT, renF, wks, runM, initM, zeroVenue, seatCells, poleCells, cellsOf, Seat.v, V.cells]; done), by (simp [intoO, oneO, og, renF, owks, tree_ints, runM, initM, zeroVenue, seatCells, poleCells, cellsOf, Seat.v, V.cells]; done)⟩ ?_
  rintro i ⟨hi, hi2⟩
  have hb := runM_bound l i
  have hsl := runM_len l i
  have hkl := runM_kills l i
  have hpl := runM_poles l i
  generalize hm9 : runM l i = m at hb hsl hkl hpl
  by_cases hlt : i < l.length ∧ 1 + i < most
  · obtain ⟨hlt, hlt2⟩ := hlt
    obtain ⟨a, ha⟩ : ∃ a, l[i]? = some a := ⟨l[i], by simp [hlt]⟩
    have hn : runM l (i + 1) = stepM m (uw a) := by simp [runM, hm9, ha]
    have hub := uw_bound a
    have hu : IntKind.u64.wrap a = uw a := rfl
    generalize uw a = u at hn hub hu
    have e0 : decide ((i : Int) < (l.length : Int)) = true := by simp; omega
    have e2 : decide (((1 + i : Nat) : Int) < (most : Int)) = true := by simp; omega
    have e1 : IntKind.i64.wrap ((i : Int) + 1) = ((i + 1 : Nat) : Int) := by rw [w64 (by omega)]; omega
    have r1 := rowM_bound u hb.1 hb.2.1
    have c1 : 1 + i ≤ 4096 := by omega
    have c2 : m.kills.length ≤ 4096 := by omega
    have c3 : m.poles.length ≤ 4096 := by omega
    have e3 : IntKind.i64.wrap (((1 + i + 1 : Nat) : Int) - 1) = ((1 + i : Nat) : Int) := by rw [w64 (by omega)]; omega
    have r2 : IntKind.i64.wrap (10 * rowM m u) = 10 * rowM m u := w64 (by omega)
    have q4 : IntKind.i64.wrap (m.x + 10) = m.x + 10 := w64 (by omega)
    have q5 : IntKind.i64.wrap (m.x + 10 + 5) = m.x + 10 + 5 := w64 (by omega)
    have q6 : IntKind.i64.wrap (m.row + 1) = m.row + 1 := w64 (by omega)
    obtain ⟨b1, -, -, b2⟩ := small_app c1
    obtain ⟨b3, b4, -, -⟩ := small_app c2
    obtain ⟨b5, -, b6, -⟩ := small_app c3
    have q1 := tm hub 7
    have q2 := (td hub 7 (by decide)).1
    have q3 := tm (td hub 7 (by decide)).2 6
    simp -implicitDefEqProofs only [steps0, steps1, steps2, steps3, steps4, Nat.reduceAdd, Nat.reduceEqDiff, reduceIte, evBox, Nat.reduceSub, Nat.reducePow, Nat.reduceMul, Int.reduceLT, Int.reduceLE, Int.reduceAdd, Int.reduceToNat, Nat.reduceLT, Nat.reduceLeDiff, Int.reduceEq, Int.reduceNeg, facts, e0, e2]
    repeat' first
      | (simp -implicitDefEqProofs only [steps0, steps1, steps2, steps3, steps4, Nat.reduceAdd, Nat.reduceEqDiff, reduceIte, evBox, Nat.reduceSub, Nat.reducePow, Nat.reduceMul, Int.reduceLT, Int.reduceLE, Int.reduceAdd, Int.reduceToNat, Nat.reduceLT, Nat.reduceLeDiff, Int.reduceEq, Int.reduceNeg, facts, List.getElem?_map, List.length_map, iV, *])
      | ((with_reducible refine gdk_split (fun h => ?_) (fun h => ?_)) <;> simp -implicitDefEqProofs only [steps0, steps1, steps2, steps3, steps4, Nat.reduceAdd, Nat.reduceEqDiff, reduceIte, evBox, Nat.reduceSub, Nat.reducePow, Nat.reduceMul, Int.reduceLT, Int.reduceLE, Int.reduceAdd, Int.reduceToNat, Nat.reduceLT, Nat.reduceLeDiff, Int.reduceEq, Int.reduceNeg, facts, List.getElem?_map, List.length_map, iV, *])
      | ((with_reducible refine cdk_split (fun h => ?_) (fun h => ?_)) <;> simp -implicitDefEqProofs only [steps0, steps1, steps2, steps3, steps4, Nat.reduceAdd, Nat.reduceEqDiff, reduceIte, evBox, Nat.reduceSub, Nat.reducePow, Nat.reduceMul, Int.reduceLT, Int.reduceLE, Int.reduceAdd, Int.reduceToNat, Nat.reduceLT, Nat.reduceLeDiff, Int.reduceEq, Int.reduceNeg, facts, List.getElem?_map, List.length_map, iV, *])
      | ((with_reducible refine exl_drawn ?_ ?_); (focus kernel_rfl); simp -implicitDefEqProofs only [steps0, steps1, steps2, steps3, steps4, Nat.reduceAdd, Nat.reduceEqDiff, reduceIte, evBox, Nat.reduceSub, Nat.reducePow, Nat.reduceMul, Int.reduceLT, Int.reduceLE, Int.reduceAdd, Int.reduceToNat, Nat.reduceLT, Nat.reduceLeDiff, Int.reduceEq, Int.reduceNeg, facts, List.getElem?_map, List.length_map, iV, *])
      | ((with_reducible refine cdkw_split (fun h => ?_) (fun h => ?_)) <;> simp -implicitDefEqProofs only [steps0, steps1, steps2, steps3, steps4, Nat.reduceAdd, Nat.reduceEqDiff, reduceIte, evBox, Nat.reduceSub, Nat.reducePow, Nat.reduceMul, Int.reduceLT, Int.reduceLE, Int.reduceAdd, Int.reduceToNat, Nat.reduceLT, Nat.reduceLeDiff, Int.reduceEq, Int.reduceNeg, facts, List.getElem?_map, List.length_map, iV, *])
      | ((fail_if_success (with_reducible (first | refine bkl_seqw_b 2 ?_ | refine bkl_seqw_sb 2 ?_))); (with_reducible refine bkl_seqw ?_); simp -implicitDefEqProofs only [steps0, steps1, steps2, steps3, steps4, Nat.reduceAdd, Nat.reduceEqDiff, reduceIte, evBox, Nat.reduceSub, Nat.reducePow, Nat.reduceMul, Int.reduceLT, Int.reduceLE, Int.reduceAdd, Int.reduceToNat, Nat.reduceLT, Nat.reduceLeDiff, Int.reduceEq, Int.reduceNeg, facts, List.getElem?_map, List.length_map, iV, *])
    refine bkl_seqw (golw_cut (α := Unit) (fun _ => .lst 1 (l.map iV) :: .lit (.int .i64 (most : Int)) :: .junk :: .junk :: .ptr 0 0 :: .ptr 2 0 :: .lit (.int .i64 (rowM m u)) :: .lit (.int .i64 (xM m u)) :: .lit (.int .i64 i) :: [.lit (.int .u64 u)])
      (fun _ => [some (.box zeroVenue), some (.row 28 4 (1 + i) (seatCells m.seats)), some (.box [.ref 1, .lit (.int .i64 10), .lit (.int .i64 m.radius), .ref 3, .ref 4]),
        some (.row 3 1 m.kills.length (m.kills.map iV)), some (.row 49 3 m.poles.length (poleCells m.poles))]) (fun _ => True) ?_ fun _ _ => ?_)
    · simp -implicitDefEqProofs only [steps0, steps1, steps2, steps3, steps4, Nat.reduceAdd, Nat.reduceEqDiff, reduceIte, evBox, Nat.reduceSub, Nat.reducePow, Nat.reduceMul, Int.reduceLT, Int.reduceLE, Int.reduceAdd, Int.reduceToNat, Nat.reduceLT, Nat.reduceLeDiff, Int.reduceEq, Int.reduceNeg, facts]
      repeat' first
        | (simp -implicitDefEqProofs only [steps0, steps1, steps2, steps3, steps4, Nat.reduceAdd, Nat.reduceEqDiff, reduceIte, evBox, Nat.reduceSub, Nat.reducePow, Nat.reduceMul, Int.reduceLT, Int.reduceLE, Int.reduceAdd, Int.reduceToNat, Nat.reduceLT, Nat.reduceLeDiff, Int.reduceEq, Int.reduceNeg, facts, List.getElem?_map, List.length_map, iV, *])
        | ((with_reducible refine gdk_split (fun h => ?_) (fun h => ?_)) <;> simp -implicitDefEqProofs only [steps0, steps1, steps2, steps3, steps4, Nat.reduceAdd, Nat.reduceEqDiff, reduceIte, evBox, Nat.reduceSub, Nat.reducePow, Nat.reduceMul, Int.reduceLT, Int.reduceLE, Int.reduceAdd, Int.reduceToNat, Nat.reduceLT, Nat.reduceLeDiff, Int.reduceEq, Int.reduceNeg, facts, List.getElem?_map, List.length_map, iV, *])
        | ((with_reducible refine cdk_split (fun h => ?_) (fun h => ?_)) <;> simp -implicitDefEqProofs only [steps0, steps1, steps2, steps3, steps4, Nat.reduceAdd, Nat.reduceEqDiff, reduceIte, evBox, Nat.reduceSub, Nat.reducePow, Nat.reduceMul, Int.reduceLT, Int.reduceLE, Int.reduceAdd, Int.reduceToNat, Nat.reduceLT, Nat.reduceLeDiff, Int.reduceEq, Int.reduceNeg, facts, List.getElem?_map, List.length_map, iV, *])
        | ((with_reducible refine exl_drawn ?_ ?_); (focus kernel_rfl); simp -implicitDefEqProofs only [steps0, steps1, steps2, steps3, steps4, Nat.reduceAdd, Nat.reduceEqDiff, reduceIte, evBox, Nat.reduceSub, Nat.reducePow, Nat.reduceMul, Int.reduceLT, Int.reduceLE, Int.reduceAdd, Int.reduceToNat, Nat.reduceLT, Nat.reduceLeDiff, Int.reduceEq, Int.reduceNeg, facts, List.getElem?_map, List.length_map, iV, *])
        | ((with_reducible refine cdkw_split (fun h => ?_) (fun h => ?_)) <;> simp -implicitDefEqProofs only [steps0, steps1, steps2, steps3, steps4, Nat.reduceAdd, Nat.reduceEqDiff, reduceIte, evBox, Nat.reduceSub, Nat.reducePow, Nat.reduceMul, Int.reduceLT, Int.reduceLE, Int.reduceAdd, Int.reduceToNat, Nat.reduceLT, Nat.reduceLeDiff, Int.reduceEq, Int.reduceNeg, facts, List.getElem?_map, List.length_map, iV, *])
        | ((with_reducible refine bkl_seqw ?_); simp -implicitDefEqProofs only [steps0, steps1, steps2, steps3, steps4, Nat.reduceAdd, Nat.reduceEqDiff, reduceIte, evBox, Nat.reduceSub, Nat.reducePow, Nat.reduceMul, Int.reduceLT, Int.reduceLE, Int.reduceAdd, Int.reduceToNat, Nat.reduceLT, Nat.reduceLeDiff, Int.reduceEq, Int.reduceNeg, facts, List.getElem?_map, List.length_map, iV, *])
      all_goals simp only [beq_iff_eq, beq_eq_false_iff_ne, ne_eq] at *
      all_goals exact bkl_mid () trivial ⟨[some 0, some 1, some 2, some 3, some 4], [], by decide, by simp, by (simp [intoT, renF, wks, rowM, xM, zeroVenue, seatCells_tree, poleCells_tree, *]; done), by (simp [intoO, oneO, og, renF, owks, tree_ints, rowM, xM, zeroVenue, seatCells_tree, poleCells_tree, *]; done)⟩
    · simp -implicitDefEqProofs only [steps0, steps1, steps2, steps3, steps4, Nat.reduceAdd, Nat.reduceEqDiff, reduceIte, evBox, Nat.reduceSub, Nat.reducePow, Nat.reduceMul, Int.reduceLT, Int.reduceLE, Int.reduceAdd, Int.reduceToNat, Nat.reduceLT, Nat.reduceLeDiff, Int.reduceEq, Int.reduceNeg, facts]
      have p1 := (td hub 42 (by decide)).1
      have p2 := (td hub 500 (by decide)).1
      have p3 := (td hub 300 (by decide)).1
      have p4 := tm (td hub 42 (by decide)).2 9
      have p5 := tm (td hub 42 (by decide)).2 11
      have p6 := tm (td hub 42 (by decide)).2 5
      have p7 := tm (td hub 500 (by decide)).2 12
      have p8 := tm (td hub 300 (by decide)).2 25
      have p9 := (wm (u / 500) 12 (by decide) (by decide)).1
      have p10 := (wm (u / 500) 12 (by decide) (by decide)).2
      have p11 := (wm (u / 300) 25 (by decide) (by decide)).1
      simp only [Int.cast_ofNat_Int] at q2 q3 p1 p2 p3 p4 p5 p6 p7 p8 p9 p10 p11
      repeat' first
        | (simp -implicitDefEqProofs only [steps0, steps1, steps2, steps3, steps4, Nat.reduceAdd, Nat.reduceEqDiff, reduceIte, evBox, Nat.reduceSub, Nat.reducePow, Nat.reduceMul, Int.reduceLT, Int.reduceLE, Int.reduceAdd, Int.reduceToNat, Nat.reduceLT, Nat.reduceLeDiff, Int.reduceEq, Int.reduceNeg, facts, List.getElem?_map, List.length_map, iV, *])
        | ((with_reducible refine gdk_split (fun h => ?_) (fun h => ?_)) <;> simp -implicitDefEqProofs only [steps0, steps1, steps2, steps3, steps4, Nat.reduceAdd, Nat.reduceEqDiff, reduceIte, evBox, Nat.reduceSub, Nat.reducePow, Nat.reduceMul, Int.reduceLT, Int.reduceLE, Int.reduceAdd, Int.reduceToNat, Nat.reduceLT, Nat.reduceLeDiff, Int.reduceEq, Int.reduceNeg, facts, List.getElem?_map, List.length_map, iV, *])
        | ((with_reducible refine cdk_split (fun h => ?_) (fun h => ?_)) <;> simp -implicitDefEqProofs only [steps0, steps1, steps2, steps3, steps4, Nat.reduceAdd, Nat.reduceEqDiff, reduceIte, evBox, Nat.reduceSub, Nat.reducePow, Nat.reduceMul, Int.reduceLT, Int.reduceLE, Int.reduceAdd, Int.reduceToNat, Nat.reduceLT, Nat.reduceLeDiff, Int.reduceEq, Int.reduceNeg, facts, List.getElem?_map, List.length_map, iV, *])
        | ((with_reducible refine exl_drawn ?_ ?_); (focus kernel_rfl); simp -implicitDefEqProofs only [steps0, steps1, steps2, steps3, steps4, Nat.reduceAdd, Nat.reduceEqDiff, reduceIte, evBox, Nat.reduceSub, Nat.reducePow, Nat.reduceMul, Int.reduceLT, Int.reduceLE, Int.reduceAdd, Int.reduceToNat, Nat.reduceLT, Nat.reduceLeDiff, Int.reduceEq, Int.reduceNeg, facts, List.getElem?_map, List.length_map, iV, *])
        | ((with_reducible refine cdkw_split (fun h => ?_) (fun h => ?_)) <;> simp -implicitDefEqProofs only [steps0, steps1, steps2, steps3, steps4, Nat.reduceAdd, Nat.reduceEqDiff, reduceIte, evBox, Nat.reduceSub, Nat.reducePow, Nat.reduceMul, Int.reduceLT, Int.reduceLE, Int.reduceAdd, Int.reduceToNat, Nat.reduceLT, Nat.reduceLeDiff, Int.reduceEq, Int.reduceNeg, facts, List.getElem?_map, List.length_map, iV, *])
        | ((fail_if_success (with_reducible (first | refine bkl_seqw_b 3 ?_ | refine bkl_seqw_sb 3 ?_))); (with_reducible refine bkl_seqw ?_); simp -implicitDefEqProofs only [steps0, steps1, steps2, steps3, steps4, Nat.reduceAdd, Nat.reduceEqDiff, reduceIte, evBox, Nat.reduceSub, Nat.reducePow, Nat.reduceMul, Int.reduceLT, Int.reduceLE, Int.reduceAdd, Int.reduceToNat, Nat.reduceLT, Nat.reduceLeDiff, Int.reduceEq, Int.reduceNeg, facts, List.getElem?_map, List.length_map, iV, *])
      refine bkl_seqw (golw_cut (α := Unit) (fun _ => .lst 1 (l.map iV) :: .lit (.int .i64 (most : Int)) :: .junk :: .junk :: .ptr 0 0 :: .ptr 2 0 :: .lit (.int .i64 (rowM m u)) :: .lit (.int .i64 (xM m u)) :: .lit (.int .i64 i) :: .lit (.int .u64 u) :: [.ptr 5 0])
        (fun _ => [some (.box zeroVenue), some (.row 28 4 (1 + i) (seatCells m.seats)), some (.box [.ref 1, .lit (.int .i64 10), .lit (.int .i64 m.radius), .ref 3, .ref 4]), some (.row 3 1 m.kills.length (m.kills.map iV)), some (.row 49 3 m.poles.length (poleCells m.poles)), some (.box (seatM m u).v.cells)]) (fun _ => True) ?_ fun _ _ => ?_)
      · simp -implicitDefEqProofs only [steps0, steps1, steps2, steps3, steps4, Nat.reduceAdd, Nat.reduceEqDiff, reduceIte, evBox, Nat.reduceSub, Nat.reducePow, Nat.reduceMul, Int.reduceLT, Int.reduceLE, Int.reduceAdd, Int.reduceToNat, Nat.reduceLT, Nat.reduceLeDiff, Int.reduceEq, Int.reduceNeg, facts]
        repeat' first
          | (simp -implicitDefEqProofs only [steps0, steps1, steps2, steps3, steps4, Nat.reduceAdd, Nat.reduceEqDiff, reduceIte, evBox, Nat.reduceSub, Nat.reducePow, Nat.reduceMul, Int.reduceLT, Int.reduceLE, Int.reduceAdd, Int.reduceToNat, Nat.reduceLT, Nat.reduceLeDiff, Int.reduceEq, Int.reduceNeg, facts, List.getElem?_map, List.length_map, iV, *])
          | ((with_reducible refine gdk_split (fun h => ?_) (fun h => ?_)) <;> simp -implicitDefEqProofs only [steps0, steps1, steps2, steps3, steps4, Nat.reduceAdd, Nat.reduceEqDiff, reduceIte, evBox, Nat.reduceSub, Nat.reducePow, Nat.reduceMul, Int.reduceLT, Int.reduceLE, Int.reduceAdd, Int.reduceToNat, Nat.reduceLT, Nat.reduceLeDiff, Int.reduceEq, Int.reduceNeg, facts, List.getElem?_map, List.length_map, iV, *])
          | ((with_reducible refine cdk_split (fun h => ?_) (fun h => ?_)) <;> simp -implicitDefEqProofs only [steps0, steps1, steps2, steps3, steps4, Nat.reduceAdd, Nat.reduceEqDiff, reduceIte, evBox, Nat.reduceSub, Nat.reducePow, Nat.reduceMul, Int.reduceLT, Int.reduceLE, Int.reduceAdd, Int.reduceToNat, Nat.reduceLT, Nat.reduceLeDiff, Int.reduceEq, Int.reduceNeg, facts, List.getElem?_map, List.length_map, iV, *])
          | ((with_reducible refine exl_drawn ?_ ?_); (focus kernel_rfl); simp -implicitDefEqProofs only [steps0, steps1, steps2, steps3, steps4, Nat.reduceAdd, Nat.reduceEqDiff, reduceIte, evBox, Nat.reduceSub, Nat.reducePow, Nat.reduceMul, Int.reduceLT, Int.reduceLE, Int.reduceAdd, Int.reduceToNat, Nat.reduceLT, Nat.reduceLeDiff, Int.reduceEq, Int.reduceNeg, facts, List.getElem?_map, List.length_map, iV, *])
          | ((with_reducible refine cdkw_split (fun h => ?_) (fun h => ?_)) <;> simp -implicitDefEqProofs only [steps0, steps1, steps2, steps3, steps4, Nat.reduceAdd, Nat.reduceEqDiff, reduceIte, evBox, Nat.reduceSub, Nat.reducePow, Nat.reduceMul, Int.reduceLT, Int.reduceLE, Int.reduceAdd, Int.reduceToNat, Nat.reduceLT, Nat.reduceLeDiff, Int.reduceEq, Int.reduceNeg, facts, List.getElem?_map, List.length_map, iV, *])
          | ((with_reducible refine bkl_seqw ?_); simp -implicitDefEqProofs only [steps0, steps1, steps2, steps3, steps4, Nat.reduceAdd, Nat.reduceEqDiff, reduceIte, evBox, Nat.reduceSub, Nat.reducePow, Nat.reduceMul, Int.reduceLT, Int.reduceLE, Int.reduceAdd, Int.reduceToNat, Nat.reduceLT, Nat.reduceLeDiff, Int.reduceEq, Int.reduceNeg, facts, List.getElem?_map, List.length_map, iV, *])
        all_goals simp only [beq_iff_eq, beq_eq_false_iff_ne, ne_eq] at *
        all_goals exact bkl_mid () trivial ⟨[some 0, some 1, some 2, some 3, some 4, some 5], [], by decide, by simp, by (simp [intoT, renF, wks, rowM, xM, zeroVenue, seatCells_tree, poleCells_tree, seatM, kindM, Seat.v, V.cells, *]; done), by (simp [intoO, oneO, og, renF, owks, tree_ints, rowM, xM, zeroVenue, seatCells_tree, poleCells_tree, seatM, kindM, Seat.v, V.cells, *]; done)⟩
      · simp -implicitDefEqProofs only [steps0, steps1, steps2, steps3, steps4, Nat.reduceAdd, Nat.reduceEqDiff, reduceIte, evBox, Nat.reduceSub, Nat.reducePow, Nat.reduceMul, Int.reduceLT, Int.reduceLE, Int.reduceAdd, Int.reduceToNat, Nat.reduceLT, Nat.reduceLeDiff, Int.reduceEq, Int.reduceNeg, facts]
        repeat' first
          | (simp -implicitDefEqProofs only [steps0, steps1, steps2, steps3, steps4, Nat.reduceAdd, Nat.reduceEqDiff, reduceIte, evBox, Nat.reduceSub, Nat.reducePow, Nat.reduceMul, Int.reduceLT, Int.reduceLE, Int.reduceAdd, Int.reduceToNat, Nat.reduceLT, Nat.reduceLeDiff, Int.reduceEq, Int.reduceNeg, facts, List.getElem?_map, List.length_map, iV, seatM, Seat.v, *])
          | ((with_reducible refine gdk_split (fun h => ?_) (fun h => ?_)) <;> simp -implicitDefEqProofs only [steps0, steps1, steps2, steps3, steps4, Nat.reduceAdd, Nat.reduceEqDiff, reduceIte, evBox, Nat.reduceSub, Nat.reducePow, Nat.reduceMul, Int.reduceLT, Int.reduceLE, Int.reduceAdd, Int.reduceToNat, Nat.reduceLT, Nat.reduceLeDiff, Int.reduceEq, Int.reduceNeg, facts, List.getElem?_map, List.length_map, iV, seatM, Seat.v, *])
          | ((with_reducible refine cdk_split (fun h => ?_) (fun h => ?_)) <;> simp -implicitDefEqProofs only [steps0, steps1, steps2, steps3, steps4, Nat.reduceAdd, Nat.reduceEqDiff, reduceIte, evBox, Nat.reduceSub, Nat.reducePow, Nat.reduceMul, Int.reduceLT, Int.reduceLE, Int.reduceAdd, Int.reduceToNat, Nat.reduceLT, Nat.reduceLeDiff, Int.reduceEq, Int.reduceNeg, facts, List.getElem?_map, List.length_map, iV, seatM, Seat.v, *])
          | ((with_reducible refine exl_drawn ?_ ?_); (focus kernel_rfl); simp -implicitDefEqProofs only [steps0, steps1, steps2, steps3, steps4, Nat.reduceAdd, Nat.reduceEqDiff, reduceIte, evBox, Nat.reduceSub, Nat.reducePow, Nat.reduceMul, Int.reduceLT, Int.reduceLE, Int.reduceAdd, Int.reduceToNat, Nat.reduceLT, Nat.reduceLeDiff, Int.reduceEq, Int.reduceNeg, facts, List.getElem?_map, List.length_map, iV, seatM, Seat.v, *])
          | ((with_reducible refine cdkw_split (fun h => ?_) (fun h => ?_)) <;> simp -implicitDefEqProofs only [steps0, steps1, steps2, steps3, steps4, Nat.reduceAdd, Nat.reduceEqDiff, reduceIte, evBox, Nat.reduceSub, Nat.reducePow, Nat.reduceMul, Int.reduceLT, Int.reduceLE, Int.reduceAdd, Int.reduceToNat, Nat.reduceLT, Nat.reduceLeDiff, Int.reduceEq, Int.reduceNeg, facts, List.getElem?_map, List.length_map, iV, seatM, Seat.v, *])
          | ((with_reducible refine bkl_seqw ?_); simp -implicitDefEqProofs only [steps0, steps1, steps2, steps3, steps4, Nat.reduceAdd, Nat.reduceEqDiff, reduceIte, evBox, Nat.reduceSub, Nat.reducePow, Nat.reduceMul, Int.reduceLT, Int.reduceLE, Int.reduceAdd, Int.reduceToNat, Nat.reduceLT, Nat.reduceLeDiff, Int.reduceEq, Int.reduceNeg, facts, List.getElem?_map, List.length_map, iV, seatM, Seat.v, *])
        all_goals simp only [beq_iff_eq, beq_eq_false_iff_ne, ne_eq] at *
        all_goals clear q1 q2 q3 q4 q5 q6 p1 p2 p3 p4 p5 p6 p7 p8 p9 p10 p11 b1 b2 b3 b4 b5 b6 hm9 hb hu e0 e1 e2 e3 r1 r2 hub ha
        all_goals first
          | (refine bkl_again (i + 1) ⟨hlt, by omega⟩ (by omega) ⟨[some 0, some 7, some 2, some 3, some 4], [], by decide, ?_, ?_, ?_⟩ <;> (first | (simp; done) | (simp [og, hn, stepM, zeroVenue, seatCells_snoc, poleCells_snoc, seatCells_tree, poleCells_tree, seatM, poleM, iV, Nat.add_assoc, *]; done) | (simp [intoT, renF, wks, hn, stepM, zeroVenue, seatCells_snoc, poleCells_snoc, seatCells_tree, poleCells_tree, seatM, poleM, iV, Nat.add_assoc, *]; done) | (simp [intoO, oneO, og, renF, owks, tree_ints, hn, stepM, zeroVenue, seatCells_snoc, poleCells_snoc, seatCells_tree, poleCells_tree, seatM, poleM, iV, Nat.add_assoc, *]; done)))
          | (refine bkl_again (i + 1) ⟨hlt, by omega⟩ (by omega) ⟨[some 0, some 7, some 2, some 10, some 4], [], by decide, ?_, ?_, ?_⟩ <;> (first | (simp; done) | (simp [og, hn, stepM, zeroVenue, seatCells_snoc, poleCells_snoc, seatCells_tree, poleCells_tree, seatM, poleM, iV, Nat.add_assoc, *]; done) | (simp [intoT, renF, wks, hn, stepM, zeroVenue, seatCells_snoc, poleCells_snoc, seatCells_tree, poleCells_tree, seatM, poleM, iV, Nat.add_assoc, *]; done) | (simp [intoO, oneO, og, renF, owks, tree_ints, hn, stepM, zeroVenue, seatCells_snoc, poleCells_snoc, seatCells_tree, poleCells_tree, seatM, poleM, iV, Nat.add_assoc, *]; done)))
          | (refine bkl_again (i + 1) ⟨hlt, by omega⟩ (by omega) ⟨[some 0, some 7, some 2, some 3, some 10], [], by decide, ?_, ?_, ?_⟩ <;> (first | (simp; done) | (simp [og, hn, stepM, zeroVenue, seatCells_snoc, poleCells_snoc, seatCells_tree, poleCells_tree, seatM, poleM, iV, Nat.add_assoc, *]; done) | (simp [intoT, renF, wks, hn, stepM, zeroVenue, seatCells_snoc, poleCells_snoc, seatCells_tree, poleCells_tree, seatM, poleM, iV, Nat.add_assoc, *]; done) | (simp [intoO, oneO, og, renF, owks, tree_ints, hn, stepM, zeroVenue, seatCells_snoc, poleCells_snoc, seatCells_tree, poleCells_tree, seatM, poleM, iV, Nat.add_assoc, *]; done)))
          | (refine bkl_again (i + 1) ⟨hlt, by omega⟩ (by omega) ⟨[some 0, some 7, some 2, some 10, some 13], [], by decide, ?_, ?_, ?_⟩ <;> (first | (simp; done) | (simp [og, hn, stepM, zeroVenue, seatCells_snoc, poleCells_snoc, seatCells_tree, poleCells_tree, seatM, poleM, iV, Nat.add_assoc, *]; done) | (simp [intoT, renF, wks, hn, stepM, zeroVenue, seatCells_snoc, poleCells_snoc, seatCells_tree, poleCells_tree, seatM, poleM, iV, Nat.add_assoc, *]; done) | (simp [intoO, oneO, og, renF, owks, tree_ints, hn, stepM, zeroVenue, seatCells_snoc, poleCells_snoc, seatCells_tree, poleCells_tree, seatM, poleM, iV, Nat.add_assoc, *]; done)))
  · have hmk : makeN l most = i := by unfold makeN; omega
    have hv : makeV l most = m.v := by unfold makeV; rw [hmk, hm9]
    rw [hv]
    have hz : zeroVenue.length = 5 := rfl
    have hfin : ∀ zs : List (Nat × OB), (1, OB.row 28 4 (1 + i) (seatCells m.seats)) ∈ zs → (3, OB.row 3 1 m.kills.length (m.kills.map iV)) ∈ zs → (4, OB.row 49 3 m.poles.length (poleCells m.poles)) ∈ zs →
        Co zs (.agg [.ref 1, .lit (.int .i64 10), .lit (.int .i64 m.radius), .ref 3, .ref 4]) m.v.v := fun zs h1 h3 h4 =>
      co_agg (.cons (co_cells h1 (by simp [MS.v, hsl]) (fun x hx => by obtain ⟨s, _, rfl⟩ := List.mem_map.1 hx; rfl) (seatCells_tree _)) (.cons (.tree rfl) (.cons (.tree rfl) (.cons (co_ints h3)
        (.cons (co_cells h4 (by simp [MS.v]) (fun x hx => by obtain ⟨s, _, rfl⟩ := List.mem_map.1 hx; rfl) (poleCells_tree _)) .nil)))))
    rcases (show (¬ i < l.length) ∨ (i < l.length ∧ ¬ 1 + i < most) by omega) with hA | ⟨hA, hB⟩
    · have e0 : decide ((i : Int) < (l.length : Int)) = false := by simp; omega
      clear hlt
      simp -implicitDefEqProofs only [steps0, steps1, steps2, steps3, steps4, Nat.reduceAdd, Nat.reduceEqDiff, reduceIte, evBox, Nat.reduceSub, Nat.reducePow, Nat.reduceMul, Int.reduceLT, Int.reduceLE, Int.reduceAdd, Int.reduceToNat, Nat.reduceLT, Nat.reduceLeDiff, Int.reduceEq, Int.reduceNeg, facts, e0]
      repeat' first
        | (simp -implicitDefEqProofs only [steps0, steps1, steps2, steps3, steps4, Nat.reduceAdd, Nat.reduceEqDiff, reduceIte, evBox, Nat.reduceSub, Nat.reducePow, Nat.reduceMul, Int.reduceLT, Int.reduceLE, Int.reduceAdd, Int.reduceToNat, Nat.reduceLT, Nat.reduceLeDiff, Int.reduceEq, Int.reduceNeg, facts, List.getElem?_map, List.length_map, iV, zeroVenue, *])
        | ((with_reducible refine gdk_split (fun h => ?_) (fun h => ?_)) <;> simp -implicitDefEqProofs only [steps0, steps1, steps2, steps3, steps4, Nat.reduceAdd, Nat.reduceEqDiff, reduceIte, evBox, Nat.reduceSub, Nat.reducePow, Nat.reduceMul, Int.reduceLT, Int.reduceLE, Int.reduceAdd, Int.reduceToNat, Nat.reduceLT, Nat.reduceLeDiff, Int.reduceEq, Int.reduceNeg, facts, List.getElem?_map, List.length_map, iV, zeroVenue, *])
        | ((with_reducible refine cdk_split (fun h => ?_) (fun h => ?_)) <;> simp -implicitDefEqProofs only [steps0, steps1, steps2, steps3, steps4, Nat.reduceAdd, Nat.reduceEqDiff, reduceIte, evBox, Nat.reduceSub, Nat.reducePow, Nat.reduceMul, Int.reduceLT, Int.reduceLE, Int.reduceAdd, Int.reduceToNat, Nat.reduceLT, Nat.reduceLeDiff, Int.reduceEq, Int.reduceNeg, facts, List.getElem?_map, List.length_map, iV, zeroVenue, *])
        | ((with_reducible refine exl_drawn ?_ ?_); (focus kernel_rfl); simp -implicitDefEqProofs only [steps0, steps1, steps2, steps3, steps4, Nat.reduceAdd, Nat.reduceEqDiff, reduceIte, evBox, Nat.reduceSub, Nat.reducePow, Nat.reduceMul, Int.reduceLT, Int.reduceLE, Int.reduceAdd, Int.reduceToNat, Nat.reduceLT, Nat.reduceLeDiff, Int.reduceEq, Int.reduceNeg, facts, List.getElem?_map, List.length_map, iV, zeroVenue, *])
        | ((with_reducible refine cdkw_split (fun h => ?_) (fun h => ?_)) <;> simp -implicitDefEqProofs only [steps0, steps1, steps2, steps3, steps4, Nat.reduceAdd, Nat.reduceEqDiff, reduceIte, evBox, Nat.reduceSub, Nat.reducePow, Nat.reduceMul, Int.reduceLT, Int.reduceLE, Int.reduceAdd, Int.reduceToNat, Nat.reduceLT, Nat.reduceLeDiff, Int.reduceEq, Int.reduceNeg, facts, List.getElem?_map, List.length_map, iV, zeroVenue, *])
        | ((with_reducible refine bkl_seqw ?_); simp -implicitDefEqProofs only [steps0, steps1, steps2, steps3, steps4, Nat.reduceAdd, Nat.reduceEqDiff, reduceIte, evBox, Nat.reduceSub, Nat.reducePow, Nat.reduceMul, Int.reduceLT, Int.reduceLE, Int.reduceAdd, Int.reduceToNat, Nat.reduceLT, Nat.reduceLeDiff, Int.reduceEq, Int.reduceNeg, facts, List.getElem?_map, List.length_map, iV, zeroVenue, *])
      exact ends_cell [(1, .row 28 4 (1 + i) (seatCells m.seats)), (3, .row 3 1 m.kills.length (m.kills.map iV)), (4, .row 49 3 m.poles.length (poleCells m.poles))] rfl t_cellsN_26 (.inr rfl) rfl rfl rfl (by simp [og]) (hfin _ (by simp) (by simp) (by simp))
    · have e0 : decide ((i : Int) < (l.length : Int)) = true := by simp; omega
      have e2 : decide (((1 + i : Nat) : Int) < (most : Int)) = false := by simp; omega
      clear hlt
      simp -implicitDefEqProofs only [steps0, steps1, steps2, steps3, steps4, Nat.reduceAdd, Nat.reduceEqDiff, reduceIte, evBox, Nat.reduceSub, Nat.reducePow, Nat.reduceMul, Int.reduceLT, Int.reduceLE, Int.reduceAdd, Int.reduceToNat, Nat.reduceLT, Nat.reduceLeDiff, Int.reduceEq, Int.reduceNeg, facts, e0, e2]
      repeat' first
        | (simp -implicitDefEqProofs only [steps0, steps1, steps2, steps3, steps4, Nat.reduceAdd, Nat.reduceEqDiff, reduceIte, evBox, Nat.reduceSub, Nat.reducePow, Nat.reduceMul, Int.reduceLT, Int.reduceLE, Int.reduceAdd, Int.reduceToNat, Nat.reduceLT, Nat.reduceLeDiff, Int.reduceEq, Int.reduceNeg, facts, List.getElem?_map, List.length_map, iV, zeroVenue, *])
        | ((with_reducible refine gdk_split (fun h => ?_) (fun h => ?_)) <;> simp -implicitDefEqProofs only [steps0, steps1, steps2, steps3, steps4, Nat.reduceAdd, Nat.reduceEqDiff, reduceIte, evBox, Nat.reduceSub, Nat.reducePow, Nat.reduceMul, Int.reduceLT, Int.reduceLE, Int.reduceAdd, Int.reduceToNat, Nat.reduceLT, Nat.reduceLeDiff, Int.reduceEq, Int.reduceNeg, facts, List.getElem?_map, List.length_map, iV, zeroVenue, *])
        | ((with_reducible refine cdk_split (fun h => ?_) (fun h => ?_)) <;> simp -implicitDefEqProofs only [steps0, steps1, steps2, steps3, steps4, Nat.reduceAdd, Nat.reduceEqDiff, reduceIte, evBox, Nat.reduceSub, Nat.reducePow, Nat.reduceMul, Int.reduceLT, Int.reduceLE, Int.reduceAdd, Int.reduceToNat, Nat.reduceLT, Nat.reduceLeDiff, Int.reduceEq, Int.reduceNeg, facts, List.getElem?_map, List.length_map, iV, zeroVenue, *])
        | ((with_reducible refine exl_drawn ?_ ?_); (focus kernel_rfl); simp -implicitDefEqProofs only [steps0, steps1, steps2, steps3, steps4, Nat.reduceAdd, Nat.reduceEqDiff, reduceIte, evBox, Nat.reduceSub, Nat.reducePow, Nat.reduceMul, Int.reduceLT, Int.reduceLE, Int.reduceAdd, Int.reduceToNat, Nat.reduceLT, Nat.reduceLeDiff, Int.reduceEq, Int.reduceNeg, facts, List.getElem?_map, List.length_map, iV, zeroVenue, *])
        | ((with_reducible refine cdkw_split (fun h => ?_) (fun h => ?_)) <;> simp -implicitDefEqProofs only [steps0, steps1, steps2, steps3, steps4, Nat.reduceAdd, Nat.reduceEqDiff, reduceIte, evBox, Nat.reduceSub, Nat.reducePow, Nat.reduceMul, Int.reduceLT, Int.reduceLE, Int.reduceAdd, Int.reduceToNat, Nat.reduceLT, Nat.reduceLeDiff, Int.reduceEq, Int.reduceNeg, facts, List.getElem?_map, List.length_map, iV, zeroVenue, *])
        | ((with_reducible refine bkl_seqw ?_); simp -implicitDefEqProofs only [steps0, steps1, steps2, steps3, steps4, Nat.reduceAdd, Nat.reduceEqDiff, reduceIte, evBox, Nat.reduceSub, Nat.reducePow, Nat.reduceMul, Int.reduceLT, Int.reduceLE, Int.reduceAdd, Int.reduceToNat, Nat.reduceLT, Nat.reduceLeDiff, Int.reduceEq, Int.reduceNeg, facts, List.getElem?_map, List.length_map, iV, zeroVenue, *])
      exact ends_cell [(1, .row 28 4 (1 + i) (seatCells m.seats)), (3, .row 3 1 m.kills.length (m.kills.map iV)), (4, .row 49 3 m.poles.length (poleCells m.poles))] rfl t_cellsN_26 (.inr rfl) rfl rfl rfl (by simp [og]) (hfin _ (by simp) (by simp) (by simp))

end Go.Proofs.Ytehdpfhpiplbgaa
