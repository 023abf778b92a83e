/-
  GeomNear: with a greater way more seats are near, and none is lost; a seat's own place is near it.
-/
import Derived.Test.YtehdpfhpiplbgaaTold
import Derived.Test.YtehdpfhpiplbgaaMade
namespace Go.Proofs.Ytehdpfhpiplbgaa
open Go.AV
set_option linter.unusedSimpArgs false
set_option linter.unusedVariables false

theorem upTo_mem {p : Nat → Bool} : ∀ {n : Nat} {z : Int}, z ∈ upTo p n ↔ ∃ k : Nat, k < n ∧ p k = true ∧ z = k
  | 0, z => by simp [upTo]
  | n + 1, z => by
    simp only [upTo]
    split
    · rename_i h
      simp only [List.mem_append, upTo_mem (n := n), List.mem_singleton]
      constructor
      · rintro (⟨k, h1, h2, h3⟩ | rfl)
        · exact ⟨k, by omega, h2, h3⟩
        · exact ⟨n, by omega, h, rfl⟩
      · rintro ⟨k, h1, h2, h3⟩
        by_cases hk : k = n
        · exact .inr (hk ▸ h3)
        · exact .inl ⟨k, by omega, h2, h3⟩
    · rename_i h
      rw [upTo_mem (n := n)]
      constructor
      · rintro ⟨k, h1, h2, h3⟩; exact ⟨k, by omega, h2, h3⟩
      · rintro ⟨k, h1, h2, h3⟩
        by_cases hk : k = n
        · subst hk; exact absurd h2 h
        · exact ⟨k, by omega, h2, h3⟩

theorem upTo_rise (p : Nat → Bool) : ∀ n : Nat, (upTo p n).Pairwise (· < ·)
  | 0 => .nil
  | n + 1 => by
    simp only [upTo]
    split
    · refine List.pairwise_append.2 ⟨upTo_rise p n, by simp, fun a ha b hb => ?_⟩
      obtain ⟨k, h1, _, rfl⟩ := upTo_mem.1 ha
      simp at hb
      omega
    · exact upTo_rise p n

theorem upTo_filter {p q : Nat → Bool} (h : ∀ k, p k = true → q k = true) : ∀ n : Nat, upTo p n = (upTo q n).filter fun z => p z.toNat
  | 0 => rfl
  | n + 1 => by
    have ih := upTo_filter h n
    simp only [upTo]
    by_cases hp : p n = true
    · rw [if_pos hp, if_pos (h n hp), List.filter_append, ← ih]
      simp [hp]
    · rw [if_neg hp]
      split
      · rw [List.filter_append, ← ih]; simp [hp]
      · exact ih

/-- Where the short list stands when m of the long one are gone through. -/
def cntA (p : Int → Bool) (ys : List Int) (m : Nat) : List Int := (ys.take m).filter p

theorem cntA_step {p : Int → Bool} {ys : List Int} {m : Nat} {z : Int} (hz : ys[m]? = some z) : cntA p ys (m + 1) = if p z then cntA p ys m ++ [z] else cntA p ys m := by
  have : ys.take (m + 1) = ys.take m ++ [z] := by
    rw [List.take_add_one, hz]; rfl
  simp only [cntA, this, List.filter_append]
  split <;> simp [*]

theorem cntA_at {p : Int → Bool} {ys : List Int} {m : Nat} {z : Int} (hr : ys.Pairwise (· < ·)) (hz : ys[m]? = some z) : (p z = true → (ys.filter p)[(cntA p ys m).length]? = some z) ∧
    (p z = false → ∀ x, (ys.filter p)[(cntA p ys m).length]? = some x → x ≠ z) := by
  have hlt := get_lt hz
  have e : ys = ys.take m ++ z :: ys.drop (m + 1) := by
    have h1 : ys[m] = z := by rw [List.getElem?_eq_getElem hlt] at hz; simpa using hz
    rw [← h1]
    simp
  have e2 : ys.filter p = cntA p ys m ++ (z :: ys.drop (m + 1)).filter p := by
    conv => lhs; rw [e]
    rw [List.filter_append]; rfl
  rw [e2]
  constructor
  · intro hp
    rw [List.getElem?_append_right (Nat.le_refl _)]
    simp [hp]
  · intro hp x hx
    rw [List.getElem?_append_right (Nat.le_refl _)] at hx
    simp only [List.filter_cons, hp, Bool.false_eq_true, if_false] at hx
    have hm := List.mem_of_getElem? hx
    have hm2 := (List.mem_filter.1 hm).1
    rw [e] at hr
    have h3 := (List.pairwise_cons.1 (List.pairwise_append.1 hr).2.1).1 x hm2
    omega

theorem rise_prev {ys : List Int} (hr : ys.Pairwise (· < ·)) {m : Nat} {y z : Int} (h0 : 0 < m) (hz : ys[m]? = some z) (hy : ys[m - 1]? = some y) : y < z := by
  have h1 := get_lt hz
  rw [List.getElem?_eq_getElem h1] at hz
  rw [List.getElem?_eq_getElem (by omega)] at hy
  cases hz
  cases hy
  exact List.pairwise_iff_getElem.1 hr (m - 1) m (by omega) h1 (by omega)

theorem sq_le {a b : Int} (h0 : 0 ≤ a) (h : a ≤ b) : sq a ≤ sq b := Int.mul_le_mul h h h0 (by omega)

theorem nearP_mono (v : Venue) (x y : Int) {a b : Int} (h0 : 0 ≤ a) (h : a ≤ b) (k : Nat) (hp : nearP v x y a k = true) : nearP v x y b k = true := by
  unfold nearP at *
  cases hk : v.seats[k]? with
  | none => simp [hk] at hp
  | some s =>
    simp only [hk, decide_eq_true_eq] at *
    have := sq_le h0 h
    omega

theorem near_own {v : Venue} {s : Seat} {j : Nat} {a : Int} (hs : v.seats[j]? = some s) (h : 1 ≤ a) : nearP v s.x s.y a j = true := by
  have h1 : 1 ≤ sq a := by have := sq_le (a := 1) (b := a) (by omega) h; simpa [sq] using this
  have h2 : farS s ⟨0, s.x, s.y, 0⟩ = 0 := by unfold farS; split <;> simp [sq]
  simp only [nearP, hs, h2, decide_eq_true_eq]
  omega

theorem near_none (v : Venue) : PureC Try.prog 14 [v.v, .lit (.int .i64 0), .lit (.int .i64 0), .lit (.int .i64 0)] (.lst 1 []) := by
  have := near_pure v 0 0 0
  rwa [show nearL v 0 0 0 = [] by simp [nearL, inR]] at this

theorem same_nil : PureC Try.prog 13 [.lst 1 [], .lst 1 []] (.lit (.bool true)) := same_pure [] []
theorem same_nil_co : CoL [] [.lst 1 [], .lit (.slice none 0 0)] [.lst 1 [], .lst 1 []] := .cons (.tree rfl) (.cons .nil .nil)

theorem seatS_coord {v : Venue} (hm : mayB v = true) {s : Seat} {j : Nat} (hs : v.seats[j]? = some s) : coordR s.x = true ∧ coordR s.y = true := by
  simp only [mayB, seatsB, allB, Bool.and_eq_true, List.all_eq_true, List.mem_range] at hm
  have h := hm.1.1 j (get_lt hs)
  unfold seatAt at h
  rw [hs] at h
  simp only [seatS, Bool.and_eq_true] at h
  exact ⟨h.1.1.1.2, h.1.1.2⟩

theorem near_list {v : Venue} (hm : mayB v = true) {s : Seat} {j : Nat} (hs : v.seats[j]? = some s) {a : Int} (h : 1 ≤ a ∧ a ≤ 100) : nearL v s.x s.y a = upTo (nearP v s.x s.y a) v.seats.length := by
  have h1 := seatS_coord hm hs
  have h2 : inR a 1 1048576 = true := by simp [inR]; omega
  simp [nearL, hm, h1.1, h1.2, h2]

theorem part_bound (n : Int) (k : Nat) (hk : 0 < k) (hk' : k ≤ 4096) : IntKind.i64.wrap ((IntKind.u64.wrap n).tmod (k : Int)) = uw n % (k : Int) ∧ 0 ≤ uw n % (k : Int) ∧ uw n % (k : Int) < k := by
  have h0 := uw_bound n
  have h1 := Int.emod_nonneg (uw n) (show (k : Int) ≠ 0 by omega)
  have h2 := Int.emod_lt_of_pos (uw n) (show 0 < (k : Int) by omega)
  refine ⟨?_, h1, h2⟩
  rw [show IntKind.u64.wrap n = uw n from rfl, Int.tmod_eq_emod_of_nonneg h0.1, w64 (by omega)]

def hasI (c : List Int) (j : Int) : Bool := c.any (· == j)
theorem hasI_snoc (c : List Int) (z j : Int) : hasI (c ++ [z]) j = (hasI c j || (z == j)) := by simp [hasI]
theorem hasI_nil (j : Int) : hasI [] j = false := rfl

set_option maxHeartbeats 4000000 in
theorem nearLoop (v : Venue) (hm9 : mayB v = true) (j : Nat) (s : Seat) (hs : v.seats[j]? = some s) (A B : Int) (ha : 1 ≤ A) (hab : A ≤ B) (hb : B ≤ 100) (l : List Int) (k r q : Int)
    (hmk : PureC Try.prog 19 [.lst 1 (l.map iV), .lit (.int .i64 25)] v.v)
    (hj : IntKind.i64.wrap ((IntKind.u64.wrap k).tmod (IntKind.u64.wrap (v.seats.length : Int))) = (j : Int)) (A0 B0 : Int)
    (hA : IntKind.i64.wrap (1 + IntKind.i64.wrap ((IntKind.u64.wrap r).tmod 100)) = A0) (hB : IntKind.i64.wrap (1 + IntKind.i64.wrap ((IntKind.u64.wrap q).tmod 100)) = B0)
    (hsw : (decide (B0 < A0) = false ∧ A0 = A ∧ B0 = B) ∨ (decide (B0 < A0) = true ∧ A0 = B ∧ B0 = A)) :
    PureC Try.prog 6 [.lst 1 (l.map iV), .lit (.int .i64 k), .lit (.int .i64 r), .lit (.int .i64 q)] (.lit (.bool true)) := by
  have hn1 := get_lt hs
  have hlen := mayB_len hm9
  have hne : (IntKind.u64.wrap (v.seats.length : Int) = 0) = False := by rw [wrap_u64]; simp; omega
  have nA := near_pure v s.x s.y A
  have nB := near_pure v s.x s.y B
  rw [near_list hm9 hs ⟨ha, by omega⟩] at nA
  rw [near_list hm9 hs ⟨by omega, hb⟩] at nB
  have hfil := upTo_filter (nearP_mono v s.x s.y (a := A) (b := B) (by omega) hab) v.seats.length
  have hris := upTo_rise (nearP v s.x s.y B) v.seats.length
  have hown : (j : Int) ∈ upTo (nearP v s.x s.y A) v.seats.length := upTo_mem.2 ⟨j, hn1, near_own hs ha, rfl⟩
  have hul := upTo_len (nearP v s.x s.y B) v.seats.length
  have hul2 := upTo_len (nearP v s.x s.y A) v.seats.length
  generalize upTo (nearP v s.x s.y A) v.seats.length = xs at *
  generalize upTo (nearP v s.x s.y B) v.seats.length = ys at *
  generalize (fun z : Int => nearP v s.x s.y A z.toNat) = p at hfil
  replace hfil := hfil.symm
  refine pure_of_gol 134 hm Try.func6 rfl rfl (by decide +kernel) ?_
  have e25 : ((25 : Nat) : Int) = 25 := rfl
  simp -implicitDefEqProofs only [steps0, steps1, steps2, steps3, steps4, Nat.reduceAdd, Nat.reduceEqDiff, reduceIte, evBox, Nat.reduceSub, Nat.reducePow, Nat.reduceMul, Int.reduceLT, Int.reduceLE, Int.reduceAdd, Int.reduceToNat, Nat.reduceLT, Nat.reduceLeDiff, Int.reduceEq, Int.reduceNeg, facts]
  rcases hsw with ⟨c0, rfl, rfl⟩ | ⟨c0, rfl, rfl⟩
  all_goals
    repeat' first
      | ((with_reducible refine exl_iscall ?_); refine exl_pure (by kernel_rfl) (hmk) rfl rfl ?_; simp -implicitDefEqProofs only [steps0, steps1, steps2, steps3, steps4, Nat.reduceAdd, Nat.reduceEqDiff, reduceIte, evBox, Nat.reduceSub, Nat.reducePow, Nat.reduceMul, Int.reduceLT, Int.reduceLE, Int.reduceAdd, Int.reduceToNat, Nat.reduceLT, Nat.reduceLeDiff, Int.reduceEq, Int.reduceNeg, facts, List.length_map, List.getElem?_map, Venue.v, Seat.v, hs, *])
      | ((with_reducible refine exl_iscall ?_); refine exl_pure (by kernel_rfl) (nA) rfl rfl ?_; simp -implicitDefEqProofs only [steps0, steps1, steps2, steps3, steps4, Nat.reduceAdd, Nat.reduceEqDiff, reduceIte, evBox, Nat.reduceSub, Nat.reducePow, Nat.reduceMul, Int.reduceLT, Int.reduceLE, Int.reduceAdd, Int.reduceToNat, Nat.reduceLT, Nat.reduceLeDiff, Int.reduceEq, Int.reduceNeg, facts, List.length_map, List.getElem?_map, Venue.v, Seat.v, hs, *])
      | ((with_reducible refine exl_iscall ?_); refine exl_pure (by kernel_rfl) (nB) rfl rfl ?_; simp -implicitDefEqProofs only [steps0, steps1, steps2, steps3, steps4, Nat.reduceAdd, Nat.reduceEqDiff, reduceIte, evBox, Nat.reduceSub, Nat.reducePow, Nat.reduceMul, Int.reduceLT, Int.reduceLE, Int.reduceAdd, Int.reduceToNat, Nat.reduceLT, Nat.reduceLeDiff, Int.reduceEq, Int.reduceNeg, facts, List.length_map, List.getElem?_map, Venue.v, Seat.v, hs, *])
      | (simp -implicitDefEqProofs only [steps0, steps1, steps2, steps3, steps4, Nat.reduceAdd, Nat.reduceEqDiff, reduceIte, evBox, Nat.reduceSub, Nat.reducePow, Nat.reduceMul, Int.reduceLT, Int.reduceLE, Int.reduceAdd, Int.reduceToNat, Nat.reduceLT, Nat.reduceLeDiff, Int.reduceEq, Int.reduceNeg, facts, List.length_map, List.getElem?_map, Venue.v, Seat.v, hs, *])
      | ((with_reducible refine gdk_split (fun h => ?_) (fun h => ?_)) <;> simp -implicitDefEqProofs only [steps0, steps1, steps2, steps3, steps4, Nat.reduceAdd, Nat.reduceEqDiff, reduceIte, evBox, Nat.reduceSub, Nat.reducePow, Nat.reduceMul, Int.reduceLT, Int.reduceLE, Int.reduceAdd, Int.reduceToNat, Nat.reduceLT, Nat.reduceLeDiff, Int.reduceEq, Int.reduceNeg, facts, List.length_map, List.getElem?_map, Venue.v, Seat.v, hs, *])
      | ((with_reducible refine cdk_split (fun h => ?_) (fun h => ?_)) <;> simp -implicitDefEqProofs only [steps0, steps1, steps2, steps3, steps4, Nat.reduceAdd, Nat.reduceEqDiff, reduceIte, evBox, Nat.reduceSub, Nat.reducePow, Nat.reduceMul, Int.reduceLT, Int.reduceLE, Int.reduceAdd, Int.reduceToNat, Nat.reduceLT, Nat.reduceLeDiff, Int.reduceEq, Int.reduceNeg, facts, List.length_map, List.getElem?_map, Venue.v, Seat.v, hs, *])
      | ((with_reducible refine exl_drawn ?_ ?_); (focus kernel_rfl); simp -implicitDefEqProofs only [steps0, steps1, steps2, steps3, steps4, Nat.reduceAdd, Nat.reduceEqDiff, reduceIte, evBox, Nat.reduceSub, Nat.reducePow, Nat.reduceMul, Int.reduceLT, Int.reduceLE, Int.reduceAdd, Int.reduceToNat, Nat.reduceLT, Nat.reduceLeDiff, Int.reduceEq, Int.reduceNeg, facts, List.length_map, List.getElem?_map, Venue.v, Seat.v, hs, *])
    refine gol_loop (fun m : Nat => jn 9 (.ptr 0 0 :: .lit (.int .i64 (j : Int)) :: .junk :: .junk :: .lst 1 (xs.map iV) :: .lst 1 (ys.map iV) :: .lit (.int .i64 ((cntA p ys m).length : Int)) :: .lit (.bool (hasI (cntA p ys m) j)) :: [.lit (.int .i64 (m : Int))]))
      (fun m => [some (.box v.v.cells)]) (fun m => ys.length - m) (fun m => m ≤ ys.length) 0 hm (by decide +kernel) (Nat.zero_le _) ⟨[some 0], [], by decide, by simp, by (simp [intoT, renF, wks, show cntA p ys 0 = [] from rfl, hasI_nil, Venue.v, V.cells]; done), by (simp [intoO, oneO, og, renF, owks, tree_ints, show cntA p ys 0 = [] from rfl, hasI_nil, Venue.v, V.cells]; done)⟩ ?_
    intro m hmm
    by_cases hlt : m < ys.length
    · obtain ⟨z, hz⟩ : ∃ z, ys[m]? = some z := ⟨ys[m], by simp [hlt]⟩
      obtain ⟨y, hy⟩ : ∃ y, decide (0 < (m : Int)) = true → ys[m - 1]? = some y := ⟨ys[m - 1], fun _ => by simp⟩
      have e0 : decide ((m : Int) < (ys.length : Int)) = true := by simp; omega
      have e1 : IntKind.i64.wrap ((m : Int) + 1) = ((m + 1 : Nat) : Int) := by rw [w64 (by omega)]; omega
      have e2 : decide (0 < (m : Int)) = true → IntKind.i64.wrap ((m : Int) - 1) = ((m - 1 : Nat) : Int) := fun h => by simp at h; rw [w64 (by omega)]; omega
      have e3 : decide (0 < (m : Int)) = true → decide (z ≤ y) = false := fun h => by
        have := rise_prev hris (by simpa using h) hz (hy h)
        simp; omega
      have hat := cntA_at (p := p) hris hz
      have hst := cntA_step (p := p) hz
      rw [hfil] at hat
      have hcl : (cntA p ys m).length ≤ ys.length := Nat.le_trans (List.length_filter_le _ _) (by simp; omega)
      have e4 : IntKind.i64.wrap (((cntA p ys m).length : Int) + 1) = (((cntA p ys m).length + 1 : Nat) : Int) := by rw [w64 (by omega)]; omega
      generalize hc : cntA p ys m = c at *
      cases hp : p z with
      | true =>
        have hx := hat.1 hp
        have e5 : decide ((c.length : Int) < (xs.length : Int)) = true := by have := get_lt hx; simp; omega
        rw [hp, if_pos rfl] at hst
        clear hat hris hul hul2 hcl nA nB hfil hlen hown
        simp -implicitDefEqProofs only [steps0, steps1, steps2, steps3, steps4, Nat.reduceAdd, Nat.reduceEqDiff, reduceIte, evBox, Nat.reduceSub, Nat.reducePow, Nat.reduceMul, Int.reduceLT, Int.reduceLE, Int.reduceAdd, Int.reduceToNat, Nat.reduceLT, Nat.reduceLeDiff, Int.reduceEq, Int.reduceNeg, facts, e0]
        repeat' first
          | (simp -implicitDefEqProofs only [steps0, steps1, steps2, steps3, steps4, Nat.reduceAdd, Nat.reduceEqDiff, reduceIte, evBox, Nat.reduceSub, Nat.reducePow, Nat.reduceMul, Int.reduceLT, Int.reduceLE, Int.reduceAdd, Int.reduceToNat, Nat.reduceLT, Nat.reduceLeDiff, Int.reduceEq, Int.reduceNeg, facts, List.length_map, List.getElem?_map, iV, beq_self_eq_true, *])
          | ((with_reducible refine gdk_split (fun h => ?_) (fun h => ?_)) <;> simp -implicitDefEqProofs only [steps0, steps1, steps2, steps3, steps4, Nat.reduceAdd, Nat.reduceEqDiff, reduceIte, evBox, Nat.reduceSub, Nat.reducePow, Nat.reduceMul, Int.reduceLT, Int.reduceLE, Int.reduceAdd, Int.reduceToNat, Nat.reduceLT, Nat.reduceLeDiff, Int.reduceEq, Int.reduceNeg, facts, List.length_map, List.getElem?_map, iV, beq_self_eq_true, *])
          | ((with_reducible refine cdk_split (fun h => ?_) (fun h => ?_)) <;> simp -implicitDefEqProofs only [steps0, steps1, steps2, steps3, steps4, Nat.reduceAdd, Nat.reduceEqDiff, reduceIte, evBox, Nat.reduceSub, Nat.reducePow, Nat.reduceMul, Int.reduceLT, Int.reduceLE, Int.reduceAdd, Int.reduceToNat, Nat.reduceLT, Nat.reduceLeDiff, Int.reduceEq, Int.reduceNeg, facts, List.length_map, List.getElem?_map, iV, beq_self_eq_true, *])
          | ((with_reducible refine exl_drawn ?_ ?_); (focus kernel_rfl); simp -implicitDefEqProofs only [steps0, steps1, steps2, steps3, steps4, Nat.reduceAdd, Nat.reduceEqDiff, reduceIte, evBox, Nat.reduceSub, Nat.reducePow, Nat.reduceMul, Int.reduceLT, Int.reduceLE, Int.reduceAdd, Int.reduceToNat, Nat.reduceLT, Nat.reduceLeDiff, Int.reduceEq, Int.reduceNeg, facts, List.length_map, List.getElem?_map, iV, beq_self_eq_true, *])
        all_goals (try simp only [beq_iff_eq, beq_eq_false_iff_ne, ne_eq] at *)
        all_goals exact bkl_again (m + 1) hlt (by omega) ⟨[some 0], [], by decide, by simp, by (simp [intoT, renF, wks, hst, hasI_snoc, Venue.v, V.cells, *]; done), by (simp [intoO, oneO, og, renF, owks, tree_ints, hst, hasI_snoc, Venue.v, V.cells, *]; done)⟩
      | false =>
        rw [hp, if_neg (by simp)] at hst
        by_cases hcx : c.length < xs.length
        · obtain ⟨w, hx⟩ : ∃ w, xs[c.length]? = some w := ⟨xs[c.length], by simp [hcx]⟩
          have e5 : decide ((c.length : Int) < (xs.length : Int)) = true := by simp; omega
          have e6 : (w == z) = false := by simpa using hat.2 hp w hx
          clear hat hris hul hul2 hcl nA nB hfil hlen hown
          simp -implicitDefEqProofs only [steps0, steps1, steps2, steps3, steps4, Nat.reduceAdd, Nat.reduceEqDiff, reduceIte, evBox, Nat.reduceSub, Nat.reducePow, Nat.reduceMul, Int.reduceLT, Int.reduceLE, Int.reduceAdd, Int.reduceToNat, Nat.reduceLT, Nat.reduceLeDiff, Int.reduceEq, Int.reduceNeg, facts, e0]
          repeat' first
            | (simp -implicitDefEqProofs only [steps0, steps1, steps2, steps3, steps4, Nat.reduceAdd, Nat.reduceEqDiff, reduceIte, evBox, Nat.reduceSub, Nat.reducePow, Nat.reduceMul, Int.reduceLT, Int.reduceLE, Int.reduceAdd, Int.reduceToNat, Nat.reduceLT, Nat.reduceLeDiff, Int.reduceEq, Int.reduceNeg, facts, List.length_map, List.getElem?_map, iV, beq_self_eq_true, *])
            | ((with_reducible refine gdk_split (fun h => ?_) (fun h => ?_)) <;> simp -implicitDefEqProofs only [steps0, steps1, steps2, steps3, steps4, Nat.reduceAdd, Nat.reduceEqDiff, reduceIte, evBox, Nat.reduceSub, Nat.reducePow, Nat.reduceMul, Int.reduceLT, Int.reduceLE, Int.reduceAdd, Int.reduceToNat, Nat.reduceLT, Nat.reduceLeDiff, Int.reduceEq, Int.reduceNeg, facts, List.length_map, List.getElem?_map, iV, beq_self_eq_true, *])
            | ((with_reducible refine cdk_split (fun h => ?_) (fun h => ?_)) <;> simp -implicitDefEqProofs only [steps0, steps1, steps2, steps3, steps4, Nat.reduceAdd, Nat.reduceEqDiff, reduceIte, evBox, Nat.reduceSub, Nat.reducePow, Nat.reduceMul, Int.reduceLT, Int.reduceLE, Int.reduceAdd, Int.reduceToNat, Nat.reduceLT, Nat.reduceLeDiff, Int.reduceEq, Int.reduceNeg, facts, List.length_map, List.getElem?_map, iV, beq_self_eq_true, *])
            | ((with_reducible refine exl_drawn ?_ ?_); (focus kernel_rfl); simp -implicitDefEqProofs only [steps0, steps1, steps2, steps3, steps4, Nat.reduceAdd, Nat.reduceEqDiff, reduceIte, evBox, Nat.reduceSub, Nat.reducePow, Nat.reduceMul, Int.reduceLT, Int.reduceLE, Int.reduceAdd, Int.reduceToNat, Nat.reduceLT, Nat.reduceLeDiff, Int.reduceEq, Int.reduceNeg, facts, List.length_map, List.getElem?_map, iV, beq_self_eq_true, *])
          all_goals (try simp only [beq_iff_eq, beq_eq_false_iff_ne, ne_eq] at *)
          all_goals exact bkl_again (m + 1) hlt (by omega) ⟨[some 0], [], by decide, by simp, by (simp [intoT, renF, wks, hst, hasI_snoc, Venue.v, V.cells, *]; done), by (simp [intoO, oneO, og, renF, owks, tree_ints, hst, hasI_snoc, Venue.v, V.cells, *]; done)⟩
        · have e5 : decide ((c.length : Int) < (xs.length : Int)) = false := by simp; omega
          clear hat hris hul hul2 hcl nA nB hfil hlen hown
          simp -implicitDefEqProofs only [steps0, steps1, steps2, steps3, steps4, Nat.reduceAdd, Nat.reduceEqDiff, reduceIte, evBox, Nat.reduceSub, Nat.reducePow, Nat.reduceMul, Int.reduceLT, Int.reduceLE, Int.reduceAdd, Int.reduceToNat, Nat.reduceLT, Nat.reduceLeDiff, Int.reduceEq, Int.reduceNeg, facts, e0]
          repeat' first
            | (simp -implicitDefEqProofs only [steps0, steps1, steps2, steps3, steps4, Nat.reduceAdd, Nat.reduceEqDiff, reduceIte, evBox, Nat.reduceSub, Nat.reducePow, Nat.reduceMul, Int.reduceLT, Int.reduceLE, Int.reduceAdd, Int.reduceToNat, Nat.reduceLT, Nat.reduceLeDiff, Int.reduceEq, Int.reduceNeg, facts, List.length_map, List.getElem?_map, iV, beq_self_eq_true, *])
            | ((with_reducible refine gdk_split (fun h => ?_) (fun h => ?_)) <;> simp -implicitDefEqProofs only [steps0, steps1, steps2, steps3, steps4, Nat.reduceAdd, Nat.reduceEqDiff, reduceIte, evBox, Nat.reduceSub, Nat.reducePow, Nat.reduceMul, Int.reduceLT, Int.reduceLE, Int.reduceAdd, Int.reduceToNat, Nat.reduceLT, Nat.reduceLeDiff, Int.reduceEq, Int.reduceNeg, facts, List.length_map, List.getElem?_map, iV, beq_self_eq_true, *])
            | ((with_reducible refine cdk_split (fun h => ?_) (fun h => ?_)) <;> simp -implicitDefEqProofs only [steps0, steps1, steps2, steps3, steps4, Nat.reduceAdd, Nat.reduceEqDiff, reduceIte, evBox, Nat.reduceSub, Nat.reducePow, Nat.reduceMul, Int.reduceLT, Int.reduceLE, Int.reduceAdd, Int.reduceToNat, Nat.reduceLT, Nat.reduceLeDiff, Int.reduceEq, Int.reduceNeg, facts, List.length_map, List.getElem?_map, iV, beq_self_eq_true, *])
            | ((with_reducible refine exl_drawn ?_ ?_); (focus kernel_rfl); simp -implicitDefEqProofs only [steps0, steps1, steps2, steps3, steps4, Nat.reduceAdd, Nat.reduceEqDiff, reduceIte, evBox, Nat.reduceSub, Nat.reducePow, Nat.reduceMul, Int.reduceLT, Int.reduceLE, Int.reduceAdd, Int.reduceToNat, Nat.reduceLT, Nat.reduceLeDiff, Int.reduceEq, Int.reduceNeg, facts, List.length_map, List.getElem?_map, iV, beq_self_eq_true, *])
          all_goals (try simp only [beq_iff_eq, beq_eq_false_iff_ne, ne_eq] at *)
          all_goals exact bkl_again (m + 1) hlt (by omega) ⟨[some 0], [], by decide, by simp, by (simp [intoT, renF, wks, hst, hasI_snoc, Venue.v, V.cells, *]; done), by (simp [intoO, oneO, og, renF, owks, tree_ints, hst, hasI_snoc, Venue.v, V.cells, *]; done)⟩
    · have hm' : m = ys.length := by omega
      subst hm'
      have e0 : decide (((ys.length : Nat) : Int) < ((ys.length : Nat) : Int)) = false := by simp
      have hce : cntA p ys ys.length = xs := by rw [← hfil]; simp [cntA]
      have hany : hasI xs j = true := by simp only [hasI]; simp only [List.any_eq_true, beq_iff_eq]; exact ⟨_, hown, rfl⟩
      clear hris hul hul2 nA nB hfil hlen hown
      simp -implicitDefEqProofs only [steps0, steps1, steps2, steps3, steps4, Nat.reduceAdd, Nat.reduceEqDiff, reduceIte, evBox, Nat.reduceSub, Nat.reducePow, Nat.reduceMul, Int.reduceLT, Int.reduceLE, Int.reduceAdd, Int.reduceToNat, Nat.reduceLT, Nat.reduceLeDiff, Int.reduceEq, Int.reduceNeg, facts, hce, hany, e0]
      repeat' first
        | ((with_reducible refine exl_iscall ?_); refine exl_reads [] (by kernel_rfl) same_nil rfl same_nil_co (by simp) ?_; simp -implicitDefEqProofs only [steps0, steps1, steps2, steps3, steps4, Nat.reduceAdd, Nat.reduceEqDiff, reduceIte, evBox, Nat.reduceSub, Nat.reducePow, Nat.reduceMul, Int.reduceLT, Int.reduceLE, Int.reduceAdd, Int.reduceToNat, Nat.reduceLT, Nat.reduceLeDiff, Int.reduceEq, Int.reduceNeg, facts, List.length_map, List.getElem?_map, iV, beq_self_eq_true, Venue.v, *])
        | ((with_reducible refine exl_iscall ?_); refine exl_pure (by kernel_rfl) (told_pure) rfl rfl ?_; simp -implicitDefEqProofs only [steps0, steps1, steps2, steps3, steps4, Nat.reduceAdd, Nat.reduceEqDiff, reduceIte, evBox, Nat.reduceSub, Nat.reducePow, Nat.reduceMul, Int.reduceLT, Int.reduceLE, Int.reduceAdd, Int.reduceToNat, Nat.reduceLT, Nat.reduceLeDiff, Int.reduceEq, Int.reduceNeg, facts, List.length_map, List.getElem?_map, iV, beq_self_eq_true, Venue.v, *])
        | ((with_reducible refine exl_iscall ?_); refine exl_pure (by kernel_rfl) (near_none v) rfl rfl ?_; simp -implicitDefEqProofs only [steps0, steps1, steps2, steps3, steps4, Nat.reduceAdd, Nat.reduceEqDiff, reduceIte, evBox, Nat.reduceSub, Nat.reducePow, Nat.reduceMul, Int.reduceLT, Int.reduceLE, Int.reduceAdd, Int.reduceToNat, Nat.reduceLT, Nat.reduceLeDiff, Int.reduceEq, Int.reduceNeg, facts, List.length_map, List.getElem?_map, iV, beq_self_eq_true, Venue.v, *])
        | (simp -implicitDefEqProofs only [steps0, steps1, steps2, steps3, steps4, Nat.reduceAdd, Nat.reduceEqDiff, reduceIte, evBox, Nat.reduceSub, Nat.reducePow, Nat.reduceMul, Int.reduceLT, Int.reduceLE, Int.reduceAdd, Int.reduceToNat, Nat.reduceLT, Nat.reduceLeDiff, Int.reduceEq, Int.reduceNeg, facts, List.length_map, List.getElem?_map, iV, beq_self_eq_true, Venue.v, *])
        | ((with_reducible refine gdk_split (fun h => ?_) (fun h => ?_)) <;> simp -implicitDefEqProofs only [steps0, steps1, steps2, steps3, steps4, Nat.reduceAdd, Nat.reduceEqDiff, reduceIte, evBox, Nat.reduceSub, Nat.reducePow, Nat.reduceMul, Int.reduceLT, Int.reduceLE, Int.reduceAdd, Int.reduceToNat, Nat.reduceLT, Nat.reduceLeDiff, Int.reduceEq, Int.reduceNeg, facts, List.length_map, List.getElem?_map, iV, beq_self_eq_true, Venue.v, *])
        | ((with_reducible refine cdk_split (fun h => ?_) (fun h => ?_)) <;> simp -implicitDefEqProofs only [steps0, steps1, steps2, steps3, steps4, Nat.reduceAdd, Nat.reduceEqDiff, reduceIte, evBox, Nat.reduceSub, Nat.reducePow, Nat.reduceMul, Int.reduceLT, Int.reduceLE, Int.reduceAdd, Int.reduceToNat, Nat.reduceLT, Nat.reduceLeDiff, Int.reduceEq, Int.reduceNeg, facts, List.length_map, List.getElem?_map, iV, beq_self_eq_true, Venue.v, *])
        | ((with_reducible refine exl_drawn ?_ ?_); (focus kernel_rfl); simp -implicitDefEqProofs only [steps0, steps1, steps2, steps3, steps4, Nat.reduceAdd, Nat.reduceEqDiff, reduceIte, evBox, Nat.reduceSub, Nat.reducePow, Nat.reduceMul, Int.reduceLT, Int.reduceLE, Int.reduceAdd, Int.reduceToNat, Nat.reduceLT, Nat.reduceLeDiff, Int.reduceEq, Int.reduceNeg, facts, List.length_map, List.getElem?_map, iV, beq_self_eq_true, Venue.v, *])
      all_goals exact ends_tmp (d := 8) rfl (.inr rfl) rfl rfl

theorem hundred (n : Int) : ∃ a : Int, IntKind.i64.wrap (1 + IntKind.i64.wrap ((IntKind.u64.wrap n).tmod 100)) = a ∧ 1 ≤ a ∧ a ≤ 100 := by
  obtain ⟨h1, h2, h3⟩ := part_bound n 100 (by decide) (by decide)
  simp only [Int.cast_ofNat_Int] at h1 h2 h3
  refine ⟨1 + uw n % 100, ?_, by omega, by omega⟩
  rw [h1, w64 (by omega)]

theorem lawNear_pure (l : List Int) (k r q : Int) : PureC Try.prog 6 [.lst 1 (l.map iV), .lit (.int .i64 k), .lit (.int .i64 r), .lit (.int .i64 q)] (.lit (.bool true)) := by
  have hmay := make_may l 25 (by decide)
  have hmk := make_pure l 25 (by decide) (by decide)
  have hlen : 0 < (makeV l 25).seats.length := by
    have := (make_ok l 25 (by decide)).1.len
    show 0 < (runM l (makeN l 25)).seats.length
    omega
  have hle := mayB_len hmay
  generalize makeV l 25 = v at *
  obtain ⟨h1, h2, h3⟩ := part_bound k v.seats.length hlen hle
  have hw : IntKind.u64.wrap (v.seats.length : Int) = v.seats.length := by rw [wrap_u64]; omega
  have hj : (uw k % (v.seats.length : Int)).toNat < v.seats.length := by omega
  obtain ⟨A0, hA, a1, a2⟩ := hundred r
  obtain ⟨B0, hB, b1, b2⟩ := hundred q
  have hj2 : IntKind.i64.wrap ((IntKind.u64.wrap k).tmod (IntKind.u64.wrap (v.seats.length : Int))) = ((uw k % (v.seats.length : Int)).toNat : Int) := by rw [hw, h1]; omega
  by_cases hs : B0 < A0
  · exact nearLoop v hmay _ _ (List.getElem?_eq_getElem hj) B0 A0 b1 (by omega) a2 l k r q hmk hj2 A0 B0 hA hB (.inr ⟨decide_eq_true hs, rfl, rfl⟩)
  · exact nearLoop v hmay _ _ (List.getElem?_eq_getElem hj) A0 B0 a1 (by omega) b2 l k r q hmk hj2 A0 B0 hA hB (.inl ⟨decide_eq_false hs, rfl, rfl⟩)

end Go.Proofs.Ytehdpfhpiplbgaa
