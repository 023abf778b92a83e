/-
  GeomMoved: moved as a whole, a venue has the same clashes; with a greater radius no fewer.
-/
import Derived.Test.YtehdpfhpiplbgaaLawNear
import Derived.Test.YtehdpfhpiplbgaaLawAsks
import Derived.Test.YtehdpfhpiplbgaaLawFar
namespace Go.Proofs.Ytehdpfhpiplbgaa
open Go.AV
set_option linter.unusedSimpArgs false
set_option linter.unusedVariables false

def mvS (dx dy : Int) (s : Seat) : Seat := ⟨s.row, s.x + dx, s.y - dy, s.kind⟩
def moveV (v : Venue) (dx dy : Int) : Venue := ⟨v.seats.map (mvS dx dy), v.gap, v.radius, v.kills, v.poles⟩
def wideV (v : Venue) (k : Int) : Venue := ⟨v.seats, v.gap, v.radius + k, v.kills, v.poles⟩

/-- What is known of a made venue of few seats. -/
structure Tidy (v : Venue) : Prop where
  may : mayB v = true
  len : v.seats.length ≤ 101
  seat : ∀ (j : Nat) (s : Seat), v.seats[j]? = some s → 0 ≤ s.row ∧ s.row ≤ 100 ∧ 0 ≤ s.x ∧ s.x ≤ 1500 ∧ 0 ≤ s.y ∧ s.y ≤ 1000 ∧ 0 ≤ s.kind ∧ s.kind ≤ 2
  ord : ∀ (j : Nat) (r s : Seat), v.seats[j]? = some r → v.seats[j + 1]? = some s → lessS r s = true
  rad : 0 ≤ v.radius ∧ v.radius ≤ 24

theorem make_tidy (l : List Int) (most : Nat) (h : most ≤ 100) : Tidy (makeV l most) := by
  obtain ⟨h1, h2, _⟩ := make_ok l most h
  refine ⟨make_may l most h, ?_, fun j s hs => ?_, h1.ord, h1.rad⟩
  · show (runM l (makeN l most)).seats.length ≤ 101
    have := h1.len
    omega
  · have hj := get_lt hs
    have hl := h1.len
    change j < (runM l (makeN l most)).seats.length at hj
    have := h1.seat j s hs
    omega

theorem Tidy.len1 {v : Venue} (h : Tidy v) : 0 < v.seats.length ∧ v.seats.length ≤ 4096 := by
  have := h.may
  simp only [mayB, seatsB, Bool.and_eq_true, decide_eq_true_eq] at this
  omega

theorem less_mv (dx dy : Int) (r s : Seat) : lessS (mvS dx dy r) (mvS dx dy s) = lessS r s := by
  unfold lessS mvS
  rw [Bool.eq_iff_iff]
  simp only [Bool.or_eq_true, Bool.and_eq_true, decide_eq_true_eq, beq_iff_eq]
  omega

theorem move_may {v : Venue} (h : Tidy v) {dx dy : Int} (hx : 0 ≤ dx ∧ dx ≤ 1000) (hy : 0 ≤ dy ∧ dy ≤ 1000) : mayB (moveV v dx dy) = true := by
  have hm := h.may
  have hl := h.len1
  simp only [mayB, Bool.and_eq_true] at hm ⊢
  refine ⟨seats_ok (by simpa [moveV] using hl.1) (by simpa [moveV] using hl.2) (fun j s hs => ?_) (fun j r s hr hs => ?_), hm.2.1, hm.2.2.1, by simpa [moveV] using hm.2.2.2.1, hm.2.2.2.2⟩
  · simp only [moveV, List.getElem?_map, Option.map_eq_some_iff] at hs
    obtain ⟨t, ht, rfl⟩ := hs
    have := h.seat j t ht
    have g1 : coordR (t.x + dx) = true := coordR_iff.2 (by omega)
    have g2 : coordR (t.y - dy) = true := coordR_iff.2 (by omega)
    have g3 : inR t.row 0 999 = true := by simp [inR]; omega
    have g4 : inR t.kind 0 2 = true := by simp [inR]; omega
    simp only [seatS, mvS, g1, g2, g3, g4, Bool.and_self]
  · simp only [moveV, List.getElem?_map, Option.map_eq_some_iff] at hr hs
    obtain ⟨a, ha, rfl⟩ := hr
    obtain ⟨b, hb, rfl⟩ := hs
    rw [less_mv]; exact h.ord j a b ha hb

theorem wide_may {v : Venue} (h : Tidy v) {k : Int} (hk : 0 ≤ k ∧ k ≤ 50) : mayB (wideV v k) = true := by
  have hm := h.may
  have hr := h.rad
  simp only [mayB, Bool.and_eq_true] at hm ⊢
  refine ⟨hm.1, hm.2.1, ?_, hm.2.2.2.1, hm.2.2.2.2⟩
  simp only [wideV, inR, Bool.and_eq_true]
  exact ⟨decide_eq_true (by omega), decide_eq_true (by omega)⟩

theorem Tidy.map {v : Venue} (h : Tidy v) {j : Nat} {s : Seat} (hs : v.seats[j]? = some s) {dx dy : Int} (hx : 0 ≤ dx ∧ dx ≤ 1000) (hy : 0 ≤ dy ∧ dy ≤ 1000) : onMap s = true ∧ onMap (mvS dx dy s) = true := by
  have := h.seat j s hs
  simp only [onMap, mvS, Bool.and_eq_true, coordR_iff]
  omega

theorem graph_moved {v : Venue} (h : Tidy v) {dx dy : Int} (hx : 0 ≤ dx ∧ dx ≤ 1000) (hy : 0 ≤ dy ∧ dy ≤ 1000) (i : Nat) : graphRow (moveV v dx dy) i = graphRow v i := by
  have hp : graphP (moveV v dx dy) i = graphP v i := by
    funext k
    unfold graphP closeP
    simp only [moveV, List.getElem?_map]
    cases hi : v.seats[i]? with
    | none => rfl
    | some s =>
      cases hk : v.seats[k]? with
      | none => rfl
      | some t =>
        obtain ⟨a1, a2⟩ := h.map hi hx hy
        obtain ⟨b1, b2⟩ := h.map hk hx hy
        have e : farS (mvS dx dy s) (mvS dx dy t) = farS s t := by
          rw [(far_fit _ _ a1 b1).1, (far_fit _ _ a2 b2).1]
          simp only [mvS]
          rw [show s.x + dx - (t.x + dx) = s.x - t.x by omega, show s.y - dy - (t.y - dy) = s.y - t.y by omega]
        show (_ && decide (farS (mvS dx dy s) (mvS dx dy t) < sq v.radius)) = (_ && decide (farS s t < sq v.radius))
        rw [e]
  unfold graphRow
  rw [hp]
  simp [moveV]

theorem graph_wide {v : Venue} (h : Tidy v) {k : Int} (hk : 0 ≤ k ∧ k ≤ 50) {i j : Nat} (hp : graphP v i j = true) : graphP (wideV v k) i j = true := by
  have hr := h.rad
  unfold graphP closeP at *
  simp only [wideV, Bool.and_eq_true] at *
  refine ⟨hp.1, ?_⟩
  replace hp := hp.2
  cases hi : v.seats[i]? with
  | none => simp [hi] at hp
  | some s =>
    cases hj : v.seats[j]? with
    | none => simp [hi, hj] at hp
    | some t =>
      simp only [hi, hj] at hp ⊢
      have := sq_le (a := v.radius) (b := v.radius + k) hr.1 (by omega)
      exact decide_eq_true (Int.lt_of_lt_of_le (of_decide_eq_true hp) this)

theorem graph_sym {v : Venue} (h : Tidy v) {i j : Nat} (hp : graphP v i j = true) : graphP v j i = true := by
  unfold graphP closeP at *
  simp only [Bool.and_eq_true, bne_iff_ne, ne_eq] at *
  refine ⟨fun e => hp.1 e.symm, ?_⟩
  replace hp := hp.2
  cases hi : v.seats[i]? with
  | none => simp [hi] at hp
  | some s =>
    cases hj : v.seats[j]? with
    | none => simp [hi, hj] at hp
    | some t =>
      simp only [hi, hj, decide_eq_true_eq] at hp ⊢
      rw [far_sym s t (h.map hi (dx := 0) (dy := 0) (by omega) (by omega)).1 (h.map hj (dx := 0) (dy := 0) (by omega) (by omega)).1]
      exact hp

theorem upTo_le {p q : Nat → Bool} (h : ∀ k, p k = true → q k = true) : ∀ n, (upTo p n).length ≤ (upTo q n).length
  | 0 => Nat.le_refl _
  | n + 1 => by
    have ih := upTo_le h n
    simp only [upTo]
    by_cases hp : p n = true
    · rw [if_pos hp, if_pos (h n hp)]; simp; omega
    · rw [if_neg hp]
      split <;> simp <;> omega

theorem graph_len {v : Venue} (h : Tidy v) {k : Int} (hk : 0 ≤ k ∧ k ≤ 50) (i : Nat) : (graphRow v i).length ≤ (graphRow (wideV v k) i).length := upTo_le (fun j hp => graph_wide h hk hp) _

/-- The rows' places. -/
theorem row_at {v : Venue} {i m : Nat} {z : Int} (hz : (graphRow v i)[m]? = some z) : ∃ j : Nat, z = j ∧ j < v.seats.length ∧ graphP v i j = true := by
  obtain ⟨j, h1, h2, h3⟩ := upTo_mem.1 (List.mem_of_getElem? hz)
  exact ⟨j, h3, h1, h2⟩

/-- The cells of seats, one of them in view. -/
def seatMid (pre : List Seat) (s : Seat) (post : List Seat) : List V := seatCells (pre ++ s :: post)

theorem seatCells_append (a b : List Seat) : seatCells (a ++ b) = seatCells a ++ seatCells b := by simp [seatCells, cellsOf]
theorem seatCells_cons (s : Seat) (b : List Seat) : seatCells (s :: b) = .lit (.int .i64 s.row) :: .lit (.int .i64 s.x) :: .lit (.int .i64 s.y) :: .lit (.int .i64 s.kind) :: seatCells b := by simp [seatCells, cellsOf, Seat.v, V.cells]
theorem seatCells_len : ∀ l : List Seat, (seatCells l).length = l.length * 4
  | [] => rfl
  | s :: l => by rw [seatCells_cons]; simp [seatCells_len l]; omega
theorem seatMid_len (pre : List Seat) (s : Seat) (post : List Seat) : (seatMid pre s post).length = (pre.length + 1 + post.length) * 4 := by
  rw [seatMid, seatCells_len]; simp; omega

theorem seatMid_get {pre post : List Seat} {s : Seat} {i : Nat} (h : pre.length = i) : (seatMid pre s post)[i * 4 + 1]? = some (.lit (.int .i64 s.x)) ∧ (seatMid pre s post)[i * 4 + 2]? = some (.lit (.int .i64 s.y)) := by
  have hl := seatCells_len pre
  rw [seatMid, seatCells_append, seatCells_cons, List.getElem?_append_right (by omega), List.getElem?_append_right (by omega), hl, h, Nat.add_sub_cancel_left, Nat.add_sub_cancel_left]
  exact ⟨rfl, rfl⟩

theorem splice_at {a c : List V} {k : Nat} {x y : V} (h : a.length = k) : splice (a ++ x :: c) k [y] = a ++ y :: c := by
  subst h
  simp [splice, List.drop_append]

theorem seatMid_putx {pre post : List Seat} {s : Seat} {i : Nat} {z : Int} (h : pre.length = i) : splice (seatMid pre s post) (i * 4 + 1) [.lit (.int .i64 z)] = seatMid pre ⟨s.row, z, s.y, s.kind⟩ post := by
  have hl := seatCells_len pre
  have := splice_at (a := seatCells pre ++ [.lit (.int .i64 s.row)]) (c := .lit (.int .i64 s.y) :: .lit (.int .i64 s.kind) :: seatCells post) (k := i * 4 + 1) (x := .lit (.int .i64 s.x)) (y := .lit (.int .i64 z)) (by simp [hl, h])
  simpa [seatMid, seatCells_append, seatCells_cons] using this
theorem seatMid_puty {pre post : List Seat} {s : Seat} {i : Nat} {z : Int} (h : pre.length = i) : splice (seatMid pre s post) (i * 4 + 2) [.lit (.int .i64 z)] = seatMid pre ⟨s.row, s.x, z, s.kind⟩ post := by
  have hl := seatCells_len pre
  have := splice_at (a := seatCells pre ++ [.lit (.int .i64 s.row), .lit (.int .i64 s.x)]) (c := .lit (.int .i64 s.kind) :: seatCells post) (k := i * 4 + 2) (x := .lit (.int .i64 s.y)) (y := .lit (.int .i64 z)) (by simp [hl, h])
  simpa [seatMid, seatCells_append, seatCells_cons] using this

/-- The seats, so many of them moved. -/
def partly (v : Venue) (dx dy : Int) (i : Nat) : List Seat := (v.seats.take i).map (mvS dx dy) ++ v.seats.drop i

theorem partly_zero (v : Venue) (dx dy : Int) : partly v dx dy 0 = v.seats := by simp [partly]
theorem partly_full (v : Venue) (dx dy : Int) : partly v dx dy v.seats.length = (moveV v dx dy).seats := by simp [partly, moveV]
theorem partly_mid {v : Venue} {dx dy : Int} {i : Nat} {s : Seat} (hs : v.seats[i]? = some s) : partly v dx dy i = (v.seats.take i).map (mvS dx dy) ++ s :: v.seats.drop (i + 1) ∧
    partly v dx dy (i + 1) = (v.seats.take i).map (mvS dx dy) ++ mvS dx dy s :: v.seats.drop (i + 1) := by
  have hi := get_lt hs
  have e : v.seats[i] = s := by rw [List.getElem?_eq_getElem hi] at hs; simpa using hs
  constructor
  · unfold partly
    congr 1
    rw [← e]; exact List.drop_eq_getElem_cons hi
  · unfold partly
    rw [List.take_add_one, hs]
    simp

end Go.Proofs.Ytehdpfhpiplbgaa
