/-
  What comes in, told as seats, venues, rows of numbers.
-/
import Derived.Test.YtehdpfhpiplbgaaOpen
import Derived.Test.YtehdpfhpiplbgaaInts
import Derived.SizedLaws
import Derived.OpenShut
namespace Go.Proofs.Ytehdpfhpiplbgaa
open Go.AV Go.RowKit
set_option linter.unusedSimpArgs false
set_option linter.unusedVariables false

theorem own : ownKnob Try.prog.godebug = none := by kernel_rfl
theorem laidOut : laidOutB Try.prog = true := by kernel_rfl

theorem c_int : Try.prog.cellsOf 3 = 1 := by kernel_rfl
theorem c_ints : Try.prog.cellsOf 23 = 1 := by kernel_rfl
theorem c_seat : Try.prog.cellsOf 28 = 4 := by kernel_rfl
theorem c_seats : Try.prog.cellsOf 22 = 1 := by kernel_rfl
theorem c_pole : Try.prog.cellsOf 49 = 3 := by kernel_rfl
theorem c_poles : Try.prog.cellsOf 24 = 1 := by kernel_rfl

/-- What a law's walk gives. -/
theorem pure_calls {P : Program} {f : FuncId} {args : List V} (h : PureC P f args (.lit (.bool true))) {W : World} {us : List Value} (hargs : PW (RT (old W) W) args us) :
    Calls P f us.toArray W fun e W' => e = .returned (.bool true) ∧ Below W.heap.size W W' :=
  (h (old W) W us (fun _ _ h => h) hargs).mono fun e W' ⟨u, R', he, hB, _, _, _, hr⟩ => by
    cases hr
    exact ⟨he, hB⟩

theorem pw_cons {r : V → Value → Prop} {v : V} {u : Value} {vs : List V} {us : List Value} (h : r v u) (k : PW r vs us) : PW r (v :: vs) (u :: us) := (pw_one h).append k
theorem pw_nil {r : V → Value → Prop} : PW r [] [] := ⟨rfl, by simp⟩

abbrev isInt (l : List V) : Prop := ∃ n : Int, l = [.lit (.int .i64 n)]

theorem opens_int3 : Opens Try.prog 3 isInt := opens_int Try.underlying3

theorem ints_form : ∀ {ls : List (List V)}, (∀ x ∈ ls, isInt x) → ∃ m : List Int, ls.map V.agg = m.map (fun n => V.agg [iV n]) ∧ ls = m.map fun n => [iV n]
  | [], _ => ⟨[], rfl, rfl⟩
  | x :: ls, h => by
    obtain ⟨n, rfl⟩ := h x (by simp)
    obtain ⟨m, _, e⟩ := ints_form (ls := ls) fun y hy => h y (by simp [hy])
    exact ⟨n :: m, by simp [e, iV], by simp [e, iV]⟩

abbrev isInts (l : List V) : Prop := ∃ m : List Int, l = [.lst 1 (m.map iV)]
theorem opens_ints : Opens Try.prog 23 isInts := fun H enc W fuel cs x h => by
  obtain ⟨l, ⟨elems, rfl, he⟩, h2, h3⟩ := opens_slice (fun l => l.headD .junk) Try.underlying23 c_int (by decide) opens_int3 (fun l ⟨n, hn⟩ => by rw [hn]; rfl) H enc W fuel cs x h
  obtain ⟨m, _, rfl⟩ := ints_form he
  exact ⟨_, ⟨m, by simp [Function.comp_def]⟩, h2, h3⟩

abbrev isSeat (l : List V) : Prop := ∃ s : Seat, l = [.lit (.int .i64 s.row), .lit (.int .i64 s.x), .lit (.int .i64 s.y), .lit (.int .i64 s.kind)]
theorem opens_seat : Opens Try.prog 28 isSeat := fun H enc W fuel cs x h => by
  obtain ⟨l, ⟨_, _, ⟨n0, rfl⟩, ⟨_, _, ⟨n1, rfl⟩, ⟨_, _, ⟨n2, rfl⟩, ⟨_, _, ⟨n3, rfl⟩, rfl, rfl⟩, rfl⟩, rfl⟩, rfl⟩, h2, h3⟩ :=
    opens_struct (Ss := [isInt, isInt, isInt, isInt]) Try.underlying28 (.cons rfl c_int opens_int3 (.cons rfl c_int opens_int3 (.cons rfl c_int opens_int3 (.cons rfl c_int opens_int3 .nil)))) (by kernel_rfl) H enc W fuel cs x h
  exact ⟨_, ⟨⟨n0, n1, n2, n3⟩, rfl⟩, h2, h3⟩

theorem seats_form : ∀ {ls : List (List V)}, (∀ x ∈ ls, isSeat x) → ∃ m : List Seat, ls.map V.agg = m.map Seat.v
  | [], _ => ⟨[], rfl⟩
  | x :: ls, h => by
    obtain ⟨n, rfl⟩ := h x (by simp)
    obtain ⟨m, e⟩ := seats_form (ls := ls) fun y hy => h y (by simp [hy])
    exact ⟨n :: m, by simp [e, Seat.v]⟩

abbrev isSeats (l : List V) : Prop := ∃ m : List Seat, l = [.lst 4 (m.map Seat.v)]
theorem opens_seats : Opens Try.prog 22 isSeats := fun H enc W fuel cs x h => by
  obtain ⟨l, ⟨elems, rfl, he⟩, h2, h3⟩ := opens_slice V.agg Try.underlying22 c_seat (by decide) opens_seat (fun l _ => rfl) H enc W fuel cs x h
  obtain ⟨m, e⟩ := seats_form he
  exact ⟨_, ⟨m, by rw [e]⟩, h2, h3⟩

abbrev isPole (l : List V) : Prop := ∃ s : Pole, l = [.lit (.int .i64 s.x), .lit (.int .i64 s.y), .lit (.int .i64 s.r)]
theorem opens_pole : Opens Try.prog 49 isPole := fun H enc W fuel cs x h => by
  obtain ⟨l, ⟨_, _, ⟨n0, rfl⟩, ⟨_, _, ⟨n1, rfl⟩, ⟨_, _, ⟨n2, rfl⟩, rfl, rfl⟩, rfl⟩, rfl⟩, h2, h3⟩ :=
    opens_struct (Ss := [isInt, isInt, isInt]) Try.underlying49 (.cons rfl c_int opens_int3 (.cons rfl c_int opens_int3 (.cons rfl c_int opens_int3 .nil))) (by kernel_rfl) H enc W fuel cs x h
  exact ⟨_, ⟨⟨n0, n1, n2⟩, rfl⟩, h2, h3⟩

theorem poles_form : ∀ {ls : List (List V)}, (∀ x ∈ ls, isPole x) → ∃ m : List Pole, ls.map V.agg = m.map Pole.v
  | [], _ => ⟨[], rfl⟩
  | x :: ls, h => by
    obtain ⟨n, rfl⟩ := h x (by simp)
    obtain ⟨m, e⟩ := poles_form (ls := ls) fun y hy => h y (by simp [hy])
    exact ⟨n :: m, by simp [e, Pole.v]⟩

abbrev isPoles (l : List V) : Prop := ∃ m : List Pole, l = [.lst 3 (m.map Pole.v)]
theorem opens_poles : Opens Try.prog 24 isPoles := fun H enc W fuel cs x h => by
  obtain ⟨l, ⟨elems, rfl, he⟩, h2, h3⟩ := opens_slice V.agg Try.underlying24 c_pole (by decide) opens_pole (fun l _ => rfl) H enc W fuel cs x h
  obtain ⟨m, e⟩ := poles_form he
  exact ⟨_, ⟨m, by rw [e]⟩, h2, h3⟩

abbrev isVenue (l : List V) : Prop := ∃ v : Venue, l = v.v.cells
theorem opens_venue : Opens Try.prog 26 isVenue := fun H enc W fuel cs x h => by
  obtain ⟨l, ⟨_, _, ⟨n0, rfl⟩, ⟨_, _, ⟨n1, rfl⟩, ⟨_, _, ⟨n2, rfl⟩, ⟨_, _, ⟨n3, rfl⟩, ⟨_, _, ⟨n4, rfl⟩, rfl, rfl⟩, rfl⟩, rfl⟩, rfl⟩, rfl⟩, h2, h3⟩ :=
    opens_struct (Ss := [isSeats, isInt, isInt, isInts, isPoles]) Try.underlying26 (.cons rfl c_seats opens_seats (.cons rfl c_int opens_int3 (.cons rfl c_int opens_int3 (.cons rfl c_ints opens_ints (.cons rfl c_poles opens_poles .nil))))) (by kernel_rfl) H enc W fuel cs x h
  exact ⟨_, ⟨⟨n0, n1, n2, n3, n4⟩, rfl⟩, h2, h3⟩

section
variable {H : Type} {enc : TypeId × Value → H} {W : World} {r : Reach} {b0 : Nat} {v : Value} {d : DataW H} {p : List MemPlace}
theorem arg_int (hv : Value.okWide Try.prog W r b0 3 v) (h : DataW.Trod enc Try.prog W 0 (fun _ => true) true 3 v d p) : ∃ n : Int, RT (old W) W (.lit (.int .i64 n)) v := by
  obtain ⟨n, rfl, _⟩ := Go.ChangeShapes.open_int Try.underlying3 hv h
  exact ⟨n, .lit _⟩
theorem arg_seat (hv : Value.okWide Try.prog W r b0 28 v) (h : DataW.Trod enc Try.prog W 0 (fun _ => true) true 28 v d p) : ∃ s : Seat, RT (old W) W s.v v := by
  obtain ⟨l, ⟨s, rfl⟩, h2⟩ := open_arg_struct Try.underlying28 opens_seat hv h
  exact ⟨s, h2⟩
theorem arg_venue (hv : Value.okWide Try.prog W r b0 26 v) (h : DataW.Trod enc Try.prog W 0 (fun _ => true) true 26 v d p) : ∃ s : Venue, RT (old W) W s.v v := by
  obtain ⟨l, ⟨s, rfl⟩, h2⟩ := open_arg_struct Try.underlying26 opens_venue hv h
  exact ⟨s, h2⟩
theorem arg_ints (hv : Value.okWide Try.prog W r b0 23 v) (h : DataW.Trod enc Try.prog W 0 (fun _ => true) true 23 v d p) : ∃ l : List Int, RT (old W) W (.lst 1 (l.map iV)) v := by
  obtain ⟨a, n, c, rfl⟩ := Go.WideShapes.okWide_slice Try.underlying23 hv
  obtain ⟨x, ⟨m, e⟩, h2⟩ := open_arg opens_ints rfl h
  simp only [List.cons.injEq, and_true] at e
  subst e
  exact ⟨m, h2⟩
end

end Go.Proofs.Ytehdpfhpiplbgaa
