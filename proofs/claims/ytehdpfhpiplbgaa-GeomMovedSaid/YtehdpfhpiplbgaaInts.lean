/-
  Rows of numbers.
-/
import Derived.Test.YtehdpfhpiplbgaaSmall
namespace Go.Proofs.Ytehdpfhpiplbgaa
open Go.AV
set_option linter.unusedSimpArgs false
set_option linter.unusedVariables false

theorem cellsOf_ints (l : List Int) : cellsOf (l.map iV) = l.map iV := by
  induction l with
  | nil => rfl
  | cons a l ih => simp only [cellsOf, List.map_cons, List.flatMap_cons] at *; rw [ih]; rfl
theorem tree_ints (l : List Int) : V.allTree (l.map iV) = true := by
  induction l with
  | nil => rfl
  | cons a l ih => simp only [List.map_cons, V.allTree, ih]; rfl
theorem one_ints (l : List Int) : ∀ x ∈ l.map iV, x.cells.length = 1 := by
  intro x hx
  obtain ⟨a, _, rfl⟩ := List.mem_map.1 hx
  rfl
theorem wkL_ints {r : Nat → Option Nat} {m : Nat} {zs : List (Nat × OB)} {l l' : List Int} : WkL r m zs (l.map iV) (l'.map iV) ↔ l.map iV = l'.map iV := by
  constructor
  · intro h
    refine List.ext_getElem? fun j => ?_
    have hl := h.1
    simp only [List.length_map] at hl
    by_cases hj : j < l.length
    · have := h.2 j (iV l[j]) (iV (l'[j]'(by omega))) (by simp [hj]) (by simp [hl, hj])
      rw [show iV l[j] = .lit (.int .i64 l[j]) from rfl, show iV (l'[j]'(by omega)) = .lit (.int .i64 (l'[j]'(by omega))) from rfl, wk_lit] at this
      simp [hj, hl, iV, this]
    · rw [List.getElem?_eq_none (by simp; omega), List.getElem?_eq_none (by simp; omega)]
  · intro h; rw [h]; exact wkL_trees (tree_ints l')
/-- A row of numbers comes to rest. -/
theorem wk_ints {r : Nat → Option Nat} {m : Nat} {zs : List (Nat × OB)} {i e : Nat} {l : List Int} (hm : (i, OB.row e 1 l.length (l.map iV)) ∈ zs) : Wk r m zs (.ref i) (.lst 1 (l.map iV)) :=
  wk_rest hm (cellsOf_ints l) (by simp) (one_ints l) (tree_ints l)
theorem co_ints {zs : List (Nat × OB)} {i e : Nat} {l : List Int} (hm : (i, OB.row e 1 l.length (l.map iV)) ∈ zs) : Co zs (.ref i) (.lst 1 (l.map iV)) :=
  .row hm (by rw [cellsOf_ints]) (by simp) (one_ints l) fun j x t hx hy => by rw [cellsOf_ints, hx] at hy; cases hy; exact .tree (V.allTree_at (tree_ints l) hx)
theorem ends_ints {P : Program} {fn : Func} {e : Exit} {N n : Nat} {Ts : List V} {Os : List (Option OB)} {d : Nat} {t : TypeId} {l : List Int} (i : Nat) (hr : fn.results.toList = [.tmp d]) (he : e = .normal ∨ e = .ret) (hv : tg Ts d = .ref i)
    (hO : og Os i = some (.row t 1 l.length (l.map iV))) : bkl P (AV.Ends P fn (.lst 1 (l.map iV))) [] e N Ts Os n :=
  ends_co [(i, .row t 1 l.length (l.map iV))] he (v := .ref i) (by simp [retV, retL, retOne, hr, hv]) (by simpa using hO) (co_ints (e := t) (by simp))

def nilV : V := .lit (.slice none 0 0)
def intsV (l : List Int) : V := .lst 1 (l.map iV)

/-- An array of rows: those ahead of place a are made, x is at it, those behind are nil. -/
def midL (f : Nat → V) (n a : Nat) (x : V) : List V := (List.range a).map f ++ x :: List.replicate (n - a - 1) nilV
def genL (f : Nat → V) (n a : Nat) : List V := (List.range a).map f ++ List.replicate (n - a) nilV

theorem genL_zero (f : Nat → V) (n : Nat) : genL f n 0 = List.replicate n nilV := by simp [genL]
theorem genL_full (f : Nat → V) (n : Nat) : genL f n n = (List.range n).map f := by simp [genL]
theorem genL_mid {f : Nat → V} {n a : Nat} (h : a < n) : genL f n a = midL f n a nilV := by
  obtain ⟨k, rfl⟩ : ∃ k, n = a + k + 1 := ⟨n - a - 1, by omega⟩
  rw [genL, midL, show a + k + 1 - a = k + 1 by omega, List.replicate_succ]; simp
theorem midL_next {f : Nat → V} {n a : Nat} (h : a < n) : midL f n a (f a) = genL f n (a + 1) := by
  rw [genL, midL, List.range_succ, List.map_append, List.append_assoc]
  rw [show n - (a + 1) = n - a - 1 by omega]; rfl
theorem midL_get (f : Nat → V) (n a : Nat) (x : V) : (midL f n a x)[a]? = some x := by
  rw [midL, List.getElem?_append_right (by simp)]; simp
theorem midL_len {f : Nat → V} {n a : Nat} {x : V} (h : a < n) : (midL f n a x).length = n := by simp [midL]; omega
theorem midL_put {f : Nat → V} {n a : Nat} {x y : V} : splice (midL f n a x) a [y] = midL f n a y := by
  simp [splice, midL, List.take_append, List.drop_append]
theorem allTree_rep {n : Nat} {v : V} (h : v.isTree = true) : V.allTree (List.replicate n v) = true := by
  induction n with
  | zero => rfl
  | succ n ih => rw [List.replicate_succ, V.allTree, h, ih]; rfl
theorem allTree_repl {n : Nat} {v : Value} : V.allTree (List.replicate n (.lit v)) = true := allTree_rep rfl
theorem allTree_map {α : Type} {l : List α} {f : α → V} (h : ∀ a, (f a).isTree = true) : V.allTree (l.map f) = true := by
  induction l with
  | nil => rfl
  | cons a l ih => rw [List.map_cons, V.allTree, h, ih]; rfl
theorem midL_wk {r : Nat → Option Nat} {m : Nat} {zs : List (Nat × OB)} {f : Nat → V} {n a : Nat} {x y : V} (hf : ∀ j, (f j).isTree = true) : WkL r m zs (midL f n a x) (midL f n a y) ↔ Wk r m zs x y :=
  ⟨fun h => h.2 a x y (midL_get f n a x) (midL_get f n a y), fun h => wkL_append (wkL_trees (allTree_map hf)) (wkL_cons.2 ⟨h, wkL_trees (allTree_rep rfl)⟩)⟩
theorem cellsOf_one {l : List V} (h : ∀ x ∈ l, x.cells = [x]) : cellsOf l = l := by
  induction l with
  | nil => rfl
  | cons a l ih =>
    have h1 := h a (by simp)
    have h2 := ih fun x hx => h x (by simp [hx])
    simp only [cellsOf, List.flatMap_cons] at *
    rw [h1, h2]; rfl
theorem co_cells {zs : List (Nat × OB)} {i e es n : Nat} {l : List V} (hm : (i, OB.row e es n (cellsOf l)) ∈ zs) (hn : l.length = n) (hes : ∀ x ∈ l, x.cells.length = es) (ht : V.allTree (cellsOf l) = true) : Co zs (.ref i) (.lst es l) :=
  .row hm rfl hn hes fun j x t hx hy => by rw [hx] at hy; cases hy; exact .tree (V.allTree_at ht hx)
theorem co_agg {zs : List (Nat × OB)} {cs ts : List V} (h : CoL zs cs ts) : Co zs (.agg cs) (.agg ts) := .agg h.1 h.2
theorem co_tup {zs : List (Nat × OB)} {cs ts : List V} (h : CoL zs cs ts) : Co zs (.tup cs) (.tup ts) := .tup h.1 h.2
/-- A row of rows comes to rest. -/
theorem co_rows {zs : List (Nat × OB)} {i e n : Nat} {f : Nat → V} (hf : ∀ j, (f j).isTree = true ∧ (f j).cells = [f j]) (hm : (i, OB.row e 1 n ((List.range n).map f)) ∈ zs) : Co zs (.ref i) (.lst 1 ((List.range n).map f)) := by
  have hc : cellsOf ((List.range n).map f) = (List.range n).map f := cellsOf_one fun x hx => by obtain ⟨j, _, rfl⟩ := List.mem_map.1 hx; exact (hf j).2
  refine .row hm (by rw [hc]) (by simp) (fun x hx => by obtain ⟨j, _, rfl⟩ := List.mem_map.1 hx; rw [(hf j).2]; rfl) fun j x t hx hy => ?_
  rw [hc, hx] at hy
  cases hy
  exact .tree (V.allTree_at (allTree_map fun j => (hf j).1) hx)

end Go.Proofs.Ytehdpfhpiplbgaa
