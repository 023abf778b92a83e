/-
  What came in, told as trees.
-/
import Derived.Test.YtehdpfhpiplbgaaRules
import Derived.RowKit
import Derived.WideShapes
import Derived.ChangeArms
import Derived.DataReads
import Derived.Carry
namespace Go.AV
set_option linter.unusedSimpArgs false
set_option linter.unusedVariables false
open Go.RowKit Go.WideShapes

def old (W : World) : Nat → Nat → Prop := fun b _ => b < W.heap.size

/-- Whatever reads as a type is a tree of a kind. -/
def Opens (P : Program) (t : TypeId) (S : List V → Prop) : Prop :=
  ∀ (H : Type) (enc : TypeId × Value → H) (W : World) (fuel : Nat) (cs : List Value) (x : DataW H × List MemPlace), DataW.trod enc P W 0 (fun _ => true) true fuel t cs = some x →
    ∃ l, S l ∧ PW (RT (old W) W) l cs ∧ ∀ u ∈ cs, u.oneCell' = true

theorem pw_one {r : V → Value → Prop} {v : V} {u : Value} (h : r v u) : PW r [v] [u] := ⟨rfl, fun j x y hx hy => by
  cases j with
  | zero => simp at hx hy; subst hx; subst hy; exact h
  | succ j => simp at hx⟩

variable {P : Program}

theorem opens_int {t : TypeId} {k : IntKind} (ht : P.underlying t = some (.int k)) : Opens P t (fun l => ∃ n, l = [.lit (.int k n)]) := fun H enc W fuel cs x h => by
  obtain ⟨n, rfl, _, _⟩ := DataW.trod_int ht h
  exact ⟨_, ⟨n, rfl⟩, pw_one (.lit _), by simp [Value.oneCell']⟩

theorem opens_bool {t : TypeId} (ht : P.underlying t = some .bool) : Opens P t (fun l => ∃ b, l = [.lit (.bool b)]) := fun H enc W fuel cs x h => by
  obtain ⟨n, rfl, _⟩ := DataW.trod_bool ht h
  exact ⟨_, ⟨n, rfl⟩, pw_one (.lit _), by simp [Value.oneCell']⟩

theorem flat_at {β : Type} {g : Nat → List β} {es n : Nat} (hl : ∀ i, i < n → (g i).length = es) : ∀ {i j : Nat}, i < n → j < es → ((List.range n).flatMap g)[i * es + j]? = (g i)[j]? := by
  induction n with
  | zero => intro i j h; omega
  | succ n ih =>
    intro i j hi hj
    have hlen : ((List.range n).flatMap g).length = n * es := by
      clear ih hi
      have : ∀ m, m ≤ n → ((List.range m).flatMap g).length = m * es := by
        intro m
        induction m with
        | zero => simp
        | succ m ihm =>
          intro hm
          rw [List.range_succ, List.flatMap_append, List.length_append, ihm (by omega)]
          simp [hl m (by omega), Nat.succ_mul]
      exact this n (Nat.le_refl _)
    rw [List.range_succ, List.flatMap_append]
    by_cases h : i = n
    · subst h
      rw [List.getElem?_append_right (by omega), hlen]
      simp
    · have : i < n := by omega
      have h2 : i * es + es ≤ n * es := by rw [← Nat.succ_mul]; exact Nat.mul_le_mul_right _ this
      rw [List.getElem?_append_left (by omega)]
      exact ih (fun k hk => hl k (by omega)) this hj

theorem flat_len {β : Type} {g : Nat → List β} {es : Nat} : ∀ {n : Nat}, (∀ i, i < n → (g i).length = es) → ((List.range n).flatMap g).length = n * es
  | 0, _ => by simp
  | n + 1, h => by
    rw [List.range_succ, List.flatMap_append, List.length_append, flat_len fun i hi => h i (by omega)]
    simp [h n (by omega), Nat.succ_mul]

theorem cell_spot {W : World} {a : Addr} {u : Value} (h : W.cell? a = some u) : a.spot = none ∧ a.block < W.heap.size := by
  unfold World.cell? at h
  split at h
  · rename_i hb
    split at h
    · cases h
    · rename_i hs
      exact ⟨by simpa using hs, (Array.getElem?_eq_some_iff.1 hb).1⟩
  · cases h

theorem opens_slice {t e : TypeId} {es : Nat} {S : List V → Prop} (mk : List V → V) (ht : P.underlying t = some (.slice e)) (hc : P.cellsOf e = es) (hpos : 0 < es) (he : Opens P e S) (hS : ∀ l, S l → (mk l).cells = l) :
    Opens P t (fun l => ∃ elems : List (List V), l = [.lst es (elems.map mk)] ∧ ∀ x ∈ elems, S x) := fun H enc W fuel cs x h => by
  rcases DataW.trod_slice ht h with ⟨rfl, _⟩ | ⟨a, len, cap, elems, rest, n, _, rfl, _, _, hl, hm, hlen, hel, _, _⟩
  · exact ⟨_, ⟨[], rfl, by simp⟩, pw_one (.lst [] rfl (Nat.zero_le _) (Nat.zero_le _) (fun _ => rfl) (by simp) rfl (by simp) (by simp) (by simp)), by simp [Value.oneCell']⟩
  · have each : ∀ i, ∃ p : List V × List Value, i < len → S p.1 ∧ PW (RT (old W) W) p.1 p.2 ∧ (∀ u ∈ p.2, u.oneCell' = true) ∧ p.2.length = es ∧ ∀ j, j < es → W.cell? ((a.add (i * es)).add j) = p.2[j]? := by
      intro i
      by_cases hi : i < len
      · have h1 := hel i hi
        rw [List.getElem?_eq_getElem (by omega), hc, Option.bind_eq_some_iff] at h1
        obtain ⟨cs', h2, h3⟩ := h1
        obtain ⟨_, h4, h5⟩ := World.cells?_some h2
        obtain ⟨l, k1, k2, k3⟩ := he H enc W _ _ _ h3
        exact ⟨(l, cs'), fun _ => ⟨k1, k2, k3, h4, h5⟩⟩
      · exact ⟨([], []), fun h => absurd h hi⟩
    obtain ⟨f, hf⟩ := Classical.axiomOfChoice each
    have hspot : 0 < len → a.spot = none ∧ a.block < W.heap.size := fun h0 => by
      obtain ⟨_, _, _, h4, h5⟩ := hf 0 h0
      have h6 := h5 0 hpos
      rw [List.getElem?_eq_getElem (by omega)] at h6
      have := cell_spot h6
      simpa [Addr.add] using this
    have hl1 : ∀ i, i < len → (f i).2.length = es := fun i hi => (hf i hi).2.2.2.1
    have hl2 : ∀ i, i < len → (f i).1.length = es := fun i hi => ((hf i hi).2.1.1).symm.trans (hl1 i hi)
    have hcells : cellsOf (((List.range len).map fun i => (f i).1).map mk) = (List.range len).flatMap fun i => (f i).1 := by
      unfold cellsOf
      rw [List.flatMap_map, List.flatMap_map]
      have : ∀ m, m ≤ len → ((List.range m).flatMap fun i => (mk (f i).1).cells) = (List.range m).flatMap fun i => (f i).1 := by
        intro m
        induction m with
        | zero => simp
        | succ m ih => intro hm; rw [List.range_succ, List.flatMap_append, List.flatMap_append, ih (by omega)]; simp [hS _ (hf m (by omega)).1]
      exact this len (Nat.le_refl _)
    refine ⟨_, ⟨(List.range len).map fun i => (f i).1, rfl, fun x hx => ?_⟩, pw_one (.lst ((List.range len).flatMap fun i => (f i).2) (by simp) hl hm (fun h => by cases h) (fun x hx => ?_) ?_ (fun u hu => ?_) (fun j u hu => ?_) fun j x u hx hu => ?_), by simp [Value.oneCell']⟩
    · obtain ⟨i, hi, rfl⟩ := List.mem_map.1 hx; exact (hf i (List.mem_range.1 hi)).1
    · rw [List.map_map] at hx
      obtain ⟨i, hi, rfl⟩ := List.mem_map.1 hx
      have := List.mem_range.1 hi
      simp only [Function.comp]
      rw [hS _ (hf i this).1]; exact hl2 i this
    · rw [hcells, flat_len hl1, flat_len hl2]
    · obtain ⟨i, hi, hu⟩ := List.mem_flatMap.1 hu; exact (hf i (List.mem_range.1 hi)).2.2.1 u hu
    · have hj : j < len * es := by rw [← flat_len hl1]; exact (List.getElem?_eq_some_iff.1 hu).1
      have hi : j / es < len := Nat.div_lt_of_lt_mul (by rw [Nat.mul_comm]; exact hj)
      have hj' : j % es < es := Nat.mod_lt _ hpos
      have e1 : j / es * es + j % es = j := by rw [Nat.mul_comm]; exact Nat.div_add_mod j es
      rw [← e1, flat_at hl1 hi hj'] at hu
      have h5 := (hf _ hi).2.2.2.2 _ hj'
      rw [hu] at h5
      obtain ⟨s1, s2⟩ := hspot (Nat.lt_of_le_of_lt (Nat.zero_le _) hi)
      obtain ⟨b, o, sp⟩ := a
      simp only at s1
      subst s1
      rw [Addr.add_lit, Addr.add_lit, Nat.add_assoc, e1] at h5
      exact ⟨b, o, rfl, s2, h5⟩
    · have hj : j < len * es := by rw [← flat_len hl1]; exact (List.getElem?_eq_some_iff.1 hu).1
      have hi : j / es < len := Nat.div_lt_of_lt_mul (by rw [Nat.mul_comm]; exact hj)
      have hj' : j % es < es := Nat.mod_lt _ hpos
      have e1 : j / es * es + j % es = j := by rw [Nat.mul_comm]; exact Nat.div_add_mod j es
      rw [hcells, ← e1, flat_at hl2 hi hj'] at hx
      rw [← e1, flat_at hl1 hi hj'] at hu
      exact (hf _ hi).2.1.2 _ _ _ hx hu

/-- The fields of a struct, one behind another. -/
inductive Fields (P : Program) : Nat → List Field → List (List V → Prop) → Prop
  | nil {o : Nat} : Fields P o [] []
  | cons {o k : Nat} {f : Field} {fs : List Field} {S : List V → Prop} {Ss : List (List V → Prop)} (ho : f.offset = o) (hk : P.cellsOf f.type = k) (hS : Opens P f.type S) (h : Fields P (o + k) fs Ss) : Fields P o (f :: fs) (S :: Ss)

def All2 : List (List V → Prop) → List V → Prop
  | [], l => l = []
  | S :: Ss, l => ∃ a b, S a ∧ All2 Ss b ∧ l = a ++ b

def sizeOfFields (P : Program) (fs : List Field) : Nat := (fs.map fun f => P.cellsOf f.type).sum

theorem opens_fields (H : Type) (enc : TypeId × Value → H) (W : World) (n : Nat) (cs : List Value) : ∀ (fs : List Field) (Ss : List (List V → Prop)) (o : Nat), Fields P o fs Ss → o + sizeOfFields P fs = cs.length →
    (∀ f ∈ fs, ∃ y, DataW.trod enc P W 0 (fun _ => true) true n f.type ((cs.drop f.offset).take (P.cellsOf f.type)) = some y) → ∃ l, All2 Ss l ∧ PW (RT (old W) W) l (cs.drop o) ∧ ∀ u ∈ cs.drop o, u.oneCell' = true
  | [], _, o, .nil, hs, _ => by
    simp [sizeOfFields] at hs
    subst hs
    exact ⟨[], rfl, by simp; exact ⟨rfl, by simp⟩, by simp⟩
  | f :: fs, _, o, .cons (k := k) (S := S) (Ss := Ss) ho hk hS h, hs, hf => by
    obtain ⟨y, hy⟩ := hf f (by simp)
    rw [ho, hk] at hy
    obtain ⟨l1, a1, a2, a3⟩ := hS H enc W n _ _ hy
    obtain ⟨l2, b1, b2, b3⟩ := opens_fields H enc W n cs fs Ss (o + k) h (by simp [sizeOfFields, hk] at hs ⊢; omega) (fun g hg => hf g (by simp [hg]))
    have e : cs.drop o = (cs.drop o).take k ++ cs.drop (o + k) := by
      rw [← List.drop_drop]
      exact (List.take_append_drop _ _).symm
    refine ⟨l1 ++ l2, ⟨l1, l2, a1, b1, rfl⟩, ?_, ?_⟩
    · rw [e]; exact a2.append b2
    · rw [e]; intro u hu
      rcases List.mem_append.1 hu with hu | hu
      · exact a3 u hu
      · exact b3 u hu

theorem opens_struct {t : TypeId} {fs : Array Field} {Ss : List (List V → Prop)} (ht : P.underlying t = some (.struct fs)) (hf : Fields P 0 fs.toList Ss) (hsz : P.cellsOf t = sizeOfFields P fs.toList) : Opens P t (All2 Ss) := fun H enc W fuel cs x h => by
  obtain ⟨xs, n, _, _, hl, hlen, hx⟩ := DataW.trod_struct ht h
  have := opens_fields H enc W n cs fs.toList Ss 0 hf (by rw [hl, hsz]; omega) (fun f hm => by
    obtain ⟨i, hi⟩ := List.getElem?_of_mem hm
    have hi' : fs[i]? = some f := by simpa using hi
    have hlt : i < xs.length := by rw [hlen]; exact (Array.getElem?_eq_some_iff.1 hi').1
    exact ⟨xs[i], by rw [hx i f hi', List.getElem?_eq_getElem hlt]⟩)
  simpa using this

/-- An argument of one cell. -/
theorem open_arg {t : TypeId} {S : List V → Prop} (ho : Opens P t S) {H : Type} {enc : TypeId × Value → H} {W : World} {v : Value} {d : DataW H} {p : List MemPlace} (hv : v.cells.toList = [v]) (h : DataW.Trod enc P W 0 (fun _ => true) true t v d p) :
    ∃ x, S [x] ∧ RT (old W) W x v := by
  obtain ⟨fuel, hf⟩ := h
  rw [hv] at hf
  obtain ⟨l, h1, h2, _⟩ := ho H enc W fuel _ _ hf
  match l, h2 with
  | [x], h2 => exact ⟨x, h1, h2.2 0 x v rfl rfl⟩
  | [], h2 => exact absurd h2.1 (by simp)
  | _ :: _ :: _, h2 => exact absurd h2.1 (by simp)

/-- An argument that is a struct. -/
theorem open_arg_struct {t : TypeId} {S : List V → Prop} {fs : Array Field} (ht : P.underlying t = some (.struct fs)) (ho : Opens P t S) {H : Type} {enc : TypeId × Value → H} {W : World} {r : Reach} {b0 : Nat} {v : Value} {d : DataW H} {p : List MemPlace}
    (hv : Value.okWide P W r b0 t v) (h : DataW.Trod enc P W 0 (fun _ => true) true t v d p) : ∃ l, S l ∧ RT (old W) W (.agg l) v := by
  obtain ⟨cs, rfl, _⟩ := okWide_struct ht hv
  obtain ⟨fuel, hf⟩ := h
  have hc : (Value.agg cs).cells.toList = cs.toList := by simp [Value.cells]
  rw [hc] at hf
  obtain ⟨l, h1, h2, h3⟩ := ho H enc W fuel _ _ hf
  exact ⟨l, h1, .agg cs.toList h2.1 h3 h2.2⟩

theorem trod_old {H : Type} {enc : TypeId × Value → H} {t : TypeId} {W : World} {v : Value} {d : DataW H} {p : List MemPlace} (h : DataW.Trod enc P W 0 (fun _ => true) true t v d p) : ∀ x ∈ p, x.block < W.heap.size := by
  obtain ⟨n, hn⟩ := h
  exact DataW.trod_lt n _ _ _ hn

end Go.AV
