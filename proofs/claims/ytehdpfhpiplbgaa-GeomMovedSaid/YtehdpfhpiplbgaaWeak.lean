/-
  Less known: rows at rest become trees, nil becomes an empty row of the call's own, objects get other numbers.
-/
import Derived.Test.YtehdpfhpiplbgaaEval
namespace Go.AV
set_option linter.unusedSimpArgs false
set_option linter.unusedVariables false
open Go.RowKit

/-- A frame, the objects, the next free number. -/
structure ES where
  N : Nat
  T : Nat → V
  O : Nat → Option OB
  n : Nat

def ES.st (S : ES) : St := ⟨S.N, S.T, S.O, fun m => m < S.n⟩

/-- A value told as a tree, the objects of zs being read alone from here on. -/
inductive Co (zs : List (Nat × OB)) : V → V → Prop
  | tree {v : V} (h : v.isTree = true) : Co zs v v
  | nil {es : Nat} : Co zs (.lit (.slice none 0 0)) (.lst es [])
  | emp {es : Nat} : Co zs .emp (.lst es [])
  | nil0 {es : Nat} : Co zs .nil0 (.lst es [])
  | row {id : Nat} {e : TypeId} {es n : Nat} {cs l : List V} (hm : (id, .row e es n cs) ∈ zs) (hl : (cellsOf l).length = cs.length) (hn : l.length = n) (hes : ∀ x ∈ l, x.cells.length = es)
      (h : ∀ (j : Nat) (x t : V), cs[j]? = some x → (cellsOf l)[j]? = some t → Co zs x t) : Co zs (.ref id) (.lst es l)
  | box {id : Nat} {cs ts : List V} (hm : (id, .box cs) ∈ zs) (hl : ts.length = cs.length) (h : ∀ (j : Nat) (x t : V), cs[j]? = some x → ts[j]? = some t → Co zs x t) : Co zs (.ptr id 0) (.iptr ts)
  | agg {cs ts : List V} (hl : ts.length = cs.length) (h : ∀ (j : Nat) (x t : V), cs[j]? = some x → ts[j]? = some t → Co zs x t) : Co zs (.agg cs) (.agg ts)
  | tup {cs ts : List V} (hl : ts.length = cs.length) (h : ∀ (j : Nat) (x t : V), cs[j]? = some x → ts[j]? = some t → Co zs x t) : Co zs (.tup cs) (.tup ts)
  | ifc {t : TypeId} {v v' : V} (h : Co zs v v') : Co zs (.ifc t v) (.ifc t v')

def froz (R : Nat → Nat → Prop) (σ : Nat → Option Value) (zs : List (Nat × OB)) : Nat → Nat → Prop := fun b j =>
  R b j ∨ ∃ p ∈ zs, ∃ v, σ p.1 = some v ∧ blockOf v = some b ∧ j < (obCells p.2).length

section
variable {σ : Nat → Option Value} {R : Nat → Nat → Prop} {base : Nat} {w0 : Org} {w : World} {O : Nat → Option OB} {D : Nat → Prop} {zs : List (Nat × OB)}

theorem froz_keeps : Keeps R (froz R σ zs) w w := ⟨fun _ _ h => .inl h, fun _ _ _ => rfl, fun _ _ _ _ h => h⟩

theorem froz_in (hs : SimH σ R base w0 w O D) (hz : ∀ p ∈ zs, O p.1 = some p.2) : ∀ b j, froz R σ zs b j → b < w.heap.size := by
  rintro b j (h | ⟨p, hp, v, hv, hb, _⟩)
  · exact hs.rin b j h
  · obtain ⟨v', h1, _, h2⟩ := (hs.objs p.1 p.2 (hz p hp)).lt
    rw [hv] at h1; cases h1
    exact (h2 b hb).2.1

theorem co_rt (hs : SimH σ R base w0 w O D) (hz : ∀ p ∈ zs, O p.1 = some p.2) {v t : V} (h : Co zs v t) : ∀ {u : Value}, RV σ R w v u → RT (froz R σ zs) w t u := by
  have lst0 : ∀ {es : Nat} (a : Option Addr) (c : Nat), c ≤ maxLen → (a = none → c = 0) → RT (froz R σ zs) w (.lst es []) (.slice a 0 c) := fun a c h1 h2 =>
    .lst [] rfl (Nat.zero_le _) h1 h2 (by simp) rfl (by simp) (by simp) (by simp)
  induction h with
  | tree h => exact fun hu => (hu.toTree h).mono froz_keeps
  | nil => intro u hu; rw [rv_lit hu]; exact lst0 none 0 (Nat.zero_le _) (fun _ => rfl)
  | emp => intro u hu; cases hu with
    | tree h => cases h with
      | emp a c hcm => exact lst0 _ c hcm (fun h => by cases h)
  | nil0 => intro u hu; cases hu with
    | tree h => cases h with
      | nil0 a => exact lst0 a 0 (Nat.zero_le _) (fun _ => rfl)
  | @row id e es n cs l hm hl hn hes _ ih =>
    intro u hu
    obtain ⟨us, hv, hown, hone, hpw, _⟩ := row_open hs (hz _ hm) hu
    rcases hown.2 with ⟨rfl, rfl⟩ | ⟨g, cap, cur, rfl, _, _, hnc, hcm, _, _⟩
    · have : l = [] := List.eq_nil_of_length_eq_zero hn
      subst this
      exact lst0 none 0 (Nat.zero_le _) (fun _ => rfl)
    · refine .lst us hn.symm hnc hcm (fun h => by cases h) hes (by rw [hl]; exact hpw.1) hone (fun j u hu => ⟨g, 0, rfl, .inr ⟨_, hm, _, hv, rfl, ?_⟩, ?_⟩) fun j x u hx hu => ?_
      · have := (List.getElem?_eq_some_iff.1 hu).1
        simp only [obCells]; rw [← hpw.1]; omega
      · have := hown.cells (g := g) rfl j u hu
        rwa [Addr.add_lit] at this
      · have hj : j < cs.length := by rw [← hl]; exact (List.getElem?_eq_some_iff.1 hx).1
        exact ih j cs[j] x (List.getElem?_eq_getElem hj) hx (hpw.2 j _ u (List.getElem?_eq_getElem hj) hu)
  | @box id cs ts hm hl _ ih =>
    intro u hu
    have hob := hs.objs id _ (hz _ hm)
    obtain ⟨B, us, el, h1, h2, h3, h4, h5, h6⟩ := hob
    cases hu with
    | tree h => cases h
    | @ptr _ _ a n c v hv hva ha =>
      rw [h1] at hv
      cases hv
      rcases hva with e | e
      · cases e
        refine .iptr us.toList (by rw [hl]; exact h5.1) h4 (fun j u hu => ⟨.inr ⟨_, hm, _, h1, rfl, ?_⟩, ?_⟩) fun j x u hx hu => ?_
        · have := (List.getElem?_eq_some_iff.1 hu).1
          simp only [obCells]; rw [← h5.1]; omega
        · rw [cell_of_row w B _ us el (0, 0) h3]; simpa using hu
        · have hj : j < cs.length := by rw [← hl]; exact (List.getElem?_eq_some_iff.1 hx).1
          exact ih j cs[j] x (List.getElem?_eq_getElem hj) hx (h5.2 j _ u (List.getElem?_eq_getElem hj) hu)
      · cases e
  | @agg cs ts hl _ ih =>
    intro u hu
    have key : ∀ us : List Value, us.length = cs.length → (∀ u ∈ us, u.oneCell' = true) → (∀ (j : Nat) (x : V) (u : Value), cs[j]? = some x → us[j]? = some u → RV σ R w x u) → RT (froz R σ zs) w (.agg ts) (.agg us.toArray) := by
      intro us h1 h2 h3
      refine .agg us (by rw [h1, hl]) h2 fun j x u hx hu => ?_
      have hj : j < cs.length := by rw [← hl]; exact (List.getElem?_eq_some_iff.1 hx).1
      exact ih j cs[j] x (List.getElem?_eq_getElem hj) hx (h3 j _ u (List.getElem?_eq_getElem hj) hu)
    cases hu with
    | tree h => cases h with
      | agg us h1 h2 h3 => exact key us h1 h2 fun j x u hx hu => .tree (h3 j x u hx hu)
    | agg us h1 h2 h3 => exact key us h1 h2 h3
  | @tup cs ts hl _ ih =>
    intro u hu
    have key : ∀ us : List Value, us.length = cs.length → (∀ (j : Nat) (x : V) (u : Value), cs[j]? = some x → us[j]? = some u → RV σ R w x u) → RT (froz R σ zs) w (.tup ts) (.tuple us.toArray) := by
      intro us h1 h3
      refine .tup us (by rw [h1, hl]) fun j x u hx hu => ?_
      have hj : j < cs.length := by rw [← hl]; exact (List.getElem?_eq_some_iff.1 hx).1
      exact ih j cs[j] x (List.getElem?_eq_getElem hj) hx (h3 j _ u (List.getElem?_eq_getElem hj) hu)
    cases hu with
    | tree h => cases h with
      | tup us h1 h3 => exact key us h1 fun j x u hx hu => .tree (h3 j x u hx hu)
    | tup us h1 h3 => exact key us h1 h3
  | ifc _ ih =>
    intro u hu
    cases hu with
    | tree h => cases h with
      | ifc h => exact .ifc (ih (.tree h))
    | ifc h => exact .ifc (ih h)

end

/-- From what is known to what is asked. -/
inductive Wk (ρ : Nat → Option Nat) (n : Nat) (zs : List (Nat × OB)) : V → V → Prop
  | junk {v : V} : Wk ρ n zs v .junk
  | co {v t : V} (h : Co zs v t) : Wk ρ n zs v t
  | ref {i j : Nat} (hj : j < n) (h : ρ j = some i) : Wk ρ n zs (.ref i) (.ref j)
  | ptr {i j k : Nat} (hj : j < n) (h : ρ j = some i) : Wk ρ n zs (.ptr i k) (.ptr j k)
  | nil {j : Nat} (hj : j < n) (h : ρ j = none) : Wk ρ n zs (.lit (.slice none 0 0)) (.ref j)
  | agg {cs ds : List V} (hl : ds.length = cs.length) (h : ∀ (j : Nat) (x y : V), cs[j]? = some x → ds[j]? = some y → Wk ρ n zs x y) : Wk ρ n zs (.agg cs) (.agg ds)
  | tup {cs ds : List V} (hl : ds.length = cs.length) (h : ∀ (j : Nat) (x y : V), cs[j]? = some x → ds[j]? = some y → Wk ρ n zs x y) : Wk ρ n zs (.tup cs) (.tup ds)
  | ifc {t : TypeId} {v u : V} (h : Wk ρ n zs v u) : Wk ρ n zs (.ifc t v) (.ifc t u)
  | fn {f : FuncId} {fs gs cs ds : List V} (hf : gs.length = fs.length) (h0 : ∀ (j : Nat) (x y : V), fs[j]? = some x → gs[j]? = some y → Wk ρ n zs x y) (hl : ds.length = cs.length)
      (h : ∀ (j : Nat) (x y : V), cs[j]? = some x → ds[j]? = some y → Wk ρ n zs x y) : Wk ρ n zs (.fn f fs cs) (.fn f gs ds)

/-- Pointwise. -/
def WkL (ρ : Nat → Option Nat) (n : Nat) (zs : List (Nat × OB)) (cs ds : List V) : Prop :=
  ds.length = cs.length ∧ ∀ (j : Nat) (x y : V), cs[j]? = some x → ds[j]? = some y → Wk ρ n zs x y

inductive OWk (ρ : Nat → Option Nat) (n : Nat) (zs : List (Nat × OB)) : OB → OB → Prop
  | box {cs ds : List V} (h : WkL ρ n zs cs ds) : OWk ρ n zs (.box cs) (.box ds)
  | row {e : TypeId} {es m : Nat} {cs ds : List V} (h : WkL ρ n zs cs ds) : OWk ρ n zs (.row e es m cs) (.row e es m ds)
  | map {es fs : List (Value × V)} (hk : fs.map (·.1) = es.map (·.1)) (h : WkL ρ n zs (es.map (·.2)) (fs.map (·.2))) : OWk ρ n zs (.map es) (.map fs)

def renS (σ : Nat → Option Value) (ρ : Nat → Option Nat) (n : Nat) : Nat → Option Value := fun id => if id < n then (match ρ id with | some i => σ i | none => some (.slice none 0 0)) else none

section
variable {σ : Nat → Option Value} {R : Nat → Nat → Prop} {base : Nat} {w0 : Org} {w : World} {O : Nat → Option OB} {D : Nat → Prop} {zs : List (Nat × OB)} {ρ : Nat → Option Nat} {n : Nat}

theorem renS_some {i j : Nat} (hj : j < n) (h : ρ j = some i) : renS σ ρ n j = σ i := by simp [renS, hj, h]
theorem renS_none {j : Nat} (hj : j < n) (h : ρ j = none) : renS σ ρ n j = some (.slice none 0 0) := by simp [renS, hj, h]

theorem wk_rv (hs : SimH σ R base w0 w O D) (hz : ∀ p ∈ zs, O p.1 = some p.2) {v t : V} (h : Wk ρ n zs v t) : ∀ {u : Value}, RV σ R w v u → RV (renS σ ρ n) (froz R σ zs) w t u := by
  induction h with
  | junk => intro u _; exact .junk u
  | co h => intro u hu; exact .tree (co_rt hs hz h hu)
  | ref hj h =>
    intro u hu
    cases hu with
    | tree h => cases h
    | ref h1 h2 => exact .ref ((renS_some hj h).trans h1) h2
  | ptr hj h =>
    intro u hu
    cases hu with
    | tree h => cases h
    | ptr h1 h2 h3 => exact .ptr ((renS_some hj h).trans h1) h2 h3
  | nil hj h =>
    intro u hu
    rw [rv_lit hu]
    exact .ref (renS_none hj h) rfl
  | @agg cs ds hl _ ih =>
    intro u hu
    have key : ∀ us : List Value, us.length = cs.length → (∀ u ∈ us, u.oneCell' = true) → (∀ (j : Nat) (x : V) (u : Value), cs[j]? = some x → us[j]? = some u → RV σ R w x u) → RV (renS σ ρ n) (froz R σ zs) w (.agg ds) (.agg us.toArray) := by
      intro us h1 h2 h3
      refine .agg us (by rw [h1, hl]) h2 fun j y u hy hu => ?_
      have hj : j < cs.length := by rw [← hl]; exact (List.getElem?_eq_some_iff.1 hy).1
      exact ih j cs[j] y (List.getElem?_eq_getElem hj) hy (h3 j _ u (List.getElem?_eq_getElem hj) hu)
    cases hu with
    | tree h => cases h with
      | agg us h1 h2 h3 => exact key us h1 h2 fun j x u hx hu => .tree (h3 j x u hx hu)
    | agg us h1 h2 h3 => exact key us h1 h2 h3
  | @tup cs ds hl _ ih =>
    intro u hu
    have key : ∀ us : List Value, us.length = cs.length → (∀ (j : Nat) (x : V) (u : Value), cs[j]? = some x → us[j]? = some u → RV σ R w x u) → RV (renS σ ρ n) (froz R σ zs) w (.tup ds) (.tuple us.toArray) := by
      intro us h1 h3
      refine .tup us (by rw [h1, hl]) fun j y u hy hu => ?_
      have hj : j < cs.length := by rw [← hl]; exact (List.getElem?_eq_some_iff.1 hy).1
      exact ih j cs[j] y (List.getElem?_eq_getElem hj) hy (h3 j _ u (List.getElem?_eq_getElem hj) hu)
    cases hu with
    | tree h => cases h with
      | tup us h1 h3 => exact key us h1 fun j x u hx hu => .tree (h3 j x u hx hu)
    | tup us h1 h3 => exact key us h1 h3
  | ifc _ ih =>
    intro u hu
    cases hu with
    | tree h => cases h with
      | ifc h => exact .ifc (ih (.tree h))
    | ifc h => exact .ifc (ih h)
  | @fn f fs gs cs ds hf _ hl _ ih0 ih =>
    intro u hu
    cases hu with
    | tree h => cases h
    | fn as us hg hu h0 h1 =>
      refine .fn as us (by rw [hg, hf]) (by rw [hu, hl]) (fun j y u hy hu' => ?_) fun j y u hy hu' => ?_
      · have hj : j < fs.length := by rw [← hf]; exact (List.getElem?_eq_some_iff.1 hy).1
        exact ih0 j fs[j] y (List.getElem?_eq_getElem hj) hy (h0 j _ u (List.getElem?_eq_getElem hj) hu')
      · have hj : j < cs.length := by rw [← hl]; exact (List.getElem?_eq_some_iff.1 hy).1
        exact ih j cs[j] y (List.getElem?_eq_getElem hj) hy (h1 j _ u (List.getElem?_eq_getElem hj) hu')

theorem wk_pw (hs : SimH σ R base w0 w O D) (hz : ∀ p ∈ zs, O p.1 = some p.2) {cs ds : List V} (h : WkL ρ n zs cs ds) {us : List Value} (hu : PW (RV σ R w) cs us) : PW (RV (renS σ ρ n) (froz R σ zs) w) ds us :=
  ⟨by rw [hu.1, h.1], fun j y u hy hu' => by
    have hj : j < cs.length := by rw [← h.1]; exact (List.getElem?_eq_some_iff.1 hy).1
    exact wk_rv hs hz (h.2 j cs[j] y (List.getElem?_eq_getElem hj) hy) (hu.2 j _ u (List.getElem?_eq_getElem hj) hu')⟩

end

/-- Less is known. -/
structure Weaker (S S' : ES) : Prop where
  N : S'.N = S.N
  ex : ∃ (ρ : Nat → Option Nat) (zs : List (Nat × OB)), (∀ p ∈ zs, S.O p.1 = some p.2) ∧ (∀ i, Wk ρ S'.n zs (S.T i) (S'.T i)) ∧
    (∀ id ob', S'.O id = some ob' → id < S'.n ∧ ((∃ i ob, ρ id = some i ∧ S.O i = some ob ∧ i ∉ zs.map (·.1) ∧ OWk ρ S'.n zs ob ob') ∨ (ρ id = none ∧ ∃ e es, ob' = .row e es 0 []))) ∧
    (∀ id id' i, id < S'.n → id' < S'.n → ρ id = some i → ρ id' = some i → id = id')

theorem SimS.weaken {σ : Nat → Option Value} {R : Nat → Nat → Prop} {base : Nat} {w0 : Org} {S S' : ES} {a : Act} {w : World} (h : SimS σ R base w0 S.st a w) (hw : Weaker S S') : ∃ σ' R', SimS σ' R' base w0 S'.st a w ∧ Keeps R R' w w := by
  obtain ⟨hN, ρ, zs, hz, hT, hO, hI⟩ := hw
  have hz' : ∀ p ∈ zs, S.st.O p.1 = some p.2 := hz
  refine ⟨renS σ ρ S'.n, froz R σ zs, ⟨⟨h.heap.below, h.heap.base_le, fun b j hb hR => ?_, froz_in h.heap hz', fun id ob hid => ?_, fun id id' ob ob' v v' b h1 h2 hv hv' hb hb' => ?_, fun id v hv => ?_⟩, fun i => wk_rv h.heap hz' (hT i) (h.tmps i), by rw [h.size]; exact hN.symm, h.defers⟩, froz_keeps⟩
  · rcases hR with hR | ⟨p, hp, v2, hv2, hb2, _⟩
    · exact h.heap.rold b j hb hR
    · obtain ⟨v', l1, _, l2⟩ := (h.heap.objs p.1 p.2 (hz p hp)).lt
      rw [hv2] at l1; cases l1
      have := (l2 b hb2).1
      omega
  · obtain ⟨hlt, ⟨i, ob0, hρ, ho, hni, how⟩ | ⟨hρ, e, es, rfl⟩⟩ := hO id ob hid
    · have hs : renS σ ρ S'.n id = σ i := renS_some hlt hρ
      have hob := h.heap.objs _ _ ho
      have hsep : ∀ (v : Value) b, σ i = some v → blockOf v = some b → ∀ j, ¬ froz R σ zs b j := by
        intro v b hv hb j hR
        rcases hR with hR | ⟨p, hp, v2, hv2, hb2, _⟩
        · obtain ⟨v', l1, _, l2⟩ := hob.lt
          rw [hv] at l1; cases l1
          exact (l2 b hb).2.2 j hR
        · exact hni (List.mem_map.2 ⟨p, hp, (h.heap.inj i p.1 ob0 p.2 v v2 b ho (hz p hp) hv hv2 hb hb2).symm⟩)
      cases how with
      | box hc => obtain ⟨B, us, el, h1, h2, h3, h4, h5, h6⟩ := hob; exact ⟨B, us, el, hs.trans h1, h2, h3, h4, wk_pw h.heap hz' hc h5, hsep _ _ h1 rfl⟩
      | row hc => obtain ⟨v, us, h1, h2, h3, h4, h5⟩ := hob; exact ⟨v, us, hs.trans h1, h2, h3, wk_pw h.heap hz' hc h4, fun g hg => hsep _ _ h1 (ownBlock_of hg)⟩
      | @map es fs hk hc =>
        obtain ⟨B, ents, clock, h1, h2, h3, h4, h5⟩ := hob
        have hlen : fs.length = es.length := by have := congrArg List.length hk; simpa using this
        refine ⟨B, ents, clock, hs.trans h1, h2, h3, ⟨by rw [h4.1, hlen], fun j x e hx he => ?_, h4.2.2⟩, hsep _ _ h1 rfl⟩
        have hj : j < es.length := by rw [← hlen]; exact (List.getElem?_eq_some_iff.1 hx).1
        have := h4.2.1 j es[j] e (List.getElem?_eq_getElem hj) he
        have hkj : x.1 = (es[j]).1 := by
          have := congrArg (fun l => l[j]?) hk
          simpa [hx, hj] using this
        exact ⟨this.1.trans hkj.symm, wk_rv h.heap hz' (hc.2 j (es[j]).2 x.2 (by simp [hj]) (by simp [hx])) this.2⟩
    · exact ⟨.slice none 0 0, [], renS_none hlt hρ, World.ownsRow_nil w base e es, by simp, ⟨rfl, fun j x u hx => by simp at hx⟩, fun g hg => by simp [Value.ownBlock] at hg⟩
  · obtain ⟨hlt, ⟨i, ob0, hρ, ho, _, _⟩ | ⟨hρ, _⟩⟩ := hO id ob h1
    · obtain ⟨hlt', ⟨i', ob0', hρ', ho', _, _⟩ | ⟨hρ', _⟩⟩ := hO id' ob' h2
      · rw [renS_some hlt hρ] at hv
        rw [renS_some hlt' hρ'] at hv'
        have := h.heap.inj _ _ _ _ _ _ _ ho ho' hv hv' hb hb'
        subst this
        exact hI _ _ _ hlt hlt' hρ hρ'
      · rw [renS_none hlt' hρ'] at hv'
        cases hv'
        simp [blockOf] at hb'
    · rw [renS_none hlt hρ] at hv
      cases hv
      simp [blockOf] at hb
  · unfold renS at hv
    split at hv
    · assumption
    · cases hv

end Go.AV
