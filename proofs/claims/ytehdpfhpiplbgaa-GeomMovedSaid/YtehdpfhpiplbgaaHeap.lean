/-
  What becomes of the objects when one of them is made, written, or grows.
-/
import Derived.Test.YtehdpfhpiplbgaaOps
namespace Go.AV
set_option linter.unusedSimpArgs false
set_option linter.unusedVariables false
open Go.RowKit

theorem ownBlock_of {v : Value} {g : Nat} (h : v.ownBlock = some g) : blockOf v = some g := by
  cases v <;> simp [Value.ownBlock] at h
  rename_i a n c
  cases a with
  | none => simp at h
  | some a => simpa [blockOf] using h

theorem ownsRow_block {w : World} {base : Nat} {e : TypeId} {es : Nat} {v : Value} {n : Nat} {us : List Value} (h : w.ownsRow base e es v n us) : blockOf v = v.ownBlock := by
  rcases h.2 with ⟨rfl, _⟩ | ⟨g, cap, cur, rfl, _⟩ <;> rfl

/-- A block that was there is of an object or is older. -/
theorem ObR.lt {σ : Nat → Option Value} {R : Nat → Nat → Prop} {base : Nat} {w : World} {id : Nat} {ob : OB} (h : ObR σ R base w id ob) :
    ∃ v, σ id = some v ∧ v.oneCell' = true ∧ ∀ b, blockOf v = some b → base ≤ b ∧ b < w.heap.size ∧ ∀ j, ¬ R b j := by
  cases ob with
  | box cs =>
    obtain ⟨B, us, el, h1, h2, h3, _, _, h6⟩ := h
    exact ⟨_, h1, rfl, fun b hb => by simp [blockOf] at hb; subst hb; exact ⟨h2, (Array.getElem?_eq_some_iff.1 h3).1, h6⟩⟩
  | row e es n cs =>
    obtain ⟨v, us, h1, h2, _, _, h5⟩ := h
    refine ⟨v, h1, ?_, fun b hb => ?_⟩
    · rcases h2.2 with ⟨rfl, _⟩ | ⟨g, cap, cur, rfl, _⟩ <;> rfl
    · rw [ownsRow_block h2] at hb
      exact ⟨(h2.lt b hb).1, (h2.lt b hb).2, h5 b hb⟩
  | map es =>
    obtain ⟨B, ents, clock, h1, h2, h3, _, h5⟩ := h
    exact ⟨_, h1, rfl, fun b hb => by simp [blockOf] at hb; subst hb; exact ⟨h2, (Array.getElem?_eq_some_iff.1 h3).1, h5⟩⟩

/-- An object whose block is not written stays. -/
theorem ObR.kept {σ σ' : Nat → Option Value} {R R' : Nat → Nat → Prop} {base : Nat} {w w' : World} {row : Option Nat} {id : Nat} {ob : OB} (h : ObR σ R base w id ob) (hg : w.grownBy w' row)
    (hne : ∀ v b, σ id = some v → blockOf v = some b → some b ≠ row) (hs : ∀ id u, σ id = some u → σ' id = some u) (hk : Keeps R R' w w')
    (hR : ∀ v b, σ id = some v → blockOf v = some b → ∀ j, ¬ R' b j) : ObR σ' R' base w' id ob := by
  have hm : ∀ x u, RV σ R w x u → RV σ' R' w' x u := fun x u hx => hx.mono hs hk
  cases ob with
  | box cs =>
    obtain ⟨B, us, el, h1, h2, h3, h4, h5, h6⟩ := h
    refine ⟨B, us, el, hs _ _ h1, h2, ?_, h4, h5.mono hm, hR _ _ h1 rfl⟩
    rw [hg.block B (Array.getElem?_eq_some_iff.1 h3).1 (hne _ _ h1 rfl)]; exact h3
  | row e es n cs =>
    obtain ⟨v, us, h1, h2, h3, h4, h5⟩ := h
    refine ⟨v, us, hs _ _ h1, h2.kept hg ?_, h3, h4.mono hm, fun g hv => hR _ _ h1 (ownBlock_of hv)⟩
    cases hv : v.ownBlock with
    | none => exact .inl rfl
    | some g => exact .inr (hne _ _ h1 (ownBlock_of hv))
  | map es =>
    obtain ⟨B, ents, clock, h1, h2, h3, h4, h5⟩ := h
    refine ⟨B, ents, clock, hs _ _ h1, h2, ?_, ⟨h4.1, fun j x e hx he => ⟨(h4.2.1 j x e hx he).1, hm _ _ (h4.2.1 j x e hx he).2⟩, h4.2.2⟩, hR _ _ h1 rfl⟩
    rw [hg.block B (Array.getElem?_eq_some_iff.1 h3).1 (hne _ _ h1 rfl)]; exact h3

theorem keeps_grown {R : Nat → Nat → Prop} {w w' : World} {row : Option Nat} (hg : w.grownBy w' row) (hin : ∀ b j, R b j → b < w.heap.size) (hrow : ∀ g, row = some g → ∀ j, ¬ R g j) : Keeps R R w w' := by
  have hb : ∀ b j, R b j → w'.heap[b]? = w.heap[b]? := fun b j hr => hg.block b (hin b j hr) fun e => hrow b e.symm j hr
  exact ⟨fun _ _ h => h, fun b j hr => World.cell?_of_block (hb b j hr), fun b e c hr hm => by rw [hb b 0 hr]; exact hm⟩

/-- One object is made, or written, or takes another's place. -/
theorem SimH.put {σ : Nat → Option Value} {R : Nat → Nat → Prop} {base : Nat} {w0 : Org} {w w' : World} {O : Nat → Option OB} {D : Nat → Prop} (h : SimH σ R base w0 w O D) {row : Option Nat} (hg : w.grownBy w' row)
    (hrow : ∀ g, row = some g → base ≤ g ∧ ∀ j, ¬ R g j) {id : Nat} {v : Value} {ob : OB} {post : List (Nat × Option OB)} (hid : σ id = none ∨ σ id = some v)
    (hO : upd O post id = some ob) (hO' : ∀ i, i ≠ id → ∀ x, upd O post i = some x → O i = some x) (hmem : id ∈ post.map (·.1))
    (hsep : ∀ i x vi b, i ≠ id → upd O post i = some x → σ i = some vi → blockOf vi = some b → some b ≠ row ∧ blockOf v ≠ some b)
    (hob : ∀ σ', σ' id = some v → (∀ i u, σ i = some u → σ' i = some u) → Keeps R R w w' → ObR σ' R base w' id ob) :
    ∃ σ', SimH σ' R base w0 w' (upd O post) (dset D post) ∧ Ext σ R w σ' R w' ∧ σ' id = some v := by
  have hk : Keeps R R w w' := keeps_grown hg h.rin fun g e => (hrow g e).2
  have hs : ∀ i u, σ i = some u → (fun i => if i = id then some v else σ i) i = some u := by
    intro i u hi
    by_cases e : i = id
    · subst e
      rcases hid with h' | h' <;> rw [h'] at hi
      · cases hi
      · simpa using hi
    · simpa [e] using hi
  have hself : (fun i => if i = id then some v else σ i) id = some v := by simp
  refine ⟨fun i => if i = id then some v else σ i, ⟨?_, h.base_le, h.rold, fun b j r => ?_, fun i x hx => ?_, ?_, ?_⟩, ⟨hs, hk⟩, hself⟩
  · exact h.below.grown hg (Nat.le_trans h.base_le h.below.size) fun k e => (hrow k e).1
  · exact Nat.lt_of_lt_of_le (h.rin b j r) hg.size
  · by_cases e : i = id
    · subst e
      rw [hO] at hx
      cases hx
      exact hob _ hself hs hk
    · have hob := h.objs i x (hO' i e x hx)
      exact hob.kept hg (fun vi b hvi hb => (hsep i x vi b e hx hvi hb).1) hs hk fun vi b hvi hb => by
        obtain ⟨v', h1, _, h2⟩ := hob.lt
        rw [hvi] at h1; cases h1
        exact (h2 b hb).2.2
  · intro i i' x x' vi vi' b hx hx' hvi hvi' hb hb'
    by_cases e : i = id
    · by_cases e' : i' = id
      · rw [e, e']
      · subst e
        simp only [if_true, Option.some.injEq] at hvi
        subst hvi
        simp only [e', if_false] at hvi'
        exact absurd hb (hsep i' x' vi' b e' hx' hvi' hb').2
    · by_cases e' : i' = id
      · subst e'
        simp only [if_true, Option.some.injEq] at hvi'
        subst hvi'
        simp only [e, if_false] at hvi
        exact absurd hb' (hsep i x vi b e hx hvi hb).2
      · simp only [e, if_false] at hvi
        simp only [e', if_false] at hvi'
        exact h.inj i i' x x' vi vi' b (hO' i e x hx) (hO' i' e' x' hx') hvi hvi' hb hb'
  · intro i u hi
    by_cases e : i = id
    · subst e; exact .inr hmem
    · simp only [e, if_false] at hi
      exact .inl (h.dom i u hi)

/-- A new object. -/
theorem SimH.new {σ : Nat → Option Value} {R : Nat → Nat → Prop} {base : Nat} {w0 : Org} {w w' : World} {O : Nat → Option OB} {D : Nat → Prop} (h : SimH σ R base w0 w O D) (hg : w.grownBy w' none)
    {id : Nat} {v : Value} {ob : OB} (hid : ¬ D id) (hb : ∀ b, blockOf v = some b → w.heap.size ≤ b)
    (hob : ∀ σ', σ' id = some v → (∀ i u, σ i = some u → σ' i = some u) → Keeps R R w w' → ObR σ' R base w' id ob) :
    ∃ σ', SimH σ' R base w0 w' (upd O [(id, some ob)]) (dset D [(id, some ob)]) ∧ Ext σ R w σ' R w' ∧ σ' id = some v := by
  have hn : σ id = none := by
    cases e : σ id with
    | none => rfl
    | some u => exact absurd (h.dom id u e) hid
  have hO' : ∀ i, i ≠ id → ∀ x, upd O [(id, some ob)] i = some x → O i = some x := by
    intro i e x hx
    rwa [upd_other (by simpa using e)] at hx
  refine h.put hg (fun g e => by cases e) (.inl hn) (by simp [upd]) hO' (by simp) (fun i x vi b e hx hvi hbb => ?_) hob
  obtain ⟨v', h1, _, h2⟩ := (h.objs i x (hO' i e x hx)).lt
  rw [hvi] at h1; cases h1
  refine ⟨by simp, fun e2 => ?_⟩
  have h3 := (h2 b hbb).2.1
  have h4 := hb b e2
  omega

/-- An object is written. -/
theorem SimH.write {σ : Nat → Option Value} {R : Nat → Nat → Prop} {base : Nat} {w0 : Org} {w w' : World} {O : Nat → Option OB} {D : Nat → Prop} (h : SimH σ R base w0 w O D)
    {id g : Nat} {v : Value} {ob0 ob : OB} (h0 : O id = some ob0) (hv : σ id = some v) (hb : blockOf v = some g) (hg : w.grownBy w' (some g))
    (hob : Keeps R R w w' → ObR σ R base w' id ob) :
    SimH σ R base w0 w' (upd O [(id, some ob)]) (dset D [(id, some ob)]) ∧ Ext σ R w σ R w' := by
  obtain ⟨v', h1, _, h2⟩ := (h.objs id ob0 h0).lt
  rw [hv] at h1; cases h1
  obtain ⟨hg1, hg2, hg3⟩ := h2 g hb
  have hO' : ∀ i, i ≠ id → ∀ x, upd O [(id, some ob)] i = some x → O i = some x := by
    intro i e x hx
    rwa [upd_other (by simpa using e)] at hx
  have hk : Keeps R R w w' := keeps_grown hg h.rin fun g' e => by cases e; exact hg3
  have hsep : ∀ i x vi b, i ≠ id → upd O [(id, some ob)] i = some x → σ i = some vi → blockOf vi = some b → b ≠ g := by
    intro i x vi b e hx hvi hbb e2
    exact e (h.inj i id x ob0 vi v g (hO' i e x hx) h0 hvi hv (e2 ▸ hbb) hb)
  refine ⟨⟨?_, h.base_le, h.rold, fun b j r => Nat.lt_of_lt_of_le (h.rin b j r) hg.size, fun i x hx => ?_, ?_, fun i u hi => .inl (h.dom i u hi)⟩, ⟨fun _ _ h => h, hk⟩⟩
  · exact h.below.grown hg (Nat.le_trans h.base_le h.below.size) fun k e => by cases e; exact hg1
  · by_cases e : i = id
    · subst e
      simp only [upd, List.lookup_cons, beq_self_eq_true] at hx
      cases hx
      exact hob hk
    · have hob := h.objs i x (hO' i e x hx)
      exact hob.kept hg (fun vi b hvi hbb e2 => hsep i x vi b e hx hvi hbb (Option.some.inj e2)) (fun _ _ h => h) hk fun vi b hvi hbb => by
        obtain ⟨v', h1, _, h2⟩ := hob.lt
        rw [hvi] at h1; cases h1
        exact (h2 b hbb).2.2
  · intro i i' x x' vi vi' b hx hx' hvi hvi' hbb hbb'
    by_cases e : i = id
    · by_cases e' : i' = id
      · rw [e, e']
      · subst e
        rw [hv] at hvi; cases hvi
        rw [hb] at hbb
        exact absurd (Option.some.inj hbb).symm (hsep i' x' vi' b e' hx' hvi' hbb')
    · by_cases e' : i' = id
      · subst e'
        rw [hv] at hvi'; cases hvi'
        rw [hb] at hbb'
        exact absurd (Option.some.inj hbb').symm (hsep i x vi b e hx hvi hbb)
      · exact h.inj i i' x x' vi vi' b (hO' i e x hx) (hO' i' e' x' hx') hvi hvi' hbb hbb'

end Go.AV
