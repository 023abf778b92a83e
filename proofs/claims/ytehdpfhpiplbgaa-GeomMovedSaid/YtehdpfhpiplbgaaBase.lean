/-
  Abstract values over the model's values: a slice that nobody writes is a tree; what a call makes for itself is an object with a number.
-/
import Derived.Calls
import Derived.Orders
import Derived.Below
import Derived.Laws.AppendOwn
import Derived.Laws.OwnMore
import Derived.Deep.LoopGhost
namespace Go.AV
set_option linter.unusedSimpArgs false
set_option linter.unusedVariables false
open Go.RowKit

/-- An abstract value. -/
inductive V where
  | junk
  | lit (v : Value)
  | nil0
  | emp
  | lst (es : Nat) (l : List V)
  | iptr (cs : List V)
  | imp (es : List (Value × V))
  | agg (cs : List V)
  | tup (vs : List V)
  | ifc (t : TypeId) (v : V)
  | fn (f : FuncId) (first caps : List V)
  | ref (id : Nat)
  | ptr (id off : Nat)

instance : Inhabited V := ⟨.junk⟩

def V.cells : V → List V
  | .agg cs => cs
  | v => [v]

def cellsOf (l : List V) : List V := l.flatMap V.cells

/-- A tree: a value all of whose memory lies in the cells that R names. -/
inductive RT (R : Nat → Nat → Prop) (w : World) : V → Value → Prop
  | lit (v : Value) : RT R w (.lit v) v
  | nil0 (a : Option Addr) : RT R w .nil0 (.slice a 0 0)
  | emp (a : Addr) (c : Nat) (hcm : c ≤ maxLen) : RT R w .emp (.slice (some a) 0 c)
  | lst {es : Nat} {l : List V} {a : Option Addr} {n c : Nat} (us : List Value) (hn : n = l.length) (hc : n ≤ c) (hcm : c ≤ maxLen) (hnil : a = none → c = 0) (hes : ∀ x ∈ l, x.cells.length = es)
      (hl : us.length = (cellsOf l).length) (h1 : ∀ u ∈ us, u.oneCell' = true)
      (hcell : ∀ (j : Nat) (u : Value), us[j]? = some u → ∃ b o, a = some ⟨b, o, none⟩ ∧ R b (o + j) ∧ w.cell? ⟨b, o + j, none⟩ = some u)
      (hrt : ∀ (j : Nat) (x : V) (u : Value), (cellsOf l)[j]? = some x → us[j]? = some u → RT R w x u) : RT R w (.lst es l) (.slice a n c)
  | iptr {cs : List V} {b o : Nat} (us : List Value) (hl : us.length = cs.length) (h1 : ∀ u ∈ us, u.oneCell' = true)
      (hcell : ∀ (j : Nat) (u : Value), us[j]? = some u → R b (o + j) ∧ w.cell? ⟨b, o + j, none⟩ = some u)
      (hrt : ∀ (j : Nat) (x : V) (u : Value), cs[j]? = some x → us[j]? = some u → RT R w x u) : RT R w (.iptr cs) (.pointer (some ⟨b, o, none⟩))
  | agg {cs : List V} (us : List Value) (hl : us.length = cs.length) (h1 : ∀ u ∈ us, u.oneCell' = true)
      (hrt : ∀ (j : Nat) (x : V) (u : Value), cs[j]? = some x → us[j]? = some u → RT R w x u) : RT R w (.agg cs) (.agg us.toArray)
  | tup {cs : List V} (us : List Value) (hl : us.length = cs.length)
      (hrt : ∀ (j : Nat) (x : V) (u : Value), cs[j]? = some x → us[j]? = some u → RT R w x u) : RT R w (.tup cs) (.tuple us.toArray)
  | ifc {t : TypeId} {v : V} {u : Value} (h : RT R w v u) : RT R w (.ifc t v) (.iface t u)
  | imp0 : RT R w (.imp []) (.map none)
  | imp {es : List (Value × V)} {B : Nat} {ents : Array MapEntry} {clock : Nat} (hR : R B 0) (hB : w.heap[B]? = some (.map ents clock)) (hl : ents.size = es.length)
      (hk : ∀ (j : Nat) (x : Value × V) (e : MapEntry), es[j]? = some x → ents[j]? = some e → e.key = x.1)
      (hrt : ∀ (j : Nat) (x : Value × V) (e : MapEntry), es[j]? = some x → ents[j]? = some e → RT R w x.2 e.val) : RT R w (.imp es) (.map (some B))

/-- A value of a frame: a tree; or a name of an object of the call's own; or a struct, a tuple, a closure of such. -/
inductive RV (σ : Nat → Option Value) (R : Nat → Nat → Prop) (w : World) : V → Value → Prop
  | junk (u : Value) : RV σ R w .junk u
  | tree {v : V} {u : Value} (h : RT R w v u) : RV σ R w v u
  | ref {id : Nat} {u : Value} (h : σ id = some u) (h1 : u.oneCell' = true) : RV σ R w (.ref id) u
  | ptr {id off : Nat} {a : Addr} {n c : Nat} {v : Value} (h : σ id = some v) (hv : v = .pointer (some a) ∨ v = .slice (some a) n c) (ha : a.spot = none) :
      RV σ R w (.ptr id off) (.pointer (some ⟨a.block, a.off + off, none⟩))
  | agg {cs : List V} (us : List Value) (hl : us.length = cs.length) (h1 : ∀ u ∈ us, u.oneCell' = true)
      (h : ∀ (j : Nat) (x : V) (u : Value), cs[j]? = some x → us[j]? = some u → RV σ R w x u) : RV σ R w (.agg cs) (.agg us.toArray)
  | tup {cs : List V} (us : List Value) (hl : us.length = cs.length)
      (h : ∀ (j : Nat) (x : V) (u : Value), cs[j]? = some x → us[j]? = some u → RV σ R w x u) : RV σ R w (.tup cs) (.tuple us.toArray)
  | ifc {t : TypeId} {v : V} {u : Value} (h : RV σ R w v u) : RV σ R w (.ifc t v) (.iface t u)
  | fn {f : FuncId} {fs cs : List V} (gs us : List Value) (hg : gs.length = fs.length) (hl : us.length = cs.length)
      (h0 : ∀ (j : Nat) (x : V) (u : Value), fs[j]? = some x → gs[j]? = some u → RV σ R w x u)
      (h : ∀ (j : Nat) (x : V) (u : Value), cs[j]? = some x → us[j]? = some u → RV σ R w x u) : RV σ R w (.fn f fs cs) (.func (.func f) gs.toArray us.toArray)

/-- What R names holds in w' what it held in w. -/
structure Keeps (R R' : Nat → Nat → Prop) (w w' : World) : Prop where
  sub : ∀ b j, R b j → R' b j
  cell : ∀ b j, R b j → w'.cell? ⟨b, j, none⟩ = w.cell? ⟨b, j, none⟩
  map : ∀ b ents clock, R b 0 → w.heap[b]? = some (.map ents clock) → w'.heap[b]? = some (.map ents clock)

theorem Keeps.refl (R : Nat → Nat → Prop) (w : World) : Keeps R R w w := ⟨fun _ _ h => h, fun _ _ _ => rfl, fun _ _ _ _ h => h⟩

theorem Keeps.trans {R R' R'' : Nat → Nat → Prop} {w w' w'' : World} (h : Keeps R R' w w') (k : Keeps R' R'' w' w'') : Keeps R R'' w w'' :=
  ⟨fun b j r => k.sub b j (h.sub b j r), fun b j r => (k.cell b j (h.sub b j r)).trans (h.cell b j r), fun b e c r hb => k.map b e c (h.sub b 0 r) (h.map b e c r hb)⟩

theorem RT.mono {R R' : Nat → Nat → Prop} {w w' : World} (k : Keeps R R' w w') {v : V} {u : Value} (h : RT R w v u) : RT R' w' v u := by
  induction h with
  | lit v => exact .lit v
  | nil0 a => exact .nil0 a
  | emp a c hcm => exact .emp a c hcm
  | lst us hn hc hcm hnil hes hl h1 hcell _ ih =>
    refine .lst us hn hc hcm hnil hes hl h1 (fun j u hu => ?_) ih
    obtain ⟨b, o, ha, hr, hw⟩ := hcell j u hu
    exact ⟨b, o, ha, k.sub _ _ hr, (k.cell _ _ hr).trans hw⟩
  | iptr us hl h1 hcell _ ih => exact .iptr us hl h1 (fun j u hu => ⟨k.sub _ _ (hcell j u hu).1, (k.cell _ _ (hcell j u hu).1).trans (hcell j u hu).2⟩) ih
  | agg us hl h1 _ ih => exact .agg us hl h1 ih
  | tup us hl _ ih => exact .tup us hl ih
  | ifc _ ih => exact .ifc ih
  | imp0 => exact .imp0
  | imp hR hB hl hk _ ih => exact .imp (k.sub _ _ hR) (k.map _ _ _ hR hB) hl hk ih

theorem RV.mono {σ σ' : Nat → Option Value} {R R' : Nat → Nat → Prop} {w w' : World} (hs : ∀ id u, σ id = some u → σ' id = some u) (k : Keeps R R' w w') {v : V} {u : Value}
    (h : RV σ R w v u) : RV σ' R' w' v u := by
  induction h with
  | junk u => exact .junk u
  | tree h => exact .tree (h.mono k)
  | ref h h1 => exact .ref (hs _ _ h) h1
  | ptr h hv ha => exact .ptr (hs _ _ h) hv ha
  | agg us hl h1 _ ih => exact .agg us hl h1 ih
  | tup us hl _ ih => exact .tup us hl ih
  | ifc _ ih => exact .ifc ih
  | fn gs us hg hl _ _ ih0 ih => exact .fn gs us hg hl ih0 ih

mutual
/-- Is it a tree by its look? -/
def V.isTree : V → Bool
  | .lit _ => true
  | .nil0 => true
  | .emp => true
  | .lst _ _ => true
  | .iptr _ => true
  | .imp _ => true
  | .agg cs => V.allTree cs
  | .tup cs => V.allTree cs
  | .ifc _ v => v.isTree
  | _ => false
def V.allTree : List V → Bool
  | [] => true
  | v :: l => v.isTree && V.allTree l
 end

theorem V.allTree_at {l : List V} (h : V.allTree l = true) : ∀ {j : Nat} {x : V}, l[j]? = some x → x.isTree = true := by
  induction l with
  | nil => intro j x hx; simp at hx
  | cons v l ih =>
    simp only [V.allTree, Bool.and_eq_true] at h
    intro j x hx
    cases j with
    | zero => simp at hx; exact hx ▸ h.1
    | succ j => exact ih h.2 (by simpa using hx)

theorem RV.toTree {σ : Nat → Option Value} {R : Nat → Nat → Prop} {w : World} {v : V} {u : Value} (h : RV σ R w v u) (ht : v.isTree = true) : RT R w v u := by
  induction h with
  | junk u => simp [V.isTree] at ht
  | tree h => exact h
  | ref h h1 => simp [V.isTree] at ht
  | ptr h hv ha => simp [V.isTree] at ht
  | agg us hl h1 _ ih =>
    rw [V.isTree] at ht
    exact .agg us hl h1 fun j x u hx hu => ih j x u hx hu (V.allTree_at ht hx)
  | tup us hl _ ih =>
    rw [V.isTree] at ht
    exact .tup us hl fun j x u hx hu => ih j x u hx hu (V.allTree_at ht hx)
  | ifc _ ih => rw [V.isTree] at ht; exact .ifc (ih ht)
  | fn gs us hg hl _ _ _ _ => simp [V.isTree] at ht

/-- Pointwise. -/
def PW (r : V → Value → Prop) (cs : List V) (us : List Value) : Prop :=
  us.length = cs.length ∧ ∀ (j : Nat) (x : V) (u : Value), cs[j]? = some x → us[j]? = some u → r x u

theorem PW.mono {r r' : V → Value → Prop} {cs : List V} {us : List Value} (h : PW r cs us) (hm : ∀ x u, r x u → r' x u) : PW r' cs us :=
  ⟨h.1, fun j x u hx hu => hm _ _ (h.2 j x u hx hu)⟩

/-- An object of the call's own. -/
inductive OB where
  | box (cs : List V)
  | row (e : TypeId) (es n : Nat) (cs : List V)
  | map (es : List (Value × V))

def blockOf : Value → Option Nat
  | .pointer (some a) => some a.block
  | .slice (some a) _ _ => some a.block
  | .map (some b) => some b
  | _ => none

/-- What is asked of a map's entries. -/
def EntOk (r : V → Value → Prop) (es : List (Value × V)) (ents : Array MapEntry) (clock : Nat) : Prop :=
  ents.size = es.length ∧ (∀ (j : Nat) (x : Value × V) (e : MapEntry), es[j]? = some x → ents[j]? = some e → e.key = x.1 ∧ r x.2 e.val) ∧
  (∀ (j : Nat) (e : MapEntry), ents[j]? = some e → e.born < clock) ∧ (∀ (i j : Nat) (e e' : MapEntry), ents[i]? = some e → ents[j]? = some e' → e.born = e'.born → i = j)

/-- What object number 'id' is in the world. -/
def ObR (σ : Nat → Option Value) (R : Nat → Nat → Prop) (base : Nat) (w : World) (id : Nat) : OB → Prop
  | .box cs => ∃ (B : Nat) (us : Array Value) (el : TypeId), σ id = some (.pointer (some ⟨B, 0, none⟩)) ∧ base ≤ B ∧ w.heap[B]? = some (.cells us el (0, 0)) ∧
      (∀ u ∈ us.toList, u.oneCell' = true) ∧ PW (RV σ R w) cs us.toList ∧ ∀ j, ¬ R B j
  | .row e es n cs => ∃ (v : Value) (us : List Value), σ id = some v ∧ w.ownsRow base e es v n us ∧ (∀ u ∈ us, u.oneCell' = true) ∧ PW (RV σ R w) cs us ∧
      ∀ g, v.ownBlock = some g → ∀ j, ¬ R g j
  | .map es => ∃ (B : Nat) (ents : Array MapEntry) (clock : Nat), σ id = some (.map (some B)) ∧ base ≤ B ∧ w.heap[B]? = some (.map ents clock) ∧ EntOk (RV σ R w) es ents clock ∧ ∀ j, ¬ R B j

/-- Where a call on plain data began: the world, what could be read. -/
structure Org where
  w : World
  R : Nat → Nat → Prop

/-- The heap: objects of the call's own beside what is read alone. -/
structure SimH (σ : Nat → Option Value) (R : Nat → Nat → Prop) (base : Nat) (w0 : Org) (w : World) (O : Nat → Option OB) (D : Nat → Prop) : Prop where
  below : Below base w0.w w
  base_le : base ≤ w0.w.heap.size
  rold : ∀ b j, b < base → R b j → w0.R b j
  rin : ∀ b j, R b j → b < w.heap.size
  objs : ∀ id ob, O id = some ob → ObR σ R base w id ob
  inj : ∀ id id' ob ob' v v' b, O id = some ob → O id' = some ob' → σ id = some v → σ id' = some v' → blockOf v = some b → blockOf v' = some b → id = id'
  dom : ∀ id v, σ id = some v → D id

/-- From one moment to a later one. -/
structure Ext (σ : Nat → Option Value) (R : Nat → Nat → Prop) (w : World) (σ' : Nat → Option Value) (R' : Nat → Nat → Prop) (w' : World) : Prop where
  sub : ∀ id u, σ id = some u → σ' id = some u
  keeps : Keeps R R' w w'

theorem Ext.refl (σ : Nat → Option Value) (R : Nat → Nat → Prop) (w : World) : Ext σ R w σ R w := ⟨fun _ _ h => h, .refl R w⟩
theorem Ext.trans {σ σ' σ'' : Nat → Option Value} {R R' R'' : Nat → Nat → Prop} {w w' w'' : World} (h : Ext σ R w σ' R' w') (k : Ext σ' R' w' σ'' R'' w'') : Ext σ R w σ'' R'' w'' :=
  ⟨fun id u hu => k.sub id u (h.sub id u hu), h.keeps.trans k.keeps⟩
theorem RV.ext {σ σ' : Nat → Option Value} {R R' : Nat → Nat → Prop} {w w' : World} (k : Ext σ R w σ' R' w') {v : V} {u : Value} (h : RV σ R w v u) : RV σ' R' w' v u := h.mono k.sub k.keeps

/-- A draw turns nothing. -/
theorem SimH.drew {σ : Nat → Option Value} {R : Nat → Nat → Prop} {base : Nat} {w0 : Org} {w : World} {O : Nat → Option OB} {D : Nat → Prop} (h : SimH σ R base w0 w O D) :
    SimH σ R base w0 { w with drawn := w.drawn + 1 } O D ∧ Ext σ R w σ R { w with drawn := w.drawn + 1 } := by
  have hk : Keeps R R w { w with drawn := w.drawn + 1 } := ⟨fun _ _ h => h, fun _ _ _ => rfl, fun _ _ _ _ h => h⟩
  refine ⟨⟨h.below.trans ⟨rfl, rfl, rfl, Nat.le_refl _, fun _ _ => rfl⟩, h.base_le, h.rold, h.rin, fun id ob ho => ?_, h.inj, h.dom⟩, ⟨fun _ _ h => h, hk⟩⟩
  have hm : ∀ x u, RV σ R w x u → RV σ R { w with drawn := w.drawn + 1 } x u := fun x u hx => hx.mono (fun _ _ h => h) hk
  have := h.objs id ob ho
  cases ob with
  | box cs => obtain ⟨B, us, el, h1, h2, h3, h4, h5, h6⟩ := this; exact ⟨B, us, el, h1, h2, h3, h4, h5.mono hm, h6⟩
  | row e es n cs => obtain ⟨v, us, h1, h2, h3, h4, h5⟩ := this; exact ⟨v, us, h1, h2, h3, h4.mono hm, h5⟩
  | map es => obtain ⟨B, ents, clock, h1, h2, h3, h4, h5⟩ := this; exact ⟨B, ents, clock, h1, h2, h3, ⟨h4.1, fun j x e hx he => ⟨(h4.2.1 j x e hx he).1, hm _ _ (h4.2.1 j x e hx he).2⟩, h4.2.2⟩, h5⟩

end Go.AV
