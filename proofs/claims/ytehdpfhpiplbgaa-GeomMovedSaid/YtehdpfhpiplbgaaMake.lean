/-
  Rules: stores, new memory, appending.
-/
import Derived.Test.YtehdpfhpiplbgaaMem
import Derived.Laws.MakeOwn
namespace Go.AV
set_option linter.unusedSimpArgs false
set_option linter.unusedVariables false
open Go.RowKit
variable {P : Program} {o : Oper} {T : Nat → V}

/-- A rule for an operation that turns objects. -/
theorem opok_do {F : Fp}
    (h : ∀ {σ : Nat → Option Value} {R : Nat → Nat → Prop} {base : Nat} {w0 : Org} {w : World} {O : Nat → Option OB} {D : Nat → Prop} (a : Act), SimH σ R base w0 w O D → (∀ p ∈ F.pre, O p.1 = some p.2) →
      (∀ p ∈ F.post, p.1 ∈ F.pre.map (·.1) ∨ ¬ D p.1) → (∀ x, x ∈ o.op.operands → RV σ R w (ev T x) (a.eval x)) →
      ∃ u w' σ' R', ((execOp a.eval o).run P w = .ok (.value u) w' ∨ ((execOp a.eval o).run P w = .ok .skip w' ∧ u = undef)) ∧ SimH σ' R' base w0 w' (upd O F.post) (dset D F.post) ∧
        Ext σ R w σ' R' w' ∧ RV σ' R' w' F.v u) : OpOK P o T F := by
  intro σ R base w0 w O D a hs hp hq hx _ K Q hK
  have hx' : ∀ x, x ∈ o.op.operands → RV σ R w (ev T x) (a.eval x) := fun x hm =>
    ev_rv (l := o.op.operands.toList) (fun t ht => hx t (by simpa using ht)) (by simpa using hm)
  obtain ⟨u, w', σ', R', hrun, h1, h2, h3⟩ := h a hs hp hq hx'
  have hk := hK σ' R' w' u h1 h2 h3
  unfold Oper.wp
  rcases hrun with hrun | ⟨hrun, rfl⟩
  · rw [hrun]; exact hk
  · rw [hrun]; exact hk

def V.storable : V → Bool
  | .junk => false
  | .tup _ => false
  | .lit v => v.oneCell'
  | _ => true

theorem cells_rv {σ : Nat → Option Value} {R : Nat → Nat → Prop} {w : World} {v : V} {u : Value} (hs : v.storable = true) (h : RV σ R w v u) :
    (∀ x ∈ u.cells.toList, x.oneCell' = true) ∧ PW (RV σ R w) v.cells u.cells.toList := by
  have single : ∀ {v : V} {u : Value}, v.cells = [v] → u.oneCell' = true → RV σ R w v u → (∀ x ∈ u.cells.toList, x.oneCell' = true) ∧ PW (RV σ R w) v.cells u.cells.toList := by
    intro v u hv hu hr
    have hc : u.cells.toList = [u] := by cases u <;> first | rfl | simp [Value.oneCell'] at hu
    rw [hc, hv]
    refine ⟨by simpa using hu, rfl, fun j x y hx hy => ?_⟩
    cases j with
    | zero => simp at hx hy; subst hx; subst hy; exact hr
    | succ j => simp at hx
  cases h with
  | junk => simp [V.storable] at hs
  | tree h =>
    cases h with
    | lit => exact single rfl hs (.tree (.lit _))
    | nil0 a => exact single rfl rfl (.tree (.nil0 a))
    | emp a c hcm => exact single rfl rfl (.tree (.emp a c hcm))
    | lst us hn hc hcm hnil hes hl h1 hcell hrt => exact single rfl rfl (.tree (.lst us hn hc hcm hnil hes hl h1 hcell hrt))
    | iptr us hl h1 hcell hrt => exact single rfl rfl (.tree (.iptr us hl h1 hcell hrt))
    | agg us hl h1 hrt => exact ⟨by simpa [Value.cells] using h1, by simpa [Value.cells, V.cells] using hl, fun j x y hx hy => .tree (hrt j x y hx (by simpa [Value.cells] using hy))⟩
    | tup us hl hrt => simp [V.storable] at hs
    | ifc h => exact single rfl rfl (.tree (.ifc h))
    | imp0 => exact single rfl rfl (.tree .imp0)
    | imp hR hB hl hk hrt => exact single rfl rfl (.tree (.imp hR hB hl hk hrt))
  | ref h h1 => exact single rfl h1 (.ref h h1)
  | ptr h hv ha => exact single rfl rfl (.ptr h hv ha)
  | agg us hl h1 h => exact ⟨by simpa [Value.cells] using h1, by simpa [Value.cells, V.cells] using hl, fun j x y hx hy => h j x y hx (by simpa [Value.cells] using hy)⟩
  | tup us hl h => simp [V.storable] at hs
  | ifc h => exact single rfl rfl (.ifc h)
  | fn gs us hg hl h0 h => exact single rfl rfl (.fn gs us hg hl h0 h)

theorem PW.append {r : V → Value → Prop} {a b : List V} {x y : List Value} (h : PW r a x) (k : PW r b y) : PW r (a ++ b) (x ++ y) := by
  refine ⟨by simp [h.1, k.1], fun j v u hv hu => ?_⟩
  rcases Nat.lt_or_ge j a.length with hj | hj
  · rw [List.getElem?_append_left hj] at hv
    rw [List.getElem?_append_left (by rw [h.1]; exact hj)] at hu
    exact h.2 j v u hv hu
  · rw [List.getElem?_append_right hj] at hv
    rw [List.getElem?_append_right (by rw [h.1]; exact hj), h.1] at hu
    exact k.2 _ v u hv hu

theorem PW.take {r : V → Value → Prop} {a : List V} {x : List Value} (h : PW r a x) (n : Nat) : PW r (a.take n) (x.take n) := by
  refine ⟨by simp [h.1], fun j v u hv hu => ?_⟩
  rw [List.getElem?_take] at hv hu
  split at hv
  · rename_i hj; rw [if_pos hj] at hu; exact h.2 j v u hv hu
  · cases hv

theorem PW.drop {r : V → Value → Prop} {a : List V} {x : List Value} (h : PW r a x) (n : Nat) : PW r (a.drop n) (x.drop n) := by
  refine ⟨by simp [h.1], fun j v u hv hu => ?_⟩
  rw [List.getElem?_drop] at hv hu
  exact h.2 _ v u hv hu

/-- Cells written over. -/
def splice (cs : List V) (k : Nat) (vs : List V) : List V := cs.take k ++ vs ++ cs.drop (k + vs.length)

def obPut : OB → Nat → List V → OB
  | .box cs, k, vs => .box (splice cs k vs)
  | .row e es n cs, k, vs => .row e es n (splice cs k vs)
  | .map es, _, _ => .map es

theorem take_splice (cur us : List Value) {N k : Nat} (h1 : k + us.length ≤ N) (h2 : N ≤ cur.length) :
    (cur.take k ++ us ++ cur.drop (k + us.length)).take N = (cur.take N).take k ++ us ++ (cur.take N).drop (k + us.length) := by
  apply List.ext_getElem?
  intro j
  simp only [List.getElem?_take, List.getElem?_append, List.length_take, List.getElem?_drop, List.append_assoc]
  by_cases a : j < N
  · simp only [a, if_true]
    by_cases b : j < k
    · simp [show j < min k cur.length by omega, show j < min k (min N cur.length) by omega, b]
    · have e1 : ¬ j < min k cur.length := by omega
      have e2 : ¬ j < min k (min N cur.length) := by omega
      simp only [e1, e2, if_false]
      rw [show min k cur.length = k by omega, show min k (min N cur.length) = k by omega]
      by_cases c : j - k < us.length
      · simp [c]
      · simp only [c, if_false]
        rw [if_pos (by omega)]
  · simp only [a, if_false]
    have e2 : ¬ j < min k (min N cur.length) := by omega
    simp only [e2, if_false]
    rw [show min k (min N cur.length) = k by omega]
    have e3 : ¬ j - k < us.length := by omega
    simp only [e3, if_false]
    rw [if_neg (by omega)]

theorem run_storeAt {t : TypeId} {b k : Nat} {u : Value} {cur : Array Value} {el : TypeId} {w : World} (hg : w.heap[b]? = some (.cells cur el (0, 0))) (hsz : (P.info? t).map (·.size) = some u.cells.toList.length)
    (h1 : ∀ x ∈ u.cells.toList, x.oneCell' = true) (hle : k + u.cells.toList.length ≤ cur.size) :
    (Instr.storeAt t (.pointer (some ⟨b, k, none⟩)) u).run P w = .ok () (w.setRow b (cur.toList.take k ++ u.cells.toList ++ cur.toList.drop (k + u.cells.toList.length)).toArray) := by
  have := run_storeCells_at P b k el u.cells.toList 0 cur w hg (by omega) h1
  cases hi : P.info? t with
  | none => simp [hi] at hsz
  | some inf =>
    simp only [hi, Option.map_some, Option.some.injEq] at hsz
    simp only [Nat.add_zero] at this
    have hs : u.cells.size = inf.size := by rw [hsz]; simp
    simp only [Instr.storeAt, Instr.sureAddr, Sem.run_bind, Sem.run_pure, Result.andThen_ok, storeVar, sizeOf, typeInfo, run_program, hi, hs, ne_eq, not_true, if_false]
    simpa using this

theorem grown_setRow (w : World) (g : Nat) (cs : Array Value) : w.grownBy (w.setRow g cs) (some g) :=
  ⟨rfl, rfl, rfl, by simp, fun k _ hk => setRow_other w g k cs fun e => hk (by rw [e])⟩

theorem ok_store {t : TypeId} {x y : Operand} (ho : o.op = .store t x y) {id k : Nat} {ob : OB} {v : V} (hx : ev T x = .ptr id k) (hy : ev T y = v) (hv : v.storable = true)
    (hsz : (P.info? t).map (·.size) = some v.cells.length) (hle : k + v.cells.length ≤ (obCells ob).length) :
    OpOK P o T ⟨.lit undef, [(id, ob)], [(id, some (obPut ob k v.cells))]⟩ :=
  opok_do fun {σ R base w0 w O D} a hs hp _ hr => by
    have hx' := hr x (by simp [ho, Op.operands])
    have hy' := hr y (by simp [ho, Op.operands])
    rw [hx] at hx'
    rw [hy] at hy'
    obtain ⟨h1, hpw⟩ := cells_rv hv hy'
    have hO := hp (id, ob) (by simp)
    have hlen : (a.eval y).cells.toList.length = v.cells.length := hpw.1
    have hlen2 : (a.eval y).cells.size = v.cells.length := by simpa using hlen
    have hob := hs.objs id ob hO
    generalize hux : a.eval x = ux at hx'
    cases hx' with
    | tree h => cases h
    | @ptr _ _ ad n c va hva hvv had =>
      obtain ⟨b, q, sp⟩ := ad
      simp only at had
      subst had
      cases ob with
      | box cs =>
        obtain ⟨B, us, el, e1, e2, e3, e4, e5, e6⟩ := hob
        rw [hva] at e1
        cases e1
        rcases hvv with e | e
        · cases e
          have hcl : us.toList.length = cs.length := e5.1
          simp only [obCells] at hle
          have hrun := run_storeAt (P := P) (t := t) (b := b) (k := 0 + k) (u := a.eval y) e3 (by rw [hlen]; exact hsz) h1 (by rw [hlen]; simp at hcl; omega)
          have hg := grown_setRow w b (us.toList.take (0 + k) ++ (a.eval y).cells.toList ++ us.toList.drop (0 + k + (a.eval y).cells.toList.length)).toArray
          obtain ⟨k1, k2⟩ := hs.write (ob := .box (splice cs k v.cells)) hO hva rfl hg fun hk => by
            refine ⟨b, _, el, hva, e2, setRow_heap w b us _ el (0, 0) e3, ?_, ?_, e6⟩
            · intro u hu
              simp only [List.mem_append] at hu
              rcases hu with (hu | hu) | hu
              · exact e4 u (List.mem_of_mem_take hu)
              · exact h1 u hu
              · exact e4 u (List.mem_of_mem_drop hu)
            · have hm : ∀ x u, RV σ R w x u → RV σ R (w.setRow b (us.toList.take (0 + k) ++ (a.eval y).cells.toList ++ us.toList.drop (0 + k + (a.eval y).cells.toList.length)).toArray) x u := fun x u hx => hx.mono (fun _ _ h => h) hk
              have := ((e5.take k).append hpw).append (e5.drop (k + v.cells.length))
              simpa only [hlen, Nat.zero_add, splice] using this.mono hm
          refine ⟨undef, _, σ, R, .inr ⟨by simp only [execOp, ho, hux, Sem.run_bind]; rw [hrun]; rfl, rfl⟩, k1, k2, .tree (.lit _)⟩
        · cases e
      | row e es m cs =>
        obtain ⟨v', us, e1, e2, e3, e4, e5⟩ := hob
        rw [hva] at e1
        cases e1
        rcases e2.2 with ⟨rfl, _⟩ | ⟨g, cap, cur, rfl, hb, hg, hmc, hcm, hcs, htake⟩
        · rcases hvv with e | e <;> cases e
        · rcases hvv with e | e
          · cases e
          · simp only [Value.slice.injEq, Option.some.injEq, Addr.mk.injEq] at e
            obtain ⟨⟨eb, rfl, _⟩, _, _⟩ := e
            subst eb
            have hul : us.length = m * es := e2.1
            have hcl : us.length = cs.length := e4.1
            simp only [obCells] at hle
            have hN : m * es ≤ cur.size := by rw [hcs]; exact Nat.mul_le_mul_right _ hmc
            have hrun := run_storeAt (P := P) (t := t) (b := g) (k := 0 + k) (u := a.eval y) hg (by rw [hlen]; exact hsz) h1 (by rw [hlen]; omega)
            have hgr := grown_setRow w g (cur.toList.take (0 + k) ++ (a.eval y).cells.toList ++ cur.toList.drop (0 + k + (a.eval y).cells.toList.length)).toArray
            obtain ⟨k1, k2⟩ := hs.write (ob := .row e es m (splice cs k v.cells)) hO hva rfl hgr fun hk => by
              have hm : ∀ x u, RV σ R w x u → RV σ R (w.setRow g (cur.toList.take (0 + k) ++ (a.eval y).cells.toList ++ cur.toList.drop (0 + k + (a.eval y).cells.toList.length)).toArray) x u := fun x u hx => hx.mono (fun _ _ h => h) hk
              refine ⟨_, us.take k ++ (a.eval y).cells.toList ++ us.drop (k + (a.eval y).cells.toList.length), hva, ⟨?_, .inr ⟨g, cap, _, rfl, hb, setRow_heap w g cur _ e (0, 0) hg, hmc, hcm, ?_, ?_⟩⟩, ?_, ?_, e5⟩
              · simp only [List.length_append, List.length_take, List.length_drop]; omega
              · simp only [List.size_toArray, List.length_append, List.length_take, List.length_drop, Array.length_toList]; omega
              · rw [Nat.zero_add, ← htake]; exact take_splice cur.toList _ (by rw [hlen]; omega) (by simpa using hN)
              · intro u hu
                simp only [List.mem_append] at hu
                rcases hu with (hu | hu) | hu
                · exact e3 u (List.mem_of_mem_take hu)
                · exact h1 u hu
                · exact e3 u (List.mem_of_mem_drop hu)
              · have := ((e4.take k).append hpw).append (e4.drop (k + v.cells.length))
                simpa only [hlen, Nat.zero_add, splice] using this.mono hm
            refine ⟨undef, _, σ, R, .inr ⟨by simp only [execOp, ho, hux, Sem.run_bind]; rw [hrun]; rfl, rfl⟩, k1, k2, .tree (.lit _)⟩
      | map es =>
        obtain ⟨B, ents, clock, e1, _⟩ := hob
        rw [hva] at e1
        cases e1
        rcases hvv with e | e <;> cases e

end Go.AV
