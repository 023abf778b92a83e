/-
  Rules: addresses, loads, stores, new memory.
-/
import Derived.Test.YtehdpfhpiplbgaaHeap
namespace Go.AV
set_option linter.unusedSimpArgs false
set_option linter.unusedVariables false
open Go.RowKit
variable {P : Program} {o : Oper} {T : Nat → V}

/-- Cells that lie at a place. -/
def CellsAt (σ : Nat → Option Value) (R : Nat → Nat → Prop) (w : World) (b k : Nat) (cs : List V) : Prop :=
  ∃ us : List Value, us.length = cs.length ∧ (∀ u ∈ us, u.oneCell' = true) ∧ (∀ (j : Nat) (u : Value), us[j]? = some u → w.cell? ⟨b, k + j, none⟩ = some u) ∧
    ∀ (j : Nat) (x : V) (u : Value), cs[j]? = some x → us[j]? = some u → RV σ R w x u

theorem CellsAt.drop {σ : Nat → Option Value} {R : Nat → Nat → Prop} {w : World} {b k : Nat} {cs : List V} (h : CellsAt σ R w b k cs) (i : Nat) : CellsAt σ R w b (k + i) (cs.drop i) := by
  obtain ⟨us, h1, h2, h3, h4⟩ := h
  refine ⟨us.drop i, by simp [h1], fun u hu => h2 u (List.mem_of_mem_drop hu), fun j u hu => ?_, fun j x u hx hu => ?_⟩
  · rw [List.getElem?_drop] at hu; rw [Nat.add_assoc]; exact h3 _ _ hu
  · rw [List.getElem?_drop] at hu hx; exact h4 _ _ _ hx hu

theorem CellsAt.take {σ : Nat → Option Value} {R : Nat → Nat → Prop} {w : World} {b k : Nat} {cs : List V} (h : CellsAt σ R w b k cs) (i : Nat) : CellsAt σ R w b k (cs.take i) := by
  obtain ⟨us, h1, h2, h3, h4⟩ := h
  refine ⟨us.take i, by simp [h1], fun u hu => h2 u (List.mem_of_mem_take hu), fun j u hu => ?_, fun j x u hx hu => ?_⟩
  · rw [List.getElem?_take] at hu; split at hu
    · exact h3 _ _ hu
    · cases hu
  · rw [List.getElem?_take] at hu hx; split at hu
    · rename_i hlt; rw [if_pos hlt] at hx; exact h4 _ _ _ hx hu
    · cases hu

def obCells : OB → List V
  | .box cs => cs
  | .row _ _ _ cs => cs
  | .map _ => []

theorem ptr_cells {σ : Nat → Option Value} {R : Nat → Nat → Prop} {base : Nat} {w0 : Org} {w : World} {O : Nat → Option OB} {D : Nat → Prop} (hs : SimH σ R base w0 w O D) {id k : Nat} {ob : OB}
    (h : O id = some ob) {u : Value} (hu : RV σ R w (.ptr id k) u) : ∃ b, u = .pointer (some ⟨b, k, none⟩) ∧ CellsAt σ R w b 0 (obCells ob) ∧ ∃ v, σ id = some v ∧ blockOf v = some b := by
  have hob := hs.objs id ob h
  cases hu with
  | tree h => cases h
  | @ptr _ _ a n c v hv hva ha =>
    obtain ⟨b, o, sp⟩ := a
    simp only at ha
    subst ha
    cases ob with
    | box cs =>
      obtain ⟨B, us, el, h1, h2, h3, h4, h5, h6⟩ := hob
      rw [hv] at h1
      cases h1
      rcases hva with e | e
      · cases e
        refine ⟨b, by simp, ⟨us.toList, h5.1, h4, fun j u hu => ?_, h5.2⟩, _, hv, rfl⟩
        rw [Nat.zero_add, cell_of_row w b j us el (0, 0) h3]; simpa using hu
      · cases e
    | row e es m cs =>
      obtain ⟨v', us, h1, h2, h3, h4, h5⟩ := hob
      rw [hv] at h1
      cases h1
      rcases h2.2 with ⟨rfl, _⟩ | ⟨g, cap, cur, rfl, _, hg, _, _, _, htake⟩
      · rcases hva with e | e <;> cases e
      · rcases hva with e | e
        · cases e
        · cases e
          refine ⟨b, by simp, ⟨us, h4.1, h3, fun j u hu => ?_, h4.2⟩, _, hv, rfl⟩
          have := h2.cells (g := b) rfl j u hu
          rwa [Addr.add_lit] at this
    | map es =>
      obtain ⟨B, ents, clock, h1, _⟩ := hob
      rw [hv] at h1
      cases h1
      rcases hva with e | e <;> cases e

theorem iptr_cells {σ : Nat → Option Value} {R : Nat → Nat → Prop} {w : World} {cs : List V} {u : Value} (hu : RV σ R w (.iptr cs) u) :
    ∃ (b k : Nat) (us : List Value), u = .pointer (some ⟨b, k, none⟩) ∧ us.length = cs.length ∧ (∀ u ∈ us, u.oneCell' = true) ∧ (∀ (j : Nat) (u : Value), us[j]? = some u → R b (k + j) ∧ w.cell? ⟨b, k + j, none⟩ = some u) ∧
      ∀ (j : Nat) (x : V) (u : Value), cs[j]? = some x → us[j]? = some u → RT R w x u := by
  cases hu with
  | tree h => cases h with
    | iptr us hl h1 hcell hrt => exact ⟨_, _, us, rfl, hl, h1, hcell, hrt⟩

theorem iptr_cellsAt {σ : Nat → Option Value} {R : Nat → Nat → Prop} {w : World} {cs : List V} {u : Value} (hu : RV σ R w (.iptr cs) u) :
    ∃ b k, u = .pointer (some ⟨b, k, none⟩) ∧ CellsAt σ R w b k cs := by
  obtain ⟨b, k, us, h1, h2, h3, h4, h5⟩ := iptr_cells hu
  exact ⟨b, k, h1, us, h2, h3, fun j u hu => (h4 j u hu).2, fun j x u hx hu => .tree (h5 j x u hx hu)⟩

/-- How many cells a variable of a type has; is it a struct or an array? -/
def cellsN (P : Program) (t : TypeId) : Option (Nat × Bool) :=
  match P.info? t, P.underlying t with
  | some i, some (.struct _) => some (i.size, true)
  | some i, some (.array _ _) => some (i.size, true)
  | some _, some _ => some (1, false)
  | _, _ => none

def evRead (cs : List V) (k n : Nat) (agg : Bool) : Option V :=
  if agg then (if k + n ≤ cs.length then some (.agg ((cs.drop k).take n)) else none) else cs[k]?

theorem run_read {σ : Nat → Option Value} {R : Nat → Nat → Prop} {w : World} {t : TypeId} {n : Nat} {agg : Bool} (hc : cellsN P t = some (n, agg)) {b k i : Nat} {cs : List V} {v : V} (h : CellsAt σ R w b k cs)
    (hr : evRead cs i n agg = some v) : ∃ u, (Instr.loadAt t (.pointer (some ⟨b, k + i, none⟩))).run P w = .ok u w ∧ RV σ R w v u := by
  cases agg with
  | true =>
    simp only [evRead, if_true] at hr
    split at hr
    · rename_i hle
      cases hr
      obtain ⟨us, h1, h2, h3, h4⟩ := (h.drop i).take n
      have hl : us.length = n := by rw [h1, List.length_take, List.length_drop]; omega
      have hrun := run_loadCells_list (P := P) w ⟨b, k + i, none⟩ us (fun j u hu => by rw [Addr.add_lit]; exact h3 j u hu)
      rw [hl] at hrun
      refine ⟨.agg us.toArray, ?_, .agg us h1 h2 h4⟩
      unfold cellsN at hc
      cases hi : P.info? t with
      | none => simp [hi] at hc
      | some inf =>
        cases hu : P.underlying t with
        | none => simp [hi, hu] at hc
        | some d =>
          cases d <;> simp [hi, hu] at hc <;> subst hc <;> simp [Instr.loadAt, Instr.sureAddr, loadVar, isAgg, run_underlying hu, sizeOf, typeInfo, hi, hrun]
    · cases hr
  | false =>
    simp only [evRead, Bool.false_eq_true, if_false] at hr
    obtain ⟨us, h1, h2, h3, h4⟩ := h
    have hlt : i < us.length := by rw [h1]; exact (List.getElem?_eq_some_iff.1 hr).1
    have hu : us[i]? = some us[i] := List.getElem?_eq_getElem hlt
    refine ⟨us[i], ?_, h4 i v _ hr hu⟩
    have hcell := h3 i _ hu
    unfold cellsN at hc
    cases hi : P.info? t with
    | none => simp [hi] at hc
    | some inf =>
      cases hun : P.underlying t with
      | none => simp [hi, hun] at hc
      | some d =>
        cases d <;> simp [hi, hun] at hc <;> simp [Instr.loadAt, Instr.sureAddr, loadVar, isAgg, run_underlying hun, hcell]

theorem ok_load_ptr {t : TypeId} {x : Operand} (ho : o.op = .load t x) {id k n : Nat} {agg : Bool} {ob : OB} {v : V} (hx : ev T x = .ptr id k) (hc : cellsN P t = some (n, agg))
    (hr : evRead (obCells ob) k n agg = some v) : OpOK P o T ⟨v, [(id, ob)], []⟩ :=
  opok_quiet fun {_ _ _ _ w _ _} a hs hp hv => by
    have hx' := hv x (by simp [ho, Op.operands])
    rw [hx] at hx'
    obtain ⟨b, e, hcs, _⟩ := ptr_cells hs (hp (id, ob) (by simp)) hx'
    obtain ⟨u, hrun, hrv⟩ := run_read (P := P) hc hcs hr
    refine ⟨u, .inl ?_, hrv⟩
    rw [Nat.zero_add] at hrun
    simp [execOp, ho, e, hrun]

theorem ok_load_iptr {t : TypeId} {x : Operand} (ho : o.op = .load t x) {n : Nat} {agg : Bool} {cs : List V} {v : V} (hx : ev T x = .iptr cs) (hc : cellsN P t = some (n, agg))
    (hr : evRead cs 0 n agg = some v) : OpOK P o T ⟨v, [], []⟩ :=
  opok_quiet fun {_ _ _ _ w _ _} a hs hp hv => by
    have hx' := hv x (by simp [ho, Op.operands])
    rw [hx] at hx'
    obtain ⟨b, k, e, hcs⟩ := iptr_cellsAt hx'
    obtain ⟨u, hrun, hrv⟩ := run_read (P := P) hc hcs hr
    refine ⟨u, .inl ?_, hrv⟩
    rw [Nat.add_zero] at hrun
    simp [execOp, ho, e, hrun]

/-- Where a field lies. -/
def fieldOff (P : Program) (s : TypeId) (f : Nat) : Option Nat :=
  match P.underlying s with
  | some (.struct fs) =>
    match fs[f]? with
    | some fd =>
      match P.info? fd.type with
      | some i => if i.size = 0 then none else some fd.offset
      | none => none
    | none => none
  | _ => none

theorem run_fieldAt {s : TypeId} {f off : Nat} (h : fieldOff P s f = some off) (b k : Nat) (w : World) :
    (Instr.fieldAt s (.pointer (some ⟨b, k, none⟩)) f).run P w = .ok (.pointer (some ⟨b, k + off, none⟩)) w := by
  unfold fieldOff at h
  cases hu : P.underlying s with
  | none => simp [hu] at h
  | some d =>
    cases d with
    | struct fs =>
      rw [hu] at h
      simp only at h
      cases hf : fs[f]? with
      | none => simp [hf] at h
      | some fd =>
        rw [hf] at h
        simp only at h
        cases hi : P.info? fd.type with
        | none => simp [hi] at h
        | some i =>
          rw [hi] at h
          simp only at h
          split at h
          · cases h
          · rename_i hz
            cases h
            simp [Instr.fieldAt, run_underlying hu, hf, Instr.sureAddr, fieldPlace, sizeOf, typeInfo, hi, hz, Addr.add_lit]
    | _ => simp [hu] at h

theorem ptr_shift {σ : Nat → Option Value} {R : Nat → Nat → Prop} {w : World} {id k : Nat} {u : Value} (h : RV σ R w (.ptr id k) u) (off : Nat) :
    ∃ b q, u = .pointer (some ⟨b, q, none⟩) ∧ RV σ R w (.ptr id (k + off)) (.pointer (some ⟨b, q + off, none⟩)) := by
  cases h with
  | tree h => cases h
  | @ptr _ _ a n c v hv hva ha =>
    refine ⟨_, _, rfl, ?_⟩
    have := RV.ptr (R := R) (w := w) (off := k + off) hv hva ha
    rwa [← Nat.add_assoc] at this

theorem iptr_shift {σ : Nat → Option Value} {R : Nat → Nat → Prop} {w : World} {cs : List V} {u : Value} (h : RV σ R w (.iptr cs) u) (off : Nat) :
    ∃ b q, u = .pointer (some ⟨b, q, none⟩) ∧ RV σ R w (.iptr (cs.drop off)) (.pointer (some ⟨b, q + off, none⟩)) := by
  obtain ⟨b, k, us, h1, h2, h3, h4, h5⟩ := iptr_cells h
  refine ⟨b, k, h1, .tree (.iptr (us.drop off) (by simp [h2]) (fun u hu => h3 u (List.mem_of_mem_drop hu)) (fun j u hu => ?_) fun j x u hx hu => ?_)⟩
  · rw [List.getElem?_drop] at hu; rw [Nat.add_assoc]; exact h4 _ _ hu
  · rw [List.getElem?_drop] at hu hx; exact h5 _ _ _ hx hu

theorem ok_field_ptr {s : TypeId} {x : Operand} {f : Nat} (ho : o.op = .fieldAddr s x f) {id k off : Nat} (hx : ev T x = .ptr id k) (hf : fieldOff P s f = some off) : OpOK P o T ⟨.ptr id (k + off), [], []⟩ :=
  opok_quiet fun {_ _ _ _ w _ _} a _ _ hv => by
    have hx' := hv x (by simp [ho, Op.operands])
    rw [hx] at hx'
    obtain ⟨b, q, e, hrv⟩ := ptr_shift hx' off
    exact ⟨.pointer (some ⟨b, q + off, none⟩), .inl (by simp [execOp, ho, e, run_fieldAt hf]), hrv⟩

theorem ok_field_iptr {s : TypeId} {x : Operand} {f : Nat} (ho : o.op = .fieldAddr s x f) {cs : List V} {off : Nat} (hx : ev T x = .iptr cs) (hf : fieldOff P s f = some off) : OpOK P o T ⟨.iptr (cs.drop off), [], []⟩ :=
  opok_quiet fun {_ _ _ _ w _ _} a _ _ hv => by
    have hx' := hv x (by simp [ho, Op.operands])
    rw [hx] at hx'
    obtain ⟨b, q, e, hrv⟩ := iptr_shift hx' off
    exact ⟨.pointer (some ⟨b, q + off, none⟩), .inl (by simp [execOp, ho, e, run_fieldAt hf]), hrv⟩

/-- A slice type's element, its cells. -/
def elemN (P : Program) (t : TypeId) : Option (TypeId × Nat) :=
  match P.underlying t with
  | some (.slice e) => (P.info? e).map fun i => (e, i.size)
  | _ => none

theorem elemN_spec {t e : TypeId} {es : Nat} (h : elemN P t = some (e, es)) : P.underlying t = some (.slice e) ∧ ∃ i, P.info? e = some i ∧ i.size = es := by
  unfold elemN at h
  cases hu : P.underlying t with
  | none => simp [hu] at h
  | some d =>
    cases d with
    | slice e' =>
      rw [hu] at h
      simp only [Option.map_eq_some_iff, Prod.mk.injEq] at h
      obtain ⟨i, h1, rfl, h2⟩ := h
      exact ⟨rfl, i, h1, h2⟩
    | _ => simp [hu] at h

theorem run_indexAt {t e : TypeId} {es : Nat} (h : elemN P t = some (e, es)) {b q n c : Nat} {k : IntKind} {i : Int} (h0 : 0 ≤ i) (h1 : i < n) (w : World) :
    (Instr.indexAt t (.slice (some ⟨b, q, none⟩) n c) (.int k i)).run P w = .ok (.pointer (some ⟨b, q + i.toNat * es, none⟩)) w := by
  obtain ⟨hu, inf, hi, he⟩ := elemN_spec h
  simp [Instr.indexAt, asIntOf, run_underlying hu, h0, h1, sizeOf, typeInfo, hi, he, Addr.add_lit]

theorem flatMap_at {l : List V} {es : Nat} (hes : ∀ x ∈ l, x.cells.length = es) : ∀ {i j : Nat} {x : V}, l[i]? = some x → j < es → (cellsOf l)[i * es + j]? = x.cells[j]? := by
  induction l with
  | nil => intro i j x h; simp at h
  | cons v l ih =>
    intro i j x h hj
    have hv : v.cells.length = es := hes v (by simp)
    unfold cellsOf
    rw [List.flatMap_cons]
    cases i with
    | zero =>
      simp at h
      subst h
      rw [Nat.zero_mul, Nat.zero_add, List.getElem?_append_left (by omega)]
    | succ i =>
      rw [List.getElem?_append_right (by rw [hv, Nat.succ_mul]; omega), hv, show (i + 1) * es + j - es = i * es + j by rw [Nat.succ_mul]; omega]
      exact ih (fun x hx => hes x (List.mem_cons_of_mem _ hx)) (by simpa using h) hj

theorem length_cellsOf {l : List V} {es : Nat} (hes : ∀ x ∈ l, x.cells.length = es) : (cellsOf l).length = l.length * es := by
  induction l with
  | nil => simp [cellsOf]
  | cons v l ih =>
    have := ih fun x hx => hes x (List.mem_cons_of_mem _ hx)
    unfold cellsOf at *
    rw [List.flatMap_cons, List.length_append, this, hes v (by simp), List.length_cons, Nat.succ_mul, Nat.add_comm]

/-- What a slice of read-only memory is, concretely. -/
theorem lst_open {σ : Nat → Option Value} {R : Nat → Nat → Prop} {w : World} {es : Nat} {l : List V} {u : Value} (h : RV σ R w (.lst es l) u) :
    ∃ (a : Option Addr) (c : Nat) (us : List Value), u = .slice a l.length c ∧ l.length ≤ c ∧ c ≤ maxLen ∧ (a = none → c = 0) ∧ (∀ x ∈ l, x.cells.length = es) ∧ us.length = (cellsOf l).length ∧ (∀ u ∈ us, u.oneCell' = true) ∧
      (∀ (j : Nat) (u : Value), us[j]? = some u → ∃ b k, a = some ⟨b, k, none⟩ ∧ R b (k + j) ∧ w.cell? ⟨b, k + j, none⟩ = some u) ∧
      ∀ (j : Nat) (x : V) (u : Value), (cellsOf l)[j]? = some x → us[j]? = some u → RT R w x u := by
  cases h with
  | tree h => cases h with
    | lst us hn hc hcm hnil hes hl h1 hcell hrt => subst hn; exact ⟨_, _, us, rfl, hc, hcm, hnil, hes, hl, h1, hcell, hrt⟩

theorem ok_index_lst {t : TypeId} {x y : Operand} (ho : o.op = .indexAddr t x y) {e : TypeId} {es : Nat} (ht : elemN P t = some (e, es)) (hpos : 0 < es) {l : List V} (hx : ev T x = .lst es l) {k : IntKind} {i : Int}
    (hy : ev T y = .lit (.int k i)) {v : V} (h0 : 0 ≤ i) (hv : l[i.toNat]? = some v) : OpOK P o T ⟨.iptr v.cells, [], []⟩ :=
  opok_quiet fun {_ _ _ _ w _ _} a _ _ hr => by
    have hx' := hr x (by simp [ho, Op.operands])
    have hy' := rv_lit (hy ▸ hr y (by simp [ho, Op.operands]))
    rw [hx] at hx'
    obtain ⟨ad, c, us, e1, _, _, _, hes, hl, hone, hcell, hrt⟩ := lst_open hx'
    have hlt : i.toNat < l.length := (List.getElem?_eq_some_iff.1 hv).1
    have hvl : v.cells.length = es := hes v (List.mem_of_getElem? hv)
    have hlen := length_cellsOf hes
    have hpos' : i.toNat * es + es ≤ l.length * es := by
      rw [← Nat.succ_mul]; exact Nat.mul_le_mul_right _ hlt
    obtain ⟨b, q, e2, _⟩ := hcell (i.toNat * es) _ (List.getElem?_eq_getElem (by rw [hl, hlen]; omega))
    subst e2
    have hrun := run_indexAt (P := P) ht (b := b) (q := q) (n := l.length) (c := c) (k := k) h0 (by omega) w
    refine ⟨.pointer (some ⟨b, q + i.toNat * es, none⟩), .inl (by simp [execOp, ho, e1, hy', hrun]), .tree ?_⟩
    refine .iptr ((us.drop (i.toNat * es)).take es) ?_ (fun u hu => hone u (List.mem_of_mem_drop (List.mem_of_mem_take hu))) (fun j u hu => ?_) fun j x u hx hu => ?_
    · rw [List.length_take, List.length_drop, hl, hlen, hvl]; omega
    · rw [List.getElem?_take] at hu
      split at hu
      · rw [List.getElem?_drop] at hu
        obtain ⟨b', q', e3, h3, h4⟩ := hcell _ _ hu
        cases e3
        rw [Nat.add_assoc]; exact ⟨h3, h4⟩
      · cases hu
    · rw [List.getElem?_take] at hu
      split at hu
      · rename_i hj
        rw [List.getElem?_drop] at hu
        exact hrt _ _ _ ((flatMap_at hes hv hj).trans hx) hu
      · cases hu

/-- A row of the call's own: its value. -/
theorem row_open {σ : Nat → Option Value} {R : Nat → Nat → Prop} {base : Nat} {w0 : Org} {w : World} {O : Nat → Option OB} {D : Nat → Prop} (hs : SimH σ R base w0 w O D) {id : Nat} {e : TypeId} {es n : Nat} {cs : List V}
    (h : O id = some (.row e es n cs)) {u : Value} (hu : RV σ R w (.ref id) u) : ∃ (us : List Value), σ id = some u ∧ w.ownsRow base e es u n us ∧ (∀ u ∈ us, u.oneCell' = true) ∧ PW (RV σ R w) cs us ∧
      ∀ g, u.ownBlock = some g → ∀ j, ¬ R g j := by
  obtain ⟨v, us, h1, h2, h3, h4, h5⟩ := hs.objs id _ h
  cases hu with
  | tree h => cases h
  | ref hv _ => rw [h1] at hv; cases hv; exact ⟨us, h1, h2, h3, h4, h5⟩

theorem ok_index_row {t : TypeId} {x y : Operand} (ho : o.op = .indexAddr t x y) {e e' : TypeId} {es : Nat} (ht : elemN P t = some (e, es)) {id n : Nat} {cs : List V} (hx : ev T x = .ref id) {k : IntKind} {i : Int}
    (hy : ev T y = .lit (.int k i)) (h0 : 0 ≤ i) (h1 : i < n) : OpOK P o T ⟨.ptr id (i.toNat * es), [(id, .row e' es n cs)], []⟩ :=
  opok_quiet fun {_ _ _ _ w _ _} a hs hp hr => by
    have hx' := hr x (by simp [ho, Op.operands])
    have hy' := rv_lit (hy ▸ hr y (by simp [ho, Op.operands]))
    rw [hx] at hx'
    obtain ⟨us, hv, hown, _⟩ := row_open hs (hp (id, .row e' es n cs) (by simp)) hx'
    rcases hown.2 with ⟨e1, e2⟩ | ⟨g, cap, cur, e1, _⟩
    · omega
    · have hrun := run_indexAt (P := P) ht (b := g) (q := 0) (n := n) (c := cap) (k := k) h0 h1 w
      refine ⟨.pointer (some ⟨g, 0 + i.toNat * es, none⟩), .inl (by simp [execOp, ho, e1, hy', hrun]), ?_⟩
      exact RV.ptr (off := i.toNat * es) hv (.inr e1) rfl

/-- An array behind a pointer. -/
def arrN (P : Program) (t : TypeId) : Option (Nat × Nat) :=
  match P.underlying t with
  | some (.array n e) => (P.info? e).map fun i => (n, i.size)
  | _ => none

theorem run_indexArr {t : TypeId} {n es : Nat} (h : arrN P t = some (n, es)) {b q : Nat} {k : IntKind} {i : Int} (h0 : 0 ≤ i) (h1 : i < n) (w : World) :
    (Instr.indexAt t (.pointer (some ⟨b, q, none⟩)) (.int k i)).run P w = .ok (.pointer (some ⟨b, q + i.toNat * es, none⟩)) w := by
  unfold arrN at h
  cases hu : P.underlying t with
  | none => simp [hu] at h
  | some d =>
    cases d with
    | array m e =>
      rw [hu] at h
      simp only [Option.map_eq_some_iff, Prod.mk.injEq] at h
      obtain ⟨inf, hi, rfl, he⟩ := h
      simp [Instr.indexAt, asIntOf, run_underlying hu, Instr.sureAddr, h0, h1, sizeOf, typeInfo, hi, he, Addr.add_lit]
    | _ => simp [hu] at h

theorem ok_index_arr {t : TypeId} {x y : Operand} (ho : o.op = .indexAddr t x y) {n es : Nat} (ht : arrN P t = some (n, es)) {id q : Nat} (hx : ev T x = .ptr id q) {k : IntKind} {i : Int}
    (hy : ev T y = .lit (.int k i)) (h0 : 0 ≤ i) (h1 : i < n) : OpOK P o T ⟨.ptr id (q + i.toNat * es), [], []⟩ :=
  opok_quiet fun {_ _ _ _ w _ _} a _ _ hr => by
    have hx' := hr x (by simp [ho, Op.operands])
    have hy' := rv_lit (hy ▸ hr y (by simp [ho, Op.operands]))
    rw [hx] at hx'
    obtain ⟨b, p, e, hrv⟩ := ptr_shift hx' (i.toNat * es)
    exact ⟨.pointer (some ⟨b, p + i.toNat * es, none⟩), .inl (by simp [execOp, ho, e, hy', run_indexArr ht h0 h1]), hrv⟩

end Go.AV
