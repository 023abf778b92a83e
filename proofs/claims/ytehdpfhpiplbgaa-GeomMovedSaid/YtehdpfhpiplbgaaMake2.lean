/-
  Rules: new variables, literals, make, append, cutting a slice; what is left of the operations.
-/
import Derived.Test.YtehdpfhpiplbgaaMake
namespace Go.AV
set_option linter.unusedSimpArgs false
set_option linter.unusedVariables false
open Go.RowKit
variable {P : Program} {o : Oper} {T : Nat → V}

theorem PW.lits (r : V → Value → Prop) (h : ∀ u, r (.lit u) u) (us : List Value) : PW r (us.map .lit) us :=
  ⟨by simp, fun j x u hx hu => by
    rw [List.getElem?_map, hu] at hx
    simp at hx
    subst hx
    exact h u⟩

theorem fresh_of {D : Nat → Prop} {id : Nat} {ob : Option OB} {pre : List (Nat × OB)} (h : ∀ p ∈ [(id, ob)], p.1 ∈ pre.map (·.1) ∨ ¬ D p.1) (hp : id ∉ pre.map (·.1)) : ¬ D id :=
  (h (id, ob) (by simp)).resolve_left hp

/-- A new block of cells, a pointer to it. -/
theorem new_box {σ : Nat → Option Value} {R : Nat → Nat → Prop} {base : Nat} {w0 : Org} {w : World} {O : Nat → Option OB} {D : Nat → Prop} (hs : SimH σ R base w0 w O D) {id : Nat} (hid : ¬ D id) {cs : List V} {us : List Value}
    (el : TypeId) (h1 : ∀ u ∈ us, u.oneCell' = true) (hpw : PW (RV σ R w) cs us) :
    ∃ σ', SimH σ' R base w0 (w.alloc (.cells us.toArray el)) (upd O [(id, some (.box cs))]) (dset D [(id, some (.box cs))]) ∧ Ext σ R w σ' R (w.alloc (.cells us.toArray el)) ∧
      RV σ' R (w.alloc (.cells us.toArray el)) (.ptr id 0) (.pointer (some ⟨w.heap.size, 0, none⟩)) := by
  have hR : ∀ j, ¬ R w.heap.size j := fun j hr => absurd (hs.rin _ _ hr) (Nat.lt_irrefl _)
  obtain ⟨σ', k1, k2, k3⟩ := hs.new (w' := w.alloc (.cells us.toArray el)) (id := id) (v := .pointer (some ⟨w.heap.size, 0, none⟩)) (ob := .box cs) (World.grownBy_alloc w _ none) hid
    (fun b hb => by simp [blockOf] at hb; omega) fun σ' e1 e2 hk =>
      ⟨w.heap.size, us.toArray, el, e1, Nat.le_trans hs.base_le hs.below.size, heap_alloc_new w _, by simpa using h1, by simpa using hpw.mono fun x u hx => hx.mono e2 hk, hR⟩
  exact ⟨σ', k1, k2, .ptr (a := ⟨w.heap.size, 0, none⟩) (n := 0) (c := 0) (off := 0) k3 (.inl rfl) rfl⟩

/-- A type's zero, in cells. -/
def zeroL (P : Program) (t : TypeId) : Option (List Value) :=
  match P.info? t with
  | some i =>
    match i.zero with
    | some z => if z.cells.toList.all (·.oneCell') then some z.cells.toList else none
    | none => none
  | none => none

theorem zeroL_spec {t : TypeId} {zs : List Value} (h : zeroL P t = some zs) : ∃ i z, P.info? t = some i ∧ i.zero = some z ∧ z.cells.toList = zs ∧ ∀ u ∈ zs, u.oneCell' = true := by
  unfold zeroL at h
  cases hi : P.info? t with
  | none => simp [hi] at h
  | some i =>
    rw [hi] at h
    simp only at h
    cases hz : i.zero with
    | none => simp [hz] at h
    | some z =>
      rw [hz] at h
      simp only at h
      split at h
      · rename_i ha
        cases h
        exact ⟨i, z, rfl, hz, rfl, List.all_eq_true.1 ha⟩
      · cases h

theorem ok_alloc {t : TypeId} (ho : o.op = .alloc t) {zs : List Value} (hz : zeroL P t = some zs) (id : Nat) : OpOK P o T ⟨.ptr id 0, [], [(id, some (.box (zs.map .lit)))]⟩ :=
  opok_do fun {σ R base w0 w O D} a hs _ hf _ => by
    obtain ⟨i, z, h1, h2, rfl, h4⟩ := zeroL_spec hz
    obtain ⟨σ', k1, k2, k3⟩ := new_box hs (fresh_of hf (by simp)) t h4 (PW.lits _ (fun u => .tree (.lit u)) z.cells.toList)
    refine ⟨_, _, σ', R, .inl ?_, k1, k2, k3⟩
    simp [execOp, ho, Instr.alloc, zeroValue, typeInfo, h1, h2, newVar, newRow]

theorem ok_box {t : TypeId} {x : Operand} (ho : o.op = .box t x) {v : V} (hx : ev T x = v) (hv : v.storable = true) (id : Nat) : OpOK P o T ⟨.ptr id 0, [], [(id, some (.box v.cells))]⟩ :=
  opok_do fun {σ R base w0 w O D} a hs _ hf hr => by
    have hx' := hr x (by simp [ho, Op.operands])
    rw [hx] at hx'
    obtain ⟨h1, hpw⟩ := cells_rv hv hx'
    obtain ⟨σ', k1, k2, k3⟩ := new_box hs (fresh_of hf (by simp)) t h1 hpw
    refine ⟨_, _, σ', R, .inl ?_, k1, k2, k3⟩
    simp [execOp, ho, Instr.box, newVar, newRow]

/-- Parts put into cells. -/
def fillV (pl : List (Nat × Nat)) (cells : List V) : List (Nat × V) → Option (List V)
  | [] => some cells
  | (i, v) :: rest =>
    match pl[i]? with
    | none => none
    | some (off, size) => if v.storable && v.cells.length == size && decide (off + v.cells.length ≤ cells.length) then fillV pl (splice cells off v.cells) rest else none

theorem foldl_set (off : Nat) : ∀ (l : List Value) (s : Nat) (cells : Array Value), off + s + l.length ≤ cells.size →
    ((l.zipIdx s).foldl (fun cs (x : Value × Nat) => cs.setIfInBounds (off + x.2) x.1) cells).toList = cells.toList.take (off + s) ++ l ++ cells.toList.drop (off + s + l.length)
  | [], s, cells, _ => by simp
  | v :: l, s, cells, h => by
    simp only [List.length_cons] at h
    rw [List.zipIdx_cons, List.foldl_cons, foldl_set off l (s + 1) _ (by simp; omega)]
    have e := list_seg_step cells.toList (off + s) v l (by simp; omega)
    rw [Array.toList_setIfInBounds, show off + (s + 1) = off + s + 1 by omega]
    exact e

theorem fill_rv {r : V → Value → Prop} {place : Nat → Option (Nat × Nat)} {pl : List (Nat × Nat)} (hpl : ∀ (i : Nat) (p : Nat × Nat), pl[i]? = some p → place i = some p)
    (hr : ∀ {v : V} {u : Value}, v.storable = true → r v u → (∀ x ∈ u.cells.toList, x.oneCell' = true) ∧ PW r v.cells u.cells.toList) :
    ∀ (parts : List (Nat × V)) (parts' : List (Nat × Value)) (cells cells' : List V) (us : Array Value), fillV pl cells parts = some cells' → parts'.length = parts.length →
      (∀ (j : Nat) (p : Nat × V) (q : Nat × Value), parts[j]? = some p → parts'[j]? = some q → q.1 = p.1 ∧ r p.2 q.2) → PW r cells us.toList → (∀ u ∈ us.toList, u.oneCell' = true) →
      ∃ us', Instr.fill place us parts' = some us' ∧ PW r cells' us'.toList ∧ ∀ u ∈ us'.toList, u.oneCell' = true
  | [], [], cells, cells', us, h, _, _, hpw, h1 => by
    cases h
    exact ⟨us, rfl, hpw, h1⟩
  | [], _ :: _, _, _, _, _, hl, _, _, _ => by simp at hl
  | _ :: _, [], _, _, _, _, hl, _, _, _ => by simp at hl
  | (i, v) :: parts, (i', u) :: parts', cells, cells', us, h, hl, hp, hpw, h1 => by
    obtain ⟨e1, e2⟩ := hp 0 _ _ rfl rfl
    simp only at e1 e2
    subst e1
    unfold fillV at h
    cases hq : pl[i']? with
    | none => simp [hq] at h
    | some p =>
      obtain ⟨off, size⟩ := p
      rw [hq] at h
      simp only at h
      split at h
      · rename_i hc
        simp only [Bool.and_eq_true, beq_iff_eq, decide_eq_true_eq] at hc
        obtain ⟨⟨hst, hsz⟩, hle⟩ := hc
        obtain ⟨k1, k2⟩ := hr hst e2
        have hlen : u.cells.size = v.cells.length := by simpa using k2.1
        have hul : us.size = cells.length := by simpa using hpw.1
        have hfold : (u.cells.zipIdx.foldl (fun cs (x : Value × Nat) => cs.setIfInBounds (off + x.2) x.1) us).toList = us.toList.take off ++ u.cells.toList ++ us.toList.drop (off + u.cells.toList.length) := by
          rw [← Array.foldl_toList, Array.toList_zipIdx]
          have := foldl_set off u.cells.toList 0 us (by simp; omega)
          simpa using this
        have hpw' : PW r (splice cells off v.cells) (u.cells.zipIdx.foldl (fun cs (x : Value × Nat) => cs.setIfInBounds (off + x.2) x.1) us).toList := by
          rw [hfold]
          have := ((hpw.take off).append k2).append (hpw.drop (off + v.cells.length))
          rw [k2.1]
          exact this
        have h1' : ∀ x ∈ (u.cells.zipIdx.foldl (fun cs (x : Value × Nat) => cs.setIfInBounds (off + x.2) x.1) us).toList, x.oneCell' = true := by
          rw [hfold]
          intro x hx
          simp only [List.mem_append] at hx
          rcases hx with (hx | hx) | hx
          · exact h1 x (List.mem_of_mem_take hx)
          · exact k1 x hx
          · exact h1 x (List.mem_of_mem_drop hx)
        obtain ⟨us', e3, e4, e5⟩ := fill_rv hpl hr parts parts' _ cells' _ h (by simpa using hl) (fun j p q hj hj' => hp (j + 1) p q (by simpa using hj) (by simpa using hj')) hpw' h1'
        refine ⟨us', ?_, e4, e5⟩
        unfold Instr.fill
        rw [hpl i' _ hq]
        simp only
        rw [if_neg (by simp [hlen, hsz, hul]; omega)]
        exact e3
      · cases h

/-- The places and the zeros of a struct or an array type. -/
def bplan (P : Program) (t : TypeId) : Option (List (Nat × Nat) × List Value) :=
  match P.info? t, P.underlying t with
  | some it, some (.array n e) =>
    match it.zero, P.info? e with
    | some z, some ie => if z.cells.toList.all (·.oneCell') then some ((List.range n).map fun i => (i * ie.size, ie.size), z.cells.toList) else none
    | _, _ => none
  | some it, some (.struct fields) =>
    match it.zero, fields.toList.mapM (fun f => (P.info? f.type).map fun i => (f.offset, i.size)) with
    | some z, some places => if z.cells.toList.all (·.oneCell') then some (places, z.cells.toList) else none
    | _, _ => none
  | _, _ => none

theorem bplan_built {t : TypeId} {pl : List (Nat × Nat)} {zs : List Value} (h : bplan P t = some (pl, zs)) :
    ∃ place : Nat → Option (Nat × Nat), (∀ (i : Nat) (p : Nat × Nat), pl[i]? = some p → place i = some p) ∧ (∀ u ∈ zs, u.oneCell' = true) ∧ ∀ parts, P.built t parts = Instr.fill place zs.toArray parts := by
  unfold bplan at h
  cases hi : P.info? t with
  | none => simp [hi] at h
  | some it =>
    cases hu : P.underlying t with
    | none => simp [hi, hu] at h
    | some d =>
      cases d with
      | array n e =>
        rw [hi, hu] at h
        simp only at h
        cases hz : it.zero with
        | none => simp [hz] at h
        | some z =>
          cases he : P.info? e with
          | none => simp [hz, he] at h
          | some ie =>
            rw [hz, he] at h
            simp only at h
            split at h
            · rename_i ha
              simp only [Option.some.injEq, Prod.mk.injEq] at h
              obtain ⟨rfl, rfl⟩ := h
              refine ⟨fun i => some (i * ie.size, ie.size), fun i p hp => ?_, List.all_eq_true.1 ha, fun parts => by simp [Program.built, hi, hu, hz, he]⟩
              rw [List.getElem?_map] at hp
              cases hr : (List.range n)[i]? with
              | none => simp [hr] at hp
              | some k =>
                rw [hr] at hp
                have : k = i := by
                  obtain ⟨hlt, hk⟩ := List.getElem?_eq_some_iff.1 hr
                  simpa using hk.symm
                subst this
                simpa using hp
            · cases h
      | struct fields =>
        rw [hi, hu] at h
        simp only at h
        cases hz : it.zero with
        | none => simp [hz] at h
        | some z =>
          cases hm : fields.toList.mapM (fun f => (P.info? f.type).map fun i => (f.offset, i.size)) with
          | none => simp [hz, hm] at h
          | some places =>
            rw [hz, hm] at h
            simp only at h
            split at h
            · rename_i ha
              simp only [Option.some.injEq, Prod.mk.injEq] at h
              obtain ⟨rfl, rfl⟩ := h
              exact ⟨(places.toArray[·]?), fun i p hp => by simpa using hp, List.all_eq_true.1 ha, fun parts => by simp [Program.built, hi, hu, hz, hm]⟩
            · cases h
      | _ => simp [hi, hu] at h

theorem rv_cells {σ : Nat → Option Value} {R : Nat → Nat → Prop} {w : World} : ∀ {v : V} {u : Value}, v.storable = true → RV σ R w v u → (∀ x ∈ u.cells.toList, x.oneCell' = true) ∧ PW (RV σ R w) v.cells u.cells.toList :=
  fun h k => cells_rv h k

theorem parts_rel {σ : Nat → Option Value} {R : Nat → Nat → Prop} {w : World} {a : Act} {parts : Array (Nat × Operand)} (h : ∀ p ∈ parts.toList, RV σ R w (ev T p.2) (a.eval p.2)) :
    (parts.map fun (i, x) => (i, a.eval x)).toList.length = (parts.toList.map fun (i, x) => (i, ev T x)).length ∧
    ∀ (j : Nat) (p : Nat × V) (q : Nat × Value), (parts.toList.map fun (i, x) => (i, ev T x))[j]? = some p → (parts.map fun (i, x) => (i, a.eval x)).toList[j]? = some q → q.1 = p.1 ∧ RV σ R w p.2 q.2 := by
  refine ⟨by simp, fun j p q hp hq => ?_⟩
  rw [List.getElem?_map] at hp
  rw [Array.toList_map, List.getElem?_map] at hq
  cases hj : parts.toList[j]? with
  | none => simp [hj] at hp
  | some x =>
    rw [hj] at hp hq
    simp only [Option.map_some, Option.some.injEq] at hp hq
    subst hp
    subst hq
    exact ⟨rfl, h x (List.mem_of_getElem? hj)⟩

theorem ok_build {t : TypeId} {parts : Array (Nat × Operand)} (ho : o.op = .build t parts) {pl : List (Nat × Nat)} {zs : List Value} (hb : bplan P t = some (pl, zs)) {cs : List V}
    (hf : fillV pl (zs.map .lit) (parts.toList.map fun (i, x) => (i, ev T x)) = some cs) : OpOK P o T ⟨.agg cs, [], []⟩ :=
  opok_quiet fun {σ R base w0 w O D} a hs _ hr => by
    obtain ⟨place, h1, h2, h3⟩ := bplan_built hb
    have hparts : ∀ p ∈ parts.toList, RV σ R w (ev T p.2) (a.eval p.2) := fun p hp => hr p.2 (by
      simp only [ho, Op.operands, List.mem_toArray, List.mem_map]
      exact ⟨p, hp, rfl⟩)
    obtain ⟨e1, e2⟩ := parts_rel (T := T) hparts
    obtain ⟨us', k1, k2, k3⟩ := fill_rv (r := RV σ R w) h1 rv_cells _ _ _ cs zs.toArray hf e1 e2 (by simpa using PW.lits (RV σ R w) (fun u => .tree (.lit u)) zs) (by simpa using h2)
    have hrun := run_build (P := P) w t (parts.map fun (i, x) => (i, a.eval x)) us' ((h3 _).trans k1)
    refine ⟨.agg us', .inl (by simp [execOp, ho, hrun]), ?_⟩
    have := RV.agg (σ := σ) (R := R) (w := w) us'.toList k2.1 k3 k2.2
    simpa using this

/-- A new row of the call's own. -/
theorem new_row {σ : Nat → Option Value} {R : Nat → Nat → Prop} {base : Nat} {w0 : Org} {w : World} {O : Nat → Option OB} {D : Nat → Prop} (hs : SimH σ R base w0 w O D) {id : Nat} (hid : ¬ D id) {e : TypeId} {es n : Nat}
    {cs : List V} {us : List Value} (hn : n ≤ maxLen) (hl : us.length = n * es) (h1 : ∀ u ∈ us, u.oneCell' = true) (hpw : PW (RV σ R w) cs us) :
    ∃ σ', SimH σ' R base w0 (w.alloc (.cells us.toArray e)) (upd O [(id, some (.row e es n cs))]) (dset D [(id, some (.row e es n cs))]) ∧ Ext σ R w σ' R (w.alloc (.cells us.toArray e)) ∧
      RV σ' R (w.alloc (.cells us.toArray e)) (.ref id) (.slice (some ⟨w.heap.size, 0, none⟩) n n) := by
  have hR : ∀ j, ¬ R w.heap.size j := fun j hr => absurd (hs.rin _ _ hr) (Nat.lt_irrefl _)
  have hown := World.ownsRow_lit (base := base) (e := e) (size := es) w us.toArray n (Nat.le_trans hs.base_le hs.below.size) hn (by simpa using hl)
  obtain ⟨σ', k1, k2, k3⟩ := hs.new (w' := w.alloc (.cells us.toArray e)) (id := id) (v := .slice (some ⟨w.heap.size, 0, none⟩) n n) (ob := .row e es n cs) (World.grownBy_alloc w _ none) hid
    (fun b hb => by simp [blockOf] at hb; omega) fun σ' e1 e2 hk =>
      ⟨_, _, e1, hown, by simpa using h1, by simpa using hpw.mono fun x u hx => hx.mono e2 hk, fun g hg => by simp [Value.ownBlock] at hg; subst hg; exact hR⟩
  exact ⟨σ', k1, k2, .ref k3 rfl⟩

theorem madeCells_one (z : List Value) (n : Nat) (hz : z.length = 1) : (madeCells z.toArray n).toList = (List.replicate n z).flatten := by
  obtain ⟨u, rfl⟩ : ∃ u, z = [u] := by
    cases z with
    | nil => simp at hz
    | cons u l => cases l with
      | nil => exact ⟨u, rfl⟩
      | cons _ _ => simp at hz
  rw [toList_madeCells_one]
  induction n with
  | zero => rfl
  | succ n ih => rw [List.replicate_succ, ih, List.replicate_succ]; simp

theorem madeCells_rep (z : List Value) (n : Nat) (hz : 0 < z.length) : (madeCells z.toArray (n * z.length)).toList = (List.replicate n z).flatten := by
  apply List.ext_getElem?
  intro j
  have hlen : ∀ m, ((List.replicate m z).flatten).length = m * z.length := by
    intro m
    induction m with
    | zero => simp
    | succ m ih => rw [List.replicate_succ, List.flatten_cons, List.length_append, ih, Nat.succ_mul, Nat.add_comm]
  have hat : ∀ m j, j < m * z.length → ((List.replicate m z).flatten)[j]? = z[j % z.length]? := by
    intro m
    induction m with
    | zero => intro j h; simp at h
    | succ m ih =>
      intro j h
      rw [List.replicate_succ, List.flatten_cons]
      by_cases hj : j < z.length
      · rw [List.getElem?_append_left hj, Nat.mod_eq_of_lt hj]
      · rw [List.getElem?_append_right (by omega), ih _ (by rw [Nat.succ_mul] at h; omega), ← Nat.mod_eq_sub_mod (by omega)]
  by_cases hj : j < n * z.length
  · rw [hat n j hj]
    have hm : j % z.length < z.length := Nat.mod_lt _ hz
    simp [madeCells, hj, hm]
  · rw [List.getElem?_eq_none (l := (List.replicate n z).flatten) (by rw [hlen]; omega), List.getElem?_eq_none (by simp [madeCells]; omega)]

theorem ok_buildSlice {t : TypeId} {len : Nat} {parts : Array (Nat × Operand)} (ho : o.op = .buildSlice t len parts) {e : TypeId} {es : Nat} (ht : elemN P t = some (e, es)) {zs : List Value} (hz : zeroL P e = some zs)
    (hzl : zs.length = es) (hpos : 0 < es) (hsz : len * es ≤ 2 ^ 24) {cs : List V}
    (hf : fillV ((List.range len).map fun i => (i * es, es)) ((List.replicate len (zs.map V.lit)).flatten) (parts.toList.map fun (i, x) => (i, ev T x)) = some cs) (id : Nat) :
    OpOK P o T ⟨.ref id, [], [(id, some (.row e es len cs))]⟩ :=
  opok_do fun {σ R base w0 w O D} a hs _ hfr hr => by
    obtain ⟨hu, inf, hi, hes⟩ := elemN_spec ht
    obtain ⟨i, z, h1, h2, h3, h4⟩ := zeroL_spec hz
    rw [hi] at h1
    cases h1
    have hparts : ∀ p ∈ parts.toList, RV σ R w (ev T p.2) (a.eval p.2) := fun p hp => hr p.2 (by
      simp only [ho, Op.operands, List.mem_toArray, List.mem_map]
      exact ⟨p, hp, rfl⟩)
    obtain ⟨e1, e2⟩ := parts_rel (T := T) hparts
    have hzz : z.cells = zs.toArray := by rw [← h3]
    have hmade : ((Array.range (len * es)).map fun i => z.cells[i % z.cells.size]!).toList = (List.replicate len zs).flatten := by
      have := madeCells_rep zs len (by omega)
      rw [hzl] at this
      rw [hzz]; exact this
    have hpw0 : PW (RV σ R w) ((List.replicate len (zs.map V.lit)).flatten) ((List.replicate len zs).flatten) := by
      have := PW.lits (RV σ R w) (fun u => .tree (.lit u)) ((List.replicate len zs).flatten)
      rwa [List.map_flatten, List.map_replicate] at this
    have h1c : ∀ u ∈ (List.replicate len zs).flatten, u.oneCell' = true := by
      intro u hu
      obtain ⟨l, hl, hul⟩ := List.mem_flatten.1 hu
      rw [List.eq_of_mem_replicate hl] at hul
      exact h4 u hul
    obtain ⟨us', k1, k2, k3⟩ := fill_rv (r := RV σ R w) (place := fun i => some (i * es, es)) (pl := (List.range len).map fun i => (i * es, es)) (fun i p hp => by
        rw [List.getElem?_map] at hp
        cases hrg : (List.range len)[i]? with
        | none => simp [hrg] at hp
        | some k =>
          rw [hrg] at hp
          have : k = i := by
            obtain ⟨hlt, hk⟩ := List.getElem?_eq_some_iff.1 hrg
            simpa using hk.symm
          subst this
          simpa using hp) rv_cells _ _ _ cs ((Array.range (len * es)).map fun i => z.cells[i % z.cells.size]!) hf e1 e2 (by rw [hmade]; exact hpw0) (by rw [hmade]; exact h1c)
    have hcl : cs.length = len * es := by
      have key : ∀ (ps : List (Nat × V)) (c c' : List V), fillV ((List.range len).map fun i => (i * es, es)) c ps = some c' → c'.length = c.length := by
        intro ps
        induction ps with
        | nil => intro c c' h; cases h; rfl
        | cons p ps ih =>
          intro c c' h
          obtain ⟨i, v⟩ := p
          unfold fillV at h
          split at h
          · cases h
          · split at h
            · rename_i hc
              simp only [Bool.and_eq_true, beq_iff_eq, decide_eq_true_eq] at hc
              rw [ih _ _ h]
              simp only [splice, List.length_append, List.length_take, List.length_drop]
              omega
            · cases h
      rw [key _ _ _ hf]
      have : ∀ m, ((List.replicate m (zs.map V.lit)).flatten).length = m * es := by
        intro m
        induction m with
        | zero => simp
        | succ m ih => rw [List.replicate_succ, List.flatten_cons, List.length_append, ih, List.length_map, hzl, Nat.succ_mul, Nat.add_comm]
      exact this len
    have hul : us'.toList.length = len * es := by rw [k2.1, hcl]
    obtain ⟨σ', j1, j2, j3⟩ := new_row hs (fresh_of hfr (by simp)) (e := e) (es := es) (n := len) (by
      have : len ≤ len * es := Nat.le_mul_of_pos_right _ hpos
      simp only [maxLen]; omega) hul k3 k2
    have hrun : (Instr.buildSlice t len (parts.map fun (i, x) => (i, a.eval x))).run P w = .ok (.slice (some ⟨w.heap.size, 0, none⟩) len len) (w.alloc (.cells us'.toList.toArray e)) := by
      unfold Instr.buildSlice
      simp only [Sem.run_bind, run_underlying hu, Result.andThen_ok, sizeOf, typeInfo, run_program, hi, Sem.run_pure, hes]
      rw [if_neg (by omega)]
      by_cases h0 : len * es = 0
      · have hlen0 : len = 0 := by
          rcases Nat.mul_eq_zero.1 h0 with h | h
          · exact h
          · omega
        subst hlen0
        have hmap : ∀ f : Nat → Value, (Array.range 0).map f = #[] := fun f => Array.ext' (by simp)
        simp only [Nat.zero_mul, hmap] at k1 ⊢
        simp only [if_true]
        rw [k1]
        simp [newRow]
      · simp only [h0, if_false]
        simp [zeroValue, typeInfo, hi, h2, newRow]
        have k1' : Instr.fill (fun i => some (i * es, es)) ((Array.range (len * es)).map fun i => z.cells[i % z.cells.size]!) (parts.map fun (i, x) => (i, a.eval x)).toList = some us' := k1
        simp at k1'
        simp [k1']
    refine ⟨_, _, σ', R, .inl ?_, j1, j2, j3⟩
    simp only [execOp, ho]
    rw [Sem.run_bind, hrun]
    rfl

end Go.AV
