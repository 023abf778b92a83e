/-
  The operations' outcomes as equations.
-/
import Derived.Test.YtehdpfhpiplbgaaStep
namespace Go.AV
set_option linter.unusedSimpArgs false
set_option linter.unusedVariables false
open Go.RowKit

section
variable {P : Program} {T : Nat → V} {O : Nat → Option OB} {n : Nat} {dst : Option Nat} {ty : TypeId} {pos : String} {af : Array Edge} {g : Option (Nat × Bool)}

theorem ev_tmp (i : Nat) : ev T (.tmp i) = T i := rfl
theorem ev_const (v : Value) : ev T (.const v) = .lit v := rfl
theorem ev_func (f : FuncId) : ev T (.func f) = .lit (.func (.func f) #[] #[]) := rfl


theorem evBin_int {op : BinOp} {t : TypeId} {k : IntKind} {a b : Int} {y : Operand} : evBin P op t (.lit (.int k a)) (.lit (.int k b)) y = (evInt op k a b).map .lit := by simp [evBin]
theorem evBin_shl {t : TypeId} {k k' : IntKind} {a b : Int} {y : Operand} : evBin P .shl t (.lit (.int k a)) (.lit (.int k' b)) y = (evInt .shl k a b).map .lit := by simp [evBin, isShift]
theorem evBin_shr {t : TypeId} {k k' : IntKind} {a b : Int} {y : Operand} : evBin P .shr t (.lit (.int k a)) (.lit (.int k' b)) y = (evInt .shr k a b).map .lit := by simp [evBin, isShift]
theorem evBin_str {op : BinOp} {t : TypeId} {a b : ByteArray} {y : Operand} : evBin P op t (.lit (.string a)) (.lit (.string b)) y = (evStr op a b).map .lit := rfl
theorem evBin_bool {op : BinOp} {t : TypeId} {a b : Bool} {y : Operand} : evBin P op t (.lit (.bool a)) (.lit (.bool b)) y = if isBool P t then
      match op with
      | .eql => some (.lit (.bool ((a == b) != false)))
      | .neq => some (.lit (.bool ((a == b) != true)))
      | _ => none
    else none := rfl

variable {k : IntKind} {a b : Int}
theorem evInt_add : evInt .add k a b = some (.int k (k.wrap (a + b))) := rfl
theorem evInt_sub : evInt .sub k a b = some (.int k (k.wrap (a - b))) := rfl
theorem evInt_mul : evInt .mul k a b = some (.int k (k.wrap (a * b))) := rfl
theorem evInt_quo : evInt .quo k a b = if b = 0 then none else some (.int k (k.wrap (a.tdiv b))) := rfl
theorem evInt_rem : evInt .rem k a b = if b = 0 then none else some (.int k (a.tmod b)) := rfl
theorem evInt_eql : evInt .eql k a b = some (.bool (a == b)) := rfl
theorem evInt_neq : evInt .neq k a b = some (.bool (a != b)) := rfl
theorem evInt_lss : evInt .lss k a b = some (.bool (decide (a < b))) := rfl
theorem evInt_leq : evInt .leq k a b = some (.bool (decide (a ≤ b))) := rfl
theorem evInt_gtr : evInt .gtr k a b = some (.bool (decide (b < a))) := rfl
theorem evInt_geq : evInt .geq k a b = some (.bool (decide (b ≤ a))) := rfl

theorem evStr_eql {a b : ByteArray} : evStr .eql a b = some (.bool (a.toList == b.toList)) := rfl
theorem evStr_neq {a b : ByteArray} : evStr .neq a b = some (.bool (!(a.toList == b.toList))) := rfl
theorem evUn_not {c : Bool} : evUn .not (.lit (.bool c)) = some ⟨.lit (.bool (!c)), [], []⟩ := rfl
theorem evUn_neg : evUn .neg (.lit (.int k a)) = some ⟨.lit (.int k (k.wrap (0 - a))), [], []⟩ := rfl
theorem evPick_true {x y : V} : evPick (.lit (.bool true)) x y = some ⟨x, [], []⟩ := rfl
theorem evPick_false {x y : V} : evPick (.lit (.bool false)) x y = some ⟨y, [], []⟩ := rfl
theorem evPick_b {c : Bool} {x y : V} : evPick (.lit (.bool c)) x y = some ⟨if c then x else y, [], []⟩ := rfl

theorem evPick_same {c : Bool} {x : V} : evPick (.lit (.bool c)) x x = some ⟨x, [], []⟩ := by cases c <;> rfl
theorem storable_agg (cs : List V) : (V.agg cs).storable = true := rfl
theorem storable_int : (V.lit (.int k a)).storable = true := rfl
theorem storable_str {c : ByteArray} : (V.lit (.string c)).storable = true := rfl
theorem storable_bool {c : Bool} : (V.lit (.bool c)).storable = true := rfl
theorem storable_nil : (V.lit (.slice none 0 0)).storable = true := rfl
theorem storable_ref (i : Nat) : (V.ref i).storable = true := rfl
theorem cells_nil : (V.lit (.slice none 0 0)).cells = [V.lit (.slice none 0 0)] := rfl
theorem cells_ref (i : Nat) : (V.ref i).cells = [V.ref i] := rfl
theorem cells_bool {c : Bool} : (V.lit (.bool c)).cells = [V.lit (.bool c)] := rfl
theorem storable_lst (es : Nat) (l : List V) : (V.lst es l).storable = true := rfl
theorem cells_agg (cs : List V) : (V.agg cs).cells = cs := rfl
theorem cells_int : (V.lit (.int k a)).cells = [V.lit (.int k a)] := rfl
theorem cells_lst (es : Nat) (l : List V) : (V.lst es l).cells = [V.lst es l] := rfl

def evFieldK (v : V) : Option Nat → Option Fp
  | some off =>
    match v with
    | .ptr id j => q1 (.ptr id (j + off))
    | .iptr cs => q1 (.iptr (cs.drop off))
    | _ => none
  | none => none
theorem evField_ptr {t : TypeId} {f : Nat} {id j : Nat} : evField P t f (.ptr id j) = evFieldK (.ptr id j) (fieldOff P t f) := by unfold evField evFieldK; cases fieldOff P t f <;> rfl
theorem evField_iptr {t : TypeId} {f : Nat} {cs : List V} : evField P t f (.iptr cs) = evFieldK (.iptr cs) (fieldOff P t f) := by unfold evField evFieldK; cases fieldOff P t f <;> rfl
theorem evFieldK_ptr {id j off : Nat} : evFieldK (.ptr id j) (some off) = some ⟨.ptr id (j + off), [], []⟩ := rfl
theorem evFieldK_iptr {cs : List V} {off : Nat} : evFieldK (.iptr cs) (some off) = some ⟨.iptr (cs.drop off), [], []⟩ := rfl

def evLoadK (O : Nat → Option OB) (v : V) : Option (Nat × Bool) → Option Fp
  | some (n, agg) =>
    match v with
    | .ptr id j =>
      match O id with
      | some ob => (evRead (obCells ob) j n agg).map fun v => ⟨v, [(id, ob)], []⟩
      | none => none
    | .iptr cs => (evRead cs 0 n agg).map fun v => ⟨v, [], []⟩
    | _ => none
  | none => none
theorem evLoad_K {t : TypeId} {v : V} : evLoad P O t v = evLoadK O v (cellsN P t) := by unfold evLoad evLoadK; cases cellsN P t <;> rfl
def evLoadO (id j m : Nat) (agg : Bool) : Option OB → Option Fp
  | some ob => (evRead (obCells ob) j m agg).map fun v => ⟨v, [(id, ob)], []⟩
  | none => none
theorem evLoadK_ptr {id j m : Nat} {agg : Bool} : evLoadK O (.ptr id j) (some (m, agg)) = evLoadO id j m agg (O id) := by unfold evLoadK evLoadO; cases h : O id <;> simp [h]
theorem evLoadO_some {id j m : Nat} {agg : Bool} {ob : OB} : evLoadO id j m agg (some ob) = (evRead (obCells ob) j m agg).map fun v => ⟨v, [(id, ob)], []⟩ := rfl
theorem evLoadK_iptr {cs : List V} {m : Nat} {agg : Bool} : evLoadK O (.iptr cs) (some (m, agg)) = (evRead cs 0 m agg).map fun v => ⟨v, [], []⟩ := rfl
theorem evRead_one {cs : List V} {j m : Nat} : evRead cs j m false = cs[j]? := rfl
theorem evRead_agg {cs : List V} {j m : Nat} : evRead cs j m true = if j + m ≤ cs.length then some (.agg ((cs.drop j).take m)) else none := rfl
theorem obCells_box (cs : List V) : obCells (.box cs) = cs := rfl
theorem obCells_row (e : TypeId) (es m : Nat) (cs : List V) : obCells (.row e es m cs) = cs := rfl

def evLenK (O : Nat → Option OB) (v : V) (isl : Bool) : Option Fp :=
  if isl = true then (lenOf O v).map fun (pre, n) => ⟨.lit (.int .i64 n), pre, []⟩ else none
theorem lenOf_lst (es : Nat) (l : List V) : lenOf O (.lst es l) = some ([], l.length) := rfl
theorem evLen_lst {t : TypeId} {es : Nat} {l : List V} : evLen P O t (.lst es l) = if isSlice P t = true then some ⟨.lit (.int .i64 l.length), [], []⟩ else (if isStr P t = true then none else none) := by simp [evLen, lenOf]
theorem evLen_nil {t : TypeId} : evLen P O t (.lit (.slice none 0 0)) = if isSlice P t = true then some ⟨.lit (.int .i64 (0 : Nat)), [], []⟩ else (if isStr P t = true then none else none) := by simp [evLen, lenOf]

def evIdxK (l : List V) (i : Int) (es : Nat) : Option (TypeId × Nat) → Option Fp
  | some (_, es') => if es' = es ∧ 0 < es ∧ 0 ≤ i then (l[i.toNat]?).map (fun v => ⟨.iptr v.cells, [], []⟩) else none
  | none => none
theorem evIndex_lst {t : TypeId} {es : Nat} {l : List V} : evIndex P O t (.lst es l) (.lit (.int k a)) = evIdxK l a es (elemN P t) := by unfold evIndex evIdxK; cases elemN P t <;> rfl

def sizeN (P : Program) (t : TypeId) : Option Nat := (P.info? t).map (·.size)
def evStoreO (id j : Nat) (v : V) (m : Option Nat) : Option OB → Option Fp
  | some ob => if v.storable = true ∧ m = some v.cells.length ∧ j + v.cells.length ≤ (obCells ob).length then some ⟨.lit undef, [(id, ob)], [(id, some (obPut ob j v.cells))]⟩ else none
  | none => none
theorem evStore_ptr {t : TypeId} {id j : Nat} {v : V} : evStore P O t (.ptr id j) v = evStoreO id j v (sizeN P t) (O id) := by unfold evStore evStoreO; cases h : O id <;> simp [h, sizeN]
theorem evStoreO_some {id j m : Nat} {v : V} {ob : OB} : evStoreO id j v (some m) (some ob) = if v.storable = true ∧ m = v.cells.length ∧ j + v.cells.length ≤ (obCells ob).length then some ⟨.lit undef, [(id, ob)], [(id, some (obPut ob j v.cells))]⟩ else none := by simp [evStoreO]
theorem obPut_box (cs : List V) (j : Nat) (vs : List V) : obPut (.box cs) j vs = .box (splice cs j vs) := rfl
theorem obPut_row (e : TypeId) (es m : Nat) (cs : List V) (j : Nat) (vs : List V) : obPut (.row e es m cs) j vs = .row e es m (splice cs j vs) := rfl
theorem splice_zero (c : V) (cs : List V) (vs : List V) : splice (c :: cs) 0 vs = vs ++ (c :: cs).drop vs.length := by simp [splice]
theorem splice_succ (c : V) (cs : List V) (j : Nat) (vs : List V) : splice (c :: cs) (j + 1) vs = c :: splice cs j vs := by simp [splice, Nat.add_right_comm]
def evAllocK (new : Nat) : Option (List Value) → Option Fp
  | some zs => some ⟨.ptr new 0, [], [(new, some (.box (zs.map .lit)))]⟩
  | none => none
theorem evAlloc_K {i : Nat} {t : TypeId} : evAlloc P i t = evAllocK i (zeroL P t) := by unfold evAlloc evAllocK; cases zeroL P t <;> rfl
theorem evAllocK_some {i : Nat} {zs : List Value} : evAllocK i (some zs) = some ⟨.ptr i 0, [], [(i, some (.box (zs.map .lit)))]⟩ := rfl
theorem evIdxK_some {l : List V} {i : Int} {es es' : Nat} {e : TypeId} : evIdxK l i es (some (e, es')) = if es' = es ∧ 0 < es ∧ 0 ≤ i then (l[i.toNat]?).map (fun v => ⟨.iptr v.cells, [], []⟩) else none := rfl

/-! Rows. -/
def plan (es : Nat) : Nat → Nat → List (Nat × Nat)
  | _, 0 => []
  | s, m + 1 => (s * es, es) :: plan es (s + 1) m
theorem plan_eq (es : Nat) : ∀ m s, (List.range' s m).map (fun i => (i * es, es)) = plan es s m
  | 0, s => rfl
  | m + 1, s => by rw [List.range'_succ, List.map_cons, plan_eq es m (s + 1)]; rfl
theorem plan_zero (es s : Nat) : plan es s 0 = [] := rfl
theorem plan_succ (es s m : Nat) : plan es s (m + 1) = (s * es, es) :: plan es (s + 1) m := rfl
def repV (zs : List V) : Nat → List V
  | 0 => []
  | m + 1 => zs ++ repV zs m
theorem repV_eq (zs : List V) : ∀ m, (List.replicate m zs).flatten = repV zs m
  | 0 => rfl
  | m + 1 => by rw [List.replicate_succ, List.flatten_cons, repV_eq zs m]; rfl
theorem repV_zero (zs : List V) : repV zs 0 = [] := rfl
theorem repV_succ (zs : List V) (m : Nat) : repV zs (m + 1) = zs ++ repV zs m := rfl
def fillK (pl : List (Nat × Nat)) (cells : List V) (v : V) (rest : List (Nat × V)) : Option (Nat × Nat) → Option (List V)
  | none => none
  | some (off, size) => if v.storable = true ∧ v.cells.length = size ∧ off + v.cells.length ≤ cells.length then fillV pl (splice cells off v.cells) rest else none
theorem fillV_nil {pl : List (Nat × Nat)} {cells : List V} : fillV pl cells [] = some cells := rfl
theorem fillV_cons {pl : List (Nat × Nat)} {cells : List V} {i : Nat} {v : V} {rest : List (Nat × V)} : fillV pl cells ((i, v) :: rest) = fillK pl cells v rest (pl[i]?) := by
  rw [fillV]
  unfold fillK
  cases h : pl[i]? with
  | none => rfl
  | some p => simp [and_assoc, Bool.and_eq_true]
theorem fillK_some {pl : List (Nat × Nat)} {cells : List V} {v : V} {rest : List (Nat × V)} {off size : Nat} : fillK pl cells v rest (some (off, size)) = if v.storable = true ∧ v.cells.length = size ∧ off + v.cells.length ≤ cells.length then fillV pl (splice cells off v.cells) rest else none := rfl

def evBuildSliceZ (new : Nat) (len : Nat) (e : TypeId) (es : Nat) (parts : List (Nat × V)) : Option (List Value) → Option Fp
  | some zs => if zs.length = es ∧ 0 < es ∧ len * es ≤ 16777216 then (fillV (plan es 0 len) (repV (zs.map V.lit) len) parts).map fun cs => ⟨.ref new, [], [(new, some (.row e es len cs))]⟩ else none
  | none => none
def evBuildSliceK (P : Program) (new : Nat) (len : Nat) (parts : List (Nat × V)) : Option (TypeId × Nat) → Option Fp
  | some (e, es) => evBuildSliceZ new len e es parts (zeroL P e)
  | none => none
theorem evBuildSlice_K {i : Nat} {t : TypeId} {l : Nat} {ps : List (Nat × V)} : evBuildSlice P i t l ps = evBuildSliceK P i l ps (elemN P t) := by
  unfold evBuildSlice evBuildSliceK
  cases elemN P t with
  | none => rfl
  | some p =>
    obtain ⟨e, es⟩ := p
    simp only [evBuildSliceZ]
    cases zeroL P e with
    | none => rfl
    | some zs => simp only [List.range_eq_range', plan_eq, repV_eq, Nat.reducePow]
theorem evBuildSliceK_some {i l es : Nat} {e : TypeId} {ps : List (Nat × V)} : evBuildSliceK P i l ps (some (e, es)) = evBuildSliceZ i l e es ps (zeroL P e) := rfl
theorem evBuildSliceZ_some {i l es : Nat} {e : TypeId} {ps : List (Nat × V)} {zs : List Value} : evBuildSliceZ i l e es ps (some zs) = if zs.length = es ∧ 0 < es ∧ l * es ≤ 16777216 then (fillV (plan es 0 l) (repV (zs.map V.lit) l) ps).map fun cs => ⟨.ref i, [], [(i, some (.row e es l cs))]⟩ else none := rfl

def evBuildK (parts : List (Nat × V)) : Option (List (Nat × Nat) × List Value) → Option Fp
  | some (pl, zs) => (fillV pl (zs.map .lit) parts).map fun cs => ⟨.agg cs, [], []⟩
  | none => none
theorem evBuild_K {t : TypeId} {ps : List (Nat × V)} : evBuild P t ps = evBuildK ps (bplan P t) := by unfold evBuild evBuildK; cases bplan P t <;> rfl
theorem evBuildK_some {ps : List (Nat × V)} {pl : List (Nat × Nat)} {zs : List Value} : evBuildK ps (some (pl, zs)) = (fillV pl (zs.map .lit) ps).map fun cs => ⟨.agg cs, [], []⟩ := rfl

def evLenR (id : Nat) : Option OB → Option Fp
  | some (.row e es m cs) => some ⟨.lit (.int .i64 m), [(id, .row e es m cs)], []⟩
  | _ => none
theorem evLen_ref {t : TypeId} {id : Nat} : evLen P O t (.ref id) = if isSlice P t = true then evLenR id (O id) else (if isStr P t = true then none else none) := by
  unfold evLen evLenR lenOf
  split
  · cases h : O id with
    | none => simp [h]
    | some ob => cases ob <;> simp [h]
  · rfl
theorem evLenR_some {id es m : Nat} {e : TypeId} {cs : List V} : evLenR id (some (.row e es m cs)) = some ⟨.lit (.int .i64 m), [(id, .row e es m cs)], []⟩ := rfl

def evIdxR (id : Nat) (i : Int) : Option OB → Option (TypeId × Nat) → Option Fp
  | some (.row e es m cs), some (_, es') => if es' = es ∧ 0 ≤ i ∧ i < m then some ⟨.ptr id (i.toNat * es), [(id, .row e es m cs)], []⟩ else none
  | _, _ => none
theorem evIndex_ref {t : TypeId} {id : Nat} : evIndex P O t (.ref id) (.lit (.int k a)) = evIdxR id a (O id) (elemN P t) := by
  unfold evIndex evIdxR
  cases h : O id with
  | none => simp [h]
  | some ob => cases ob <;> cases h2 : elemN P t <;> simp [h]
theorem evIdxR_some {id es es' m : Nat} {e e' : TypeId} {cs : List V} {i : Int} : evIdxR id i (some (.row e es m cs)) (some (e', es')) = if es' = es ∧ 0 ≤ i ∧ i < m then some ⟨.ptr id (i.toNat * es), [(id, .row e es m cs)], []⟩ else none := rfl

def rowR (id : Nat) (e : TypeId) (es : Nat) : Option OB → Option (List (Nat × OB) × Nat × List V)
  | some (.row e' es' n cs) => if e' = e ∧ es' = es then some ([(id, .row e' es' n cs)], n, cs) else none
  | _ => none
def srcR (id : Nat) (es : Nat) : Option OB → Option (List (Nat × OB) × Nat × List V)
  | some (.row e' es' n cs) => if es' = es then some ([(id, .row e' es' n cs)], n, cs) else none
  | _ => none
theorem rowOf_ref {e : TypeId} {es id : Nat} : rowOf O e es (.ref id) = rowR id e es (O id) := by
  unfold rowOf rowR
  cases h : O id with
  | none => simp [h]
  | some ob => cases ob <;> simp [h]
theorem srcOf_ref {es id : Nat} : srcOf O es (.ref id) = srcR id es (O id) := by
  unfold srcOf srcR
  cases h : O id with
  | none => simp [h]
  | some ob => cases ob <;> simp [h]
theorem rowR_some {id es es' m : Nat} {e e' : TypeId} {cs : List V} : rowR id e es (some (.row e' es' m cs)) = if e' = e ∧ es' = es then some ([(id, .row e' es' m cs)], m, cs) else none := rfl
theorem srcR_some {id es es' m : Nat} {e' : TypeId} {cs : List V} : srcR id es (some (.row e' es' m cs)) = if es' = es then some ([(id, .row e' es' m cs)], m, cs) else none := rfl
theorem rowOf_nil {e : TypeId} {es : Nat} : rowOf O e es (.lit (.slice none 0 0)) = some ([], 0, []) := rfl
theorem srcOf_nil {es : Nat} : srcOf O es (.lit (.slice none 0 0)) = some ([], 0, []) := rfl
theorem srcOf_lst {es es' : Nat} {l : List V} : srcOf O es (.lst es' l) = if es' = es then some ([], l.length, cellsOf l) else none := rfl
def evAppendP (new : Nat) (a : V) (e : TypeId) (es by_ : Nat) (zs : List Value) : Option (List (Nat × OB) × Nat × List V) → Option (List (Nat × OB) × Nat × List V) → Option Fp
  | some (p1, n, cs), some (p2, m, ds) => if zs.length = es ∧ 0 < es ∧ n + m ≤ maxLen ∧ (n + m) * by_ ≤ 140737488355328 ∧ new ∉ (p1 ++ p2).map (·.1) then some ⟨.ref new, p1 ++ p2, appPost a new (.row e es (n + m) (cs ++ ds))⟩ else none
  | _, _ => none
def evAppendB (O : Nat → Option OB) (new : Nat) (a b : V) (e : TypeId) (es : Nat) : Option (List Value) → Option Nat → Option Fp
  | some zs, some by_ => evAppendP new a e es by_ zs (rowOf O e es a) (srcOf O es b)
  | _, _ => none
def evAppendK (P : Program) (O : Nat → Option OB) (new : Nat) (a b : V) : Option (TypeId × Nat) → Option Fp
  | some (e, es) => evAppendB O new a b e es (zeroL P e) (bytesN P e)
  | none => none
theorem evAppend_K {i : Nat} {t : TypeId} {a b : V} : evAppend P O i t a b = evAppendK P O i a b (elemN P t) := by
  unfold evAppend evAppendK
  cases elemN P t with
  | none => rfl
  | some p =>
    obtain ⟨e, es⟩ := p
    simp only [evAppendB]
    cases zeroL P e <;> cases bytesN P e <;> first | rfl | (simp only [evAppendP]; cases rowOf O e es a <;> cases srcOf O es b <;> rfl)
theorem evAppendK_some {i es : Nat} {e : TypeId} {a b : V} : evAppendK P O i a b (some (e, es)) = evAppendB O i a b e es (zeroL P e) (bytesN P e) := rfl
theorem evAppendB_some {i es by_ : Nat} {e : TypeId} {a b : V} {zs : List Value} : evAppendB O i a b e es (some zs) (some by_) = evAppendP i a e es by_ zs (rowOf O e es a) (srcOf O es b) := rfl
theorem evAppendP_some {i es by_ n m : Nat} {e : TypeId} {a : V} {zs : List Value} {p1 p2 : List (Nat × OB)} {cs ds : List V} : evAppendP i a e es by_ zs (some (p1, n, cs)) (some (p2, m, ds)) =
    if zs.length = es ∧ 0 < es ∧ n + m ≤ maxLen ∧ (n + m) * by_ ≤ 140737488355328 ∧ i ∉ (p1 ++ p2).map (·.1) then some ⟨.ref i, p1 ++ p2, appPost a i (.row e es (n + m) (cs ++ ds))⟩ else none := rfl
theorem appPost_ref {old i : Nat} {ob : OB} : appPost (.ref old) i ob = [(i, some ob), (old, none)] := rfl
theorem appPost_nil {i : Nat} {ob : OB} : appPost (.lit (.slice none 0 0)) i ob = [(i, some ob)] := rfl

theorem evAppend_nil {t : TypeId} {i : Nat} {e : TypeId} {es m by_ : Nat} {zs : List Value} {id : Nat} {ds : List V} (he : elemN P t = some (e, es)) (hz : zeroL P e = some zs) (hb : bytesN P e = some by_) (hO : O id = some (.row e es m ds))
    (h : zs.length = es ∧ 0 < es ∧ m ≤ maxLen ∧ m * by_ ≤ 140737488355328 ∧ i ≠ id) :
    evAppend P O i t (.lit (.slice none 0 0)) (.ref id) = some ⟨.ref i, [(id, .row e es m ds)], [(i, some (.row e es m ds))]⟩ := by
  obtain ⟨h1, h2, h3, h4, h5⟩ := h
  simp [evAppend, he, hz, hb, rowOf, srcOf, hO, h1, h2, h3, h4, h5, appPost]
theorem evAppend_row {t : TypeId} {i : Nat} {e : TypeId} {es m m0 by_ : Nat} {zs : List Value} {id id0 : Nat} {ds cs : List V} (he : elemN P t = some (e, es)) (hz : zeroL P e = some zs) (hb : bytesN P e = some by_)
    (hO : O id = some (.row e es m ds)) (hO0 : O id0 = some (.row e es m0 cs)) (h : zs.length = es ∧ 0 < es ∧ m0 + m ≤ maxLen ∧ (m0 + m) * by_ ≤ 140737488355328 ∧ i ≠ id ∧ i ≠ id0) :
    evAppend P O i t (.ref id0) (.ref id) = some ⟨.ref i, [(id0, .row e es m0 cs), (id, .row e es m ds)], [(i, some (.row e es (m0 + m) (cs ++ ds))), (id0, none)]⟩ := by
  obtain ⟨h1, h2, h3, h4, h5, h6⟩ := h
  simp [evAppend, he, hz, hb, rowOf, srcOf, hO, hO0, h1, h2, h3, h4, h5, h6, appPost]

def evConvK (n : Int) : Option IntKind → Option Fp
  | some k => some ⟨.lit (.int k (k.wrap n)), [], []⟩
  | none => none
theorem evConv_K {s d : TypeId} {n : Int} : evConv P s d (.lit (.int k n)) = evConvK n (convK P s d) := by unfold evConv evConvK; cases convK P s d <;> rfl
theorem evConvK_some {k' : IntKind} {n : Int} : evConvK n (some k') = some ⟨.lit (.int k' (k'.wrap n)), [], []⟩ := rfl
theorem evExtract_tup {vs : List V} {i : Nat} : evExtract (.tup vs) i = (vs[i]?).map fun v => ⟨v, [], []⟩ := rfl
theorem evMax_int {k' : IntKind} : evMax (.lit (.int k a)) (.lit (.int k' b)) = some ⟨.lit (.int k (if b > a then b else a)), [], []⟩ := rfl
theorem evMin_int {k' : IntKind} : evMin (.lit (.int k a)) (.lit (.int k' b)) = some ⟨.lit (.int k (if b < a then b else a)), [], []⟩ := rfl

def evMakeB (new : Nat) (n m : Int) (e : TypeId) (es : Nat) : Option (List Value) → Option Nat → Option Fp
  | some zs, some by_ => if n = m ∧ zs.length = es ∧ 0 < es ∧ 0 ≤ n ∧ by_ * n.toNat ≤ 281474976710656 ∧ n.toNat ≤ maxLen then
          some ⟨.ref new, [], [(new, some (.row e es n.toNat ((List.replicate n.toNat (zs.map V.lit)).flatten)))]⟩ else none
  | _, _ => none
def evMakeK (P : Program) (new : Nat) (n m : Int) : Option (TypeId × Nat) → Option Fp
  | some (e, es) => evMakeB new n m e es (zeroL P e) (bytesN P e)
  | none => none
theorem evMake_K {i : Nat} {t : TypeId} {n m : Int} {k' : IntKind} : evMake P i t (.lit (.int k n)) (.lit (.int k' m)) = evMakeK P i n m (elemN P t) := by
  unfold evMake evMakeK
  cases elemN P t with
  | none => rfl
  | some p =>
    obtain ⟨e, es⟩ := p
    simp only [evMakeB]
    cases zeroL P e <;> cases bytesN P e <;> rfl
theorem evMakeK_some {i es : Nat} {e : TypeId} {n m : Int} : evMakeK P i n m (some (e, es)) = evMakeB i n m e es (zeroL P e) (bytesN P e) := rfl
theorem evMakeB_some {i es by_ : Nat} {e : TypeId} {n m : Int} {zs : List Value} : evMakeB i n m e es (some zs) (some by_) = if n = m ∧ zs.length = es ∧ 0 < es ∧ 0 ≤ n ∧ by_ * n.toNat ≤ 281474976710656 ∧ n.toNat ≤ maxLen then
          some ⟨.ref i, [], [(i, some (.row e es n.toNat ((List.replicate n.toNat (zs.map V.lit)).flatten)))]⟩ else none := rfl
theorem flatten_one {n : Nat} {x : V} : (List.replicate n [x]).flatten = List.replicate n x := by
  induction n with
  | zero => rfl
  | succ n ih => rw [List.replicate_succ, List.flatten_cons, ih]; rfl

def evCutK (l : List V) (es : Nat) : Option (TypeId × Nat) → Option Nat → Option Nat → Option Fp
  | some (_, es'), some i, some j => if es' = es ∧ i ≤ j ∧ j ≤ l.length then some ⟨.lst es ((l.take j).drop i), [], []⟩ else none
  | _, _, _ => none
theorem evCut_lst {t : TypeId} {es : Nat} {l : List V} {lo hi : Option Operand} : evCut P T t (.lst es l) lo hi none = evCutK l es (elemN P t) (bnd T 0 lo) (bnd T l.length hi) := by
  unfold evCut evCutK
  simp only [q1]
  cases elemN P t with
  | none => rfl
  | some p => cases bnd T 0 lo with
    | none => rfl
    | some i => cases h : bnd T l.length hi with
      | none => simp only [h]
      | some j => simp only [h]
theorem evCutK_some {l : List V} {es es' i j : Nat} {e : TypeId} : evCutK l es (some (e, es')) (some i) (some j) = if es' = es ∧ i ≤ j ∧ j ≤ l.length then some ⟨.lst es ((l.take j).drop i), [], []⟩ else none := rfl
theorem bnd_none {d : Nat} : bnd T d none = some d := rfl
def bndV : V → Option Nat
  | .lit (.int _ i) => if 0 ≤ i then some i.toNat else none
  | _ => none
theorem bnd_some {d : Nat} {x : Operand} : bnd T d (some x) = bndV (ev T x) := rfl
theorem bndV_int : bndV (.lit (.int k a)) = if 0 ≤ a then some a.toNat else none := rfl

theorem nextK_nil (i : Nat) : nextK i [] = i := rfl
theorem nextK_cons (i : Nat) (p : Nat × Option OB) (l : List (Nat × Option OB)) : nextK i (p :: l) = i + 1 := rfl
theorem if_lit {c : Bool} {x y : Value} : (if c = true then V.lit x else V.lit y) = V.lit (if c = true then x else y) := by cases c <;> rfl
end

section
variable {P : Program} {Q : Exit → ES → Prop} {k : List Fr} {N n : Nat} {Ts : List V} {Os : List (Option OB)} {ops rest : List Oper} {dr : Bool} {acc : List (List Nat × List Nat)} {dst : Option Nat} {ty : TypeId} {pos : String} {af : Array Edge}

theorem exl_move (x : Operand) : exl P Q k ops dr (⟨dst, .move x, ty, pos, af, none⟩ :: rest) acc N Ts Os n = opk P Q k ops dr rest acc N Ts Os n dst (some ⟨ev (tg Ts) x, [], []⟩) := exl_op rfl
theorem exl_assign (x : Operand) : exl P Q k ops dr (⟨dst, .assign x, ty, pos, af, none⟩ :: rest) acc N Ts Os n = opk P Q k ops dr rest acc N Ts Os n dst (some ⟨ev (tg Ts) x, [], []⟩) := exl_op rfl
theorem exl_pick (c a b : Operand) : exl P Q k ops dr (⟨dst, .pick c a b, ty, pos, af, none⟩ :: rest) acc N Ts Os n = opk P Q k ops dr rest acc N Ts Os n dst (evPick (ev (tg Ts) c) (ev (tg Ts) a) (ev (tg Ts) b)) := exl_op rfl
theorem exl_alloc (t : TypeId) : exl P Q k ops dr (⟨dst, .alloc t, ty, pos, af, none⟩ :: rest) acc N Ts Os n = opk P Q k ops dr rest acc N Ts Os n dst (evAlloc P n t) := exl_op rfl
theorem exl_box (t : TypeId) (x : Operand) : exl P Q k ops dr (⟨dst, .box t x, ty, pos, af, none⟩ :: rest) acc N Ts Os n = opk P Q k ops dr rest acc N Ts Os n dst (evBox n (ev (tg Ts) x)) := exl_op rfl
theorem exl_build (t : TypeId) (ps : List (Nat × Operand)) : exl P Q k ops dr (⟨dst, .build t ps.toArray, ty, pos, af, none⟩ :: rest) acc N Ts Os n = opk P Q k ops dr rest acc N Ts Os n dst (evBuild P t (ps.map fun (i, x) => (i, ev (tg Ts) x))) := exl_op rfl
theorem exl_buildSlice (t : TypeId) (l : Nat) (ps : List (Nat × Operand)) : exl P Q k ops dr (⟨dst, .buildSlice t l ps.toArray, ty, pos, af, none⟩ :: rest) acc N Ts Os n = opk P Q k ops dr rest acc N Ts Os n dst (evBuildSlice P n t l (ps.map fun (i, x) => (i, ev (tg Ts) x))) := exl_op rfl
theorem exl_load (t : TypeId) (x : Operand) : exl P Q k ops dr (⟨dst, .load t x, ty, pos, af, none⟩ :: rest) acc N Ts Os n = opk P Q k ops dr rest acc N Ts Os n dst (evLoad P (og Os) t (ev (tg Ts) x)) := exl_op rfl
theorem exl_store (t : TypeId) (x y : Operand) : exl P Q k ops dr (⟨dst, .store t x y, ty, pos, af, none⟩ :: rest) acc N Ts Os n = opk P Q k ops dr rest acc N Ts Os n dst (evStore P (og Os) t (ev (tg Ts) x) (ev (tg Ts) y)) := exl_op rfl
theorem exl_nilCheck (x : Operand) : exl P Q k ops dr (⟨dst, .nilCheck x, ty, pos, af, none⟩ :: rest) acc N Ts Os n = opk P Q k ops dr rest acc N Ts Os n dst (if (ev (tg Ts) x).isRef = true then some ⟨ev (tg Ts) x, [], []⟩ else none) := exl_op rfl
theorem exl_binOp (op : BinOp) (t : TypeId) (x y : Operand) (t' : TypeId) : exl P Q k ops dr (⟨dst, .binOp op t x y t', ty, pos, af, none⟩ :: rest) acc N Ts Os n = opk P Q k ops dr rest acc N Ts Os n dst ((evBin P op t (ev (tg Ts) x) (ev (tg Ts) y) y).map fun v => ⟨v, [], []⟩) := exl_op rfl
theorem exl_unOp (op : UnOp) (t : TypeId) (x : Operand) : exl P Q k ops dr (⟨dst, .unOp op t x, ty, pos, af, none⟩ :: rest) acc N Ts Os n = opk P Q k ops dr rest acc N Ts Os n dst (evUn op (ev (tg Ts) x)) := exl_op rfl
theorem exl_convert (s d : TypeId) (x : Operand) : exl P Q k ops dr (⟨dst, .convert s d x, ty, pos, af, none⟩ :: rest) acc N Ts Os n = opk P Q k ops dr rest acc N Ts Os n dst (evConv P s d (ev (tg Ts) x)) := exl_op rfl
theorem exl_makeSlice (t : TypeId) (l c : Operand) : exl P Q k ops dr (⟨dst, .makeSlice t l c, ty, pos, af, none⟩ :: rest) acc N Ts Os n = opk P Q k ops dr rest acc N Ts Os n dst (evMake P n t (ev (tg Ts) l) (ev (tg Ts) c)) := exl_op rfl
theorem exl_slice (t : TypeId) (x : Operand) (lo hi mx : Option Operand) : exl P Q k ops dr (⟨dst, .slice t x lo hi mx, ty, pos, af, none⟩ :: rest) acc N Ts Os n = opk P Q k ops dr rest acc N Ts Os n dst (evCut P (tg Ts) t (ev (tg Ts) x) lo hi mx) := exl_op rfl
theorem exl_fieldAddr (s : TypeId) (x : Operand) (f : Nat) : exl P Q k ops dr (⟨dst, .fieldAddr s x f, ty, pos, af, none⟩ :: rest) acc N Ts Os n = opk P Q k ops dr rest acc N Ts Os n dst (evField P s f (ev (tg Ts) x)) := exl_op rfl
theorem exl_indexAddr (t : TypeId) (x y : Operand) : exl P Q k ops dr (⟨dst, .indexAddr t x y, ty, pos, af, none⟩ :: rest) acc N Ts Os n = opk P Q k ops dr rest acc N Ts Os n dst (evIndex P (og Os) t (ev (tg Ts) x) (ev (tg Ts) y)) := exl_op rfl
theorem exl_index (t : TypeId) (x y : Operand) : exl P Q k ops dr (⟨dst, .index t x y, ty, pos, af, none⟩ :: rest) acc N Ts Os n = opk P Q k ops dr rest acc N Ts Os n dst (evIndexV P t (ev (tg Ts) x) (ev (tg Ts) y)) := exl_op rfl
theorem exl_extract (x : Operand) (i : Nat) : exl P Q k ops dr (⟨dst, .extract x i, ty, pos, af, none⟩ :: rest) acc N Ts Os n = opk P Q k ops dr rest acc N Ts Os n dst (evExtract (ev (tg Ts) x) i) := exl_op rfl
theorem exl_len (x : Operand) (t : TypeId) : exl P Q k ops dr (⟨dst, .call ⟨.builtin .len, #[x], #[t]⟩, ty, pos, af, none⟩ :: rest) acc N Ts Os n = opk P Q k ops dr rest acc N Ts Os n dst (evLen P (og Os) t (ev (tg Ts) x)) := exl_op rfl
theorem exl_append (x y : Operand) (t t' : TypeId) : exl P Q k ops dr (⟨dst, .call ⟨.builtin .append, #[x, y], #[t, t']⟩, ty, pos, af, none⟩ :: rest) acc N Ts Os n = opk P Q k ops dr rest acc N Ts Os n dst (if t' = t then evAppend P (og Os) n t (ev (tg Ts) x) (ev (tg Ts) y) else none) := exl_op rfl
theorem exl_max (x y : Operand) (l : Array TypeId) : exl P Q k ops dr (⟨dst, .call ⟨.builtin .max, #[x, y], l⟩, ty, pos, af, none⟩ :: rest) acc N Ts Os n = opk P Q k ops dr rest acc N Ts Os n dst (evMax (ev (tg Ts) x) (ev (tg Ts) y)) := exl_op rfl
theorem exl_min (x y : Operand) (l : Array TypeId) : exl P Q k ops dr (⟨dst, .call ⟨.builtin .min, #[x, y], l⟩, ty, pos, af, none⟩ :: rest) acc N Ts Os n = opk P Q k ops dr rest acc N Ts Os n dst (evMin (ev (tg Ts) x) (ev (tg Ts) y)) := exl_op rfl
end

theorem w64 {n : Int} (h : -9223372036854775808 ≤ n ∧ n ≤ 9223372036854775807) : IntKind.i64.wrap n = n := by rw [IntKind.wrap_i64]; omega

theorem rt_len {R : Nat → Nat → Prop} {w : World} {es : Nat} {l : List V} {u : Value} (h : RT R w (.lst es l) u) : l.length ≤ maxLen := by
  cases h with
  | lst us hn hc hcm => omega

/-- A slice that is handed over is no longer than a slice may be. -/
theorem pure_lst {P : Program} {f : FuncId} {vs : List V} {r : V} {es : Nat} {l : List V} (j : Nat) (hj : vs[j]? = some (.lst es l)) (h : l.length ≤ 9223372036854775807 → PureC P f vs r) : PureC P f vs r := fun R w us hin hargs => by
  refine h ?_ R w us hin hargs
  have hj' : j < us.length := by rw [hargs.1]; exact (List.getElem?_eq_some_iff.1 hj).1
  have := rt_len (hargs.2 j _ _ hj (List.getElem?_eq_getElem hj'))
  simpa [maxLen] using this

theorem pure_agg {P : Program} {f : FuncId} {vs : List V} {r : V} {es : Nat} {l cs : List V} (j i : Nat) (hj : vs[j]? = some (.agg cs)) (hi : cs[i]? = some (.lst es l)) (h : l.length ≤ 9223372036854775807 → PureC P f vs r) : PureC P f vs r := fun R w us hin hargs => by
  refine h ?_ R w us hin hargs
  have hj' : j < us.length := by rw [hargs.1]; exact (List.getElem?_eq_some_iff.1 hj).1
  have := hargs.2 j _ _ hj (List.getElem?_eq_getElem hj')
  generalize us[j] = u at this
  cases this with
  | agg ws hl _ hrt =>
    have hi' : i < ws.length := by rw [hl]; exact (List.getElem?_eq_some_iff.1 hi).1
    have := rt_len (hrt i _ _ hi (List.getElem?_eq_getElem hi'))
    simpa [maxLen] using this

end Go.AV
