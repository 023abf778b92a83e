/-
  The operations' meaning as functions, and that they are sound.
-/
import Derived.Test.YtehdpfhpiplbgaaMisc
namespace Go.AV
set_option linter.unusedSimpArgs false
set_option linter.unusedVariables false
open Go.RowKit

def q1 (v : V) : Option Fp := some ⟨v, [], []⟩

def evPick (a b c : V) : Option Fp :=
  match a with
  | .lit (.bool t) => some ⟨if t then b else c, [], []⟩
  | _ => none

def evBin (P : Program) (op : BinOp) (t : TypeId) (a b : V) (yc : Operand) : Option V :=
  match a, b with
  | .lit (.int k x), .lit (.int k' y) => if k = k' ∨ isShift op = true then (evInt op k x y).map .lit else none
  | .lit (.string x), .lit (.string y) => (evStr op x y).map .lit
  | .lit (.bool x), .lit (.bool y) =>
    if isBool P t then
      match op with
      | .eql => some (.lit (.bool ((x == y) != false)))
      | .neq => some (.lit (.bool ((x == y) != true)))
      | _ => none
    else none
  | a, .lit (.pointer none) =>
    match yc with
    | .const (.pointer none) =>
      if isPtr P t then
        match ptrNil a, op with
        | some r, .eql => some (.lit (.bool (r != false)))
        | some r, .neq => some (.lit (.bool (r != true)))
        | _, _ => none
      else none
    | _ => none
  | a, .lit (.slice none 0 0) =>
    match yc with
    | .const (.slice none 0 0) =>
      if isSlice P t then
        match sliceNil a, op with
        | some r, .eql => some (.lit (.bool (r != false)))
        | some r, .neq => some (.lit (.bool (r != true)))
        | _, _ => none
      else none
    | _ => none
  | _, _ => none

def evLoad (P : Program) (O : Nat → Option OB) (t : TypeId) (a : V) : Option Fp :=
  match cellsN P t with
  | some (n, agg) =>
    match a with
    | .ptr id k =>
      match O id with
      | some ob => (evRead (obCells ob) k n agg).map fun v => ⟨v, [(id, ob)], []⟩
      | none => none
    | .iptr cs => (evRead cs 0 n agg).map fun v => ⟨v, [], []⟩
    | _ => none
  | none => none

def evStore (P : Program) (O : Nat → Option OB) (t : TypeId) (a v : V) : Option Fp :=
  match a with
  | .ptr id k =>
    match O id with
    | some ob =>
      if v.storable = true ∧ (P.info? t).map (·.size) = some v.cells.length ∧ k + v.cells.length ≤ (obCells ob).length then
        some ⟨.lit undef, [(id, ob)], [(id, some (obPut ob k v.cells))]⟩ else none
    | none => none
  | _ => none

def evField (P : Program) (s : TypeId) (f : Nat) (a : V) : Option Fp :=
  match fieldOff P s f with
  | some off =>
    match a with
    | .ptr id k => q1 (.ptr id (k + off))
    | .iptr cs => q1 (.iptr (cs.drop off))
    | _ => none
  | none => none

def evIndex (P : Program) (O : Nat → Option OB) (t : TypeId) (a b : V) : Option Fp :=
  match b with
  | .lit (.int _ i) =>
    match a with
    | .lst es l =>
      match elemN P t with
      | some (_, es') => if es' = es ∧ 0 < es ∧ 0 ≤ i then (l[i.toNat]?).map (fun v => ⟨.iptr v.cells, [], []⟩) else none
      | none => none
    | .ref id =>
      match O id, elemN P t with
      | some (.row e es n cs), some (_, es') => if es' = es ∧ 0 ≤ i ∧ i < n then some ⟨.ptr id (i.toNat * es), [(id, .row e es n cs)], []⟩ else none
      | _, _ => none
    | .ptr id q =>
      match arrN P t with
      | some (n, es) => if 0 ≤ i ∧ i < n then q1 (.ptr id (q + i.toNat * es)) else none
      | none => none
    | _ => none
  | _ => none

def evAlloc (P : Program) (new : Nat) (t : TypeId) : Option Fp := (zeroL P t).map fun zs => ⟨.ptr new 0, [], [(new, some (.box (zs.map .lit)))]⟩

def evBox (new : Nat) (v : V) : Option Fp := if v.storable = true then some ⟨.ptr new 0, [], [(new, some (.box v.cells))]⟩ else none

def evBuild (P : Program) (t : TypeId) (parts : List (Nat × V)) : Option Fp :=
  match bplan P t with
  | some (pl, zs) => (fillV pl (zs.map .lit) parts).map fun cs => ⟨.agg cs, [], []⟩
  | none => none

def evBuildSlice (P : Program) (new : Nat) (t : TypeId) (len : Nat) (parts : List (Nat × V)) : Option Fp :=
  match elemN P t with
  | some (e, es) =>
    match zeroL P e with
    | some zs =>
      if zs.length = es ∧ 0 < es ∧ len * es ≤ 2 ^ 24 then
        (fillV ((List.range len).map fun i => (i * es, es)) ((List.replicate len (zs.map V.lit)).flatten) parts).map fun cs => ⟨.ref new, [], [(new, some (.row e es len cs))]⟩
      else none
    | none => none
  | none => none

def evMake (P : Program) (new : Nat) (t : TypeId) (a b : V) : Option Fp :=
  match elemN P t with
  | some (e, es) =>
    match zeroL P e, bytesN P e with
    | some zs, some by_ =>
      match a, b with
      | .lit (.int _ n), .lit (.int _ m) =>
        if n = m ∧ zs.length = es ∧ 0 < es ∧ 0 ≤ n ∧ by_ * n.toNat ≤ 281474976710656 ∧ n.toNat ≤ maxLen then
          some ⟨.ref new, [], [(new, some (.row e es n.toNat ((List.replicate n.toNat (zs.map V.lit)).flatten)))]⟩ else none
      | _, _ => none
    | _, _ => none
  | none => none

def rowOf (O : Nat → Option OB) (e : TypeId) (es : Nat) : V → Option (List (Nat × OB) × Nat × List V)
  | .ref id =>
    match O id with
    | some (.row e' es' n cs) => if e' = e ∧ es' = es then some ([(id, .row e' es' n cs)], n, cs) else none
    | _ => none
  | .lit (.slice none 0 0) => some ([], 0, [])
  | _ => none

def srcOf (O : Nat → Option OB) (es : Nat) : V → Option (List (Nat × OB) × Nat × List V)
  | .lst es' l => if es' = es then some ([], l.length, cellsOf l) else none
  | .ref id =>
    match O id with
    | some (.row e' es' n cs) => if es' = es then some ([(id, .row e' es' n cs)], n, cs) else none
    | _ => none
  | .lit (.slice none 0 0) => some ([], 0, [])
  | .emp => some ([], 0, [])
  | .nil0 => some ([], 0, [])
  | _ => none

def evAppend (P : Program) (O : Nat → Option OB) (new : Nat) (t : TypeId) (a b : V) : Option Fp :=
  match elemN P t with
  | some (e, es) =>
    match zeroL P e, bytesN P e with
    | some zs, some by_ =>
      match rowOf O e es a, srcOf O es b with
      | some (p1, n, cs), some (p2, m, ds) =>
        if zs.length = es ∧ 0 < es ∧ n + m ≤ maxLen ∧ (n + m) * by_ ≤ 140737488355328 ∧ new ∉ (p1 ++ p2).map (·.1) then
          some ⟨.ref new, p1 ++ p2, appPost a new (.row e es (n + m) (cs ++ ds))⟩ else none
      | _, _ => none
    | _, _ => none
  | none => none

def lenOf (O : Nat → Option OB) : V → Option (List (Nat × OB) × Nat)
  | .lst _ l => some ([], l.length)
  | .ref id =>
    match O id with
    | some (.row e es n cs) => some ([(id, .row e es n cs)], n)
    | _ => none
  | .lit (.slice none 0 0) => some ([], 0)
  | .emp => some ([], 0)
  | .nil0 => some ([], 0)
  | _ => none

def evLen (P : Program) (O : Nat → Option OB) (t : TypeId) (a : V) : Option Fp :=
  if isSlice P t then (lenOf O a).map fun (pre, n) => ⟨.lit (.int .i64 n), pre, []⟩
  else if isStr P t then
    match a with
    | .lit (.string s) => q1 (.lit (.int .i64 s.size))
    | _ => none
  else none

def evMax (a b : V) : Option Fp :=
  match a, b with
  | .lit (.int k x), .lit (.int _ y) => q1 (.lit (.int k (if y > x then y else x)))
  | _, _ => none
def evMin (a b : V) : Option Fp :=
  match a, b with
  | .lit (.int k x), .lit (.int _ y) => q1 (.lit (.int k (if y < x then y else x)))
  | _, _ => none

def evExtract (a : V) (i : Nat) : Option Fp :=
  match a with
  | .tup vs => (vs[i]?).map fun v => ⟨v, [], []⟩
  | _ => none

def evUn (op : UnOp) (a : V) : Option Fp :=
  match op, a with
  | .not, .lit (.bool b) => q1 (.lit (.bool (!b)))
  | .neg, .lit (.int k n) => q1 (.lit (.int k (k.wrap (0 - n))))
  | _, _ => none

def evConv (P : Program) (s d : TypeId) (a : V) : Option Fp :=
  match convK P s d, a with
  | some k, .lit (.int _ n) => q1 (.lit (.int k (k.wrap n)))
  | _, _ => none

def evIndexV (P : Program) (t : TypeId) (a b : V) : Option Fp :=
  match a, b with
  | .lit (.string s), .lit (.int _ i) => if isStr P t = true ∧ 0 ≤ i ∧ i < s.size then q1 (.lit (.int .u8 (s.data.getD i.toNat 0).toNat)) else none
  | _, _ => none

/-- A bound of a cut. -/
def bnd (T : Nat → V) (d : Nat) : Option Operand → Option Nat
  | none => some d
  | some x =>
    match ev T x with
    | .lit (.int _ i) => if 0 ≤ i then some i.toNat else none
    | _ => none

def evCut (P : Program) (T : Nat → V) (t : TypeId) (a : V) (lo hi mx : Option Operand) : Option Fp :=
  match mx, a with
  | none, .lst es l =>
    match elemN P t, bnd T 0 lo, bnd T l.length hi with
    | some (_, es'), some i, some j => if es' = es ∧ i ≤ j ∧ j ≤ l.length then q1 (.lst es ((l.take j).drop i)) else none
    | _, _, _ => none
  | _, _ => none

/-- What an operation does (no call of a Go function). -/
def evOp (P : Program) (T : Nat → V) (O : Nat → Option OB) (new : Nat) (o : Oper) : Option Fp :=
  match o.op with
  | .move x => q1 (ev T x)
  | .assign x => q1 (ev T x)
  | .pick c a b => evPick (ev T c) (ev T a) (ev T b)
  | .alloc t => evAlloc P new t
  | .box _ x => evBox new (ev T x)
  | .build t parts => evBuild P t (parts.toList.map fun (i, x) => (i, ev T x))
  | .buildSlice t len parts => evBuildSlice P new t len (parts.toList.map fun (i, x) => (i, ev T x))
  | .load t x => evLoad P O t (ev T x)
  | .store t x y => evStore P O t (ev T x) (ev T y)
  | .nilCheck x => if (ev T x).isRef = true then q1 (ev T x) else none
  | .binOp op t x y _ => (evBin P op t (ev T x) (ev T y) y).map fun v => ⟨v, [], []⟩
  | .unOp op _ x => evUn op (ev T x)
  | .convert s d x => evConv P s d (ev T x)
  | .makeFunc (.func f) first caps => q1 (.fn f (first.toList.map (ev T)) (caps.toList.map (ev T)))
  | .makeSlice t l c => evMake P new t (ev T l) (ev T c)
  | .slice t x lo hi mx => evCut P T t (ev T x) lo hi mx
  | .fieldAddr s x f => evField P s f (ev T x)
  | .indexAddr t x y => evIndex P O t (ev T x) (ev T y)
  | .index t x y => evIndexV P t (ev T x) (ev T y)
  | .extract x i => evExtract (ev T x) i
  | .call { callee := .builtin .len, args := ⟨[x]⟩, argTypes := ⟨[t]⟩ } => evLen P O t (ev T x)
  | .call { callee := .builtin .append, args := ⟨[x, y]⟩, argTypes := ⟨[t, t']⟩ } => if t' = t then evAppend P O new t (ev T x) (ev T y) else none
  | .call { callee := .builtin .max, args := ⟨[x, y]⟩, .. } => evMax (ev T x) (ev T y)
  | .call { callee := .builtin .min, args := ⟨[x, y]⟩, .. } => evMin (ev T x) (ev T y)
  | _ => none

/-- It keeps to its footprint, which is there. -/
structure EvOK (P : Program) (o : Oper) (T : Nat → V) (O : Nat → Option OB) (new : Nat) (F : Fp) : Prop where
  op : OpOK P o T F
  pre : ∀ p ∈ F.pre, O p.1 = some p.2
  post : ∀ p ∈ F.post, p.1 ∈ F.pre.map (·.1) ∨ p.1 = new

variable {P : Program} {o : Oper} {T : Nat → V} {O : Nat → Option OB} {new : Nat}

theorem EvOK.quiet {v : V} (h : OpOK P o T ⟨v, [], []⟩) : EvOK P o T O new ⟨v, [], []⟩ := ⟨h, by simp, by simp⟩

theorem q1_eq {v : V} {F : Fp} (h : q1 v = some F) : F = ⟨v, [], []⟩ := by simp [q1] at h; exact h.symm

theorem evBin_ok {op : BinOp} {t t' : TypeId} {x y : Operand} (ho : o.op = .binOp op t x y t') {v : V} (h : evBin P op t (ev T x) (ev T y) y = some v) : OpOK P o T ⟨v, [], []⟩ := by
  unfold evBin at h
  split at h
  · rename_i k a k' b hx hy
    split at h
    · rename_i hk
      obtain ⟨r, hr, rfl⟩ := Option.map_eq_some_iff.1 h
      exact ok_int ho hx hy hk hr
    · cases h
  · rename_i a b hx hy
    obtain ⟨r, hr, rfl⟩ := Option.map_eq_some_iff.1 h
    exact ok_str ho hx hy hr
  · rename_i a b hx hy
    split at h
    · rename_i ht
      split at h
      · cases h; exact ok_booleq (neg := false) ho ht hx hy
      · cases h; exact ok_booleq (neg := true) ho ht hx hy
      · cases h
    · cases h
  · rename_i hx
    split at h
    · split at h
      · rename_i ht
        split at h
        · rename_i r e1; cases h; exact ok_ptrnil (neg := false) ho ht rfl e1
        · rename_i r e1; cases h; exact ok_ptrnil (neg := true) ho ht rfl e1
        · cases h
      · cases h
    · cases h
  · rename_i hx
    split at h
    · split at h
      · rename_i ht
        split at h
        · rename_i r e1; cases h; exact ok_slicenil (neg := false) ho ht rfl e1
        · rename_i r e1; cases h; exact ok_slicenil (neg := true) ho ht rfl e1
        · cases h
      · cases h
    · cases h
  · cases h

theorem rowOf_spec {e : TypeId} {es : Nat} {v : V} {p : List (Nat × OB)} {n : Nat} {cs : List V} (h : rowOf O e es v = some (p, n, cs)) : RowOf v p e es n cs ∧ ∀ q ∈ p, O q.1 = some q.2 := by
  unfold rowOf at h
  split at h
  · rename_i id
    split at h
    · rename_i e' es' m ds hO
      split at h
      · rename_i he
        obtain ⟨rfl, rfl⟩ := he
        simp only [Option.some.injEq, Prod.mk.injEq] at h
        obtain ⟨rfl, rfl, rfl⟩ := h
        exact ⟨.row, by simpa using hO⟩
      · cases h
    · cases h
  · simp only [Option.some.injEq, Prod.mk.injEq] at h
    obtain ⟨rfl, rfl, rfl⟩ := h
    exact ⟨.nil, by simp⟩
  · cases h

theorem srcOf_spec {es : Nat} {v : V} {p : List (Nat × OB)} {n : Nat} {cs : List V} (h : srcOf O es v = some (p, n, cs)) : SrcOf v p es n cs ∧ ∀ q ∈ p, O q.1 = some q.2 := by
  unfold srcOf at h
  split at h
  · split at h
    · rename_i he
      subst he
      simp only [Option.some.injEq, Prod.mk.injEq] at h
      obtain ⟨rfl, rfl, rfl⟩ := h
      exact ⟨.lst, by simp⟩
    · cases h
  · split at h
    · rename_i e' es' m ds hO
      split at h
      · rename_i he
        subst he
        simp only [Option.some.injEq, Prod.mk.injEq] at h
        obtain ⟨rfl, rfl, rfl⟩ := h
        exact ⟨.row, by simpa using hO⟩
      · cases h
    · cases h
  · simp only [Option.some.injEq, Prod.mk.injEq] at h
    obtain ⟨rfl, rfl, rfl⟩ := h
    exact ⟨.nil, by simp⟩
  · simp only [Option.some.injEq, Prod.mk.injEq] at h
    obtain ⟨rfl, rfl, rfl⟩ := h
    exact ⟨.emp, by simp⟩
  · simp only [Option.some.injEq, Prod.mk.injEq] at h
    obtain ⟨rfl, rfl, rfl⟩ := h
    exact ⟨.nil0, by simp⟩
  · cases h

theorem lenOf_spec {v : V} {p : List (Nat × OB)} {n : Nat} (h : lenOf O v = some (p, n)) : LenOf v p n ∧ ∀ q ∈ p, O q.1 = some q.2 := by
  unfold lenOf at h
  split at h
  · simp only [Option.some.injEq, Prod.mk.injEq] at h
    obtain ⟨rfl, rfl⟩ := h
    exact ⟨.lst, by simp⟩
  · split at h
    · rename_i hO
      simp only [Option.some.injEq, Prod.mk.injEq] at h
      obtain ⟨rfl, rfl⟩ := h
      exact ⟨.row, by simpa using hO⟩
    · cases h
  · simp only [Option.some.injEq, Prod.mk.injEq] at h
    obtain ⟨rfl, rfl⟩ := h
    exact ⟨.nil, by simp⟩
  · simp only [Option.some.injEq, Prod.mk.injEq] at h
    obtain ⟨rfl, rfl⟩ := h
    exact ⟨.emp, by simp⟩
  · simp only [Option.some.injEq, Prod.mk.injEq] at h
    obtain ⟨rfl, rfl⟩ := h
    exact ⟨.nil0, by simp⟩
  · cases h

theorem bnd_spec {d : Nat} {x : Option Operand} {i : Nat} (h : bnd T d x = some i) : (∀ y, x = some y → ∃ k : IntKind, ev T y = .lit (.int k i)) ∧ (x = none → i = d) := by
  unfold bnd at h
  split at h
  · cases h; exact ⟨fun y hy => (nomatch hy), fun _ => rfl⟩
  · split at h
    · rename_i y k j hj
      split at h
      · rename_i h0
        cases h
        exact ⟨fun z hz => by cases hz; exact ⟨k, by rw [hj, Int.toNat_of_nonneg h0]⟩, fun hz => (nomatch hz)⟩
      · cases h
    · cases h

theorem evOp_ok {F : Fp} (h : evOp P T O new o = some F) : EvOK P o T O new F := by
  unfold evOp at h
  split at h
  case h_1 x ho => cases q1_eq h; exact .quiet (ok_move ho)
  case h_2 x ho => cases q1_eq h; exact .quiet (ok_assign ho)
  case h_3 c a b ho =>
    unfold evPick at h
    split at h
    · rename_i t hc; cases h; exact .quiet (ok_pick ho hc)
    · cases h
  case h_4 t ho =>
    unfold evAlloc at h
    obtain ⟨zs, hz, rfl⟩ := Option.map_eq_some_iff.1 h
    exact ⟨ok_alloc ho hz new, by simp, by simp⟩
  case h_5 t x ho =>
    unfold evBox at h
    split at h
    · rename_i hs; cases h; exact ⟨ok_box ho rfl hs new, by simp, by simp⟩
    · cases h
  case h_6 t parts ho =>
    unfold evBuild at h
    split at h
    · rename_i pl zs hb
      obtain ⟨cs, hc, rfl⟩ := Option.map_eq_some_iff.1 h
      exact .quiet (ok_build ho hb hc)
    · cases h
  case h_7 t len parts ho =>
    unfold evBuildSlice at h
    split at h
    · rename_i e es he
      split at h
      · rename_i zs hz
        split at h
        · rename_i hc
          obtain ⟨cs, hf, rfl⟩ := Option.map_eq_some_iff.1 h
          exact ⟨ok_buildSlice ho he hz hc.1 hc.2.1 hc.2.2 hf new, by simp, by simp⟩
        · cases h
      · cases h
    · cases h
  case h_8 t x ho =>
    unfold evLoad at h
    split at h
    · rename_i n agg hc
      split at h
      · rename_i id k hx
        split at h
        · rename_i ob hO
          obtain ⟨v, hv, rfl⟩ := Option.map_eq_some_iff.1 h
          exact ⟨ok_load_ptr ho hx hc hv, by simpa using hO, by simp⟩
        · cases h
      · rename_i cs hx
        obtain ⟨v, hv, rfl⟩ := Option.map_eq_some_iff.1 h
        exact .quiet (ok_load_iptr ho hx hc hv)
      · cases h
    · cases h
  case h_9 t x y ho =>
    unfold evStore at h
    split at h
    · rename_i id k hx
      split at h
      · rename_i ob hO
        split at h
        · rename_i hc
          cases h
          exact ⟨ok_store ho hx rfl hc.1 hc.2.1 hc.2.2, by simpa using hO, by simp⟩
        · cases h
      · cases h
    · cases h
  case h_10 x ho =>
    split at h
    · rename_i hr; cases q1_eq h; exact .quiet (ok_nilCheck ho rfl hr)
    · cases h
  case h_11 op t x y t' ho =>
    obtain ⟨v, hv, rfl⟩ := Option.map_eq_some_iff.1 h
    exact .quiet (evBin_ok ho hv)
  case h_12 op t x ho =>
    unfold evUn at h
    split at h
    · rename_i b hx; cases q1_eq h; exact .quiet (ok_not ho hx)
    · rename_i k n hx; cases q1_eq h; exact .quiet (ok_neg ho hx)
    · cases h
  case h_13 s d x ho =>
    unfold evConv at h
    split at h
    · rename_i k k' n hc hx; cases q1_eq h; exact .quiet (ok_conv ho hc hx)
    · cases h
  case h_14 f first caps ho => cases q1_eq h; exact .quiet (ok_makeFunc ho)
  case h_15 t l c ho =>
    unfold evMake at h
    split at h
    · rename_i e es he
      split at h
      · rename_i zs by_ hz hb
        split at h
        · rename_i kl n kc m hx hy
          split at h
          · rename_i hc
            obtain ⟨rfl, h1, h2, h3, h4, h5⟩ := hc
            cases h
            exact ⟨ok_makeSlice ho he hz h1 h2 hb hx hy h3 h4 h5 new, by simp, by simp⟩
          · cases h
        · cases h
      · cases h
    · cases h
  case h_16 t x lo hi mx ho =>
    unfold evCut at h
    split at h
    · rename_i es l hx
      split at h
      · rename_i e es' i j he hi hj
        split at h
        · rename_i hc
          obtain ⟨rfl, h1, h2⟩ := hc
          cases q1_eq h
          have b1 := bnd_spec hi
          have b2 := bnd_spec hj
          exact .quiet (ok_cut_lst ho he hx b1.1 b1.2 b2.1 b2.2 h1 h2)
        · cases h
      · cases h
    · cases h
  case h_17 s x f ho =>
    unfold evField at h
    split at h
    · rename_i off hf
      split at h
      · rename_i id k hx; cases q1_eq h; exact .quiet (ok_field_ptr ho hx hf)
      · rename_i cs hx; cases q1_eq h; exact .quiet (ok_field_iptr ho hx hf)
      · cases h
    · cases h
  case h_18 t x y ho =>
    unfold evIndex at h
    split at h
    · rename_i k i hy
      split at h
      · rename_i es l hx
        split at h
        · rename_i e es' he
          split at h
          · rename_i hc
            obtain ⟨rfl, h1, h2⟩ := hc
            obtain ⟨v, hv, rfl⟩ := Option.map_eq_some_iff.1 h
            exact .quiet (ok_index_lst ho he h1 hx hy h2 hv)
          · cases h
        · cases h
      · rename_i id hx
        split at h
        · rename_i e es n cs e' es' hO he
          split at h
          · rename_i hc
            obtain ⟨rfl, h1, h2⟩ := hc
            cases h
            exact ⟨ok_index_row ho he hx hy h1 h2, by simpa using hO, by simp⟩
          · cases h
        · cases h
      · rename_i id q hx
        split at h
        · rename_i n es ha
          split at h
          · rename_i hc; cases q1_eq h; exact .quiet (ok_index_arr ho ha hx hy hc.1 hc.2)
          · cases h
        · cases h
      · cases h
    · cases h
  case h_19 t x y ho =>
    unfold evIndexV at h
    split at h
    · rename_i s k i hx hy
      split at h
      · rename_i hc; cases q1_eq h; exact .quiet (ok_index_str ho hc.1 hx hy hc.2.1 hc.2.2)
      · cases h
    · cases h
  case h_20 x i ho =>
    unfold evExtract at h
    split at h
    · rename_i vs hx
      obtain ⟨v, hv, rfl⟩ := Option.map_eq_some_iff.1 h
      exact .quiet (ok_extract ho hx hv)
    · cases h
  case h_21 x t ho =>
    unfold evLen at h
    split at h
    · rename_i ht
      obtain ⟨⟨p, n⟩, hn, rfl⟩ := Option.map_eq_some_iff.1 h
      obtain ⟨h1, h2⟩ := lenOf_spec hn
      exact ⟨ok_len ho ht rfl h1, h2, by simp⟩
    · split at h
      · rename_i ht
        split at h
        · rename_i s hs; cases q1_eq h; exact .quiet (ok_lenstr ho ht hs)
        · cases h
      · cases h
  case h_22 x y t t' ho =>
    split at h
    · rename_i ht
      subst ht
      unfold evAppend at h
      split at h
      · rename_i e es he
        split at h
        · rename_i zs by_ hz hb
          split at h
          · rename_i p1 n cs p2 m ds h1 h2
            split at h
            · rename_i hc
              obtain ⟨c1, c2, c3, c4, c5⟩ := hc
              cases h
              obtain ⟨k1, k2⟩ := rowOf_spec h1
              obtain ⟨k3, k4⟩ := srcOf_spec h2
              refine ⟨ok_append ho he hz c1 c2 hb rfl rfl k1 k3 c3 c4 c5, fun p hp => ?_, fun p hp => ?_⟩
              · rcases List.mem_append.1 hp with hp | hp
                · exact k2 p hp
                · exact k4 p hp
              · generalize hv : ev T x = v at hp k1
                cases k1 with
                | row =>
                  simp only [appPost, List.mem_cons, List.not_mem_nil, or_false] at hp
                  rcases hp with rfl | rfl
                  · exact .inr rfl
                  · exact .inl (by simp)
                | nil => simp only [appPost, List.mem_cons, List.not_mem_nil, or_false] at hp; subst hp; exact .inr rfl
            · cases h
          · cases h
        · cases h
      · cases h
    · cases h
  case h_23 x y ts ho =>
    unfold evMax at h
    split at h
    · rename_i k a k' b hx hy; cases q1_eq h; exact .quiet (ok_max (t := 0) ho hx hy rfl)
    · cases h
  case h_24 x y ts ho =>
    unfold evMin at h
    split at h
    · rename_i k a k' b hx hy; cases q1_eq h; exact .quiet (ok_min (t := 0) ho hx hy rfl)
    · cases h
  case h_25 => cases h

end Go.AV
