/-
  Rules: what is left of the operations.
-/
import Derived.Test.YtehdpfhpiplbgaaMake3
import Derived.Laws.Pointers
import Derived.Laws.Cover3
namespace Go.AV
set_option linter.unusedSimpArgs false
set_option linter.unusedVariables false
open Go.RowKit
variable {P : Program} {o : Oper} {T : Nat → V}

theorem ok_extract {x : Operand} {i : Nat} (ho : o.op = .extract x i) {vs : List V} {v : V} (hx : ev T x = .tup vs) (hv : vs[i]? = some v) : OpOK P o T ⟨v, [], []⟩ :=
  opok_quiet fun {σ R base w0 w O D} a _ _ hr => by
    have hx' := hr x (by simp [ho, Op.operands])
    rw [hx] at hx'
    generalize hu : a.eval x = u at hx'
    have key : ∀ us : List Value, us.length = vs.length → (∀ (j : Nat) (x : V) (u : Value), vs[j]? = some x → us[j]? = some u → RV σ R w x u) → u = .tuple us.toArray →
        ∃ u', ((execOp a.eval o).run P w = .ok (.value u') w ∨ ((execOp a.eval o).run P w = .ok .skip w ∧ u' = undef)) ∧ RV σ R w v u' := by
      intro us hl h e
      have hlt : i < us.length := by rw [hl]; exact (List.getElem?_eq_some_iff.1 hv).1
      refine ⟨us[i], .inl ?_, h i v _ hv (List.getElem?_eq_getElem hlt)⟩
      simp [execOp, ho, hu, e, Instr.extract, hlt]
    cases hx' with
    | tree h => cases h with
      | tup us hl hrt => exact key us hl (fun j x u hx hu => .tree (hrt j x u hx hu)) rfl
    | tup us hl h => exact key us hl h rfl

theorem ok_not {x : Operand} {t : TypeId} (ho : o.op = .unOp .not t x) {b : Bool} (hx : ev T x = .lit (.bool b)) : OpOK P o T ⟨.lit (.bool (!b)), [], []⟩ :=
  opok_quiet fun a _ _ hr => by
    have hx' := rv_lit (hx ▸ hr x (by simp [ho, Op.operands]))
    exact ⟨.bool !b, .inl (by simp [execOp, ho, hx', Op.unary]), .tree (.lit _)⟩

theorem ok_neg {x : Operand} {t : TypeId} (ho : o.op = .unOp .neg t x) {k : IntKind} {n : Int} (hx : ev T x = .lit (.int k n)) : OpOK P o T ⟨.lit (.int k (k.wrap (0 - n))), [], []⟩ :=
  opok_quiet fun a _ _ hr => by
    have hx' := rv_lit (hx ▸ hr x (by simp [ho, Op.operands]))
    exact ⟨.int k (k.wrap (0 - n)), .inl (by simp [execOp, ho, hx', Op.unary, Op.intArith]), .tree (.lit _)⟩

/-- From one kind of numbers to another. -/
def convK (P : Program) (src dst : TypeId) : Option IntKind :=
  match P.underlying src, P.underlying dst with
  | some _, some (.int k) => some k
  | _, _ => none

theorem ok_conv {src dst : TypeId} {x : Operand} (ho : o.op = .convert src dst x) {k k' : IntKind} {n : Int} (hc : convK P src dst = some k') (hx : ev T x = .lit (.int k n)) : OpOK P o T ⟨.lit (.int k' (k'.wrap n)), [], []⟩ :=
  opok_quiet fun {σ R base w0 w O D} a _ _ hr => by
    have hx' := rv_lit (hx ▸ hr x (by simp [ho, Op.operands]))
    refine ⟨.int k' (k'.wrap n), .inl ?_, .tree (.lit _)⟩
    unfold convK at hc
    cases hs : P.underlying src with
    | none => simp [hs] at hc
    | some d =>
      cases hd : P.underlying dst with
      | none => simp [hs, hd] at hc
      | some d' =>
        cases d' <;> simp [hs, hd] at hc
        subst hc
        simp [execOp, ho, hx', convert, run_underlying hs, run_underlying hd, Conv.intToInt]

/-- Not nil. -/
def V.isRef : V → Bool
  | .ptr _ _ => true
  | .iptr _ => true
  | .ifc _ _ => true
  | .fn _ _ _ => true
  | _ => false

theorem ok_nilCheck {x : Operand} (ho : o.op = .nilCheck x) {v : V} (hx : ev T x = v) (hv : v.isRef = true) : OpOK P o T ⟨v, [], []⟩ :=
  opok_quiet fun {σ R base w0 w O D} a _ _ hr => by
    have hx' := hr x (by simp [ho, Op.operands])
    rw [hx] at hx'
    generalize hu : a.eval x = u at hx'
    refine ⟨u, .inl ?_, hx'⟩
    cases hx' with
    | junk => simp [V.isRef] at hv
    | tree h => cases h <;> simp [V.isRef] at hv <;> simp [execOp, ho, hu]
    | ref h h1 => simp [V.isRef] at hv
    | ptr h h1 h2 => simp [execOp, ho, hu]
    | agg us hl h1 h => simp [V.isRef] at hv
    | tup us hl h => simp [V.isRef] at hv
    | ifc h => simp [execOp, ho, hu]
    | fn gs us hg hl h0 h => simp [execOp, ho, hu]

/-- bools, texts. -/
def isBool (P : Program) (t : TypeId) : Bool := match P.underlying t with | some .bool => true | _ => false

theorem run_equalIn_bool (d : Nat) {t : TypeId} (h : P.underlying t = some .bool) (a b : Bool) (w : World) : (Op.equalIn (d + 1) t (.bool a) (.bool b)).run P w = .ok (a == b) w := by
  simp [Op.equalIn, run_underlying h]

theorem run_booleq {t : TypeId} (ht : isBool P t = true) (neg : Bool) (x y : Operand) (a b : Bool) (w : World) :
    (do eqGuard (if neg then .neq else .eql) t x y (.bool a) (.bool b); binOp (if neg then .neq else .eql) t (.bool a) (.bool b) : Sem Value).run P w = .ok (.bool ((a == b) != neg)) w := by
  unfold isBool at ht
  cases hu : P.underlying t with
  | none => simp [hu] at ht
  | some d =>
    cases d <;> simp [hu] at ht
    have he : (Op.equal t (.bool a) (.bool b)).run P w = .ok (a == b) w := run_equalIn_bool 9999 hu a b w
    cases neg
    · have hg : (eqGuard .eql t x y (.bool a) (.bool b)).run P w = .ok () w := rfl
      have hb : (binOp .eql t (.bool a) (.bool b)).run P w = .ok (.bool (a == b)) w := by
        show (do pure (.bool (← Op.equal t (.bool a) (.bool b))) : Sem Value).run P w = _
        rw [Sem.run_bind, he]; rfl
      simp only [Bool.false_eq_true, if_false]
      rw [Sem.run_bind, hg]
      simpa using hb
    · have hg : (eqGuard .neq t x y (.bool a) (.bool b)).run P w = .ok () w := rfl
      have hb : (binOp .neq t (.bool a) (.bool b)).run P w = .ok (.bool (!(a == b))) w := by
        show (do pure (.bool (!(← Op.equal t (.bool a) (.bool b)))) : Sem Value).run P w = _
        rw [Sem.run_bind, he]; rfl
      simp only [if_true]
      rw [Sem.run_bind, hg]
      simpa using hb

theorem ok_booleq {neg : Bool} {t t' : TypeId} {x y : Operand} (ho : o.op = .binOp (if neg then .neq else .eql) t x y t') (ht : isBool P t = true) {a b : Bool} (hx : ev T x = .lit (.bool a)) (hy : ev T y = .lit (.bool b)) :
    OpOK P o T ⟨.lit (.bool ((a == b) != neg)), [], []⟩ :=
  opok_quiet fun {σ R base w0 w O D} A _ _ hr => by
    have hx' := rv_lit (hx ▸ hr x (by simp [ho, Op.operands]))
    have hy' := rv_lit (hy ▸ hr y (by simp [ho, Op.operands]))
    refine ⟨.bool ((a == b) != neg), .inl ?_, .tree (.lit _)⟩
    have := run_booleq (P := P) ht neg x y a b w
    simp only [execOp, ho, hx', hy']
    rw [Sem.run_bind, this]
    rfl

/-- Texts. -/
def evStr (op : BinOp) (a b : ByteArray) : Option Value :=
  match op with
  | .add => if a.size + b.size ≤ 9223372036854775807 then some (.string (a ++ b)) else none
  | .eql => some (.bool (a.toList == b.toList))
  | .neq => some (.bool (!(a.toList == b.toList)))
  | .lss => some (.bool (Op.bytesLess a.toList b.toList))
  | .leq => some (.bool (Op.bytesLess a.toList b.toList || a.toList == b.toList))
  | .gtr => some (.bool (!(Op.bytesLess a.toList b.toList || a.toList == b.toList)))
  | .geq => some (.bool (!Op.bytesLess a.toList b.toList))
  | _ => none

theorem ok_str {op : BinOp} {t t' : TypeId} {x y : Operand} (ho : o.op = .binOp op t x y t') {a b : ByteArray} {r : Value} (hx : ev T x = .lit (.string a)) (hy : ev T y = .lit (.string b)) (h : evStr op a b = some r) :
    OpOK P o T ⟨.lit r, [], []⟩ :=
  opok_quiet fun {σ R base w0 w O D} A _ _ hr => by
    have hx' := rv_lit (hx ▸ hr x (by simp [ho, Op.operands]))
    have hy' := rv_lit (hy ▸ hr y (by simp [ho, Op.operands]))
    refine ⟨r, .inl ?_, .tree (.lit _)⟩
    cases op <;> simp only [evStr, Option.some.injEq] at h <;> (try cases h) <;> (try (split at h)) <;> (try cases h) <;> simp [execOp, ho, hx', hy', eqGuard, binOp, Op.stringOp]
    rename_i hle
    omega

/-- A pointer type? A slice type? -/
def isPtr (P : Program) (t : TypeId) : Bool := match P.underlying t with | some (.pointer _) => true | _ => false
def isSlice (P : Program) (t : TypeId) : Bool := match P.underlying t with | some (.slice _) => true | _ => false

/-- Is it nil? -/
def ptrNil : V → Option Bool
  | .ptr _ _ => some false
  | .iptr _ => some false
  | .lit (.pointer none) => some true
  | _ => none

def sliceNil : V → Option Bool
  | .emp => some false
  | .lst _ (_ :: _) => some false
  | .lit (.slice none _ _) => some true
  | _ => none

theorem ptrNil_spec {σ : Nat → Option Value} {R : Nat → Nat → Prop} {w : World} {v : V} {b : Bool} (h : ptrNil v = some b) {u : Value} (hu : RV σ R w v u) : ∃ a : Option Addr, u = .pointer a ∧ a.isNone = b := by
  cases hu with
  | junk => simp [ptrNil] at h
  | tree hu =>
    cases hu with
    | lit =>
      cases u with
      | pointer a => cases a <;> simp [ptrNil] at h; subst h; exact ⟨none, rfl, rfl⟩
      | _ => simp [ptrNil] at h
    | iptr us hl h1 hcell hrt => simp [ptrNil] at h; subst h; exact ⟨_, rfl, rfl⟩
    | _ => simp [ptrNil] at h
  | ptr h1 h2 h3 => simp [ptrNil] at h; subst h; exact ⟨_, rfl, rfl⟩
  | _ => simp [ptrNil] at h

theorem sliceNil_spec {σ : Nat → Option Value} {R : Nat → Nat → Prop} {w : World} {v : V} {b : Bool} (h : sliceNil v = some b) {u : Value} (hu : RV σ R w v u) : ∃ (a : Option Addr) (n c : Nat), u = .slice a n c ∧ a.isNone = b := by
  cases hu with
  | junk => simp [sliceNil] at h
  | tree hu =>
    cases hu with
    | lit =>
      cases u with
      | slice a n c => cases a <;> simp [sliceNil] at h; subst h; exact ⟨none, n, c, rfl, rfl⟩
      | _ => simp [sliceNil] at h
    | emp a c hcm => simp [sliceNil] at h; subst h; exact ⟨_, 0, c, rfl, rfl⟩
    | @lst es l a n c us hn hc hcm hnil hes hl h1 hcell hrt =>
      cases l with
      | nil => simp [sliceNil] at h
      | cons x l =>
        simp [sliceNil] at h
        subst h
        refine ⟨a, n, c, rfl, ?_⟩
        cases a with
        | some a => rfl
        | none =>
          have := hnil rfl
          simp at hn
          omega
    | _ => simp [sliceNil] at h
  | _ => simp [sliceNil] at h

theorem run_equalIn_ptrnil (d : Nat) {t e : TypeId} (h : P.underlying t = some (.pointer e)) (a : Option Addr) (w : World) : (Op.equalIn (d + 1) t (.pointer a) (.pointer none)).run P w = .ok a.isNone w := by
  cases a <;> simp [Op.equalIn, run_underlying h]

theorem run_equalIn_slicenil (d : Nat) {t e : TypeId} (h : P.underlying t = some (.slice e)) (a : Option Addr) (n c : Nat) (w : World) : (Op.equalIn (d + 1) t (.slice a n c) (.slice none 0 0)).run P w = .ok a.isNone w := by
  cases a <;> simp [Op.equalIn, run_underlying h]

theorem run_eqany {t : TypeId} {u v : Value} {b : Bool} {w : World} (hq : (Op.equal t u v).run P w = .ok b w) (neg : Bool) (x y : Operand)
    (h1 : (eqGuard .eql t x y u v).run P w = .ok () w) (h2 : (eqGuard .neq t x y u v).run P w = .ok () w)
    (h3 : binOp .eql t u v = (do pure (.bool (← Op.equal t u v)))) (h4 : binOp .neq t u v = (do pure (.bool (!(← Op.equal t u v))))) :
    (do eqGuard (if neg then .neq else .eql) t x y u v; binOp (if neg then .neq else .eql) t u v : Sem Value).run P w = .ok (.bool (b != neg)) w := by
  cases neg
  · simp only [Bool.false_eq_true, if_false]
    rw [Sem.run_bind, h1]
    simp only [Result.andThen_ok, h3]
    rw [Sem.run_bind, hq]
    simp
  · simp only [if_true]
    rw [Sem.run_bind, h2]
    simp only [Result.andThen_ok, h4]
    rw [Sem.run_bind, hq]
    simp

theorem ok_ptrnil {neg : Bool} {t t' : TypeId} {x : Operand} (ho : o.op = .binOp (if neg then .neq else .eql) t x (.const (.pointer none)) t') (ht : isPtr P t = true) {v : V} {b : Bool} (hx : ev T x = v) (hb : ptrNil v = some b) :
    OpOK P o T ⟨.lit (.bool (b != neg)), [], []⟩ :=
  opok_quiet fun {σ R base w0 w O D} A _ _ hr => by
    have hx' := hr x (by cases neg <;> simp [ho, Op.operands])
    rw [hx] at hx'
    obtain ⟨a, e, rfl⟩ := ptrNil_spec hb hx'
    unfold isPtr at ht
    cases hu : P.underlying t with
    | none => simp [hu] at ht
    | some d =>
      cases d <;> simp [hu] at ht
      rename_i el
      refine ⟨.bool (a.isNone != neg), .inl ?_, .tree (.lit _)⟩
      have hev : A.eval (.const (.pointer none)) = .pointer none := rfl
      have hq : (Op.equal t (.pointer a) (.pointer none)).run P w = .ok a.isNone w := run_equalIn_ptrnil 9999 hu a w
      simp only [execOp, ho, e, hev]
      rw [Sem.run_bind, run_eqany hq neg x (.const (.pointer none)) rfl rfl rfl rfl]
      rfl

theorem ok_slicenil {neg : Bool} {t t' : TypeId} {x : Operand} (ho : o.op = .binOp (if neg then .neq else .eql) t x (.const (.slice none 0 0)) t') (ht : isSlice P t = true) {v : V} {b : Bool} (hx : ev T x = v)
    (hb : sliceNil v = some b) : OpOK P o T ⟨.lit (.bool (b != neg)), [], []⟩ :=
  opok_quiet fun {σ R base w0 w O D} A _ _ hr => by
    have hx' := hr x (by cases neg <;> simp [ho, Op.operands])
    rw [hx] at hx'
    obtain ⟨a, n, c, e, rfl⟩ := sliceNil_spec hb hx'
    unfold isSlice at ht
    cases hu : P.underlying t with
    | none => simp [hu] at ht
    | some d =>
      cases d <;> simp [hu] at ht
      rename_i el
      refine ⟨.bool (a.isNone != neg), .inl ?_, .tree (.lit _)⟩
      have hev : A.eval (.const (.slice none 0 0)) = .slice none 0 0 := rfl
      have hq : (Op.equal t (.slice a n c) (.slice none 0 0)).run P w = .ok a.isNone w := run_equalIn_slicenil 9999 hu a n c w
      simp only [execOp, ho, e, hev]
      rw [Sem.run_bind, run_eqany hq neg x (.const (.slice none 0 0)) rfl rfl rfl rfl]
      rfl

/-- Lengths. -/
inductive LenOf : V → List (Nat × OB) → Nat → Prop
  | lst {es : Nat} {l : List V} : LenOf (.lst es l) [] l.length
  | row {id : Nat} {e : TypeId} {es n : Nat} {cs : List V} : LenOf (.ref id) [(id, .row e es n cs)] n
  | nil : LenOf (.lit (.slice none 0 0)) [] 0
  | emp : LenOf .emp [] 0
  | nil0 : LenOf .nil0 [] 0

theorem len_open {σ : Nat → Option Value} {R : Nat → Nat → Prop} {base : Nat} {w0 : Org} {w : World} {O : Nat → Option OB} {D : Nat → Prop} (hs : SimH σ R base w0 w O D) {v : V} {pre : List (Nat × OB)} {n : Nat}
    (h : LenOf v pre n) (hp : ∀ p ∈ pre, O p.1 = some p.2) {u : Value} (hu : RV σ R w v u) : ∃ (ad : Option Addr) (c : Nat), u = .slice ad n c := by
  cases h with
  | lst => obtain ⟨a, c, us, e1, _⟩ := lst_open hu; exact ⟨a, c, e1⟩
  | @row id e es n cs =>
    obtain ⟨us, _, hown, _⟩ := row_open hs (hp (id, .row e es n cs) (by simp)) hu
    rcases hown.2 with ⟨rfl, rfl⟩ | ⟨g, cap, cur, rfl, _⟩
    · exact ⟨none, 0, rfl⟩
    · exact ⟨_, cap, rfl⟩
  | nil => rw [rv_lit hu]; exact ⟨none, 0, rfl⟩
  | emp => cases hu with
    | tree h => cases h with
      | emp a c _ => exact ⟨_, c, rfl⟩
  | nil0 => cases hu with
    | tree h => cases h with
      | nil0 a => exact ⟨a, 0, rfl⟩

theorem ok_len {t : TypeId} {x : Operand} (ho : o.op = .call { callee := .builtin .len, args := #[x], argTypes := #[t] }) (ht : isSlice P t = true) {v : V} {pre : List (Nat × OB)} {n : Nat} (hx : ev T x = v)
    (hl : LenOf v pre n) : OpOK P o T ⟨.lit (.int .i64 n), pre, []⟩ :=
  opok_quiet fun {σ R base w0 w O D} A hs hp hr => by
    have hx' := hr x (by simp [ho, Op.operands, Call.operands])
    rw [hx] at hx'
    obtain ⟨ad, c, e⟩ := len_open hs hl hp hx'
    unfold isSlice at ht
    cases hu : P.underlying t with
    | none => simp [hu] at ht
    | some d =>
      cases d <;> simp [hu] at ht
      exact ⟨.int .i64 n, .inl (by simp [execOp, ho, resolve, invoke, builtin, e, Builtin.len_, run_underlying hu, goInt]), .tree (.lit _)⟩

def isStr (P : Program) (t : TypeId) : Bool := match P.underlying t with | some .string => true | _ => false

theorem ok_lenstr {t : TypeId} {x : Operand} (ho : o.op = .call { callee := .builtin .len, args := #[x], argTypes := #[t] }) (ht : isStr P t = true) {s : ByteArray} (hx : ev T x = .lit (.string s)) :
    OpOK P o T ⟨.lit (.int .i64 s.size), [], []⟩ :=
  opok_quiet fun {σ R base w0 w O D} A hs hp hr => by
    have hx' := rv_lit (hx ▸ hr x (by simp [ho, Op.operands, Call.operands]))
    unfold isStr at ht
    cases hu : P.underlying t with
    | none => simp [hu] at ht
    | some d =>
      cases d <;> simp [hu] at ht
      exact ⟨.int .i64 s.size, .inl (by simp [execOp, ho, resolve, invoke, builtin, hx', Builtin.len_, run_underlying hu, goInt]), .tree (.lit _)⟩

theorem ok_max {t : TypeId} {x y : Operand} {ts : Array TypeId} (ho : o.op = .call { callee := .builtin .max, args := #[x, y], argTypes := ts }) {k k' : IntKind} {a b : Int} (hx : ev T x = .lit (.int k a))
    (hy : ev T y = .lit (.int k' b)) (_ : t = t) : OpOK P o T ⟨.lit (.int k (if b > a then b else a)), [], []⟩ :=
  opok_quiet fun {σ R base w0 w O D} A hs hp hr => by
    have hx' := rv_lit (hx ▸ hr x (by simp [ho, Op.operands, Call.operands]))
    have hy' := rv_lit (hy ▸ hr y (by simp [ho, Op.operands, Call.operands]))
    exact ⟨.int k (if b > a then b else a), .inl (by simp [execOp, ho, resolve, invoke, builtin, hx', hy', Builtin.max_, Builtin.max2]), .tree (.lit _)⟩

theorem ok_min {t : TypeId} {x y : Operand} {ts : Array TypeId} (ho : o.op = .call { callee := .builtin .min, args := #[x, y], argTypes := ts }) {k k' : IntKind} {a b : Int} (hx : ev T x = .lit (.int k a))
    (hy : ev T y = .lit (.int k' b)) (_ : t = t) : OpOK P o T ⟨.lit (.int k (if b < a then b else a)), [], []⟩ :=
  opok_quiet fun {σ R base w0 w O D} A hs hp hr => by
    have hx' := rv_lit (hx ▸ hr x (by simp [ho, Op.operands, Call.operands]))
    have hy' := rv_lit (hy ▸ hr y (by simp [ho, Op.operands, Call.operands]))
    exact ⟨.int k (if b < a then b else a), .inl (by simp [execOp, ho, resolve, invoke, builtin, hx', hy', Builtin.min_, Builtin.min2]), .tree (.lit _)⟩

theorem ok_makeFunc {f : FuncId} {first caps : Array Operand} (ho : o.op = .makeFunc (.func f) first caps) : OpOK P o T ⟨.fn f (first.toList.map (ev T)) (caps.toList.map (ev T)), [], []⟩ :=
  opok_quiet fun {σ R base w0 w O D} A hs hp hr => by
    refine ⟨.func (.func f) (first.map A.eval) (caps.map A.eval), .inl (by simp [execOp, ho, Instr.makeFunc]), ?_⟩
    have key : ∀ l : Array Operand, (∀ x ∈ l.toList, RV σ R w (ev T x) (A.eval x)) → ∀ (j : Nat) (x : V) (u : Value), (l.toList.map (ev T))[j]? = some x → (l.toList.map A.eval)[j]? = some u → RV σ R w x u := by
      intro l h j x u hx hu
      rw [List.getElem?_map] at hx hu
      cases hj : l.toList[j]? with
      | none => simp [hj] at hx
      | some y =>
        rw [hj] at hx hu
        simp only [Option.map_some, Option.some.injEq] at hx hu
        subst hx
        subst hu
        exact h y (List.mem_of_getElem? hj)
    have := RV.fn (σ := σ) (R := R) (w := w) (f := f) (fs := first.toList.map (ev T)) (cs := caps.toList.map (ev T)) (first.toList.map A.eval) (caps.toList.map A.eval) (by simp) (by simp)
      (key first fun x hx => hr x (by simp [ho, Op.operands]; exact .inl (by simpa using hx))) (key caps fun x hx => hr x (by simp [ho, Op.operands]; exact .inr (by simpa using hx)))
    have e1 : (first.toList.map A.eval).toArray = first.map A.eval := Array.ext' (by simp)
    have e2 : (caps.toList.map A.eval).toArray = caps.map A.eval := Array.ext' (by simp)
    rw [e1, e2] at this
    exact this

def fieldV (P : Program) (s : TypeId) (f : Nat) : Option (Nat × Nat × Bool) :=
  match P.underlying s with
  | some (.struct fs) =>
    match fs[f]? with
    | some fd => (cellsN P fd.type).map fun (n, agg) => (fd.offset, n, agg)
    | none => none
  | _ => none

theorem ok_index_str {t : TypeId} {x y : Operand} (ho : o.op = .index t x y) (ht : isStr P t = true) {s : ByteArray} {k : IntKind} {i : Int} (hx : ev T x = .lit (.string s)) (hy : ev T y = .lit (.int k i)) (h0 : 0 ≤ i)
    (h1 : i < s.size) : OpOK P o T ⟨.lit (.int .u8 (s.data.getD i.toNat 0).toNat), [], []⟩ :=
  opok_quiet fun {σ R base w0 w O D} A hs hp hr => by
    have hx' := rv_lit (hx ▸ hr x (by simp [ho, Op.operands]))
    have hy' := rv_lit (hy ▸ hr y (by simp [ho, Op.operands]))
    unfold isStr at ht
    cases hu : P.underlying t with
    | none => simp [hu] at ht
    | some d =>
      cases d <;> simp [hu] at ht
      have hlt : i.toNat < s.size := by omega
      have hd : s.data.getD i.toNat 0 = s[i.toNat] := by
        have h2 : i.toNat < s.data.size := hlt
        rw [Array.getD_eq_getD_getElem?, Array.getElem?_eq_getElem h2]
        rfl
      have hg : s[i.toNat]? = some s[i.toNat] := by simp [hlt]
      rw [hd]
      refine ⟨.int .u8 (s[i.toNat]).toNat, .inl ?_, .tree (.lit _)⟩
      simp [execOp, ho, hx', hy', Instr.index, asIntOf, run_underlying hu, h0, hg]

/-- A slice of read-only memory, cut. -/
theorem ok_cut_lst {t : TypeId} {x : Operand} {lo hi : Option Operand} (ho : o.op = .slice t x lo hi none) {e : TypeId} {es : Nat} (ht : elemN P t = some (e, es)) {l : List V} (hx : ev T x = .lst es l) {i j : Nat}
    (hlo : ∀ y, lo = some y → ∃ k : IntKind, ev T y = .lit (.int k i)) (hlo0 : lo = none → i = 0) (hhi : ∀ y, hi = some y → ∃ k : IntKind, ev T y = .lit (.int k j)) (hhi0 : hi = none → j = l.length) (hij : i ≤ j) (hj : j ≤ l.length) :
    OpOK P o T ⟨.lst es ((l.take j).drop i), [], []⟩ :=
  opok_quiet fun {σ R base w0 w O D} A hs hp hr => by
    have hx' := hr x (by simp [ho, Op.operands])
    rw [hx] at hx'
    obtain ⟨a, c, us, e1, hc, hcm, hnil, hes, hl, hone, hcell, hrt⟩ := lst_open hx'
    obtain ⟨hu, inf, hi', he⟩ := elemN_spec ht
    have hlen := length_cellsOf hes
    have hb : (Instr.sliceBounds true l.length c (lo.map A.eval) (hi.map A.eval) none).run P w = .ok (i, j, c) w := by
      have k1 : ∀ y, lo = some y → ∃ k : IntKind, A.eval y = .int k i := fun y hy => by
        obtain ⟨k, hk⟩ := hlo y hy
        exact ⟨k, rv_lit (hk ▸ hr y (by simp [ho, Op.operands, hy]))⟩
      have k2 : ∀ y, hi = some y → ∃ k : IntKind, A.eval y = .int k j := fun y hy => by
        obtain ⟨k, hk⟩ := hhi y hy
        exact ⟨k, rv_lit (hk ▸ hr y (by simp [ho, Op.operands, hy]))⟩
      cases hi with
      | none =>
        have := hhi0 rfl
        subst this
        cases lo with
        | none => have := hlo0 rfl; subst this; simp [Instr.sliceBounds]
        | some y =>
          obtain ⟨k, hk⟩ := k1 y rfl
          simp [Instr.sliceBounds, Instr.sliceBound, asIntOf, hk, hij]
      | some z =>
        obtain ⟨k', hk'⟩ := k2 z rfl
        have hjc : j ≤ c := by omega
        cases lo with
        | none => have := hlo0 rfl; subst this; simp [Instr.sliceBounds, Instr.sliceBound, asIntOf, hk', hjc]
        | some y =>
          obtain ⟨k, hk⟩ := k1 y rfl
          simp [Instr.sliceBounds, Instr.sliceBound, asIntOf, hk, hk', hij, hjc]
    have hes' : ∀ y ∈ (l.take j).drop i, y.cells.length = es := fun y hy => hes y (List.mem_of_mem_take (List.mem_of_mem_drop hy))
    have hlen' := length_cellsOf hes'
    have hll : ((l.take j).drop i).length = j - i := by rw [List.length_drop, List.length_take]; omega
    have hcells : cellsOf ((l.take j).drop i) = ((cellsOf l).drop (i * es)).take ((j - i) * es) := by
      apply List.ext_getElem?
      intro q
      by_cases hq : q < (j - i) * es
      · have hes0 : 0 < es := by
          rcases Nat.eq_zero_or_pos es with h | h
          · subst h; simp at hq
          · exact h
        have hd : q / es < j - i := (Nat.div_lt_iff_lt_mul hes0).2 hq
        have hqq : q = (q / es) * es + q % es := by have := Nat.div_add_mod q es; rw [Nat.mul_comm] at this; omega
        have hm : q % es < es := Nat.mod_lt _ hes0
        rw [List.getElem?_take, if_pos hq, List.getElem?_drop]
        have hx1 : ((l.take j).drop i)[q / es]? = l[i + q / es]? := by
          rw [List.getElem?_drop, List.getElem?_take, if_pos (by omega)]
        have hlt : i + q / es < l.length := by omega
        have hg : l[i + q / es]? = some l[i + q / es] := List.getElem?_eq_getElem hlt
        have e2 := flatMap_at hes' (hx1.trans hg) hm
        have e3 := flatMap_at hes hg hm
        rw [hqq, e2]
        rw [show i * es + ((q / es) * es + q % es) = (i + q / es) * es + q % es by rw [Nat.add_mul]; omega, e3]
      · rw [List.getElem?_eq_none (by rw [hlen', hll]; omega), List.getElem?_eq_none (by simp only [List.length_take]; omega)]
    have htree : ∀ a' : Option Addr, (a' = none → c - i = 0) → (∀ (q : Nat) (u : Value), ((us.drop (i * es)).take ((j - i) * es))[q]? = some u → ∃ b k, a' = some ⟨b, k, none⟩ ∧ R b (k + q) ∧ w.cell? ⟨b, k + q, none⟩ = some u) →
        RT R w (.lst es ((l.take j).drop i)) (.slice a' (j - i) (c - i)) := by
      intro a' hn' hc'
      refine .lst ((us.drop (i * es)).take ((j - i) * es)) (by rw [hll]) (by omega) (by omega) hn' hes' ?_ (fun u hu => hone u (List.mem_of_mem_drop (List.mem_of_mem_take hu))) hc' fun q y u hy hu => ?_
      · rw [hcells, List.length_take, List.length_take, List.length_drop, List.length_drop, hl]
      · rw [hcells] at hy
        rw [List.getElem?_take] at hy hu
        split at hy
        · rename_i hlt
          rw [if_pos hlt] at hu
          rw [List.getElem?_drop] at hy hu
          exact hrt _ _ _ hy hu
        · cases hy
    refine ⟨.slice (if c = i then a else a.map (·.add (i * es))) (j - i) (c - i), .inl ?_, .tree (htree _ ?_ ?_)⟩
    · simp only [execOp, ho]
      simp [Instr.sliceAt, run_underlying hu, Instr.slice, e1, hb, sizeOf, typeInfo, hi', he]
    · intro hn
      split at hn
      · omega
      · cases a with
        | none => have := hnil rfl; omega
        | some _ => simp at hn
    · intro q u hu
      rw [List.getElem?_take] at hu
      split at hu
      · rename_i hq
        rw [List.getElem?_drop] at hu
        obtain ⟨b, k, e2, h3, h4⟩ := hcell _ _ hu
        subst e2
        have hci : c ≠ i := by
          intro e
          have : (j - i) * es = 0 := by have : j - i = 0 := by omega
                                        rw [this, Nat.zero_mul]
          omega
        rw [if_neg hci]
        refine ⟨b, k + i * es, by simp [Addr.add_lit], ?_, ?_⟩
        · rw [Nat.add_assoc]; exact h3
        · rw [Nat.add_assoc]; exact h4
      · cases hu

end Go.AV
