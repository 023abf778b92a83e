/-
  Operations over abstract values, one rule each.
-/
import Derived.Test.YtehdpfhpiplbgaaReg
import Derived.Laws.Entries
import Derived.Laws.Cells
import Derived.Laws.Slices
import Derived.Laws.Tables
namespace Go.AV
set_option linter.unusedSimpArgs false
set_option linter.unusedVariables false
open Go.RowKit
variable {P : Program} {o : Oper} {T : Nat → V}

/-- An operand. -/
def ev (T : Nat → V) : Operand → V
  | .tmp t => T t
  | .const v => .lit v
  | .global g => .lit (.pointer (some ⟨g, 0, none⟩))
  | .func f => .lit (.func (.func f) #[] #[])

theorem ev_rv {σ : Nat → Option Value} {R : Nat → Nat → Prop} {w : World} {a : Act} {l : List Operand} (h : ∀ x, Operand.tmp x ∈ l → RV σ R w (T x) (a.tmps.getD x undef)) {x : Operand} (hx : x ∈ l) :
    RV σ R w (ev T x) (a.eval x) := by
  cases x with
  | tmp t => exact h t hx
  | const v => exact .tree (.lit v)
  | global g => exact .tree (.lit _)
  | func f => exact .tree (.lit _)

/-- A rule for an operation that turns nothing. -/
theorem opok_quiet {v : V} {pre : List (Nat × OB)}
    (h : ∀ {σ : Nat → Option Value} {R : Nat → Nat → Prop} {base : Nat} {w0 : Org} {w : World} {O : Nat → Option OB} {D : Nat → Prop} (a : Act), SimH σ R base w0 w O D → (∀ p ∈ pre, O p.1 = some p.2) →
      (∀ x, x ∈ o.op.operands → RV σ R w (ev T x) (a.eval x)) → ∃ u, ((execOp a.eval o).run P w = .ok (.value u) w ∨ ((execOp a.eval o).run P w = .ok .skip w ∧ u = undef)) ∧ RV σ R w v u) :
    OpOK P o T ⟨v, pre, []⟩ := by
  intro σ R base w0 w O D a hs hp _ hx _ K Q hK
  have hx' : ∀ x, x ∈ o.op.operands → RV σ R w (ev T x) (a.eval x) := fun x hm =>
    ev_rv (l := o.op.operands.toList) (fun t ht => hx t (by simpa using ht)) (by simpa using hm)
  obtain ⟨u, hrun, hrv⟩ := h a hs hp hx'
  have e2 : dset D [] = D := by funext id; simp [dset]
  have hk := hK σ R w u (show SimH σ R base w0 w (upd O []) (dset D []) by rw [e2]; exact hs) (.refl σ R w) hrv
  unfold Oper.wp
  rcases hrun with hrun | ⟨hrun, rfl⟩
  · rw [hrun]; exact hk
  · rw [hrun]; exact hk

theorem ok_move {x : Operand} (ho : o.op = .move x) : OpOK P o T ⟨ev T x, [], []⟩ :=
  opok_quiet fun a _ _ hx => ⟨a.eval x, .inl (by simp [execOp, ho]), hx x (by simp [ho, Op.operands])⟩

theorem ok_assign {x : Operand} (ho : o.op = .assign x) : OpOK P o T ⟨ev T x, [], []⟩ :=
  opok_quiet fun a _ _ hx => ⟨a.eval x, .inl (by simp [execOp, ho]), hx x (by simp [ho, Op.operands])⟩

theorem rv_lit {σ : Nat → Option Value} {R : Nat → Nat → Prop} {w : World} {v u : Value} (h : RV σ R w (.lit v) u) : u = v := by
  cases h with
  | tree h => cases h; rfl

theorem ok_pick {c x y : Operand} (ho : o.op = .pick c x y) {b : Bool} (hc : ev T c = .lit (.bool b)) : OpOK P o T ⟨if b then ev T x else ev T y, [], []⟩ :=
  opok_quiet fun a _ _ hx => by
    have h := rv_lit (hc ▸ hx c (by simp [ho, Op.operands]))
    refine ⟨if b then a.eval x else a.eval y, .inl ?_, ?_⟩
    · simp [execOp, ho, h, asBool]
    · cases b
      · simpa using hx y (by simp [ho, Op.operands])
      · simpa using hx x (by simp [ho, Op.operands])

/-- Arithmetic, comparison of numbers of one kind. -/
def evInt (op : BinOp) (k : IntKind) (a b : Int) : Option Value :=
  match op with
  | .add => some (.int k (k.wrap (a + b)))
  | .sub => some (.int k (k.wrap (a - b)))
  | .mul => some (.int k (k.wrap (a * b)))
  | .quo => if b = 0 then none else some (.int k (k.wrap (a.tdiv b)))
  | .rem => if b = 0 then none else some (.int k (a.tmod b))
  | .and => some (.int k (k.wrap (BitVec.ofInt k.bits a &&& BitVec.ofInt k.bits b).toNat))
  | .or => some (.int k (k.wrap (BitVec.ofInt k.bits a ||| BitVec.ofInt k.bits b).toNat))
  | .xor => some (.int k (k.wrap (BitVec.ofInt k.bits a ^^^ BitVec.ofInt k.bits b).toNat))
  | .andNot => some (.int k (k.wrap (BitVec.ofInt k.bits a &&& ~~~ BitVec.ofInt k.bits b).toNat))
  | .eql => some (.bool (a == b))
  | .neq => some (.bool (a != b))
  | .lss => some (.bool (decide (a < b)))
  | .leq => some (.bool (decide (a ≤ b)))
  | .gtr => some (.bool (decide (a > b)))
  | .geq => some (.bool (decide (a ≥ b)))
  | .shl => if b < 0 then none else some (.int k (k.wrap (a * 2 ^ min b.toNat k.bits)))
  | .shr => if b < 0 then none else some (.int k (a.fdiv (2 ^ min b.toNat k.bits)))

def isShift : BinOp → Bool
  | .shl | .shr => true
  | _ => false

theorem run_evInt (t : TypeId) (x y : Operand) {op : BinOp} {k k' : IntKind} {a b : Int} {r : Value} (hk : k = k' ∨ isShift op = true) (h : evInt op k a b = some r) (w : World) :
    (do eqGuard op t x y (.int k a) (.int k' b); binOp op t (.int k a) (.int k' b) : Sem Value).run P w = .ok r w := by
  cases op <;> simp only [evInt, Option.some.injEq] at h <;> (try split at h) <;> (try cases h) <;> (try (rename_i hb; simp only [Option.some.injEq] at h; cases h)) <;>
    (first
      | (rcases hk with rfl | hk
         · simp [eqGuard, binOp, Op.intArith, Op.intDiv, Op.intBits, Op.intCmp, Op.shift, *]
         · simp [isShift] at hk)
      | (simp [eqGuard, binOp, Op.shift, *]; done))

theorem ok_int {op : BinOp} {t t' : TypeId} {x y : Operand} (ho : o.op = .binOp op t x y t') {k k' : IntKind} {a b : Int} {r : Value}
    (hx : ev T x = .lit (.int k a)) (hy : ev T y = .lit (.int k' b)) (hk : k = k' ∨ isShift op = true) (h : evInt op k a b = some r) : OpOK P o T ⟨.lit r, [], []⟩ :=
  opok_quiet fun {_ _ _ _ w _ _} A _ _ hv => by
    have h1 := rv_lit (hx ▸ hv x (by simp [ho, Op.operands]))
    have h2 := rv_lit (hy ▸ hv y (by simp [ho, Op.operands]))
    have hr := run_evInt (P := P) t x y hk h w
    refine ⟨r, .inl ?_, .tree (.lit r)⟩
    simp only [execOp, ho, h1, h2]
    rw [Sem.run_bind, hr]
    rfl

end Go.AV
