/-
  Steps: frames and objects as lists, what is left of the code as a list.
-/
import Derived.Test.YtehdpfhpiplbgaaExec
namespace Go.AV
set_option linter.unusedSimpArgs false
set_option linter.unusedVariables false
open Go.RowKit

def ts : List V → Nat → V → List V
  | [], 0, v => [v]
  | [], n + 1, v => .junk :: ts [] n v
  | _ :: l, 0, v => v :: l
  | a :: l, n + 1, v => a :: ts l n v

theorem ts_nil0 (v : V) : ts [] 0 v = [v] := rfl
theorem ts_nil (n : Nat) (v : V) : ts [] (n + 1) v = .junk :: ts [] n v := rfl
theorem ts_zero (a : V) (l : List V) (v : V) : ts (a :: l) 0 v = v :: l := rfl
theorem ts_succ (a : V) (l : List V) (n : Nat) (v : V) : ts (a :: l) (n + 1) v = a :: ts l n v := rfl
theorem tg_nil (n : Nat) : tg [] n = .junk := rfl
theorem tg_zero (a : V) (l : List V) : tg (a :: l) 0 = a := rfl
theorem tg_succ (a : V) (l : List V) (n : Nat) : tg (a :: l) (n + 1) = tg l n := rfl

theorem tg_ts : ∀ (l : List V) (d : Nat) (v : V), tg (ts l d v) = up (tg l) d v
  | [], 0, v => by funext i; cases i <;> simp [tg, ts, up]
  | [], d + 1, v => by
    funext i
    cases i with
    | zero => simp [tg, ts, up]
    | succ i => rw [ts_nil, tg_succ, tg_ts [] d v]; simp [up, tg]
  | a :: l, 0, v => by funext i; cases i <;> simp [tg, ts, up]
  | a :: l, d + 1, v => by
    funext i
    cases i with
    | zero => simp [tg, ts, up]
    | succ i => rw [ts_succ, tg_succ, tg_ts l d v]; simp [up, tg]

/-- So many unknown entries ahead. -/
def jn : Nat → List V → List V
  | 0, l => l
  | n + 1, l => .junk :: jn n l
theorem jn_zero (l : List V) : jn 0 l = l := rfl
theorem jn_succ (n : Nat) (l : List V) : jn (n + 1) l = .junk :: jn n l := rfl

def tsO (l : List V) (d : Option Nat) (v : V) : List V :=
  match d with
  | none => l
  | some d => ts l d v

theorem tsO_none (l : List V) (v : V) : tsO l none v = l := rfl
theorem tsO_some (l : List V) (d : Nat) (v : V) : tsO l (some d) v = ts l d v := rfl
theorem putT_tg (l : List V) (d : Option Nat) (v : V) : putT (tg l) d v = tg (tsO l d v) := by
  cases d with
  | none => rfl
  | some d => exact (tg_ts l d v).symm

def og : List (Option OB) → Nat → Option OB
  | [], _ => none
  | v :: _, 0 => v
  | _ :: l, n + 1 => og l n

def os1 : List (Option OB) → Nat → Option OB → List (Option OB)
  | [], 0, v => [v]
  | [], n + 1, v => none :: os1 [] n v
  | _ :: l, 0, v => v :: l
  | a :: l, n + 1, v => a :: os1 l n v

theorem og_nil (n : Nat) : og [] n = none := rfl
theorem og_zero (a : Option OB) (l : List (Option OB)) : og (a :: l) 0 = a := rfl
theorem og_succ (a : Option OB) (l : List (Option OB)) (n : Nat) : og (a :: l) (n + 1) = og l n := rfl
theorem os1_nil0 (v : Option OB) : os1 [] 0 v = [v] := rfl
theorem os1_nil (n : Nat) (v : Option OB) : os1 [] (n + 1) v = none :: os1 [] n v := rfl
theorem os1_zero (a : Option OB) (l : List (Option OB)) (v : Option OB) : os1 (a :: l) 0 v = v :: l := rfl
theorem os1_succ (a : Option OB) (l : List (Option OB)) (n : Nat) (v : Option OB) : os1 (a :: l) (n + 1) v = a :: os1 l n v := rfl

theorem og_os1 : ∀ (l : List (Option OB)) (d : Nat) (v : Option OB) (i : Nat), og (os1 l d v) i = if i = d then v else og l i
  | [], 0, v, i => by cases i <;> simp [og, os1]
  | [], d + 1, v, i => by
    cases i with
    | zero => simp [og, os1]
    | succ i => rw [os1_nil, og_succ, og_os1 [] d v i]; simp [og]
  | a :: l, 0, v, i => by cases i <;> simp [og, os1]
  | a :: l, d + 1, v, i => by
    cases i with
    | zero => simp [og, os1]
    | succ i => rw [os1_succ, og_succ, og_os1 l d v i]; simp [og]

def osL (O : List (Option OB)) : List (Nat × Option OB) → List (Option OB)
  | [] => O
  | (i, x) :: ps => os1 (osL O ps) i x

theorem osL_nil (O : List (Option OB)) : osL O [] = O := rfl
theorem osL_cons (O : List (Option OB)) (i : Nat) (x : Option OB) (ps : List (Nat × Option OB)) : osL O ((i, x) :: ps) = os1 (osL O ps) i x := rfl
theorem upd_og (O : List (Option OB)) : ∀ ps : List (Nat × Option OB), upd (og O) ps = og (osL O ps)
  | [] => by funext i; rfl
  | (i, x) :: ps => by
    funext j
    rw [osL_cons, og_os1, ← upd_og O ps]
    unfold upd
    rw [List.lookup_cons]
    by_cases h : j = i
    · subst h; simp
    · have : (j == i) = false := by simp [h]
      rw [this, if_neg h]

/-- What is left of the code. -/
inductive Fr where
  | seq (c : Code)
  | blk (id : Nat)
  | seqw (c : Code)

def ck (P : Program) (Q : Exit → ES → Prop) : List Fr → Exit → ES → Prop
  | [] => Q
  | .seq c :: k => andThen (cx P c (ck P Q k)) (ck P Q k)
  | .blk id :: k => atBlock id (ck P Q k)
  | .seqw c :: k => andThenW (cxw P c (ck P Q k)) (ck P Q k)

section
variable (P : Program) (Q : Exit → ES → Prop) (k : List Fr)

def gol (c : Code) (N : Nat) (Ts : List V) (Os : List (Option OB)) (n : Nat) : Prop := cx P c (ck P Q k) ⟨N, tg Ts, og Os, n⟩
def golw (c : Code) (N : Nat) (Ts : List V) (Os : List (Option OB)) (n : Nat) : Prop := cxw P c (ck P Q k) ⟨N, tg Ts, og Os, n⟩
def cdkw (a b : Code) (N : Nat) (Ts : List V) (Os : List (Option OB)) (n : Nat) (v : V) : Prop := condW v (golw P Q k a N Ts Os n) (golw P Q k b N Ts Os n)
def bkl (e : Exit) (N : Nat) (Ts : List V) (Os : List (Option OB)) (n : Nat) : Prop := ck P Q k e ⟨N, tg Ts, og Os, n⟩
def exl (ops : List Oper) (dr : Bool) (rest : List Oper) (acc : List (List Nat × List Nat)) (N : Nat) (Ts : List V) (Os : List (Option OB)) (n : Nat) : Prop :=
  exec P ops dr rest acc N (tg Ts) (og Os) n (ck P Q k .normal)
/-- An operation's outcome. -/
def opk (ops : List Oper) (dr : Bool) (rest : List Oper) (acc : List (List Nat × List Nat)) (N : Nat) (Ts : List V) (Os : List (Option OB)) (n : Nat) (dst : Option Nat) : Option Fp → Prop
  | some F => exl P Q k ops dr rest (F.ids :: acc) N (tsO Ts dst F.v) (osL Os F.post) (nextK n F.post)
  | none => False
/-- A guarded operation. -/
def gdk (ops : List Oper) (dr : Bool) (rest : List Oper) (acc : List (List Nat × List Nat)) (N : Nat) (Ts : List V) (Os : List (Option OB)) (n : Nat) (o : Oper) (want : Bool) : V → Prop
  | .lit (.bool b) => if (b == want) = true then exl P Q k ops dr ({ o with guard := none } :: rest) acc N Ts Os n else exl P Q k ops dr rest (([], []) :: acc) N (tsO Ts o.dst (.lit undef)) Os n
  | .lit (.tuple _) => exl P Q k ops dr rest (([], []) :: acc) N (tsO Ts o.dst (.lit undef)) Os n
  | _ => False
/-- A call of a Go function. -/
def clk (ops : List Oper) (dr : Bool) (rest : List Oper) (acc : List (List Nat × List Nat)) (N : Nat) (Ts : List V) (Os : List (Option OB)) (n : Nat) (dst : Option Nat) (f : FuncId) (vs : List V) : Prop :=
  ∃ pre r post n', callable P f = true ∧ UC P f vs pre r post ∧ (∀ p ∈ pre, og Os p.1 = some p.2) ∧ (∀ p ∈ post, p.1 ∈ pre.map (·.1) ∨ n ≤ p.1) ∧ n ≤ n' ∧ (∀ p ∈ post, p.1 < n') ∧
    exl P Q k ops dr rest ((Fp.mk r pre post).ids :: acc) N (tsO Ts dst r) (osL Os post) n'
/-- A branch. -/
def cdk (a b : Code) (N : Nat) (Ts : List V) (Os : List (Option OB)) (n : Nat) (v : V) : Prop := condW v (gol P Q k a N Ts Os n) (gol P Q k b N Ts Os n)
end

section
variable {P : Program} {Q : Exit → ES → Prop} {k : List Fr} {N n : Nat} {Ts : List V} {Os : List (Option OB)}

theorem gol_seq (a b : Code) : gol P Q k (.seq a b) N Ts Os n = gol P Q (.seq b :: k) a N Ts Os n := rfl
theorem gol_skip : gol P Q k .skip N Ts Os n = bkl P Q k .normal N Ts Os n := rfl
theorem gol_exit (id : Nat) : gol P Q k (.exit id) N Ts Os n = bkl P Q k (.exit id) N Ts Os n := rfl
theorem gol_ret : gol P Q k .ret N Ts Os n = bkl P Q k .ret N Ts Os n := rfl
theorem gol_block (id : Nat) (c : Code) : gol P Q k (.block id c) N Ts Os n = gol P Q (.blk id :: k) c N Ts Os n := rfl
theorem gol_region (id : Nat) (ops : List Oper) (dr : Bool) : gol P Q k (.region id ops.toArray dr) N Ts Os n = exl P Q k ops dr ops [] N Ts Os n := by
  simp [gol, cx, exl]
theorem gol_cond (c : Operand) (a b : Code) : gol P Q k (.cond c a b) N Ts Os n = cdk P Q k a b N Ts Os n (ev (tg Ts) c) := rfl
theorem cdk_true (a b : Code) : cdk P Q k a b N Ts Os n (.lit (.bool true)) = gol P Q k a N Ts Os n := by simp [cdk, condW]
theorem cdk_false (a b : Code) : cdk P Q k a b N Ts Os n (.lit (.bool false)) = gol P Q k b N Ts Os n := by simp [cdk, condW]
theorem cdk_split {a b : Code} {t : Bool} (h1 : t = true → gol P Q k a N Ts Os n) (h0 : t = false → gol P Q k b N Ts Os n) : cdk P Q k a b N Ts Os n (.lit (.bool t)) := by
  cases t
  · rw [cdk_false]; exact h0 rfl
  · rw [cdk_true]; exact h1 rfl

theorem golw_seq (a b : Code) : golw P Q k (.seq a b) N Ts Os n = golw P Q (.seqw b :: k) a N Ts Os n := rfl
theorem golw_block (id : Nat) (c : Code) : golw P Q k (.block id c) N Ts Os n = golw P Q (.blk id :: k) c N Ts Os n := rfl
theorem golw_cond (c : Operand) (a b : Code) : golw P Q k (.cond c a b) N Ts Os n = cdkw P Q k a b N Ts Os n (ev (tg Ts) c) := rfl
theorem golw_skip : golw P Q k .skip N Ts Os n = gol P Q k .skip N Ts Os n := rfl
theorem golw_exit (id : Nat) : golw P Q k (.exit id) N Ts Os n = gol P Q k (.exit id) N Ts Os n := rfl
theorem golw_ret : golw P Q k .ret N Ts Os n = gol P Q k .ret N Ts Os n := rfl
theorem golw_region (id : Nat) (ops : Array Oper) (dr : Bool) : golw P Q k (.region id ops dr) N Ts Os n = gol P Q k (.region id ops dr) N Ts Os n := rfl
theorem golw_loop (c : Code) : golw P Q k (.loop c) N Ts Os n = gol P Q k (.loop c) N Ts Os n := rfl
theorem golw_of {c : Code} (h : gol P Q k c N Ts Os n) : golw P Q k c N Ts Os n := cx_cxw _ _ h
theorem cdkw_true (a b : Code) : cdkw P Q k a b N Ts Os n (.lit (.bool true)) = golw P Q k a N Ts Os n := by simp [cdkw, condW]
theorem cdkw_false (a b : Code) : cdkw P Q k a b N Ts Os n (.lit (.bool false)) = golw P Q k b N Ts Os n := by simp [cdkw, condW]
theorem cdkw_split {a b : Code} {t : Bool} (h1 : t = true → golw P Q k a N Ts Os n) (h0 : t = false → golw P Q k b N Ts Os n) : cdkw P Q k a b N Ts Os n (.lit (.bool t)) := by
  cases t
  · rw [cdkw_false]; exact h0 rfl
  · rw [cdkw_true]; exact h1 rfl
theorem bkl_seqw {c : Code} (h : golw P Q k c N Ts Os n) : bkl P Q (.seqw c :: k) .normal N Ts Os n := .inl h
theorem bkl_seqw_exit (c : Code) (id : Nat) : bkl P Q (.seqw c :: k) (.exit id) N Ts Os n = bkl P Q k (.exit id) N Ts Os n := rfl
theorem bkl_seqw_ret (c : Code) : bkl P Q (.seqw c :: k) .ret N Ts Os n = bkl P Q k .ret N Ts Os n := rfl
theorem bkl_nil (e : Exit) : bkl P Q [] e N Ts Os n = Q e ⟨N, tg Ts, og Os, n⟩ := rfl
theorem bkl_seq (c : Code) : bkl P Q (.seq c :: k) .normal N Ts Os n = gol P Q k c N Ts Os n := rfl
theorem bkl_seq_exit (c : Code) (id : Nat) : bkl P Q (.seq c :: k) (.exit id) N Ts Os n = bkl P Q k (.exit id) N Ts Os n := rfl
theorem bkl_seq_ret (c : Code) : bkl P Q (.seq c :: k) .ret N Ts Os n = bkl P Q k .ret N Ts Os n := rfl
theorem bkl_blk (id : Nat) : bkl P Q (.blk id :: k) .normal N Ts Os n = bkl P Q k .normal N Ts Os n := rfl
theorem bkl_blk_exit (id id' : Nat) : bkl P Q (.blk id :: k) (.exit id') N Ts Os n = if id' = id then bkl P Q k .normal N Ts Os n else bkl P Q k (.exit id') N Ts Os n := rfl
theorem bkl_blk_ret (id : Nat) : bkl P Q (.blk id :: k) .ret N Ts Os n = bkl P Q k .ret N Ts Os n := rfl

variable {ops rest : List Oper} {dr : Bool} {acc : List (List Nat × List Nat)} {dst : Option Nat} {ty : TypeId} {pos : String} {af : Array Edge}

theorem exl_end : exl P Q k ops false [] acc N Ts Os n = bkl P Q k .normal N Ts Os n := by simp [exl, exec, bkl]
theorem exl_drawn (hf : footB acc.reverse (freePairs ops) = true) (h : bkl P Q k .normal N Ts Os n) : exl P Q k ops true [] acc N Ts Os n := ⟨fun _ => hf, h⟩

theorem opk_some (v : V) (pre : List (Nat × OB)) (post : List (Nat × Option OB)) : opk P Q k ops dr rest acc N Ts Os n dst (some ⟨v, pre, post⟩) =
    exl P Q k ops dr rest ((pre.map (·.1), post.map (·.1)) :: acc) N (tsO Ts dst v) (osL Os post) (nextK n post) := rfl

theorem exl_guard (op : Op) (j : Nat) (want : Bool) : exl P Q k ops dr (⟨dst, op, ty, pos, af, some (j, want)⟩ :: rest) acc N Ts Os n =
    gdk P Q k ops dr rest acc N Ts Os n ⟨dst, op, ty, pos, af, none⟩ want (match (ops[j]?).bind (·.dst) with | some d => tg Ts d | none => .lit (.tuple #[])) := by
  have e1 : ∀ o : Oper, exec P ops dr (⟨dst, op, ty, pos, af, none⟩ :: rest) acc N (tg Ts) (og Os) n (ck P Q k .normal) = (if isCall op = true then CallW P ⟨dst, op, ty, pos, af, some (j, want)⟩ (tg Ts) (og Os) n fun F k' => exec P ops dr rest (F.ids :: acc) N (putT (tg Ts) dst F.v) (upd (og Os) F.post) k' (ck P Q k .normal)
        else match evOp P (tg Ts) (og Os) n ⟨dst, op, ty, pos, af, some (j, want)⟩ with
          | some F => exec P ops dr rest (F.ids :: acc) N (putT (tg Ts) dst F.v) (upd (og Os) F.post) (nextK n F.post) (ck P Q k .normal)
          | none => False) := by
    intro _
    simp only [exec, gd]
    rfl
  have e2 : ∀ x : Option Bool, x = gd ops.toArray (tg Ts) ⟨dst, op, ty, pos, af, some (j, want)⟩ → exl P Q k ops dr (⟨dst, op, ty, pos, af, some (j, want)⟩ :: rest) acc N Ts Os n =
      (match x with
      | some true => exl P Q k ops dr (⟨dst, op, ty, pos, af, none⟩ :: rest) acc N Ts Os n
      | some false => exl P Q k ops dr rest (([], []) :: acc) N (tsO Ts dst (.lit undef)) Os n
      | none => False) := by
    intro x hx
    cases x with
    | none => simp only [exl, exec, ← hx]
    | some b =>
      cases b with
      | true => simp only [exl]; rw [e1 ⟨dst, op, ty, pos, af, none⟩]; simp only [exec, ← hx]; rfl
      | false => simp only [exl, exec, ← hx, putT_tg]
  rw [e2 _ rfl]
  unfold gd
  simp only [List.getElem?_toArray]
  cases h : (ops[j]?).bind (·.dst) with
  | none => rfl
  | some d =>
    simp only
    cases hv : tg Ts d <;> simp only [gdk]
    rename_i x
    cases x <;> simp only
    rename_i b
    cases hb : (b == want) <;> simp

theorem gdk_tt (o : Oper) : gdk P Q k ops dr rest acc N Ts Os n o true (.lit (.bool true)) = exl P Q k ops dr ({ o with guard := none } :: rest) acc N Ts Os n := by simp [gdk]
theorem gdk_ff (o : Oper) : gdk P Q k ops dr rest acc N Ts Os n o false (.lit (.bool false)) = exl P Q k ops dr ({ o with guard := none } :: rest) acc N Ts Os n := by simp [gdk]
theorem gdk_tf (o : Oper) : gdk P Q k ops dr rest acc N Ts Os n o true (.lit (.bool false)) = exl P Q k ops dr rest (([], []) :: acc) N (tsO Ts o.dst (.lit undef)) Os n := by simp [gdk]
theorem gdk_ft (o : Oper) : gdk P Q k ops dr rest acc N Ts Os n o false (.lit (.bool true)) = exl P Q k ops dr rest (([], []) :: acc) N (tsO Ts o.dst (.lit undef)) Os n := by simp [gdk]
theorem gdk_tup (o : Oper) (w : Bool) (vs : Array Value) : gdk P Q k ops dr rest acc N Ts Os n o w (.lit (.tuple vs)) = exl P Q k ops dr rest (([], []) :: acc) N (tsO Ts o.dst (.lit undef)) Os n := rfl
theorem gdk_undef (o : Oper) (w : Bool) : gdk P Q k ops dr rest acc N Ts Os n o w (.lit undef) = exl P Q k ops dr rest (([], []) :: acc) N (tsO Ts o.dst (.lit undef)) Os n := rfl
theorem gdk_split {o : Oper} {w t : Bool} (h1 : t = true → gdk P Q k ops dr rest acc N Ts Os n o w (.lit (.bool true))) (h0 : t = false → gdk P Q k ops dr rest acc N Ts Os n o w (.lit (.bool false))) :
    gdk P Q k ops dr rest acc N Ts Os n o w (.lit (.bool t)) := by cases t <;> simp_all

theorem exl_op {op : Op} (hc : isCall op = false) : exl P Q k ops dr (⟨dst, op, ty, pos, af, none⟩ :: rest) acc N Ts Os n = opk P Q k ops dr rest acc N Ts Os n dst (evOp P (tg Ts) (og Os) n ⟨dst, op, ty, pos, af, none⟩) := by
  simp only [exl, exec, gd, hc, Bool.false_eq_true, if_false]
  cases evOp P (tg Ts) (og Os) n ⟨dst, op, ty, pos, af, none⟩ with
  | none => rfl
  | some F => simp only [opk, exl, putT_tg, upd_og]

/-- A call, by whatever contract. -/
theorem exl_uc {f : FuncId} {args : List Operand} {ats : Array TypeId} {vs : List V} {pre : List (Nat × OB)} {r : V} {post : List (Nat × Option OB)} (n' : Nat) (hc : callable P f = true) (h : UC P f vs pre r post)
    (hv : args.map (ev (tg Ts)) = vs) (hpre : ∀ p ∈ pre, og Os p.1 = some p.2) (hpost : ∀ p ∈ post, p.1 ∈ pre.map (·.1) ∨ n ≤ p.1) (hn : n ≤ n') (hn' : ∀ p ∈ post, p.1 < n')
    (next : exl P Q k ops dr rest ((pre.map (·.1), post.map (·.1)) :: acc) N (tsO Ts dst r) (osL Os post) n') :
    exl P Q k ops dr (⟨dst, .call ⟨.value (.func f), args.toArray, ats⟩, ty, pos, af, none⟩ :: rest) acc N Ts Os n := by
  simp only [exl, exec, gd, isCall, if_true]
  refine ⟨⟨r, pre, post⟩, n', ok_call rfl hc (hv ▸ h), hpre, hpost, hn, hn', ?_⟩
  simp only [putT_tg, upd_og]
  exact next

theorem co_trees {zs : List (Nat × OB)} : ∀ {vs : List V}, V.allTree vs = true → CoL zs vs vs
  | [], _ => .nil
  | v :: l, h => by simp only [V.allTree, Bool.and_eq_true] at h; exact .cons (.tree h.1) (co_trees h.2)

theorem exl_iscall {f : FuncId} {args : List Operand} {ats : Array TypeId} (h : exl P Q k ops dr (⟨dst, .call ⟨.value (.func f), args.toArray, ats⟩, ty, pos, af, none⟩ :: rest) acc N Ts Os n) :
    exl P Q k ops dr (⟨dst, .call ⟨.value (.func f), args.toArray, ats⟩, ty, pos, af, none⟩ :: rest) acc N Ts Os n := h

/-- A call on plain data. -/
theorem exl_pure {f : FuncId} {args : List Operand} {ats : Array TypeId} {vs : List V} {r : V} (hc : callable P f = true) (h : PureC P f vs r) (hv : args.map (ev (tg Ts)) = vs) (ht : V.allTree vs = true)
    (next : exl P Q k ops dr rest (([], []) :: acc) N (tsO Ts dst r) Os n) : exl P Q k ops dr (⟨dst, .call ⟨.value (.func f), args.toArray, ats⟩, ty, pos, af, none⟩ :: rest) acc N Ts Os n :=
  exl_uc n hc (PureC.uc (zs := []) h (co_trees ht)) hv (by simp) (by simp) (Nat.le_refl _) (by simp) next

/-- A call that reads own rows, and answers with a number or a flag. -/
theorem exl_reads {f : FuncId} {args : List Operand} {ats : Array TypeId} {vs ws : List V} {r : Value} (zs : List (Nat × OB)) (hc : callable P f = true) (h : PureC P f ws (.lit r)) (hv : args.map (ev (tg Ts)) = vs) (hco : CoL zs vs ws)
    (hz : ∀ p ∈ zs, og Os p.1 = some p.2) (next : exl P Q k ops dr rest ((zs.map (·.1), []) :: acc) N (tsO Ts dst (.lit r)) Os n) : exl P Q k ops dr (⟨dst, .call ⟨.value (.func f), args.toArray, ats⟩, ty, pos, af, none⟩ :: rest) acc N Ts Os n :=
  exl_uc n hc (PureC.uc_lit (zs := zs) h hco) hv hz (by simp) (Nat.le_refl _) (by simp) next

/-- A call that own rows are given to, for good. -/
theorem exl_gives {f : FuncId} {args : List Operand} {ats : Array TypeId} {vs ws : List V} {r : V} (zs : List (Nat × OB)) (hc : callable P f = true) (h : PureC P f ws r) (hv : args.map (ev (tg Ts)) = vs) (hco : CoL zs vs ws)
    (hz : ∀ p ∈ zs, og Os p.1 = some p.2) (hl : ∀ p ∈ zs, p.1 < n) (next : exl P Q k ops dr rest ((zs.map (·.1), (zs.map fun p => (p.1, (none : Option OB))).map (·.1)) :: acc) N (tsO Ts dst r) (osL Os (zs.map fun p => (p.1, none))) n) :
    exl P Q k ops dr (⟨dst, .call ⟨.value (.func f), args.toArray, ats⟩, ty, pos, af, none⟩ :: rest) acc N Ts Os n :=
  exl_uc n hc (PureC.uc (zs := zs) h hco) hv hz (fun p hp => .inl (by obtain ⟨q, hq, rfl⟩ := List.mem_map.1 hp; exact List.mem_map.2 ⟨q, hq, rfl⟩)) (Nat.le_refl _)
    (fun p hp => by obtain ⟨q, hq, rfl⟩ := List.mem_map.1 hp; exact hl q hq) next

/-! Loops. -/

def renF (l : List (Option Nat)) : Nat → Option Nat := fun i => l.getD i none

section
variable (ρ : List (Option Nat)) (zs : List (Nat × OB))

def intoT : List V → List V → Prop
  | [], _ => True
  | v :: l, [] => v = .junk ∧ intoT l []
  | v :: l, a :: l' => Wk (renF ρ) ρ.length zs a v ∧ intoT l l'

def oneO (Os : List (Option OB)) (ob : OB) : Option Nat → Prop
  | some i => i ∉ zs.map (·.1) ∧ ∃ ob0, og Os i = some ob0 ∧ OWk (renF ρ) ρ.length zs ob0 ob
  | none => ∃ e es, ob = .row e es 0 []

def intoO (Os : List (Option OB)) : List (Option OB) → List (Option Nat) → Prop
  | [], [] => True
  | some ob :: l, x :: is => oneO ρ zs Os ob x ∧ intoO Os l is
  | _, _ => False
end

/-- What is known now gives what the loop asks for: of each object asked for: which it was (none: nil); the rows that are only read from here on. -/
def Into (Ts : List V) (Os : List (Option OB)) (Ts' : List V) (Os' : List (Option OB)) : Prop :=
  ∃ (ρ : List (Option Nat)) (zs : List (Nat × OB)), ρ.Pairwise (fun a b => a = none ∨ a ≠ b) ∧ (∀ p ∈ zs, og Os p.1 = some p.2) ∧ intoT ρ zs Ts' Ts ∧ intoO ρ zs Os Os' ρ

theorem intoT_at {ρ : List (Option Nat)} {zs : List (Nat × OB)} : ∀ {l l' : List V}, intoT ρ zs l l' → ∀ i, Wk (renF ρ) ρ.length zs (tg l' i) (tg l i)
  | [], _, _, i => .junk
  | v :: l, [], h, 0 => by rw [tg_zero, h.1]; exact .junk
  | v :: l, [], h, i + 1 => intoT_at h.2 i
  | v :: l, a :: l', h, 0 => h.1
  | v :: l, a :: l', h, i + 1 => intoT_at h.2 i

theorem intoO_at {ρ : List (Option Nat)} {zs : List (Nat × OB)} {Os : List (Option OB)} : ∀ {l : List (Option OB)} {is : List (Option Nat)}, intoO ρ zs Os l is →
    l.length = is.length ∧ ∀ i ob, og l i = some ob → i < is.length ∧ oneO ρ zs Os ob (is.getD i none)
  | [], [], _ => ⟨rfl, fun i ob h => by cases h⟩
  | some o :: l, x :: is, h => by
    obtain ⟨h1, h2⟩ := intoO_at h.2
    refine ⟨by simp [h1], fun j ob hj => ?_⟩
    cases j with
    | zero => rw [og_zero] at hj; cases hj; exact ⟨by simp, h.1⟩
    | succ j => obtain ⟨k1, k2⟩ := h2 j ob hj; exact ⟨by simpa using k1, by simpa using k2⟩
  | none :: l, [], h => by cases h
  | none :: l, _ :: _, h => by cases h
  | some o :: l, [], h => by cases h
  | [], i :: is, h => by cases h

theorem Into.weaker {Ts' : List V} {Os' : List (Option OB)} (h : Into Ts Os Ts' Os') : Weaker ⟨N, tg Ts, og Os, n⟩ ⟨N, tg Ts', og Os', Os'.length⟩ := by
  obtain ⟨ρ, zs, hd, hz, hT, hO⟩ := h
  obtain ⟨hl, hO'⟩ := intoO_at hO
  refine ⟨rfl, renF ρ, zs, hz, fun i => ?_, fun id ob hid => ?_, fun i j x hi hj e e' => ?_⟩
  · rw [show Os'.length = ρ.length from hl]; exact intoT_at hT i
  · obtain ⟨h1, h2⟩ := hO' id ob hid
    refine ⟨hl ▸ h1, ?_⟩
    rw [show Os'.length = ρ.length from hl]
    generalize hx : ρ.getD id none = x at h2
    cases x with
    | some i => obtain ⟨k1, ob0, k2, k3⟩ := h2; exact .inl ⟨i, ob0, hx, k2, k1, k3⟩
    | none => exact .inr ⟨hx, h2⟩
  · simp only [hl] at hi hj
    simp only [renF, List.getD_eq_getElem?_getD, List.getElem?_eq_getElem hi, List.getElem?_eq_getElem hj, Option.getD_some] at e e'
    rw [List.pairwise_iff_getElem] at hd
    rcases Nat.lt_trichotomy i j with h | h | h
    · rcases hd i j hi hj h with k | k
      · rw [e] at k; cases k
      · exact absurd (e.trans e'.symm) k
    · exact h
    · rcases hd j i hj hi h with k | k
      · rw [e'] at k; cases k
      · exact absurd (e'.trans e.symm) k

section
variable {r : Nat → Option Nat} {m : Nat} {zs : List (Nat × OB)}
theorem wk_junk {v : V} : Wk r m zs v .junk ↔ True := ⟨fun _ => trivial, fun _ => .junk⟩
theorem wk_lit {a b : Value} : Wk r m zs (.lit a) (.lit b) ↔ a = b :=
  ⟨fun h => by cases h with | co h => cases h; rfl, fun h => h ▸ .co (.tree rfl)⟩
theorem wk_lst {es es' : Nat} {l l' : List V} : Wk r m zs (.lst es l) (.lst es' l') ↔ es = es' ∧ l = l' :=
  ⟨fun h => by cases h with | co h => cases h; exact ⟨rfl, rfl⟩, fun h => by obtain ⟨rfl, rfl⟩ := h; exact .co (.tree rfl)⟩
theorem wk_iptr {l l' : List V} : Wk r m zs (.iptr l) (.iptr l') ↔ l = l' :=
  ⟨fun h => by cases h with | co h => cases h; rfl, fun h => h ▸ .co (.tree rfl)⟩
theorem wk_ref {i j : Nat} : Wk r m zs (.ref i) (.ref j) ↔ j < m ∧ r j = some i :=
  ⟨fun h => by cases h with | co h => cases h with | tree h => simp [V.isTree] at h
                            | ref h1 h2 => exact ⟨h1, h2⟩, fun h => .ref h.1 h.2⟩
theorem wk_ptr {i j k k' : Nat} : Wk r m zs (.ptr i k) (.ptr j k') ↔ j < m ∧ r j = some i ∧ k = k' :=
  ⟨fun h => by cases h with | co h => cases h with | tree h => simp [V.isTree] at h
                            | ptr h1 h2 => exact ⟨h1, h2, rfl⟩, fun h => by obtain ⟨h1, h2, rfl⟩ := h; exact .ptr h1 h2⟩
theorem wk_nil {j : Nat} : Wk r m zs (.lit (.slice none 0 0)) (.ref j) ↔ j < m ∧ r j = none :=
  ⟨fun h => by cases h with | co h => cases h
                            | nil h1 h2 => exact ⟨h1, h2⟩, fun h => .nil h.1 h.2⟩
theorem wk_nilst {es : Nat} {l : List V} : Wk r m zs (.lit (.slice none 0 0)) (.lst es l) ↔ l = [] :=
  ⟨fun h => by cases h with | co h => cases h; rfl, fun h => h ▸ .co .nil⟩
theorem wkL_nil : WkL r m zs [] [] ↔ True := ⟨fun _ => trivial, fun _ => ⟨rfl, by simp⟩⟩
theorem wkL_cons {a b : V} {cs ds : List V} : WkL r m zs (a :: cs) (b :: ds) ↔ Wk r m zs a b ∧ WkL r m zs cs ds := by
  constructor
  · intro h
    exact ⟨h.2 0 a b rfl rfl, by have := h.1; simpa using this, fun j x y hx hy => h.2 (j + 1) x y (by simpa using hx) (by simpa using hy)⟩
  · rintro ⟨h1, h2, h3⟩
    refine ⟨by simp [h2], fun j x y hx hy => ?_⟩
    cases j with
    | zero => simp at hx hy; subst hx; subst hy; exact h1
    | succ j => exact h3 j x y (by simpa using hx) (by simpa using hy)
theorem wkL_append {a b c d : List V} (h1 : WkL r m zs a c) (h2 : WkL r m zs b d) : WkL r m zs (a ++ b) (c ++ d) := by
  refine ⟨by simp [h1.1, h2.1], fun j x y hx hy => ?_⟩
  rcases Nat.lt_or_ge j a.length with hj | hj
  · rw [List.getElem?_append_left hj] at hx
    rw [List.getElem?_append_left (by rw [h1.1]; exact hj)] at hy
    exact h1.2 j x y hx hy
  · rw [List.getElem?_append_right hj] at hx
    rw [List.getElem?_append_right (by rw [h1.1]; exact hj), h1.1] at hy
    exact h2.2 _ x y hx hy
theorem wk_tree {v : V} (h : v.isTree = true) : Wk r m zs v v := .co (.tree h)
theorem wkL_trees {cs : List V} (h : V.allTree cs = true) : WkL r m zs cs cs := ⟨rfl, fun j x y hx hy => by rw [hx] at hy; cases hy; exact wk_tree (V.allTree_at h hx)⟩
theorem isTree_lit {v : Value} : (V.lit v).isTree = true := rfl
theorem isTree_lst {es : Nat} {l : List V} : (V.lst es l).isTree = true := rfl
theorem isTree_iptr {l : List V} : (V.iptr l).isTree = true := rfl
theorem allTree_nil : V.allTree [] = true := rfl
theorem allTree_cons {v : V} {l : List V} : V.allTree (v :: l) = (v.isTree && V.allTree l) := rfl
theorem allTree_append {a b : List V} : V.allTree (a ++ b) = (V.allTree a && V.allTree b) := by
  induction a with
  | nil => simp [V.allTree]
  | cons x a ih => simp [V.allTree, ih, Bool.and_assoc]
theorem wk_agg {cs ds : List V} : Wk r m zs (.agg cs) (.agg ds) ↔ WkL r m zs cs ds := by
  constructor
  · intro h
    cases h with
    | co h => cases h with
      | tree h => exact wkL_trees (by rw [V.isTree] at h; exact h)
      | agg hl h => exact ⟨hl, fun j x y hx hy => .co (h j x y hx hy)⟩
    | agg hl h => exact ⟨hl, h⟩
  · rintro ⟨h1, h2⟩; exact .agg h1 h2
theorem owk_box {cs ds : List V} : OWk r m zs (.box cs) (.box ds) ↔ WkL r m zs cs ds := ⟨fun h => by cases h; assumption, .box⟩
theorem owk_row {e e' : TypeId} {es es' n n' : Nat} {cs ds : List V} : OWk r m zs (.row e es n cs) (.row e' es' n' ds) ↔ e = e' ∧ es = es' ∧ n = n' ∧ WkL r m zs cs ds :=
  ⟨fun h => by cases h; exact ⟨rfl, rfl, rfl, by assumption⟩, fun h => by obtain ⟨rfl, rfl, rfl, h⟩ := h; exact .row h⟩
/-- A row of plain cells comes to rest. -/
theorem wk_rest {i e es n : Nat} {cs l : List V} (hm : (i, OB.row e es n cs) ∈ zs) (hc : cellsOf l = cs) (hn : l.length = n) (hes : ∀ x ∈ l, x.cells.length = es) (ht : V.allTree cs = true) : Wk r m zs (.ref i) (.lst es l) :=
  .co (.row hm (by rw [hc]) hn hes fun j x t hx hy => by rw [hc, hx] at hy; cases hy; exact .tree (V.allTree_at ht hx))
end

/-- The loop's head is reached once more. -/
def again {α : Type} (F : α → List V) (G : α → List (Option OB)) (m : α → Nat) (p : α → Prop) (N : Nat) (a : α) (S : ES) : Prop :=
  ∃ a' Ts Os n, S = ⟨N, tg Ts, og Os, n⟩ ∧ p a' ∧ m a' < m a ∧ Into Ts Os (F a') (G a')

theorem gol_loop {c : Code} {α : Type} (F : α → List V) (G : α → List (Option OB)) (m : α → Nat) (p : α → Prop) (a0 : α) (hm : P.follows .mixedOrders = true) (hb : codeB N c = true) (h0 : p a0) (hi : Into Ts Os (F a0) (G a0))
    (round : ∀ a, p a → gol P (andThen (again F G m p N a) (ck P Q k)) [] c N (F a) (G a) (G a).length) : gol P Q k (.loop c) N Ts Os n := by
  have key : AC P (.loop c) (ck P Q k) ⟨N, tg (F a0), og (G a0), (G a0).length⟩ := by
    refine cx_loop (N := N) hm rfl hb (fun j S => ∃ a, p a ∧ m a = j ∧ S = ⟨N, tg (F a), og (G a), (G a).length⟩) (m a0) ⟨a0, h0, rfl, rfl⟩ ?_
    rintro j S' hN hl ⟨a, hp, rfl, rfl⟩
    have := round a hp
    refine cx_mono (fun e S hq => ?_) _ _ this
    cases e with
    | normal => obtain ⟨a', Ts', Os', n', rfl, h1, h2, h3⟩ := hq; exact ⟨m a', _, h3.weaker, h2, a', h1, rfl, rfl⟩
    | exit id => exact hq
    | goto l => exact hq
    | ret => exact hq
    | panic ch => exact hq
    | outgrown => exact hq
  exact key.weaken hi.weaker

theorem gol_loopw {c : Code} {α : Type} (F : α → List V) (G : α → List (Option OB)) (m : α → Nat) (p : α → Prop) (a0 : α) (hm : P.follows .mixedOrders = true) (hb : codeB N c = true) (h0 : p a0) (hi : Into Ts Os (F a0) (G a0))
    (round : ∀ a, p a → golw P (andThen (again F G m p N a) (ck P Q k)) [] c N (F a) (G a) (G a).length) : gol P Q k (.loop c) N Ts Os n := by
  have key : AC P (.loop c) (ck P Q k) ⟨N, tg (F a0), og (G a0), (G a0).length⟩ := by
    refine cxw_loop (N := N) hm rfl hb (fun j S => ∃ a, p a ∧ m a = j ∧ S = ⟨N, tg (F a), og (G a), (G a).length⟩) (m a0) ⟨a0, h0, rfl, rfl⟩ ?_
    rintro j S' hN hl ⟨a, hp, rfl, rfl⟩
    have := round a hp
    refine cxw_mono (fun e S hq => ?_) _ _ this
    cases e with
    | normal => obtain ⟨a', Ts', Os', n', rfl, h1, h2, h3⟩ := hq; exact ⟨m a', _, h3.weaker, h2, a', h1, rfl, rfl⟩
    | exit id => exact hq
    | goto l => exact hq
    | ret => exact hq
    | panic ch => exact hq
    | outgrown => exact hq
  exact key.weaken hi.weaker

/-- A place that all ways come to: one of a family of frames and objects. -/
def mids {α : Type} (F : α → List V) (G : α → List (Option OB)) (p : α → Prop) (N : Nat) (S : ES) : Prop := ∃ a Ts Os n, S = ⟨N, tg Ts, og Os, n⟩ ∧ p a ∧ Into Ts Os (F a) (G a)

theorem golw_cut {α : Type} {c1 c2 : Code} (F : α → List V) (G : α → List (Option OB)) (p : α → Prop) (h1 : golw P (andThen (mids F G p N) (ck P Q k)) [] c1 N Ts Os n)
    (h2 : ∀ a, p a → golw P Q k c2 N (F a) (G a) (G a).length) : golw P Q k (.seq c1 c2) N Ts Os n := by
  show cxw P c1 (andThenW (cxw P c2 (ck P Q k)) (ck P Q k)) _
  refine cxw_mono (fun e S h => ?_) c1 _ h1
  cases e with
  | normal => obtain ⟨a, Ts', Os', n', rfl, hp, hi⟩ := h; exact .inr ⟨_, hi.weaker, h2 a hp⟩
  | exit id => exact h
  | goto l => exact h
  | ret => exact h
  | panic ch => exact h
  | outgrown => exact h

theorem bkl_mid {α : Type} {F : α → List V} {G : α → List (Option OB)} {p : α → Prop} (a : α) (hp : p a) (hi : Into Ts Os (F a) (G a)) : bkl P (andThen (mids F G p N) (ck P Q k)) [] .normal N Ts Os n := ⟨a, Ts, Os, n, rfl, hp, hi⟩
theorem bkl_seqw_reg {id : Nat} {l : Array Oper} {d : Bool} {c : Code} (h : golw P Q k (.seq (.region id l d) c) N Ts Os n) : bkl P Q (.seqw (.seq (.region id l d) c) :: k) .normal N Ts Os n := .inl h
theorem bkl_seqw_reg1 {id : Nat} {l : Array Oper} {d : Bool} (h : golw P Q k (.region id l d) N Ts Os n) : bkl P Q (.seqw (.region id l d) :: k) .normal N Ts Os n := .inl h
theorem bkl_seqw_b (id : Nat) {c c2 : Code} (h : golw P Q k (.seq (.block id c) c2) N Ts Os n) : bkl P Q (.seqw (.seq (.block id c) c2) :: k) .normal N Ts Os n := .inl h
theorem bkl_seqw_sb (id : Nat) {r c c2 : Code} (h : golw P Q k (.seq (.seq r (.block id c)) c2) N Ts Os n) : bkl P Q (.seqw (.seq (.seq r (.block id c)) c2) :: k) .normal N Ts Os n := .inl h
theorem bkl_seqw_ret1 (h : golw P Q k .ret N Ts Os n) : bkl P Q (.seqw .ret :: k) .normal N Ts Os n := .inl h
theorem bkl_seqw_skip (h : golw P Q k .skip N Ts Os n) : bkl P Q (.seqw .skip :: k) .normal N Ts Os n := .inl h

/-- Less is said from here on. -/
theorem bkl_into {c : Code} (Ts' : List V) (Os' : List (Option OB)) (hi : Into Ts Os Ts' Os') (h : golw P Q k c N Ts' Os' Os'.length) : bkl P Q (.seqw c :: k) .normal N Ts Os n := .inr ⟨_, hi.weaker, h⟩

theorem bkl_again {α : Type} {F : α → List V} {G : α → List (Option OB)} {m : α → Nat} {p : α → Prop} {a : α} (a' : α) (hp : p a') (hm : m a' < m a) (hi : Into Ts Os (F a') (G a')) :
    bkl P (andThen (again F G m p N a) (ck P Q k)) [] .normal N Ts Os n := ⟨a', Ts, Os, n, rfl, hp, hm, hi⟩
theorem bkl_again_exit {X : ES → Prop} (id : Nat) : bkl P (andThen X (ck P Q k)) [] (.exit id) N Ts Os n = bkl P Q k (.exit id) N Ts Os n := rfl
theorem bkl_again_ret {X : ES → Prop} : bkl P (andThen X (ck P Q k)) [] .ret N Ts Os n = bkl P Q k .ret N Ts Os n := rfl

/-! Bodies. -/

theorem pure_of_gol {f : FuncId} {fn : Func} {c : Code} {vs : List V} {r : V} (N : Nat) (hm : P.follows .mixedOrders = true) (hf : P.funcs[f]? = some fn) (hb : fn.body = some c)
    (hN : N = vs.length + (fn.ntmps - vs.length)) (hc : codeB N c = true) (h : gol P (Ends P fn r) [] c N vs [] 0) : PureC P f vs r :=
  pure_of_cx N hm hf hb hN hc h

theorem pure_of_golw {f : FuncId} {fn : Func} {c : Code} {vs : List V} {r : V} (N : Nat) (hm : P.follows .mixedOrders = true) (hf : P.funcs[f]? = some fn) (hb : fn.body = some c)
    (hN : N = vs.length + (fn.ntmps - vs.length)) (hc : codeB N c = true) (h : golw P (Ends P fn r) [] c N vs [] 0) : PureC P f vs r :=
  pure_of_cxw N hm hf hb hN hc h

theorem ends_tmp {fn : Func} {r : V} {d : Nat} {e : Exit} (hr : fn.results.toList = [.tmp d]) (he : e = .normal ∨ e = .ret) (hv : tg Ts d = r) (ht : r.isTree = true) : bkl P (Ends P fn r) [] e N Ts Os n :=
  ⟨he, r, [], by simp [retV, retL, retOne, hr, hv], by simp, .tree ht⟩

theorem ends_co {fn : Func} {v r : V} {e : Exit} (zs : List (Nat × OB)) (he : e = .normal ∨ e = .ret) (hv : retV P (tg Ts) (og Os) fn.results.toList = some v) (hz : ∀ p ∈ zs, og Os p.1 = some p.2) (hco : Co zs v r) :
    bkl P (Ends P fn r) [] e N Ts Os n := ⟨he, v, zs, hv, hz, hco⟩

/-- A result that lies in a variable. -/
theorem ends_cell {fn : Func} {r v : V} {d id k m : Nat} {t : TypeId} {agg : Bool} {ob : OB} {e : Exit} (zs : List (Nat × OB)) (hr : fn.results.toList = [.cell d t]) (hc : cellsN P t = some (m, agg)) (he : e = .normal ∨ e = .ret) (hd : tg Ts d = .ptr id k)
    (ho : og Os id = some ob) (hv : evRead (obCells ob) k m agg = some v) (hz : ∀ p ∈ zs, og Os p.1 = some p.2) (hco : Co zs v r) : bkl P (Ends P fn r) [] e N Ts Os n :=
  ⟨he, v, zs, by simp [retV, retL, retOne, hr, hc, hd, ho, hv], hz, hco⟩

end

end Go.AV
