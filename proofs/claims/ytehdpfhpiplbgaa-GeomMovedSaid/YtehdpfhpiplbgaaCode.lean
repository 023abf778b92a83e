/-
  Code over abstract values: regions, branches, loops, functions, calls.
-/
import Derived.Test.YtehdpfhpiplbgaaWeak
namespace Go.AV
set_option linter.unusedSimpArgs false
set_option linter.unusedVariables false
open Go.RowKit

/-- The numbers in use lie below k. -/
def Low (O : Nat → Option OB) (k : Nat) : Prop := ∀ id ob, O id = some ob → id < k

theorem upd_low {O : Nat → Option OB} {post : List (Nat × Option OB)} {k k' : Nat} (hl : Low O k) (hk : k ≤ k') (hp : ∀ p ∈ post, p.1 < k') : Low (upd O post) k' := by
  intro id ob h
  by_cases hm : id ∈ post.map (·.1)
  · obtain ⟨p, hp', rfl⟩ := List.mem_map.1 hm; exact hp p hp'
  · rw [upd_other hm] at h; exact Nat.lt_of_lt_of_le (hl id ob h) hk

/-- Whole: and so on. -/
structure Good (N : Nat) (S : ES) : Prop where
  N : S.N = N
  low : Low S.O S.n

def AC (P : Program) (c : Code) (Q : Exit → ES → Prop) (S : ES) : Prop :=
  ∀ (σ : Nat → Option Value) (R : Nat → Nat → Prop) (base : Nat) (w0 : Org) (a : Act) (w : World), SimS σ R base w0 S.st a w → Good S.N S →
    c.wp P (fun e a' w' => ∃ σ' R' S', Q e S' ∧ SimS σ' R' base w0 (ES.st S') a' w' ∧ Keeps R R' w w' ∧ Good S.N S') a w

theorem SimH.dmono {σ : Nat → Option Value} {R : Nat → Nat → Prop} {base : Nat} {w0 : Org} {w : World} {O : Nat → Option OB} {D D' : Nat → Prop} (h : SimH σ R base w0 w O D) (hd : ∀ m, D m → D' m) : SimH σ R base w0 w O D' :=
  ⟨h.below, h.base_le, h.rold, h.rin, h.objs, h.inj, fun id v hv => hd _ (h.dom id v hv)⟩

section code
variable {P : Program} {Q : Exit → ES → Prop} {S : ES}

theorem AC.mono {c : Code} {Q' : Exit → ES → Prop} (h : AC P c Q S) (hq : ∀ e S', Q e S' → Q' e S') : AC P c Q' S :=
  fun _ _ _ _ a w sim hg => wp_mono (h _ _ _ _ a w sim hg) fun _ _ _ ⟨σ', R', S', q, r⟩ => ⟨σ', R', S', hq _ _ q, r⟩

theorem Good.weaken {N : Nat} {S S' : ES} (h : Good N S) (hw : Weaker S S') : Good N S' :=
  ⟨hw.N.trans h.N, fun id ob hid => by obtain ⟨_, ρ, zs, _, _, hO, _⟩ := hw; exact (hO id ob hid).1⟩

theorem AC.weaken {c : Code} {S' : ES} (hw : Weaker S S') (h : AC P c Q S') : AC P c Q S := fun _ _ _ _ a w sim hg => by
  obtain ⟨σ', R', sim', hk⟩ := sim.weaken hw
  have := h _ _ _ _ a w sim' ((hw.N ▸ hg).weaken hw)
  rw [hw.N] at this
  exact wp_mono this fun e a' w' ⟨σ2, R2, S2, q, s, k, g⟩ => ⟨σ2, R2, S2, q, s, hk.trans k, g⟩

theorem AC.skip (h : Q .normal S) : AC P .skip Q S := fun _ _ _ _ _ w sim hg => wp_skip ⟨_, _, S, h, sim, .refl _ w, hg⟩
theorem AC.exit {id : Nat} (h : Q (.exit id) S) : AC P (.exit id) Q S := fun _ _ _ _ _ w sim hg => wp_exit ⟨_, _, S, h, sim, .refl _ w, hg⟩
theorem AC.ret (h : Q .ret S) : AC P .ret Q S := fun _ _ _ _ _ w sim hg => wp_ret ⟨_, _, S, h, sim, .refl _ w, hg⟩

/-- Then. -/
def andThen (next : ES → Prop) (Q : Exit → ES → Prop) : Exit → ES → Prop
  | .normal, S => next S
  | e, S => Q e S

theorem AC.seq {x y : Code} (h : AC P x (andThen (AC P y Q) Q) S) : AC P (.seq x y) Q S := by
  intro σ R base w0 a w sim hg
  refine wp_seq (wp_mono (h _ _ _ _ a w sim hg) ?_)
  intro e a' w' ⟨σ', R', S', hq, sim', hx, hg'⟩
  cases e with
  | normal => exact wp_mono (hq _ _ _ _ a' w' sim' (hg'.N.symm ▸ hg')) fun e a'' w'' ⟨σ'', R'', S'', q, s, x, g⟩ => ⟨σ'', R'', S'', q, s, hx.trans x, hg'.N ▸ g⟩
  | exit id => exact ⟨σ', R', S', hq, sim', hx, hg'⟩
  | goto l => exact ⟨σ', R', S', hq, sim', hx, hg'⟩
  | ret => exact ⟨σ', R', S', hq, sim', hx, hg'⟩
  | panic ch => exact ⟨σ', R', S', hq, sim', hx, hg'⟩
  | outgrown => exact ⟨σ', R', S', hq, sim', hx, hg'⟩

theorem AC.cond {c : Operand} {x y : Code} {b : Bool} (hc : ev S.T c = .lit (.bool b)) (h : AC P (if b then x else y) Q S) : AC P (.cond c x y) Q S := by
  intro σ R base w0 a w sim hg
  have hv : RV σ R w (ev S.T c) (a.eval c) := ev_rv (l := [c]) (fun t _ => sim.tmps t) (by simp)
  rw [hc] at hv
  exact wp_cond (rv_lit hv) (h _ _ _ _ a w sim hg)

/-- A block's own exit is its end. -/
def atBlock (id : Nat) (Q : Exit → ES → Prop) : Exit → ES → Prop
  | .exit id', S => if id' = id then Q .normal S else Q (.exit id') S
  | e, S => Q e S

theorem AC.block {id : Nat} {c : Code} (h : AC P c (atBlock id Q) S) : AC P (.block id c) Q S := by
  intro σ R base w0 a w sim hg
  refine wp_block (wp_mono (h _ _ _ _ a w sim hg) ?_)
  intro e a' w' ⟨σ', R', S', hq, sim', hx, hg'⟩
  cases e with
  | exit id' =>
    simp only [Exit.inBlock]
    simp only [atBlock] at hq
    split
    · rename_i e; rw [if_pos e] at hq; exact ⟨σ', R', S', hq, sim', hx, hg'⟩
    · rename_i e; rw [if_neg e] at hq; exact ⟨σ', R', S', hq, sim', hx, hg'⟩
  | normal => exact ⟨σ', R', S', hq, sim', hx, hg'⟩
  | goto l => exact ⟨σ', R', S', hq, sim', hx, hg'⟩
  | ret => exact ⟨σ', R', S', hq, sim', hx, hg'⟩
  | panic ch => exact ⟨σ', R', S', hq, sim', hx, hg'⟩
  | outgrown => exact ⟨σ', R', S', hq, sim', hx, hg'⟩

/-- A loop: an invariant with a number that each round lowers. -/
theorem AC.loop {c : Code} (I : Nat → ES → Prop) (k : Nat) (h0 : I k S) (round : ∀ k S', Good S.N S' → I k S' → AC P c (andThen (fun S1 => ∃ k' S2, Weaker S1 S2 ∧ k' < k ∧ I k' S2) Q) S') : AC P (.loop c) Q S := by
  intro σ R base w0 a w sim hg
  refine wp_loop_ghost (fun k a' w' => ∃ σ' R' S', I k S' ∧ SimS σ' R' base w0 (ES.st S') a' w' ∧ Keeps R R' w w' ∧ Good S.N S') k ⟨σ, R, S, h0, sim, .refl _ _, hg⟩ ?_
  intro k a' w' ⟨σ', R', S', hI, sim', hx, hg'⟩
  refine wp_mono (round k S' hg' hI _ _ _ _ a' w' sim' (hg'.N.symm ▸ hg')) ?_
  intro e a2 w2 ⟨σ2, R2, S2, hq, sim2, hx2, hg2⟩
  rw [hg'.N] at hg2
  cases e with
  | normal =>
    obtain ⟨k', S3, hw, hlt, hI'⟩ := hq
    exact (by obtain ⟨σ3, R3, sim3, hk3⟩ := sim2.weaken hw; exact ⟨k', hlt, σ3, R3, S3, hI', sim3, (hx.trans hx2).trans hk3, hg2.weaken hw⟩)
  | exit id => exact ⟨σ2, R2, S2, hq, sim2, hx.trans hx2, hg2⟩
  | goto l => exact ⟨σ2, R2, S2, hq, sim2, hx.trans hx2, hg2⟩
  | ret => exact ⟨σ2, R2, S2, hq, sim2, hx.trans hx2, hg2⟩
  | panic ch => exact ⟨σ2, R2, S2, hq, sim2, hx.trans hx2, hg2⟩
  | outgrown => exact ⟨σ2, R2, S2, hq, sim2, hx.trans hx2, hg2⟩

/-- A region, operation by operation. -/
inductive Walk (P : Program) (ops : Array Oper) : List Oper → List Fp → St → St → Prop
  | nil {S : St} : Walk P ops [] [] S S
  | cons {o : Oper} {rest : List Oper} {F : Fp} {fs : List Fp} {S Sn : St} (h : StepAt P ops o F S) (r : Walk P ops rest fs (S.step o.dst F) Sn) : Walk P ops (o :: rest) (F :: fs) S Sn

theorem Walk.run {ops : Array Oper} {l : List Oper} {fs : List Fp} {A B : St} (h : Walk P ops l fs A B) : ∀ i, (∀ k, l[k]? = ops[i + k]?) → fs.length = l.length ∧ Run P ops ((fs.zipIdx i).map fun (F, i) => (i, F)) A B := by
  induction h with
  | nil => intro i _; exact ⟨rfl, rfl⟩
  | @cons o rest F fs A B hs _ ih =>
    intro i hi
    have h0 : ops[i]? = some o := by simpa using (hi 0).symm
    obtain ⟨h1, h2⟩ := ih (i + 1) fun k => by
      have := hi (k + 1)
      rw [List.getElem?_cons_succ] at this
      rw [this]; congr 1; omega
    refine ⟨by simp [h1], ?_⟩
    rw [List.zipIdx_cons, List.map_cons]
    exact ⟨o, h0, hs, h2⟩

def WK (P : Program) (ops : List Oper) (draw : Bool) (rest : List Oper) (acc : List (List Nat × List Nat)) (N : Nat) (T : Nat → V) (O : Nat → Option OB) (k : Nat) (K : ES → Prop) : Prop :=
  ∀ D : Nat → Prop, (∀ m, D m → m < k) → Low O k → ∃ fs Sn k', Walk P ops.toArray rest fs ⟨N, T, O, D⟩ Sn ∧ (draw = true → footB (acc.reverse ++ fs.map Fp.ids) (freePairs ops) = true) ∧ (∀ m, Sn.D m → m < k') ∧
    Low Sn.O k' ∧ Sn.N = N ∧ K ⟨Sn.N, Sn.T, Sn.O, k'⟩

/-- What the text of a region must meet. -/
def regB (l : List Oper) (draw : Bool) : Bool := !draw || (lexB l && apartB l.toArray (freePairs l))

theorem AC.region {id : Nat} {l : List Oper} {draw : Bool} (hm : P.follows .mixedOrders = true) (hb : regB l draw = true) (h : WK P l draw l [] S.N S.T S.O S.n (Q .normal)) : AC P (.region id l.toArray draw) Q S := by
  intro σ R base w0 a w sim hg
  obtain ⟨fs, Sn, k', hw, hf, hk, hl, hN, hQ⟩ := h (fun m => m < S.n) (fun m h => h) hg.low
  obtain ⟨h1, h2⟩ := hw.run 0 fun k => by simp
  refine wp_region_run hm h1 (fun hd => ?_) (S := S.st) (by simpa [numbered, ES.st] using h2) sim fun σ' R' a' w' sim' hx => ?_
  · unfold regB at hb
    rw [hd] at hb
    simp only [Bool.not_true, Bool.false_or, Bool.and_eq_true] at hb
    exact ⟨hb.1, hb.2, by simpa using hf hd⟩
  · exact ⟨σ', R', _, hQ, ⟨sim'.heap.dmono hk, sim'.tmps, sim'.size, sim'.defers⟩, hx.keeps, hN, hl⟩

theorem WK.nil {ops : List Oper} {draw : Bool} {acc : List (List Nat × List Nat)} {N : Nat} {T : Nat → V} {O : Nat → Option OB} {k : Nat} {K : ES → Prop} (hf : draw = true → footB acc.reverse (freePairs ops) = true)
    (h : K ⟨N, T, O, k⟩) : WK P ops draw [] acc N T O k K := fun D hD hl => ⟨[], _, k, .nil, by simpa using hf, hD, hl, rfl, h⟩

theorem WK.step {ops : List Oper} {draw : Bool} {o : Oper} {rest : List Oper} {acc : List (List Nat × List Nat)} {N : Nat} {T : Nat → V} {O : Nat → Option OB} {k k' : Nat} {K : ES → Prop} {F : Fp} (hg : gd ops.toArray T o = some true)
    (hop : OpOK P o T F) (hpre : ∀ p ∈ F.pre, O p.1 = some p.2) (hpost : ∀ p ∈ F.post, p.1 ∈ F.pre.map (·.1) ∨ k ≤ p.1) (hk : k ≤ k') (hk' : Low O k → ∀ p ∈ F.post, p.1 < k') (hd : ∀ d, o.dst = some d → d < N)
    (h : WK P ops draw rest (F.ids :: acc) N (putT T o.dst F.v) (upd O F.post) k' K) : WK P ops draw (o :: rest) acc N T O k K := by
  intro D hD hl
  obtain ⟨fs, Sn, k'', h1, h2, h3, h4⟩ := h (dset D F.post) (fun m hm => by
    rcases hm with hm | hm
    · exact Nat.lt_of_lt_of_le (hD m hm) hk
    · obtain ⟨p, hp, rfl⟩ := List.mem_map.1 hm
      exact hk' hl p hp) (upd_low hl hk (hk' hl))
  refine ⟨F :: fs, Sn, k'', .cons ⟨.inl ⟨hg, hop⟩, hpre, fun p hp => ?_, hd⟩ h1, by simpa using h2, h3, h4⟩
  rcases hpost p hp with h | h
  · exact .inl h
  · exact .inr fun hd => absurd (hD _ hd) (by omega)

theorem WK.skip {ops : List Oper} {draw : Bool} {o : Oper} {rest : List Oper} {acc : List (List Nat × List Nat)} {N : Nat} {T : Nat → V} {O : Nat → Option OB} {k : Nat} {K : ES → Prop} (hg : gd ops.toArray T o = some false)
    (hd : ∀ d, o.dst = some d → d < N) (h : WK P ops draw rest (([], []) :: acc) N (putT T o.dst (.lit undef)) O k K) : WK P ops draw (o :: rest) acc N T O k K := by
  intro D hD hl
  obtain ⟨fs, Sn, k'', h1, h2, h3, h4⟩ := h D hD hl
  have e1 : St.step ⟨N, T, O, D⟩ o.dst skipF = ⟨N, putT T o.dst (.lit undef), O, D⟩ := by
    simp only [St.step, skipF]
    congr 1
    funext id; simp [dset]
  exact ⟨skipF :: fs, Sn, k'', .cons ⟨.inr ⟨hg, rfl⟩, by simp [skipF], by simp [skipF], hd⟩ (e1 ▸ h1), by simpa [Fp.ids, skipF] using h2, h3, h4⟩

end code

/-! Contracts. -/

/-- A call that works on objects: what it looks at, what becomes of it. -/
def UC (P : Program) (f : FuncId) (args : List V) (pre : List (Nat × OB)) (r : V) (post : List (Nat × Option OB)) : Prop :=
  ∀ (σ : Nat → Option Value) (R : Nat → Nat → Prop) (base : Nat) (w0 : Org) (w : World) (O : Nat → Option OB) (D : Nat → Prop) (us : List Value), SimH σ R base w0 w O D → (∀ p ∈ pre, O p.1 = some p.2) →
    (∀ p ∈ post, p.1 ∈ pre.map (·.1) ∨ ¬ D p.1) → PW (RV σ R w) args us →
    Calls P f us.toArray w fun e w' => ∃ u σ' R', e = .returned u ∧ SimH σ' R' base w0 w' (upd O post) (dset D post) ∧ Ext σ R w σ' R' w' ∧ RV σ' R' w' r u

/-- A call on plain data. -/
def PureC (P : Program) (f : FuncId) (args : List V) (r : V) : Prop :=
  ∀ (R : Nat → Nat → Prop) (w : World) (us : List Value), (∀ b j, R b j → b < w.heap.size) → PW (RT R w) args us →
    Calls P f us.toArray w fun e w' => ∃ u R', e = .returned u ∧ Below w.heap.size w w' ∧ Keeps R R' w w' ∧ (∀ b j, R' b j → b < w'.heap.size) ∧ (∀ b j, b < w.heap.size → R' b j → R b j) ∧ RT R' w' r u

/-- Can a function be entered? -/
def callable (P : Program) (f : FuncId) : Bool :=
  match P.funcs[f]? with
  | some fn => !(fn.name == "runtime.NumGoroutine") && fn.body.isSome
  | none => false

theorem run_callFunc {P : Program} {f : FuncId} (h : callable P f = true) (args : Array Value) (w : World) : (callFunc f args).run P w = .ok (.enter f args) w := by
  unfold callable at h
  cases hf : P.funcs[f]? with
  | none => simp [hf] at h
  | some fn =>
    simp only [hf, Bool.and_eq_true, Bool.not_eq_true'] at h
    obtain ⟨h1, h2⟩ := h
    have h3 : fn.body.isNone = false := by cases hb : fn.body <;> simp [hb] at h2 ⊢
    unfold callFunc
    rw [Sem.run_bind, run_program, Result.andThen_ok, hf]
    simp only [h1, h3, Bool.false_eq_true, if_false]
    rfl

theorem args_pw {σ : Nat → Option Value} {R : Nat → Nat → Prop} {w : World} {T : Nat → V} {a : Act} (l : List Operand) (h : ∀ x ∈ l, RV σ R w (ev T x) (a.eval x)) : PW (RV σ R w) (l.map (ev T)) (l.map a.eval) := by
  refine ⟨by simp, fun j x u hx hu => ?_⟩
  rw [List.getElem?_map] at hx hu
  cases hj : l[j]? with
  | none => simp [hj] at hx
  | some y =>
    rw [hj] at hx hu
    simp only [Option.map_some, Option.some.injEq] at hx hu
    subst hx
    subst hu
    exact h y (List.mem_of_getElem? hj)

/-- A call of a named function. -/
theorem ok_call {P : Program} {o : Oper} {T : Nat → V} {f : FuncId} {args : List Operand} {ts : Array TypeId} (ho : o.op = .call { callee := .value (.func f), args := args.toArray, argTypes := ts }) (hc : callable P f = true)
    {pre : List (Nat × OB)} {r : V} {post : List (Nat × Option OB)} (h : UC P f (args.map (ev T)) pre r post) : OpOK P o T ⟨r, pre, post⟩ := by
  intro σ R base w0 w O D a hs hp hq hx _ K Q hK
  have hx' : ∀ x ∈ args, RV σ R w (ev T x) (a.eval x) := fun x hm =>
    ev_rv (l := o.op.operands.toList) (fun t ht => hx t (by simpa using ht)) (by simp [ho, Op.operands, Call.operands, hm])
  have hcall := h _ _ _ _ _ _ _ (args.map a.eval) hs hp hq (args_pw args hx')
  have hrun : (execOp a.eval o).run P w = .ok (.enter f (args.map a.eval).toArray) w := by
    simp only [execOp, ho, resolve, Act.eval, Deferred.ofValue, Sem.run_bind, Sem.run_pure, Result.andThen_ok, invoke]
    rw [run_callFunc hc]
    simp
  unfold Oper.wp
  rw [hrun, Oper.upon_enter]
  exact hcall.mono fun e w' ⟨u, σ', R', he, h1, h2, h3⟩ => by subst he; exact hK σ' R' w' u h1 h2 h3

end Go.AV
