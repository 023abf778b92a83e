/-
  Code run over abstract values, as one formula.
-/
import Derived.Test.YtehdpfhpiplbgaaFun
namespace Go.AV
set_option linter.unusedSimpArgs false
set_option linter.unusedVariables false
open Go.RowKit

def nextK (k : Nat) : List (Nat × Option OB) → Nat
  | [] => k
  | _ :: _ => k + 1

/-- A call: somebody's contract. -/
def CallW (P : Program) (o : Oper) (T : Nat → V) (O : Nat → Option OB) (k : Nat) (next : Fp → Nat → Prop) : Prop :=
  ∃ F k', OpOK P o T F ∧ (∀ p ∈ F.pre, O p.1 = some p.2) ∧ (∀ p ∈ F.post, p.1 ∈ F.pre.map (·.1) ∨ k ≤ p.1) ∧ k ≤ k' ∧ (∀ p ∈ F.post, p.1 < k') ∧ next F k'

def isCall : Op → Bool
  | .call { callee := .value _, .. } => true
  | _ => false

def dstOk (N : Nat) : Option Tmp → Bool
  | none => true
  | some d => decide (d < N)

def exec (P : Program) (ops : List Oper) (draw : Bool) : List Oper → List (List Nat × List Nat) → Nat → (Nat → V) → (Nat → Option OB) → Nat → (ES → Prop) → Prop
  | [], acc, N, T, O, k, K => (draw = true → footB acc.reverse (freePairs ops) = true) ∧ K ⟨N, T, O, k⟩
  | o :: rest, acc, N, T, O, k, K =>
    match gd ops.toArray T o with
    | some true =>
      if isCall o.op then CallW P o T O k fun F k' => exec P ops draw rest (F.ids :: acc) N (putT T o.dst F.v) (upd O F.post) k' K
      else
        match evOp P T O k o with
        | some F => exec P ops draw rest (F.ids :: acc) N (putT T o.dst F.v) (upd O F.post) (nextK k F.post) K
        | none => False
    | some false => exec P ops draw rest (([], []) :: acc) N (putT T o.dst (.lit undef)) O k K
    | none => False

theorem exec_wk {P : Program} {ops : List Oper} {draw : Bool} : ∀ (rest : List Oper) (acc : List (List Nat × List Nat)) (N : Nat) (T : Nat → V) (O : Nat → Option OB) (k : Nat) (K : ES → Prop),
    rest.all (fun o => dstOk N o.dst) = true → exec P ops draw rest acc N T O k K → WK P ops draw rest acc N T O k K
  | [], acc, N, T, O, k, K, _, h => .nil h.1 h.2
  | o :: rest, acc, N, T, O, k, K, hd, h => by
    simp only [List.all_cons, Bool.and_eq_true] at hd
    have hd1 : ∀ d, o.dst = some d → d < N := fun d e => by have := hd.1; rw [e] at this; simpa [dstOk] using this
    unfold exec at h
    split at h
    · rename_i hg
      split at h
      · obtain ⟨F, k', h1, h2, h3, h4, h5, h6⟩ := h
        exact .step hg h1 h2 h3 h4 (fun _ => h5) hd1 (exec_wk rest _ N _ _ k' K hd.2 h6)
      · split at h
        · rename_i F he
          have hok := evOp_ok he
          have hn : F.post = [] ∧ nextK k F.post = k ∨ nextK k F.post = k + 1 := by
            cases hF : F.post with
            | nil => exact .inl ⟨rfl, rfl⟩
            | cons a l => exact .inr rfl
          refine .step (k' := nextK k F.post) hg hok.op hok.pre (fun p hp => ?_) (by omega) (fun hl p hp' => ?_) hd1 (exec_wk rest _ N _ _ _ K hd.2 h)
          · rcases hok.post p hp with h | h
            · exact .inl h
            · exact .inr (Nat.le_of_eq h.symm)
          · have hp : p.1 < k + 1 := by
              rcases hok.post p hp' with h | h
              · obtain ⟨q, hq, e⟩ := List.mem_map.1 h
                have := hl q.1 q.2 (hok.pre q hq)
                omega
              · omega
            rcases hn with ⟨hn, _⟩ | hn
            · rw [hn] at hp'; cases hp'
            · rw [hn]; exact hp
        · exact h.elim
    · rename_i hg
      exact .skip hg hd1 (exec_wk rest _ N _ _ k K hd.2 h)
    · exact h.elim

/-- A branch. -/
def condW (v : V) (A B : Prop) : Prop :=
  match v with
  | .lit (.bool b) => if b then A else B
  | _ => False

def cx (P : Program) : Code → (Exit → ES → Prop) → ES → Prop
  | .skip, Q, S => Q .normal S
  | .seq a b, Q, S => cx P a (andThen (cx P b Q) Q) S
  | .cond c a b, Q, S => condW (ev S.T c) (cx P a Q S) (cx P b Q S)
  | .block id c, Q, S => cx P c (atBlock id Q) S
  | .exit id, Q, S => Q (.exit id) S
  | .ret, Q, S => Q .ret S
  | .region _ ops draw, Q, S => exec P ops.toList draw ops.toList [] S.N S.T S.O S.n (Q .normal)
  | .loop c, Q, S => AC P (.loop c) Q S
  | _, _, _ => False

theorem exec_mono {P : Program} {ops : List Oper} {draw : Bool} {K K' : ES → Prop} (hk : ∀ S, K S → K' S) : ∀ (rest : List Oper) (acc : List (List Nat × List Nat)) (N : Nat) (T : Nat → V) (O : Nat → Option OB) (k : Nat),
    exec P ops draw rest acc N T O k K → exec P ops draw rest acc N T O k K'
  | [], acc, N, T, O, k, h => ⟨h.1, hk _ h.2⟩
  | o :: rest, acc, N, T, O, k, h => by
    unfold exec at h ⊢
    split at h
    · split at h
      · rename_i hc
        rw [if_pos hc]
        obtain ⟨F, k', h1, h2, h3, h4, h5, h6⟩ := h
        exact ⟨F, k', h1, h2, h3, h4, h5, exec_mono hk _ _ _ _ _ _ h6⟩
      · rename_i hc
        rw [if_neg hc]
        split at h
        · exact exec_mono hk _ _ _ _ _ _ h
        · exact h.elim
    · exact exec_mono hk _ _ _ _ _ _ h
    · exact h.elim

theorem condW_mono {v : V} {A B A' B' : Prop} (ha : A → A') (hb : B → B') (h : condW v A B) : condW v A' B' := by
  unfold condW at h ⊢
  split at h
  · rename_i b
    cases b
    · simp only [Bool.false_eq_true, if_false] at h ⊢; exact hb h
    · simp only [if_true] at h ⊢; exact ha h
  · exact h.elim

theorem andThen_mono {K K' : ES → Prop} {Q Q' : Exit → ES → Prop} (hk : ∀ S, K S → K' S) (hq : ∀ e S, Q e S → Q' e S) : ∀ e S, andThen K Q e S → andThen K' Q' e S
  | .normal, S, h => hk S h
  | .exit _, S, h => hq _ S h
  | .goto _, S, h => hq _ S h
  | .ret, S, h => hq _ S h
  | .panic _, S, h => hq _ S h
  | .outgrown, S, h => hq _ S h

theorem atBlock_mono {id : Nat} {Q Q' : Exit → ES → Prop} (hq : ∀ e S, Q e S → Q' e S) : ∀ e S, atBlock id Q e S → atBlock id Q' e S
  | .exit id', S, h => by
    simp only [atBlock] at h ⊢
    split
    · rename_i e; rw [if_pos e] at h; exact hq _ _ h
    · rename_i e; rw [if_neg e] at h; exact hq _ _ h
  | .normal, S, h => hq _ S h
  | .goto _, S, h => hq _ S h
  | .ret, S, h => hq _ S h
  | .panic _, S, h => hq _ S h
  | .outgrown, S, h => hq _ S h

theorem cx_mono {P : Program} : ∀ {Q Q' : Exit → ES → Prop}, (∀ e S, Q e S → Q' e S) → ∀ (c : Code) (S : ES), cx P c Q S → cx P c Q' S := by
  intro Q Q' hq c
  induction c generalizing Q Q' with
  | skip => intro S h; exact hq _ _ h
  | seq a b iha ihb => intro S h; exact iha (andThen_mono (fun S h => ihb hq S h) hq) S h
  | cond c a b iha ihb => intro S h; exact condW_mono (iha hq S) (ihb hq S) h
  | block id c ih => intro S h; exact ih (atBlock_mono hq) S h
  | exit id => intro S h; exact hq _ _ h
  | ret => intro S h; exact hq _ _ h
  | region id ops draw => intro S h; exact exec_mono (hq .normal) _ _ _ _ _ _ h
  | loop c _ => intro S h; exact AC.mono h hq
  | _ => intro S h; exact h.elim

/-- What the text of a body must meet. -/
def codeB (N : Nat) : Code → Bool
  | .region _ ops draw => regB ops.toList draw && ops.toList.all fun o => dstOk N o.dst
  | .seq a b => codeB N a && codeB N b
  | .cond _ a b => codeB N a && codeB N b
  | .block _ c => codeB N c
  | .loop c => codeB N c
  | _ => true

theorem cx_ac {P : Program} (hm : P.follows .mixedOrders = true) : ∀ (c : Code) (Q : Exit → ES → Prop) (S : ES) (N : Nat), codeB N c = true → Good N S → cx P c Q S → AC P c Q S
  | .skip, Q, S, N, _, _, h => .skip h
  | .seq a b, Q, S, N, hb, hg, h => by
    simp only [codeB, Bool.and_eq_true] at hb
    refine .seq ?_
    intro σ R base w0 A w sim hg'
    refine wp_mono (cx_ac hm a _ S N hb.1 hg h _ _ _ _ A w sim hg') ?_
    intro e a' w' ⟨σ', R', S', hq, s, x, g⟩
    refine ⟨σ', R', S', ?_, s, x, g⟩
    cases e with
    | normal => exact cx_ac hm b Q S' N hb.2 ⟨g.N.trans hg.N, g.low⟩ hq
    | exit id => exact hq
    | goto l => exact hq
    | ret => exact hq
    | panic ch => exact hq
    | outgrown => exact hq
  | .cond c a b, Q, S, N, hb, hg, h => by
    simp only [codeB, Bool.and_eq_true] at hb
    unfold cx condW at h
    split at h
    · rename_i t ht
      refine .cond ht ?_
      cases t
      · exact cx_ac hm b Q S N hb.2 hg (by simpa using h)
      · exact cx_ac hm a Q S N hb.1 hg (by simpa using h)
    · exact h.elim
  | .block id c, Q, S, N, hb, hg, h => .block (cx_ac hm c _ S N hb hg h)
  | .exit id, Q, S, N, _, _, h => .exit h
  | .ret, Q, S, N, _, _, h => .ret h
  | .region id ops draw, Q, S, N, hb, hg, h => by
    simp only [codeB, Bool.and_eq_true] at hb
    have := AC.region (id := id) (Q := Q) (S := S) hm hb.1 (exec_wk _ _ _ _ _ _ _ (by rw [hg.N]; exact hb.2) h)
    rwa [Array.toArray_toList] at this
  | .loop c, Q, S, N, _, _, h => h
  | .rangeFunc _ _ _ _, Q, S, N, _, _, h => h.elim
  | .scope _, Q, S, N, _, _, h => h.elim
  | .label _, Q, S, N, _, _, h => h.elim
  | .goto _, Q, S, N, _, _, h => h.elim
  | .refuse _, Q, S, N, _, _, h => h.elim

/-! The same, where less may be said between two statements. -/

def andThenW (next : ES → Prop) (Q : Exit → ES → Prop) : Exit → ES → Prop
  | .normal, S => next S ∨ ∃ S', Weaker S S' ∧ next S'
  | e, S => Q e S

def cxw (P : Program) : Code → (Exit → ES → Prop) → ES → Prop
  | .seq a b, Q, S => cxw P a (andThenW (cxw P b Q) Q) S
  | .cond c a b, Q, S => condW (ev S.T c) (cxw P a Q S) (cxw P b Q S)
  | .block id c, Q, S => cxw P c (atBlock id Q) S
  | c, Q, S => cx P c Q S

theorem andThenW_mono {K K' : ES → Prop} {Q Q' : Exit → ES → Prop} (hk : ∀ S, K S → K' S) (hq : ∀ e S, Q e S → Q' e S) : ∀ e S, andThenW K Q e S → andThenW K' Q' e S
  | .normal, S, h => by
    rcases h with h | ⟨S', h1, h2⟩
    · exact .inl (hk S h)
    · exact .inr ⟨S', h1, hk S' h2⟩
  | .exit _, S, h => hq _ S h
  | .goto _, S, h => hq _ S h
  | .ret, S, h => hq _ S h
  | .panic _, S, h => hq _ S h
  | .outgrown, S, h => hq _ S h

theorem cxw_mono {P : Program} : ∀ {Q Q' : Exit → ES → Prop}, (∀ e S, Q e S → Q' e S) → ∀ (c : Code) (S : ES), cxw P c Q S → cxw P c Q' S := by
  intro Q Q' hq c
  induction c generalizing Q Q' with
  | seq a b iha ihb => intro S h; exact iha (andThenW_mono (fun S h => ihb hq S h) hq) S h
  | cond c a b iha ihb => intro S h; exact condW_mono (iha hq S) (ihb hq S) h
  | block id c ih => intro S h; exact ih (atBlock_mono hq) S h
  | skip => intro S h; exact cx_mono hq _ S h
  | exit id => intro S h; exact cx_mono hq _ S h
  | ret => intro S h; exact cx_mono hq _ S h
  | region id ops draw => intro S h; exact cx_mono hq _ S h
  | loop c _ => intro S h; exact cx_mono hq _ S h
  | _ => intro S h; exact h.elim

theorem andThen_W {K : ES → Prop} {Q : Exit → ES → Prop} : ∀ e S, andThen K Q e S → andThenW K Q e S
  | .normal, S, h => .inl h
  | .exit _, S, h => h
  | .goto _, S, h => h
  | .ret, S, h => h
  | .panic _, S, h => h
  | .outgrown, S, h => h

theorem cx_cxw {P : Program} : ∀ {Q : Exit → ES → Prop} (c : Code) (S : ES), cx P c Q S → cxw P c Q S := by
  intro Q c
  induction c generalizing Q with
  | seq a b iha ihb => intro S h; exact cxw_mono (fun e S h => andThen_W e S (andThen_mono (fun S h => ihb S h) (fun _ _ h => h) e S h)) a S (iha S h)
  | cond c a b iha ihb => intro S h; exact condW_mono (iha S) (ihb S) h
  | block id c ih => intro S h; exact ih S h
  | _ => intro S h; exact h

theorem cxw_ac {P : Program} (hm : P.follows .mixedOrders = true) : ∀ (c : Code) (Q : Exit → ES → Prop) (S : ES) (N : Nat), codeB N c = true → Good N S → cxw P c Q S → AC P c Q S
  | .seq a b, Q, S, N, hb, hg, h => by
    simp only [codeB, Bool.and_eq_true] at hb
    refine .seq ?_
    intro σ R base w0 A w sim hg'
    refine wp_mono (cxw_ac hm a _ S N hb.1 hg h _ _ _ _ A w sim hg') ?_
    intro e a' w' ⟨σ', R', S', hq, s, x, g⟩
    refine ⟨σ', R', S', ?_, s, x, g⟩
    cases e with
    | normal =>
      rcases hq with hq | ⟨S2, hw, hq⟩
      · exact cxw_ac hm b Q S' N hb.2 ⟨g.N.trans hg.N, g.low⟩ hq
      · exact .weaken hw (cxw_ac hm b Q S2 N hb.2 (Good.weaken ⟨g.N.trans hg.N, g.low⟩ hw) hq)
    | exit id => exact hq
    | goto l => exact hq
    | ret => exact hq
    | panic ch => exact hq
    | outgrown => exact hq
  | .cond c a b, Q, S, N, hb, hg, h => by
    simp only [codeB, Bool.and_eq_true] at hb
    unfold cxw condW at h
    split at h
    · rename_i t ht
      refine .cond ht ?_
      cases t
      · exact cxw_ac hm b Q S N hb.2 hg (by simpa using h)
      · exact cxw_ac hm a Q S N hb.1 hg (by simpa using h)
    · exact h.elim
  | .block id c, Q, S, N, hb, hg, h => .block (cxw_ac hm c _ S N hb hg h)
  | .skip, Q, S, N, hb, hg, h => cx_ac hm _ Q S N hb hg h
  | .exit id, Q, S, N, hb, hg, h => cx_ac hm _ Q S N hb hg h
  | .ret, Q, S, N, hb, hg, h => cx_ac hm _ Q S N hb hg h
  | .region id ops draw, Q, S, N, hb, hg, h => cx_ac hm _ Q S N hb hg h
  | .loop c, Q, S, N, hb, hg, h => cx_ac hm _ Q S N hb hg h
  | .rangeFunc _ _ _ _, Q, S, N, hb, hg, h => cx_ac hm _ Q S N hb hg h
  | .scope _, Q, S, N, hb, hg, h => cx_ac hm _ Q S N hb hg h
  | .label _, Q, S, N, hb, hg, h => cx_ac hm _ Q S N hb hg h
  | .goto _, Q, S, N, hb, hg, h => cx_ac hm _ Q S N hb hg h
  | .refuse _, Q, S, N, hb, hg, h => cx_ac hm _ Q S N hb hg h

/-- A body without its text's fine print. -/
theorem pure_of_cx {P : Program} {f : FuncId} {fn : Func} {c : Code} {ts : List V} {r : V} (N : Nat) (hm : P.follows .mixedOrders = true) (hf : P.funcs[f]? = some fn) (hb : fn.body = some c)
    (hN : N = ts.length + (fn.ntmps - ts.length)) (hc : codeB N c = true) (h : cx P c (Ends P fn r) ⟨N, tg ts, fun _ => none, 0⟩) : PureC P f ts r :=
  pure_of_body hf hb (hN ▸ cx_ac hm c _ _ N hc ⟨rfl, fun id ob h => (nomatch h)⟩ h)

theorem pure_of_cxw {P : Program} {f : FuncId} {fn : Func} {c : Code} {ts : List V} {r : V} (N : Nat) (hm : P.follows .mixedOrders = true) (hf : P.funcs[f]? = some fn) (hb : fn.body = some c)
    (hN : N = ts.length + (fn.ntmps - ts.length)) (hc : codeB N c = true) (h : cxw P c (Ends P fn r) ⟨N, tg ts, fun _ => none, 0⟩) : PureC P f ts r :=
  pure_of_body hf hb (hN ▸ cxw_ac hm c _ _ N hc ⟨rfl, fun id ob h => (nomatch h)⟩ h)

/-- A round of a loop, in one formula. -/
theorem cx_loop {P : Program} (hm : P.follows .mixedOrders = true) {c : Code} {Q : Exit → ES → Prop} {S : ES} {N : Nat} (hN : S.N = N) (hc : codeB N c = true) (I : Nat → ES → Prop) (k : Nat) (h0 : I k S)
    (round : ∀ k S', S'.N = N → Low S'.O S'.n → I k S' → cx P c (andThen (fun S1 => ∃ k' S2, Weaker S1 S2 ∧ k' < k ∧ I k' S2) Q) S') : AC P (.loop c) Q S :=
  .loop I k h0 fun k S' hg hI => cx_ac hm c _ S' N hc ⟨hg.N.trans hN, hg.low⟩ (round k S' (hg.N.trans hN) hg.low hI)

theorem cxw_loop {P : Program} (hm : P.follows .mixedOrders = true) {c : Code} {Q : Exit → ES → Prop} {S : ES} {N : Nat} (hN : S.N = N) (hc : codeB N c = true) (I : Nat → ES → Prop) (k : Nat) (h0 : I k S)
    (round : ∀ k S', S'.N = N → Low S'.O S'.n → I k S' → cxw P c (andThen (fun S1 => ∃ k' S2, Weaker S1 S2 ∧ k' < k ∧ I k' S2) Q) S') : AC P (.loop c) Q S :=
  .loop I k h0 fun k S' hg hI => cxw_ac hm c _ S' N hc ⟨hg.N.trans hN, hg.low⟩ (round k S' (hg.N.trans hN) hg.low hI)

end Go.AV
