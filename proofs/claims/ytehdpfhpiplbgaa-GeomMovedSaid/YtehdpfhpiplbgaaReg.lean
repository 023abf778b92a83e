/-
  Regions over abstract values: one walk in the order of the text serves every order that the tape may pick.
-/
import Derived.Test.YtehdpfhpiplbgaaBase
namespace Go.AV
set_option linter.unusedSimpArgs false
set_option linter.unusedVariables false

/-- What one operation does: its value; the objects that it looks at; what becomes of objects. -/
structure Fp where
  v : V
  pre : List (Nat × OB)
  post : List (Nat × Option OB)

def upd (O : Nat → Option OB) (post : List (Nat × Option OB)) : Nat → Option OB := fun id =>
  match post.lookup id with
  | some x => x
  | none => O id

def dset (D : Nat → Prop) (post : List (Nat × Option OB)) : Nat → Prop := fun id => D id ∨ id ∈ post.map (·.1)

/-- A frame and the objects, abstractly. -/
structure St where
  N : Nat
  T : Nat → V
  O : Nat → Option OB
  D : Nat → Prop

/-- One slot turned. -/
def up (T : Nat → V) (d : Nat) (v : V) : Nat → V := fun i => if i = d then v else T i

def putT (T : Nat → V) (d : Option Nat) (v : V) : Nat → V :=
  match d with
  | none => T
  | some d => up T d v

def St.step (S : St) (dst : Option Nat) (F : Fp) : St := ⟨S.N, putT S.T dst F.v, upd S.O F.post, dset S.D F.post⟩

structure SimS (σ : Nat → Option Value) (R : Nat → Nat → Prop) (base : Nat) (w0 : Org) (S : St) (a : Act) (w : World) : Prop where
  heap : SimH σ R base w0 w S.O S.D
  tmps : ∀ i, RV σ R w (S.T i) (a.tmps.getD i undef)
  size : a.tmps.size = S.N
  defers : a.defers = []

/-- An operation keeps to its footprint. -/
def OpOK (P : Program) (o : Oper) (T : Nat → V) (F : Fp) : Prop :=
  ∀ (σ : Nat → Option Value) (R : Nat → Nat → Prop) (base : Nat) (w0 : Org) (w : World) (O : Nat → Option OB) (D : Nat → Prop) (a : Act),
    SimH σ R base w0 w O D → (∀ p ∈ F.pre, O p.1 = some p.2) → (∀ p ∈ F.post, p.1 ∈ F.pre.map (·.1) ∨ ¬ D p.1) →
    (∀ x, Operand.tmp x ∈ o.op.operands → RV σ R w (T x) (a.tmps.getD x undef)) → a.defers = [] →
    ∀ (K : Act → World → Prop) (Q : Exit → Act → World → Prop),
      (∀ σ' R' w' u, SimH σ' R' base w0 w' (upd O F.post) (dset D F.post) → Ext σ R w σ' R' w' → RV σ' R' w' F.v u → K (a.put o.dst u) w') → o.wp P a w K Q

/-- Is the operation wanted? -/
def gd (ops : Array Oper) (T : Nat → V) (o : Oper) : Option Bool :=
  match o.guard with
  | none => some true
  | some (j, want) =>
    match (ops[j]?).bind (·.dst) with
    | none => some false
    | some d =>
      match T d with
      | .lit (.bool b) => some (b == want)
      | .lit (.tuple _) => some false
      | _ => none

def skipF : Fp := ⟨.lit undef, [], []⟩

structure StepAt (P : Program) (ops : Array Oper) (o : Oper) (F : Fp) (S : St) : Prop where
  ok : (gd ops S.T o = some true ∧ OpOK P o S.T F) ∨ (gd ops S.T o = some false ∧ F = skipF)
  pre : ∀ p ∈ F.pre, S.O p.1 = some p.2
  post : ∀ p ∈ F.post, p.1 ∈ F.pre.map (·.1) ∨ ¬ S.D p.1
  dst : ∀ d, o.dst = some d → d < S.N

def Run (P : Program) (ops : Array Oper) : List (Nat × Fp) → St → St → Prop
  | [], S, S' => S' = S
  | (i, F) :: l, S, S' => ∃ o, ops[i]? = some o ∧ StepAt P ops o F S ∧ Run P ops l (S.step o.dst F) S'

/-- Footprints apart. -/
def fdisj (A B : Fp) : Bool :=
  A.post.all (fun p => !(B.pre.any (·.1 == p.1)) && !(B.post.any (·.1 == p.1))) && B.post.all (fun p => !(A.pre.any (·.1 == p.1)))

theorem fdisj_spec {A B : Fp} (h : fdisj A B = true) : (∀ p ∈ A.post, p.1 ∉ B.pre.map (·.1)) ∧ (∀ p ∈ A.post, p.1 ∉ B.post.map (·.1)) ∧ (∀ p ∈ B.post, p.1 ∉ A.pre.map (·.1)) := by
  unfold fdisj at h
  simp only [Bool.and_eq_true, List.all_eq_true, Bool.not_eq_true', List.any_eq_false, beq_iff_eq] at h
  refine ⟨fun p hp hm => ?_, fun p hp hm => ?_, fun p hp hm => ?_⟩
  · obtain ⟨q, hq, e⟩ := List.mem_map.1 hm; exact (h.1 p hp).1 q hq e
  · obtain ⟨q, hq, e⟩ := List.mem_map.1 hm; exact (h.1 p hp).2 q hq e
  · obtain ⟨q, hq, e⟩ := List.mem_map.1 hm; exact h.2 p hp q hq e

theorem lookup_none {β : Type} {l : List (Nat × β)} {id : Nat} (h : id ∉ l.map (·.1)) : l.lookup id = none := by
  induction l with
  | nil => rfl
  | cons p l ih =>
    simp only [List.map_cons, List.mem_cons, not_or] at h
    rw [List.lookup_cons, ih h.2]
    have : (id == p.1) = false := by simpa using h.1
    rw [this]

theorem lookup_isSome {β : Type} {l : List (Nat × β)} {id : Nat} (h : id ∈ l.map (·.1)) : ∃ x, l.lookup id = some x := by
  induction l with
  | nil => simp at h
  | cons p l ih =>
    rw [List.lookup_cons]
    by_cases e : id = p.1
    · subst e; exact ⟨p.2, by simp⟩
    · have : (id == p.1) = false := by simpa using e
      rw [this]
      simp only [List.map_cons, List.mem_cons] at h
      exact ih (h.resolve_left e)

theorem upd_other {O : Nat → Option OB} {post : List (Nat × Option OB)} {id : Nat} (h : id ∉ post.map (·.1)) : upd O post id = O id := by
  unfold upd; rw [lookup_none h]

theorem upd_comm {O : Nat → Option OB} {p q : List (Nat × Option OB)} (h : ∀ x ∈ p, x.1 ∉ q.map (·.1)) : upd (upd O p) q = upd (upd O q) p := by
  funext id
  by_cases hq : id ∈ q.map (·.1)
  · have hp : id ∉ p.map (·.1) := fun hm => by obtain ⟨x, hx, rfl⟩ := List.mem_map.1 hm; exact h x hx hq
    rw [upd_other (post := p) hp]
    obtain ⟨x, hx⟩ := lookup_isSome hq
    simp only [upd, hx]
  · rw [upd_other hq]
    unfold upd
    rw [lookup_none hq]

theorem dset_comm (D : Nat → Prop) (p q : List (Nat × Option OB)) : dset (dset D p) q = dset (dset D q) p := by
  funext id; unfold dset; exact propext ⟨fun h => by rcases h with (h | h) | h <;> simp [h], fun h => by rcases h with (h | h) | h <;> simp [h]⟩

theorem putT_comm (T : Nat → V) {x y : Option Nat} (v u : V) (h : ∀ d, x = some d → y ≠ some d) : putT (putT T x v) y u = putT (putT T y u) x v := by
  cases x with
  | none => rfl
  | some d =>
    cases y with
    | none => rfl
    | some e =>
      have hne : d ≠ e := fun he => h d rfl (he ▸ rfl)
      funext i
      simp only [putT, up]
      by_cases h1 : i = e
      · subst h1; simp [Ne.symm hne]
      · by_cases h2 : i = d
        · subst h2; simp [h1]
        · simp [h1, h2]

theorem putT_other {T : Nat → V} {d : Option Nat} {v : V} {i : Nat} (h : d ≠ some i) : putT T d v i = T i := by
  cases d with
  | none => rfl
  | some d => simp only [putT, up]; rw [if_neg (fun e => h (by rw [e]))]

theorem OpOK.congr {P : Program} {o : Oper} {T T' : Nat → V} {F : Fp} (h : OpOK P o T F) (ht : ∀ x, Operand.tmp x ∈ o.op.operands → T' x = T x) : OpOK P o T' F :=
  fun _ _ _ _ _ _ _ a hs hp hq hx hd K Q hK => h _ _ _ _ _ _ _ a hs hp hq (fun x hm => ht x hm ▸ hx x hm) hd K Q hK

theorem mem_looksAt {ops : Array Oper} {o : Oper} {x : Nat} (h : Operand.tmp x ∈ o.op.operands) : x ∈ o.looksAt ops :=
  List.mem_append_left _ (List.mem_filterMap.2 ⟨.tmp x, by simpa using h, rfl⟩)

theorem gd_congr {ops : Array Oper} {T : Nat → V} {o : Oper} {d : Option Nat} {v : V} (h : ∀ x, d = some x → x ∉ o.looksAt ops) : gd ops (putT T d v) o = gd ops T o := by
  unfold gd
  cases hg : o.guard with
  | none => rfl
  | some jw =>
    obtain ⟨j, want⟩ := jw
    cases hj : (ops[j]?).bind (·.dst) with
    | none => simp only [hj]
    | some t =>
      have : putT T d v t = T t := putT_other fun e => h t e (by simp [Oper.looksAt, hg, hj])
      simp only [hj, this]

theorem OpOK.put {P : Program} {ops : Array Oper} {o : Oper} {T : Nat → V} {F : Fp} {d : Option Nat} {v : V} (h : ∀ x, d = some x → x ∉ o.looksAt ops) : OpOK P o (putT T d v) F ↔ OpOK P o T F := by
  have ht : ∀ x, Operand.tmp x ∈ o.op.operands → putT T d v x = T x := fun x hx => putT_other fun e => h x e (mem_looksAt hx)
  exact ⟨fun k => k.congr fun x hx => (ht x hx).symm, fun k => k.congr ht⟩

/-- Two operations that are apart may change places. -/
theorem step_swap {P : Program} {ops : Array Oper} {oj oi : Oper} {Fj Fi : Fp} {S : St} (hap : oj.apart ops oi = true) (hf : fdisj Fj Fi = true)
    (hj : StepAt P ops oj Fj S) (hi : StepAt P ops oi Fi (S.step oj.dst Fj)) :
    StepAt P ops oi Fi S ∧ StepAt P ops oj Fj (S.step oi.dst Fi) ∧ (S.step oj.dst Fj).step oi.dst Fi = (S.step oi.dst Fi).step oj.dst Fj := by
  obtain ⟨a1, a2, a3⟩ := Oper.apart_spec hap
  obtain ⟨f1, f2, f3⟩ := fdisj_spec hf
  refine ⟨⟨?_, fun p hp => ?_, fun p hp => ?_, hi.dst⟩, ⟨?_, fun p hp => ?_, fun p hp => ?_, hj.dst⟩, ?_⟩
  · rcases hi.ok with ⟨g, k⟩ | ⟨g, k⟩
    · exact .inl ⟨(gd_congr a1).symm.trans g, (OpOK.put a1).1 k⟩
    · exact .inr ⟨(gd_congr a1).symm.trans g, k⟩
  · have := hi.pre p hp
    rwa [show (S.step oj.dst Fj).O = upd S.O Fj.post from rfl, upd_other] at this
    intro hm
    obtain ⟨q, hq, e⟩ := List.mem_map.1 hm
    exact f1 q hq (List.mem_map.2 ⟨p, hp, e.symm⟩)
  · rcases hi.post p hp with h | h
    · exact .inl h
    · exact .inr fun hd => h (.inl hd)
  · rcases hj.ok with ⟨g, k⟩ | ⟨g, k⟩
    · exact .inl ⟨(gd_congr a3).trans g, (OpOK.put a3).2 k⟩
    · exact .inr ⟨(gd_congr a3).trans g, k⟩
  · have := hj.pre p hp
    rw [show (S.step oi.dst Fi).O = upd S.O Fi.post from rfl, upd_other]
    · exact this
    · intro hm
      obtain ⟨q, hq, e⟩ := List.mem_map.1 hm
      exact f3 q hq (List.mem_map.2 ⟨p, hp, e.symm⟩)
  · rcases hj.post p hp with h | h
    · exact .inl h
    · refine .inr fun hd => ?_
      rcases hd with hd | hd
      · exact h hd
      · exact f2 p hp hd
  · simp only [St.step]
    rw [putT_comm S.T _ _ a2, upd_comm (fun x hx => f2 x hx), dset_comm]

/-- An operation before which nothing stands that it must wait for may be taken first. -/
theorem run_first {P : Program} {ops : Array Oper} {i : Nat} {oi : Oper} {Fi : Fp} (hoi : ops[i]? = some oi) : ∀ (l1 l2 : List (Nat × Fp)) (S Sn : St),
    (∀ q ∈ l1, ∀ oj, ops[q.1]? = some oj → oj.apart ops oi = true ∧ fdisj q.2 Fi = true) → Run P ops (l1 ++ (i, Fi) :: l2) S Sn →
    StepAt P ops oi Fi S ∧ Run P ops (l1 ++ l2) (S.step oi.dst Fi) Sn
  | [], l2, S, Sn, _, h => by
    obtain ⟨o, ho, hs, hr⟩ := h
    cases hoi.symm.trans ho
    exact ⟨hs, hr⟩
  | (j, Fj) :: l1, l2, S, Sn, hind, h => by
    obtain ⟨oj, hoj, hs, hr⟩ := h
    obtain ⟨h1, h2⟩ := run_first hoi l1 l2 _ _ (fun q hq => hind q (List.mem_cons_of_mem _ hq)) hr
    obtain ⟨hap, hf⟩ := hind (j, Fj) (List.mem_cons_self ..) oj hoj
    obtain ⟨k1, k2, k3⟩ := step_swap hap hf hs h1
    exact ⟨k1, oj, hoj, k2, k3 ▸ h2⟩

/-- i waits for j. -/
inductive Dep (ops : Array Oper) : Nat → Nat → Prop
  | one {i : Nat} {o : Oper} {e : Edge} (ho : ops[i]? = some o) (he : e ∈ o.after) (hb : Region.binds .any e = true) : Dep ops i e.on
  | step {i j : Nat} {o : Oper} {e : Edge} (ho : ops[i]? = some o) (he : e ∈ o.after) (hb : Region.binds .any e = true) (h : Dep ops e.on j) : Dep ops i j

theorem Dep.listed {ops : Array Oper} {listed : Array Bool} (hc : ∀ j oj, ops[j]? = some oj → listed.getD j false = true → ∀ e ∈ oj.after, Region.binds .any e = true → listed.getD e.on false = true)
    {i j : Nat} (h : Dep ops i j) : (∀ o, ops[i]? = some o → ∀ e ∈ o.after, Region.binds .any e = true → listed.getD e.on false = true) → listed.getD j false = true := by
  induction h with
  | one ho he hb => exact fun k => k _ ho _ he hb
  | step ho he hb _ ih => exact fun k => ih fun o' ho' => hc _ o' ho' (k _ ho _ he hb)

/-- One operation, concretely. -/
theorem wpOp_of_step {P : Program} {ops : Array Oper} {i : Nat} {o : Oper} {F : Fp} {S : St} {σ : Nat → Option Value} {R : Nat → Nat → Prop} {base : Nat} {w0 : Org} {a : Act} {w : World}
    {Q : Exit → Act → World → Prop} {K : Act → World → Prop} (ho : ops[i]? = some o) (hs : StepAt P ops o F S) (sim : SimS σ R base w0 S a w)
    (hK : ∀ σ' R' a' w', SimS σ' R' base w0 (S.step o.dst F) a' w' → Ext σ R w σ' R' w' → K a' w') : wpOp P ops Q i K a w := by
  have hput : ∀ σ' R' w' u, SimH σ' R' base w0 w' (upd S.O F.post) (dset S.D F.post) → Ext σ R w σ' R' w' → RV σ' R' w' F.v u →
      SimS σ' R' base w0 (S.step o.dst F) (a.put o.dst u) w' := by
    intro σ' R' w' u h1 h2 h3
    refine ⟨h1, fun k => ?_, ?_, ?_⟩
    · cases hd : o.dst with
      | none => simp only [Act.put, St.step, putT]; exact (sim.tmps k).ext h2
      | some d =>
        have hlt := hs.dst d hd
        simp only [Act.put, St.step, putT, up]
        by_cases e : k = d
        · subst e
          have : k < a.tmps.size := by rw [sim.size]; exact hlt
          simp [this]
          exact h3
        · rw [if_neg e]
          have : (a.tmps.setIfInBounds d u).getD k undef = a.tmps.getD k undef := by simp [Array.getElem?_setIfInBounds_ne (Ne.symm e)]
          rw [this]
          exact (sim.tmps k).ext h2
    · cases hd : o.dst with
      | none => exact sim.size
      | some d => simp only [Act.put, Array.size_setIfInBounds]; exact sim.size
    · cases hd : o.dst with
      | none => exact sim.defers
      | some d => exact sim.defers
  have hwant : ∀ b, gd ops S.T o = some b → Region.wanted o (yielded ops a.tmps) = b := by
    intro b hb
    unfold gd at hb
    unfold Region.wanted
    cases hg : o.guard with
    | none => rw [hg] at hb; simpa using hb
    | some jw =>
      obtain ⟨j, want⟩ := jw
      rw [hg] at hb
      simp only at hb ⊢
      cases hj : (ops[j]?).bind (·.dst) with
      | none => rw [hj] at hb; simp only [Option.some.injEq] at hb; subst hb; simp [yielded, hj]
      | some d =>
        rw [hj] at hb
        simp only at hb
        have ht := sim.tmps d
        cases hT : S.T d with
        | lit v =>
          rw [hT] at hb ht
          have hv : a.tmps.getD d undef = v := by
            cases ht with
            | tree h => cases h; rfl
          cases v with
          | bool b' =>
            simp only [Option.some.injEq] at hb
            subst hb
            have : a.tmps[d]? = some (.bool b') := by
              rcases Nat.lt_or_ge d a.tmps.size with h | h
              · simp [h] at hv; simp [h, hv]
              · simp [Array.getElem?_eq_none h, undef] at hv
            simp [yielded, hj, this]
          | tuple vs =>
            simp only [Option.some.injEq] at hb
            subst hb
            have : ∀ b', a.tmps[d]? ≠ some (.bool b') := by
              intro b' hb'
              simp [hb'] at hv
            have hy : yielded ops a.tmps j = none := by
              unfold yielded
              rw [hj]
              simp only [Option.bind_some]
            simp [hy]
          | _ => simp at hb
        | _ => rw [hT] at hb; simp at hb
  unfold wpOp
  rw [ho]
  simp only
  rcases hs.ok with ⟨hg, hop⟩ | ⟨hg, rfl⟩
  · rw [hwant _ hg, if_pos rfl]
    exact .inl (hop _ _ _ _ _ _ _ a sim.heap hs.pre hs.post (fun x _ => sim.tmps x) sim.defers K Q fun σ' R' w' u h1 h2 h3 => hK σ' R' _ w' (hput σ' R' w' u h1 h2 h3) h2)
  · rw [hwant _ hg, if_neg Bool.false_ne_true]
    refine hK σ R _ w (hput σ R w undef ?_ (.refl σ R w) (.tree (.lit _))) (.refl σ R w)
    have e1 : upd S.O skipF.post = S.O := by funext id; rfl
    have e2 : dset S.D skipF.post = S.D := by funext id; simp [dset, skipF]
    rw [e1, e2]
    exact sim.heap

/-- In the order of the text. -/
theorem wpOps_of_run {P : Program} {ops : Array Oper} {σ0 : Nat → Option Value} {R0 : Nat → Nat → Prop} {wb : World} {base : Nat} {w0 : Org} {Q : Exit → Act → World → Prop} {Sn : St}
    (hQ : ∀ σ' R' a' w', SimS σ' R' base w0 Sn a' w' → Ext σ0 R0 wb σ' R' w' → Q .normal a' w') :
    ∀ (l : List (Nat × Fp)) (S : St) (σ : Nat → Option Value) (R : Nat → Nat → Prop) (a : Act) (w : World), Run P ops l S Sn → SimS σ R base w0 S a w → Ext σ0 R0 wb σ R w →
      wpOps P ops Q (l.map (·.1)) a w
  | [], S, σ, R, a, w, hr, sim, hx => by cases hr; exact hQ σ R a w sim hx
  | (i, F) :: l, S, σ, R, a, w, hr, sim, hx => by
    obtain ⟨o, ho, hs, hr⟩ := hr
    rw [List.map_cons, wpOps_cons]
    exact wpOp_of_step ho hs sim fun σ' R' a' w' sim' hx' => wpOps_of_run hQ l _ σ' R' a' w' hr sim' (hx.trans hx')

theorem getD_tf {listed : Array Bool} {i : Nat} (h : listed.getD i true = false) : listed.getD i false = false := by
  rcases Nat.lt_or_ge i listed.size with h' | h'
  · simp [h'] at h ⊢; exact h
  · simp [Array.getElem?_eq_none h'] at h

/-- In whatever order. -/
theorem wpAny_of_run {P : Program} {ops : Array Oper} {σ0 : Nat → Option Value} {R0 : Nat → Nat → Prop} {wb : World} {base : Nat} {w0 : Org} {Q : Exit → Act → World → Prop} {Sn : St}
    (hlex : ∀ (i : Nat) (o : Oper), ops[i]? = some o → ∀ e ∈ o.after, Region.binds .any e = true → e.on < i)
    (hQ : ∀ σ' R' a' w', SimS σ' R' base w0 Sn a' w' → Ext σ0 R0 wb σ' R' w' → Q .normal a' w') :
    ∀ (fuel : Nat) (l : List (Nat × Fp)) (listed : Array Bool) (S : St) (σ : Nat → Option Value) (R : Nat → Nat → Prop) (a : Act) (w : World),
      l.length ≤ fuel → l.Pairwise (fun p q => p.1 < q.1) →
      (∀ j, listed.getD j true = false ↔ j ∈ l.map (·.1)) → listed.size = ops.size →
      (∀ j oj, ops[j]? = some oj → listed.getD j false = true → ∀ e ∈ oj.after, Region.binds .any e = true → listed.getD e.on false = true) →
      (∀ p ∈ l, ∀ q ∈ l, p.1 < q.1 → Dep ops q.1 p.1 ∨ ∀ oj oi, ops[p.1]? = some oj → ops[q.1]? = some oi → oj.apart ops oi = true ∧ fdisj p.2 q.2 = true) →
      Run P ops l S Sn → SimS σ R base w0 S a w → Ext σ0 R0 wb σ R w → wpAny P .any ops Q fuel listed a w := by
  have none_ready : ∀ (listed : Array Bool), (∀ j, listed.getD j true = false ↔ j ∈ ([] : List (Nat × Fp)).map (·.1)) → Region.ready .any ops listed = [] := by
    intro listed h
    rw [List.eq_nil_iff_forall_not_mem]
    intro j hj
    have := (h j).1 (mem_ready.1 hj).1
    simp at this
  intro fuel
  induction fuel with
  | zero =>
    intro l listed S σ R a w hlen _ hl _ _ _ hr sim hx
    have : l = [] := List.eq_nil_of_length_eq_zero (by omega)
    subst this
    cases hr
    exact ⟨none_ready listed hl, hQ σ R a w sim hx⟩
  | succ fuel ih =>
    intro l listed S σ R a w hlen hpw hl hsz hc hpair hr sim hx
    refine ⟨fun h0 => ?_, fun i hi => ?_⟩
    · cases l with
      | nil => cases hr; exact hQ σ R a w sim hx
      | cons p l =>
        exfalso
        obtain ⟨o, ho, _, _⟩ := hr
        have hp : listed.getD p.1 true = false := (hl p.1).2 (by simp)
        have : p.1 ∈ Region.ready .any ops listed := by
          refine mem_ready.2 ⟨hp, o, ho, fun e he hb => ?_⟩
          have hlt := hlex p.1 o ho e he hb
          have hps : p.1 < ops.size := (Array.getElem?_eq_some_iff.1 ho).1
          have hes : e.on < listed.size := by omega
          cases hv : listed.getD e.on true with
          | true => simp [hes] at hv ⊢; exact hv
          | false =>
            have hm := (hl e.on).1 hv
            simp only [List.map_cons, List.mem_cons] at hm
            rcases hm with hm | hm
            · omega
            · obtain ⟨q, hq, hqe⟩ := List.mem_map.1 hm
              have := (List.pairwise_cons.1 hpw).1 q hq
              omega
        rw [h0] at this
        cases this
    · obtain ⟨hun, oi, hoi, hdeps⟩ := mem_ready.1 hi
      obtain ⟨⟨i', Fi⟩, hm, rfl⟩ := List.mem_map.1 ((hl i).1 hun)
      obtain ⟨l1, l2, rfl⟩ := List.append_of_mem hm
      have hp1 := List.pairwise_append.1 hpw
      have hp2 := List.pairwise_cons.1 hp1.2.1
      have hlt1 : ∀ q ∈ l1, q.1 < i' := fun q hq => hp1.2.2 q hq (i', Fi) (List.mem_cons_self ..)
      have hlt2 : ∀ q ∈ l2, i' < q.1 := hp2.1
      obtain ⟨hst, hrest⟩ := run_first hoi l1 l2 S Sn (fun q hq oj hoj => by
        rcases hpair q (List.mem_append_left _ hq) (i', Fi) (List.mem_append_right _ (List.mem_cons_self ..)) (hlt1 q hq) with hd | hd
        · exfalso
          have h1 := hd.listed hc (fun o ho e he hb => by cases hoi.symm.trans ho; exact hdeps e he hb)
          have h2 := getD_tf ((hl q.1).2 (List.mem_map.2 ⟨q, List.mem_append_left _ hq, rfl⟩))
          rw [h1] at h2
          cases h2
        · exact hd oj oi hoj hoi) hr
      refine wpOp_of_step hoi hst sim fun σ' R' a' w' sim' hx' => ih (l1 ++ l2) _ _ σ' R' a' w' ?_ ?_ ?_ ?_ ?_ ?_ hrest sim' (hx.trans hx')
      · simp only [List.length_append, List.length_cons] at hlen ⊢; omega
      · exact List.pairwise_append.2 ⟨hp1.1, hp2.2, fun q hq r hr => hp1.2.2 q hq r (List.mem_cons_of_mem _ hr)⟩
      · intro j
        by_cases hj : i' = j
        · subst hj
          have hlt : i' < listed.size := by
            rcases Nat.lt_or_ge i' listed.size with h | h
            · exact h
            · simp [Array.getElem?_eq_none h] at hun
          constructor
          · intro h; simp [hlt] at h
          · intro h
            obtain ⟨q, hq, e⟩ := List.mem_map.1 h
            rcases List.mem_append.1 hq with hq | hq
            · have := hlt1 q hq; omega
            · have := hlt2 q hq; omega
        · rw [getD_set_ne true hj, hl j]
          simp only [List.map_append, List.map_cons, List.mem_append, List.mem_cons]
          constructor
          · rintro (h | h | h)
            · exact .inl h
            · exact absurd h.symm hj
            · exact .inr h
          · rintro (h | h)
            · exact .inl h
            · exact .inr (.inr h)
      · simp [hsz]
      · intro j oj hj hlj e he hb
        by_cases hij : i' = j
        · subst hij
          cases hoi.symm.trans hj
          exact getD_set_true (hdeps e he hb)
        · rw [getD_set_ne false hij] at hlj
          exact getD_set_true (hc j oj hj hlj e he hb)
      · intro p hp q hq hlt
        have sub : ∀ r, r ∈ l1 ++ l2 → r ∈ l1 ++ (i', Fi) :: l2 := fun r hr => by
          rcases List.mem_append.1 hr with h | h
          · exact List.mem_append_left _ h
          · exact List.mem_append_right _ (List.mem_cons_of_mem _ h)
        exact hpair p (sub p hp) q (sub q hq) hlt

/-- Which operations one waits for, as a mask. -/
def maskOf (acc : List Nat) (o : Oper) : Nat := o.after.toList.foldl (fun s e => if Region.binds .any e then s ||| 2 ^ e.on ||| acc.getD e.on 0 else s) 0
def masks : List Oper → List Nat → List Nat
  | [], acc => acc
  | o :: r, acc => masks r (acc ++ [maskOf acc o])

theorem testBit_maskOf {ops : Array Oper} {acc : List Nat} {i : Nat} {o : Oper} (ho : ops[i]? = some o) (hacc : ∀ k j, (acc.getD k 0).testBit j = true → Dep ops k j) {j : Nat}
    (h : (maskOf acc o).testBit j = true) : Dep ops i j := by
  have key : ∀ (l : List Edge) (s : Nat), (∀ e ∈ l, e ∈ o.after) → (s.testBit j = true → Dep ops i j) →
      (l.foldl (fun s e => if Region.binds .any e then s ||| 2 ^ e.on ||| acc.getD e.on 0 else s) s).testBit j = true → Dep ops i j := by
    intro l
    induction l with
    | nil => intro s _ hs h; exact hs h
    | cons e l ih =>
      intro s hm hs h
      rw [List.foldl_cons] at h
      refine ih _ (fun x hx => hm x (List.mem_cons_of_mem _ hx)) (fun h' => ?_) h
      by_cases hb : Region.binds .any e = true
      · rw [if_pos hb] at h'
        rw [Nat.testBit_or, Nat.testBit_or, Bool.or_eq_true, Bool.or_eq_true] at h'
        rcases h' with (h' | h') | h'
        · exact hs h'
        · rw [Nat.testBit_two_pow] at h'
          have : e.on = j := by simpa using h'
          subst this
          exact .one ho (hm e (List.mem_cons_self ..)) hb
        · exact .step ho (hm e (List.mem_cons_self ..)) hb (hacc _ _ h')
      · rw [if_neg hb] at h'; exact hs h'
  exact key o.after.toList 0 (fun e he => by simpa using he) (fun h => by simp at h) h

theorem masks_spec {ops : Array Oper} : ∀ (l : List Oper) (acc : List Nat), (∀ k, l[k]? = ops[acc.length + k]?) → (∀ k j, (acc.getD k 0).testBit j = true → Dep ops k j) →
    ∀ k j, ((masks l acc).getD k 0).testBit j = true → Dep ops k j
  | [], acc, _, hacc => hacc
  | o :: l, acc, hl, hacc => by
    refine masks_spec l (acc ++ [maskOf acc o]) (fun k => ?_) fun k j h => ?_
    · have := hl (k + 1)
      simp only [List.getElem?_cons_succ] at this
      rw [this, List.length_append, List.length_singleton]
      congr 1; omega
    · rcases Nat.lt_trichotomy k acc.length with hk | hk | hk
      · refine hacc k j ?_
        rw [List.getD_eq_getElem?_getD, List.getElem?_append_left hk] at h
        rw [List.getD_eq_getElem?_getD]; exact h
      · subst hk
        have ho : ops[acc.length]? = some o := by have := hl 0; simpa using this.symm
        refine testBit_maskOf ho hacc (acc := acc) ?_
        simpa [List.getD_eq_getElem?_getD] using h
      · rw [List.getD_eq_getElem?_getD, List.getElem?_eq_none (by simp; omega)] at h
        simp at h

/-- The pairs of operations of which neither waits for the other. -/
def freePairs (ops : List Oper) : List (Nat × Nat) :=
  let m := masks ops []
  (List.range ops.length).flatMap fun i => ((List.range i).filter fun j => !(m.getD i 0).testBit j).map fun j => (j, i)

/-- What a region must meet, by its text. -/
def lexB (ops : List Oper) : Bool := ops.zipIdx.all fun (o, i) => o.after.all fun e => !Region.binds .any e || decide (e.on < i)
def apartB (ops : Array Oper) (ps : List (Nat × Nat)) : Bool := ps.all fun (j, i) =>
  match ops[j]?, ops[i]? with
  | some oj, some oi => oj.apart ops oi
  | _, _ => false

/-- The numbers in a footprint. -/
def Fp.ids (F : Fp) : List Nat × List Nat := (F.pre.map (·.1), F.post.map (·.1))
def idisj (A B : List Nat × List Nat) : Bool := A.2.all (fun p => !(B.1.contains p) && !(B.2.contains p)) && B.2.all (fun p => !(A.1.contains p))

theorem idisj_fdisj {A B : Fp} (h : idisj A.ids B.ids = true) : fdisj A B = true := by
  have key : ∀ {β γ : Type} (l : List (Nat × β)) (m : List (Nat × γ)), l.all (fun p => !(m.map (·.1)).contains p.1) = true → l.all (fun p => !(m.any (·.1 == p.1))) = true := by
    intro β γ l m h
    rw [List.all_eq_true] at *
    intro p hp
    have := h p hp
    simp only [Bool.not_eq_true', List.contains_eq_any_beq, List.any_map] at this
    rw [Bool.not_eq_true', List.any_eq_false]
    rw [List.any_eq_false] at this
    intro q hq e
    refine this q hq ?_
    simp only [beq_iff_eq, Function.comp] at e ⊢
    exact e.symm
  unfold idisj Fp.ids at h
  simp only [Bool.and_eq_true, List.all_map, Function.comp_def] at h
  obtain ⟨h1, h2⟩ := h
  have h11 := List.all_eq_true.1 h1
  have a1 := key A.post B.pre (List.all_eq_true.2 fun p hp => ((Bool.and_eq_true _ _).mp (h11 p hp)).1)
  have a2 := key A.post B.post (List.all_eq_true.2 fun p hp => ((Bool.and_eq_true _ _).mp (h11 p hp)).2)
  have a3 := key B.post A.pre h2
  unfold fdisj
  rw [Bool.and_eq_true]
  exact ⟨List.all_eq_true.2 fun p hp => by rw [Bool.and_eq_true]; exact ⟨List.all_eq_true.1 a1 p hp, List.all_eq_true.1 a2 p hp⟩, a3⟩

/-- What footprints must meet. -/
def footB (fs : List (List Nat × List Nat)) (ps : List (Nat × Nat)) : Bool := ps.all fun (j, i) =>
  match fs[j]?, fs[i]? with
  | some a, some b => idisj a b
  | _, _ => false

theorem footB_quiet {fs : List (List Nat × List Nat)} {ps : List (Nat × Nat)} (hn : ps.all (fun p => decide (p.1 < fs.length) && decide (p.2 < fs.length)) = true) (h : fs.all (fun F => F.2.isEmpty) = true) : footB fs ps = true := by
  unfold footB
  rw [List.all_eq_true] at *
  rintro ⟨j, i⟩ hp
  have hn' := hn _ hp
  simp only [Bool.and_eq_true, decide_eq_true_eq] at hn'
  obtain ⟨h1, h2⟩ := hn'
  have e1 := h _ (List.getElem_mem h1)
  have e2 := h _ (List.getElem_mem h2)
  simp only [List.isEmpty_iff] at e1 e2
  simp only [List.getElem?_eq_getElem h1, List.getElem?_eq_getElem h2, idisj, e1, e2, List.all_nil, Bool.and_self]

theorem run_length {P : Program} {ops : Array Oper} : ∀ {l : List (Nat × Fp)} {S S' : St}, Run P ops l S S' → ∀ p ∈ l, p.1 < ops.size
  | (i, F) :: l, S, S', h, p, hp => by
    obtain ⟨o, ho, _, hr⟩ := h
    rcases List.mem_cons.1 hp with rfl | hp
    · exact (Array.getElem?_eq_some_iff.1 ho).1
    · exact run_length hr p hp

/-- A list with its places. -/
def numbered (fs : List Fp) : List (Nat × Fp) := fs.zipIdx.map fun (F, i) => (i, F)

theorem numbered_fst (fs : List Fp) : (numbered fs).map (·.1) = List.range fs.length := by
  unfold numbered
  rw [List.map_map]
  apply List.ext_getElem
  · simp
  · intro i h1 h2; simp

theorem mem_numbered {fs : List Fp} {p : Nat × Fp} (h : p ∈ numbered fs) : fs[p.1]? = some p.2 := by
  unfold numbered at h
  obtain ⟨⟨F, i⟩, hm, rfl⟩ := List.mem_map.1 h
  exact List.mem_zipIdx_iff_getElem?.1 hm

theorem wp_region_run {P : Program} {id : Nat} {l : List Oper} {draw : Bool} {fs : List Fp} {S Sn : St} {σ : Nat → Option Value} {R : Nat → Nat → Prop} {base : Nat} {w0 : Org}
    {a : Act} {w : World} {Q : Exit → Act → World → Prop} (hm : P.follows .mixedOrders = true) (hlen : fs.length = l.length)
    (hd : draw = true → lexB l = true ∧ apartB l.toArray (freePairs l) = true ∧ footB (fs.map Fp.ids) (freePairs l) = true)
    (hr : Run P l.toArray (numbered fs) S Sn) (sim : SimS σ R base w0 S a w)
    (hQ : ∀ σ' R' a' w', SimS σ' R' base w0 Sn a' w' → Ext σ R w σ' R' w' → Q .normal a' w') : (Code.region id l.toArray draw).wp P Q a w := by
  have hfst : (numbered fs).map (·.1) = List.range l.toArray.size := by rw [numbered_fst, hlen]; simp
  cases draw with
  | false =>
    refine wp_region ?_
    rw [← hfst]
    exact wpOps_of_run hQ _ S σ R a w hr sim (.refl σ R w)
  | true =>
    obtain ⟨h1, h2, h3⟩ := hd rfl
    refine wp_region_any hm ?_
    have sim' : SimS σ R base w0 S a { w with drawn := w.drawn + 1 } := by
      obtain ⟨k1, k2⟩ := sim.heap.drew
      exact ⟨k1, fun i => (sim.tmps i).ext k2, sim.size, sim.defers⟩
    refine wpAny_of_run (σ0 := σ) (R0 := R) (wb := w) (base := base) (w0 := w0) (Sn := Sn) ?_ hQ l.toArray.size (numbered fs) _ S σ R a _ ?_ ?_ ?_ ?_ ?_ ?_ hr sim' sim.heap.drew.2
    · intro i o ho e he hb
      have hio : l[i]? = some o := by simpa using ho
      unfold lexB at h1
      rw [List.all_eq_true] at h1
      have := h1 (o, i) (List.mem_zipIdx_iff_getElem?.2 hio)
      rw [Array.all_eq_true_iff_forall_mem] at this
      have := this e he
      simpa [hb] using this
    · have := congrArg List.length hfst; simp at this; simp [this]
    · have : (numbered fs).Pairwise (fun p q => p.1 < q.1) ↔ ((numbered fs).map (·.1)).Pairwise (· < ·) := by rw [List.pairwise_map]
      rw [this, hfst]
      exact List.pairwise_lt_range
    · intro j
      rw [hfst, List.mem_range]
      rcases Nat.lt_or_ge j l.toArray.size with h | h
      · simp at h; simp [h]
      · simp at h; simp [h]
    · simp
    · intro j oj _ hj
      rcases Nat.lt_or_ge j l.toArray.size with h | h
      · simp at h; simp [h] at hj
      · simp at h; simp [h] at hj
    · intro p hp q hq hlt
      by_cases hdep : ((masks l []).getD q.1 0).testBit p.1 = true
      · exact .inl (masks_spec l [] (fun k => by simp) (fun k j h => by simp at h) q.1 p.1 hdep)
      · refine .inr fun oj oi hoj hoi => ?_
        have hql : q.1 < l.length := by simpa using (Array.getElem?_eq_some_iff.1 hoi).1
        have hmem : (p.1, q.1) ∈ freePairs l := by
          unfold freePairs
          refine List.mem_flatMap.2 ⟨q.1, List.mem_range.2 hql, List.mem_map.2 ⟨p.1, List.mem_filter.2 ⟨List.mem_range.2 hlt, ?_⟩, rfl⟩⟩
          simpa using hdep
        unfold apartB at h2
        unfold footB at h3
        rw [List.all_eq_true] at h2 h3
        have e2 := h2 _ hmem
        have e3 := h3 _ hmem
        simp only [hoj, hoi] at e2
        simp only [List.getElem?_map, mem_numbered hp, mem_numbered hq, Option.map_some] at e3
        exact ⟨e2, idisj_fdisj e3⟩

end Go.AV
