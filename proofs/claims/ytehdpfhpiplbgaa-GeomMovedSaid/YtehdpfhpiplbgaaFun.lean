/-
  Functions: from the body to the contract, from the contract to the call.
-/
import Derived.Test.YtehdpfhpiplbgaaCode
namespace Go.AV
set_option linter.unusedSimpArgs false
set_option linter.unusedVariables false
open Go.RowKit

theorem grown_of_below {w w' : World} (h : Below w.heap.size w w') : w.grownBy w' none := ⟨h.os, h.tape, h.output, h.size, fun k hk _ => h.block k hk⟩

/-- Pointwise. -/
def CoL (zs : List (Nat × OB)) (vs ts : List V) : Prop := ts.length = vs.length ∧ ∀ (j : Nat) (x t : V), vs[j]? = some x → ts[j]? = some t → Co zs x t

theorem CoL.nil {zs : List (Nat × OB)} : CoL zs [] [] := ⟨rfl, fun j x t h => by simp at h⟩
theorem CoL.cons {zs : List (Nat × OB)} {v t : V} {vs ts : List V} (h : Co zs v t) (k : CoL zs vs ts) : CoL zs (v :: vs) (t :: ts) :=
  ⟨by simp [k.1], fun j x y hx hy => by
    cases j with
    | zero => simp at hx hy; subst hx; subst hy; exact h
    | succ j => exact k.2 j x y (by simpa using hx) (by simpa using hy)⟩

/-- A contract on plain data serves a call; rows that are handed over are read alone from then on. -/
theorem PureC.uc {P : Program} {f : FuncId} {args ts : List V} {r : V} {zs : List (Nat × OB)} (h : PureC P f ts r) (hco : CoL zs args ts) : UC P f args zs r (zs.map fun p => (p.1, none)) := by
  intro σ R base w0 w O D us hs hp _ hargs
  have hin := froz_in hs hp
  have hrt : PW (RT (froz R σ zs) w) ts us := ⟨by rw [hargs.1, hco.1], fun j t u ht hu => by
    have hj : j < args.length := by rw [← hco.1]; exact (List.getElem?_eq_some_iff.1 ht).1
    exact co_rt hs hp (hco.2 j args[j] t (List.getElem?_eq_getElem hj) ht) (hargs.2 j _ u (List.getElem?_eq_getElem hj) hu)⟩
  refine (h _ _ us hin hrt).mono ?_
  rintro e w' ⟨u, R', he, hB, hk, hin', hold, hr⟩
  have hmem : ∀ id, id ∈ (zs.map fun p => (p.1, (none : Option OB))).map (·.1) ↔ id ∈ zs.map (·.1) := by intro id; simp
  have hO : ∀ id ob, upd O (zs.map fun p => (p.1, none)) id = some ob → O id = some ob ∧ id ∉ zs.map (·.1) := by
    intro id ob hob
    by_cases hm : id ∈ zs.map (·.1)
    · exfalso
      unfold upd at hob
      obtain ⟨x, hx⟩ := lookup_isSome ((hmem id).2 hm)
      rw [hx] at hob
      simp only at hob
      have hall : ∀ (l : List (Nat × OB)), (l.map fun p => (p.1, (none : Option OB))).lookup id = some x → x = none := by
        intro l
        induction l with
        | nil => intro h; cases h
        | cons p l ih =>
          intro h
          rw [List.map_cons, List.lookup_cons] at h
          split at h
          · cases h; rfl
          · exact ih h
      rw [hall zs hx] at hob
      cases hob
    · exact ⟨by rwa [upd_other (fun h => hm ((hmem id).1 h))] at hob, hm⟩
  have hk' : Keeps R R' w w' := froz_keeps.trans hk
  refine ⟨u, σ, R', he, ⟨hs.below.trans (hB.mono (Nat.le_trans hs.base_le hs.below.size)), hs.base_le, fun b j hb hR => ?_, hin', fun id ob hob => ?_, fun id id' ob ob' v v' b h1 h2 => hs.inj id id' ob ob' v v' b (hO _ _ h1).1 (hO _ _ h2).1,
    fun id v hv => .inl (hs.dom id v hv)⟩, ⟨fun _ _ h => h, hk'⟩, .tree hr⟩
  · rcases hold b j (Nat.lt_of_lt_of_le hb (Nat.le_trans hs.base_le hs.below.size)) hR with h | ⟨p, hp', v2, hv2, hb2, _⟩
    · exact hs.rold b j hb h
    · obtain ⟨v', l1, _, l2⟩ := (hs.objs p.1 p.2 (hp p hp')).lt
      rw [hv2] at l1; cases l1
      have := (l2 b hb2).1
      omega
  obtain ⟨h1, h2⟩ := hO id ob hob
  refine (hs.objs id ob h1).kept (grown_of_below hB) (fun _ _ _ _ => by simp) (fun _ _ h => h) hk' fun v b hv hb j hR => ?_
  obtain ⟨v', l1, _, l2⟩ := (hs.objs id ob h1).lt
  rw [hv] at l1; cases l1
  obtain ⟨_, hlt, hno⟩ := l2 b hb
  rcases hold b j hlt hR with h | ⟨p, hp', v2, hv2, hb2, _⟩
  · exact hno j h
  · exact h2 (List.mem_map.2 ⟨p, hp', (hs.inj id p.1 ob p.2 v v2 b h1 (hp p hp') hv hv2 hb hb2).symm⟩)

/-- Where the answer is no memory the rows stay the caller's own. -/
theorem PureC.uc_lit {P : Program} {f : FuncId} {args ts : List V} {r : Value} {zs : List (Nat × OB)} (h : PureC P f ts (.lit r)) (hco : CoL zs args ts) : UC P f args zs (.lit r) [] := by
  intro σ R base w0 w O D us hs hp _ hargs
  have hin := froz_in hs hp
  have hrt : PW (RT (froz R σ zs) w) ts us := ⟨by rw [hargs.1, hco.1], fun j t u ht hu => by
    have hj : j < args.length := by rw [← hco.1]; exact (List.getElem?_eq_some_iff.1 ht).1
    exact co_rt hs hp (hco.2 j args[j] t (List.getElem?_eq_getElem hj) ht) (hargs.2 j _ u (List.getElem?_eq_getElem hj) hu)⟩
  refine (h _ _ us hin hrt).mono ?_
  rintro e w' ⟨u, R', he, hB, hk, hin', hold, hr⟩
  have hg := grown_of_below hB
  have hk' : Keeps R R w w' := keeps_grown hg hs.rin fun g e => by cases e
  have e1 : upd O [] = O := by funext id; rfl
  have e2 : dset D [] = D := by funext id; simp [dset]
  refine ⟨u, σ, R, he, ?_, ⟨fun _ _ h => h, hk'⟩, ?_⟩
  · rw [e1, e2]
    refine ⟨hs.below.trans (hB.mono (Nat.le_trans hs.base_le hs.below.size)), hs.base_le, hs.rold, fun b j r => Nat.lt_of_lt_of_le (hs.rin b j r) hB.size, fun id ob hob => ?_, hs.inj, hs.dom⟩
    obtain ⟨v', l1, _, l2⟩ := (hs.objs id ob hob).lt
    refine (hs.objs id ob hob).kept hg (fun _ _ _ _ => by simp) (fun _ _ h => h) hk' fun v b hv hb => ?_
    rw [hv] at l1; cases l1
    exact (l2 b hb).2.2
  · cases hr; exact .tree (.lit _)

/-! From the body. -/

/-- A frame as a list. -/
def tg : List V → Nat → V
  | [], _ => .junk
  | v :: _, 0 => v
  | _ :: l, n + 1 => tg l n

theorem tg_eq : ∀ (l : List V) (i : Nat), tg l i = l.getD i .junk
  | [], i => by simp [tg]
  | v :: l, 0 => by simp [tg]
  | v :: l, i + 1 => by simp [tg, tg_eq l i]

def retOne (P : Program) (T : Nat → V) (O : Nat → Option OB) : ResultVar → Option V
  | .tmp t => some (T t)
  | .cell a t =>
    match cellsN P t with
    | some (n, agg) =>
      match T a with
      | .ptr id k =>
        match O id with
        | some ob => evRead (obCells ob) k n agg
        | none => none
      | .iptr cs => evRead cs 0 n agg
      | _ => none
    | none => none

def retL (P : Program) (T : Nat → V) (O : Nat → Option OB) : List ResultVar → Option (List V)
  | [] => some []
  | r :: rs =>
    match retOne P T O r, retL P T O rs with
    | some v, some vs => some (v :: vs)
    | _, _ => none

def retV (P : Program) (T : Nat → V) (O : Nat → Option OB) (rs : List ResultVar) : Option V :=
  match retL P T O rs with
  | some [v] => some v
  | some vs => some (.tup vs)
  | none => none

section
variable {P : Program} {σ : Nat → Option Value} {R : Nat → Nat → Prop} {base : Nat} {w0 : Org} {w : World} {S : ES} {a : Act}

/-- A result, by the model. -/
def retSem (tmps : Array Value) : ResultVar → Sem Value
  | .tmp t => pure (tmps.getD t undef)
  | .cell a t => do loadVar t (← asAddr (tmps.getD a undef))

theorem retOne_ok (sim : SimS σ R base w0 S.st a w) {r : ResultVar} {v : V} (h : retOne P S.T S.O r = some v) :
    ∃ u, (retSem a.tmps r).run P w = .ok u w ∧ RV σ R w v u := by
  cases r with
  | tmp t => simp only [retOne, Option.some.injEq] at h; subst h; exact ⟨_, rfl, sim.tmps t⟩
  | cell x t =>
    unfold retOne at h
    have hx : RV σ R w (S.T x) (a.tmps.getD x undef) := sim.tmps x
    cases hc : cellsN P t with
    | none => simp [hc] at h
    | some na =>
      obtain ⟨n, agg⟩ := na
      simp only [hc] at h
      split at h
      · rename_i id k hT
        rw [hT] at hx
        split at h
        · rename_i ob hO
          obtain ⟨b, e, hcs, _⟩ := ptr_cells sim.heap (show S.st.O id = some ob from hO) hx
          obtain ⟨u, hrun, hrv⟩ := run_read (P := P) hc hcs h
          refine ⟨u, ?_, hrv⟩
          rw [Nat.zero_add] at hrun
          simp only [Instr.loadAt, Instr.sureAddr, Sem.run_bind, Sem.run_pure, Result.andThen_ok] at hrun
          simp only [retSem, e, asAddr, Sem.run_bind, Sem.run_pure, Result.andThen_ok, hrun]
        · cases h
      · rename_i cs hT
        rw [hT] at hx
        obtain ⟨b, k, e, hcs⟩ := iptr_cellsAt hx
        obtain ⟨u, hrun, hrv⟩ := run_read (P := P) hc hcs h
        refine ⟨u, ?_, hrv⟩
        rw [Nat.add_zero] at hrun
        simp only [Instr.loadAt, Instr.sureAddr, Sem.run_bind, Sem.run_pure, Result.andThen_ok] at hrun
        simp only [retSem, e, asAddr, Sem.run_bind, Sem.run_pure, Result.andThen_ok, hrun]
      · cases h

theorem retL_ok (sim : SimS σ R base w0 S.st a w) : ∀ {rs : List ResultVar} {vs : List V}, retL P S.T S.O rs = some vs →
    ∃ us, (rs.mapM (retSem a.tmps)).run P w = .ok us w ∧ PW (RV σ R w) vs us
  | [], vs, h => by cases h; exact ⟨[], by simp, rfl, fun j x u hx => by simp at hx⟩
  | r :: rs, vs, h => by
    unfold retL at h
    split at h
    · rename_i v vs' h1 h2
      cases h
      obtain ⟨u, k1, k2⟩ := retOne_ok (P := P) sim h1
      obtain ⟨us, k3, k4⟩ := retL_ok sim h2
      refine ⟨u :: us, ?_, by simp [k4.1], fun j x y hx hy => ?_⟩
      · rw [List.mapM_cons, Sem.run_bind, k1, Result.andThen_ok, Sem.run_bind, k3]
        rfl
      · cases j with
        | zero => simp at hx hy; subst hx; subst hy; exact k2
        | succ j => exact k4.2 j x y (by simpa using hx) (by simpa using hy)
    · cases h

theorem retV_ok (sim : SimS σ R base w0 S.st a w) {fn : Func} {v : V} (h : retV P S.T S.O fn.results.toList = some v) : ∃ u, (results fn a.tmps).run P w = .ok u w ∧ RV σ R w v u := by
  unfold retV at h
  cases hl : retL P S.T S.O fn.results.toList with
  | none => simp [hl] at h
  | some vs =>
    obtain ⟨us, k1, k2⟩ := retL_ok (P := P) sim hl
    have hrun : ∀ (f : ResultVar → Sem Value), (fn.results.mapM f).run P w = ((fn.results.toList.mapM f).run P w).andThen fun l w' => .ok l.toArray w' := by
      intro f
      rw [Array.mapM_eq_mapM_toList, Sem.run_map]
    have hres : (results fn a.tmps).run P w = .ok (if h : us.toArray.size = 1 then us.toArray[0] else .tuple us.toArray) w := by
      have e : results fn a.tmps = (do let vs ← fn.results.mapM (retSem a.tmps); pure (if h : vs.size = 1 then vs[0] else .tuple vs)) := by
        have e2 : (fun r => (match r with
          | .tmp t => pure (a.tmps.getD t undef)
          | .cell x t => do loadVar t (← asAddr (a.tmps.getD x undef)) : Sem Value)) = retSem a.tmps := by funext r; cases r <;> rfl
        rw [← e2]
        rfl
      rw [e, Sem.run_bind, hrun, k1]
      rfl
    rw [hl] at h
    have hlen := k2.1
    cases vs with
    | nil =>
      have : us = [] := List.eq_nil_of_length_eq_zero (by simpa using hlen)
      subst this
      simp only [Option.some.injEq] at h
      subst h
      exact ⟨.tuple #[], by rw [hres]; simp, .tup [] rfl (fun j x u hx => by simp at hx)⟩
    | cons x l =>
      cases l with
      | nil =>
        obtain ⟨u, rfl⟩ : ∃ u, us = [u] := by
          cases us with
          | nil => simp at hlen
          | cons u l => cases l with
            | nil => exact ⟨u, rfl⟩
            | cons _ _ => simp at hlen
        simp only [Option.some.injEq] at h
        subst h
        exact ⟨u, by rw [hres]; simp, k2.2 0 x u rfl rfl⟩
      | cons y l =>
        simp only [Option.some.injEq] at h
        subst h
        have hne : us.toArray.size ≠ 1 := by simp at hlen ⊢; omega
        exact ⟨.tuple us.toArray, by rw [hres, dif_neg hne], .tup us k2.1 k2.2⟩

end

/-- What a body on plain data must come to. -/
def Ends (P : Program) (fn : Func) (r : V) : Exit → ES → Prop := fun e S => (e = .normal ∨ e = .ret) ∧ ∃ v zs, retV P S.T S.O fn.results.toList = some v ∧ (∀ p ∈ zs, S.O p.1 = some p.2) ∧ Co zs v r

theorem pure_of_body {P : Program} {f : FuncId} {fn : Func} {c : Code} {ts : List V} {r : V} (hf : P.funcs[f]? = some fn) (hb : fn.body = some c)
    (h : AC P c (Ends P fn r) ⟨ts.length + (fn.ntmps - ts.length), tg ts, fun _ => none, 0⟩) : PureC P f ts r := by
  intro R w us hin hargs
  refine calls_of_wp hf hb ?_
  have sim : SimS (fun _ => none) R w.heap.size ⟨w, R⟩ (ES.st ⟨ts.length + (fn.ntmps - ts.length), tg ts, fun _ => none, 0⟩)
      { tmps := us.toArray ++ Array.replicate (fn.ntmps - us.toArray.size) undef, defers := [] } w := by
    refine ⟨⟨Below.refl _ _, Nat.le_refl _, fun _ _ _ h => h, hin, fun id ob h => (nomatch h), fun id id' ob ob' v v' b h => (nomatch h), fun id v h => (nomatch h)⟩, fun i => ?_, ?_, rfl⟩
    · show RV _ R w (tg ts i) _
      rcases Nat.lt_or_ge i ts.length with hi | hi
      · have hi' : i < us.length := by rw [hargs.1]; exact hi
        have e1 : tg ts i = ts[i] := by simp [tg_eq, hi]
        have e2 : (us.toArray ++ Array.replicate (fn.ntmps - us.toArray.size) undef).getD i undef = us[i] := by
          rw [Array.getD_eq_getD_getElem?, Array.getElem?_append_left (by simpa using hi')]
          simp [hi']
        rw [e1, e2]
        exact .tree (hargs.2 i _ _ (List.getElem?_eq_getElem hi) (List.getElem?_eq_getElem hi'))
      · have e1 : tg ts i = .junk := by simp [tg_eq, List.getElem?_eq_none hi]
        have e2 : (us.toArray ++ Array.replicate (fn.ntmps - us.toArray.size) undef).getD i undef = undef := by
          rw [Array.getD_eq_getD_getElem?, Array.getElem?_append_right (by simp [hargs.1]; exact hi)]
          rw [Array.getElem?_replicate]
          split <;> rfl
        rw [e1]
        exact .junk _
    · simp [ES.st, hargs.1]
  refine wp_mono (h _ _ _ _ _ w sim ⟨rfl, fun id ob h => (nomatch h)⟩) ?_
  rintro e a' w' ⟨σ', R', S', ⟨he, v, zs, hv, hz, hco⟩, sim', hx, _⟩
  obtain ⟨u, hrun, hrv⟩ := retV_ok (P := P) (fn := fn) sim' hv
  have hrt := co_rt sim'.heap hz hco hrv
  have hend : a'.defers = [] ∧ ∃ v, (results fn a'.tmps).run P w' = .ok v w' ∧ ∃ u R', Ending.returned v = .returned u ∧ Below w.heap.size w w' ∧ Keeps R R' w w' ∧ (∀ b j, R' b j → b < w'.heap.size) ∧
      (∀ b j, b < w.heap.size → R' b j → R b j) ∧ RT R' w' r u := by
    refine ⟨sim'.defers, u, hrun, u, froz R' σ' zs, rfl, sim'.heap.below, hx.trans froz_keeps, froz_in sim'.heap hz, fun b j hb hR => ?_, hrt⟩
    rcases hR with h | ⟨p, hp', v2, hv2, hb2, _⟩
    · exact sim'.heap.rold b j hb h
    · obtain ⟨v', l1, _, l2⟩ := (sim'.heap.objs p.1 p.2 (hz p hp')).lt
      rw [hv2] at l1; cases l1
      have := (l2 b hb2).1
      omega
  rcases he with rfl | rfl
  · exact hend
  · exact hend

end Go.AV
