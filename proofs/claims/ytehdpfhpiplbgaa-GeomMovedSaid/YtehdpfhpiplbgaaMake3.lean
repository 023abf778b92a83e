/-
  Rules: make, append, cutting a slice; what is left of the operations.
-/
import Derived.Test.YtehdpfhpiplbgaaMake2
namespace Go.AV
set_option linter.unusedSimpArgs false
set_option linter.unusedVariables false
open Go.RowKit
variable {P : Program} {o : Oper} {T : Nat → V}

/-- How many bytes an element has. -/
def bytesN (P : Program) (e : TypeId) : Option Nat := (P.info? e).map (·.bytes)

theorem ok_makeSlice {t : TypeId} {x y : Operand} (ho : o.op = .makeSlice t x y) {e : TypeId} {es by_ : Nat} (ht : elemN P t = some (e, es)) {zs : List Value} (hz : zeroL P e = some zs) (hzl : zs.length = es) (hpos : 0 < es)
    (hb : bytesN P e = some by_) {kl kc : IntKind} {n : Int} (hx : ev T x = .lit (.int kl n)) (hy : ev T y = .lit (.int kc n)) (h0 : 0 ≤ n) (hsz : by_ * n.toNat ≤ 281474976710656) (hn : n.toNat ≤ maxLen) (id : Nat) :
    OpOK P o T ⟨.ref id, [], [(id, some (.row e es n.toNat ((List.replicate n.toNat (zs.map V.lit)).flatten)))]⟩ :=
  opok_do fun {σ R base w0 w O D} a hs _ hfr hr => by
    obtain ⟨m, rfl⟩ := Int.eq_ofNat_of_zero_le h0
    simp only [Int.toNat_natCast] at hsz hn ⊢
    obtain ⟨hu, inf, hi, hes⟩ := elemN_spec ht
    obtain ⟨i, z, h1, h2, h3, h4⟩ := zeroL_spec hz
    rw [hi] at h1
    cases h1
    have hby : inf.bytes = by_ := by simpa [bytesN, hi] using hb
    have hx' := rv_lit (hx ▸ hr x (by simp [ho, Op.operands]))
    have hy' := rv_lit (hy ▸ hr y (by simp [ho, Op.operands]))
    obtain ⟨w', k1, k2, k3⟩ := run_make_full (P := P) w base t e inf z es hu hi h2 hes kl kc m (by rw [hby]; exact hsz) hn (Nat.le_trans hs.base_le hs.below.size)
    have hzz : z.cells = zs.toArray := by rw [← h3]
    have hcells : (madeCells z.cells (m * es)).toList = (List.replicate m zs).flatten := by rw [hzz, ← hzl]; exact madeCells_rep zs m (by omega)
    rw [hcells] at k2
    have hR : ∀ j, ¬ R w.heap.size j := fun j hr => absurd (hs.rin _ _ hr) (Nat.lt_irrefl _)
    have hid := fresh_of hfr (pre := []) (by simp)
    obtain ⟨σ', j1, j2, j3⟩ := hs.new (w' := w') (id := id) (v := .slice (some ⟨w.heap.size, 0, none⟩) m m) (ob := .row e es m ((List.replicate m (zs.map V.lit)).flatten)) k3 hid
      (fun b hb => by simp [blockOf] at hb; omega) fun σ' e1 e2 hk => by
        refine ⟨_, _, e1, k2, ?_, ?_, fun g hg => by simp [Value.ownBlock] at hg; subst hg; exact hR⟩
        · intro u hu
          obtain ⟨l, hl, hul⟩ := List.mem_flatten.1 hu
          rw [List.eq_of_mem_replicate hl] at hul
          exact h4 u hul
        · have := PW.lits (RV σ' R w') (fun u => .tree (.lit u)) ((List.replicate m zs).flatten)
          rwa [List.map_flatten, List.map_replicate] at this
    refine ⟨_, _, σ', R, .inl ?_, j1, j2, .ref j3 rfl⟩
    simp only [execOp, ho, hx', hy']
    rw [Sem.run_bind, k1]
    rfl

/-- The row that a value is, for appending: a row of the call's own, or nil. -/
inductive RowOf : V → List (Nat × OB) → TypeId → Nat → Nat → List V → Prop
  | row {id : Nat} {e : TypeId} {es n : Nat} {cs : List V} : RowOf (.ref id) [(id, .row e es n cs)] e es n cs
  | nil {e : TypeId} {es : Nat} : RowOf (.lit (.slice none 0 0)) [] e es 0 []

/-- What is appended: read-only memory, or a row of the call's own, or nil. -/
inductive SrcOf : V → List (Nat × OB) → Nat → Nat → List V → Prop
  | lst {es : Nat} {l : List V} : SrcOf (.lst es l) [] es l.length (cellsOf l)
  | row {id : Nat} {e : TypeId} {es n : Nat} {cs : List V} : SrcOf (.ref id) [(id, .row e es n cs)] es n cs
  | nil {es : Nat} : SrcOf (.lit (.slice none 0 0)) [] es 0 []
  | emp {es : Nat} : SrcOf .emp [] es 0 []
  | nil0 {es : Nat} : SrcOf .nil0 [] es 0 []

theorem src_open {σ : Nat → Option Value} {R : Nat → Nat → Prop} {base : Nat} {w0 : Org} {w : World} {O : Nat → Option OB} {D : Nat → Prop} (hs : SimH σ R base w0 w O D) {v : V} {pre : List (Nat × OB)} {es m : Nat} {cs : List V}
    (h : SrcOf v pre es m cs) (hp : ∀ p ∈ pre, O p.1 = some p.2) {u : Value} (hu : RV σ R w v u) :
    ∃ (ad : Option Addr) (c : Nat) (us : List Value), u = .slice ad m c ∧ us.length = m * es ∧ (∀ u ∈ us, u.oneCell' = true) ∧ PW (RV σ R w) cs us ∧
      (0 < m → 0 < es → ∃ a, ad = some a ∧ ∀ (j : Nat) (u : Value), us[j]? = some u → w.cell? (a.add j) = some u) := by
  cases h with
  | @lst es l =>
    obtain ⟨a, c, us, e1, _, _, _, hes, hl, hone, hcell, hrt⟩ := lst_open hu
    have hlen := length_cellsOf hes
    refine ⟨a, c, us, e1, by rw [hl, hlen], hone, ⟨hl, fun j x u hx hu => .tree (hrt j x u hx hu)⟩, fun hm hes0 => ?_⟩
    have h0 : 0 < us.length := by rw [hl, hlen]; exact Nat.mul_pos hm hes0
    obtain ⟨b, k, rfl, _, _⟩ := hcell 0 _ (List.getElem?_eq_getElem h0)
    refine ⟨_, rfl, fun j u hu => ?_⟩
    obtain ⟨b', k', e3, _, h4⟩ := hcell j u hu
    cases e3
    rw [Addr.add_lit]; exact h4
  | @row id e es n cs =>
    obtain ⟨us, hv, hown, hone, hpw, _⟩ := row_open hs (hp (id, .row e es m cs) (by simp)) hu
    rcases hown.2 with ⟨rfl, rfl⟩ | ⟨g, cap, cur, rfl, _⟩
    · exact ⟨none, 0, us, rfl, hown.1, hone, hpw, fun h => absurd h (Nat.lt_irrefl _)⟩
    · exact ⟨_, cap, us, rfl, hown.1, hone, hpw, fun _ _ => ⟨_, rfl, fun j u hu => hown.cells (g := g) rfl j u hu⟩⟩
  | nil =>
    rw [rv_lit hu]
    exact ⟨none, 0, [], rfl, by simp, by simp, ⟨rfl, fun j x u hx => by simp at hx⟩, fun h => absurd h (Nat.lt_irrefl _)⟩
  | emp =>
    cases hu with
    | tree h => cases h with
      | emp a c _ => exact ⟨_, c, [], rfl, by simp, by simp, ⟨rfl, fun j x u hx => by simp at hx⟩, fun h => absurd h (Nat.lt_irrefl _)⟩
  | nil0 =>
    cases hu with
    | tree h => cases h with
      | nil0 a => exact ⟨_, 0, [], rfl, by simp, by simp, ⟨rfl, fun j x u hx => by simp at hx⟩, fun h => absurd h (Nat.lt_irrefl _)⟩

theorem run_append_zero {t ty e : TypeId} {i : TypeInfo} (ht : P.underlying t = some (.slice e)) (hi : P.info? e = some i) (ad base : Option Addr) (n cap c : Nat) (hn : n ≤ cap) (w : World) :
    (Builtin.append_ #[t, t] ty #[.slice base n cap, .slice ad 0 c]).run P w = .ok (.slice base n cap) w := by
  have hf : (Builtin.firstCells i.size 0 (.slice ad 0 c)).run P w = .ok #[] w := by
    cases ad with
    | none => simp [Builtin.firstCells]
    | some a => simp [Builtin.firstCells, loadCells, loadCellsFrom]
  cases base with
  | none => simp [Builtin.append_, run_underlying ht, sizeOf, typeInfo, hi, Builtin.lenOf, hn, hf]
  | some b => simp [Builtin.append_, run_underlying ht, sizeOf, typeInfo, hi, Builtin.lenOf, hn, hf, storeCells]

/-- What an append leaves, once more with a word on the block. -/
theorem run_append_row {base : Nat} {t ty e : TypeId} {i : TypeInfo} {z : Value} {es : Nat} (ht : P.underlying t = some (.slice e)) (hi : P.info? e = some i) (hz : i.zero = some z)
    (hes : i.size = es) (hzs : z.cells.size = es) {w : World} {v : Value} {n : Nat} {xs : List Value} (hown : w.ownsRow base e es v n xs) {ad : Option Addr} {m c : Nat} {news : List Value} (hl : news.length = m * es)
    (hnews : 0 < m → ∃ a, ad = some a ∧ ∀ (j : Nat) (u : Value), news[j]? = some u → w.cell? (a.add j) = some u) (h1 : ∀ u ∈ news, u.oneCell' = true) (hle : n + m ≤ maxLen)
    (hbytes : (n + m) * i.bytes ≤ 140737488355328) (hbase : base ≤ w.heap.size) :
    ∃ v' w', (Builtin.append_ #[t, t] ty #[v, .slice ad m c]).run P w = .ok v' w' ∧ w'.ownsRow base e es v' (n + m) (xs ++ news) ∧ w.grownBy w' v.ownBlock ∧
      ∀ g, v'.ownBlock = some g → v.ownBlock = some g ∨ w.heap.size ≤ g := by
  subst hes
  have hlen : (xs ++ news).length = (n + m) * i.size := by rw [List.length_append, hown.1, hl, Nat.add_mul]
  have hbig : ((n + m : Nat) : Int) ≤ 9223372036854775807 := by simp only [maxLen] at hle; omega
  have fresh : ∀ old : Nat, (w.drew.alloc (.cells (xs.toArray ++ news.toArray ++ Builtin.zeroCells z.cells (grownCap w (n + m) old e - (n + m))) e)).ownsRow base e i.size
        (.slice (some ⟨w.heap.size, 0, none⟩) (n + m) (grownCap w (n + m) old e)) (n + m) (xs ++ news) := by
    intro old
    have hge := grownCap_ge w (n + m) old e
    refine ⟨hlen, .inr ⟨w.heap.size, _, _, rfl, hbase, heap_alloc_new w.drew _, hge, grownCap_le_maxLen w (n + m) old e hle, ?_, ?_⟩⟩
    · have h2 : (Builtin.zeroCells z.cells (grownCap w (n + m) old e - (n + m))).size = (grownCap w (n + m) old e - (n + m)) * i.size := by rw [size_zeroCells, hzs]
      have h3 : (xs.toArray ++ news.toArray).size = (n + m) * i.size := by simpa using hlen
      rw [Array.size_append, h3, h2, ← Nat.add_mul]
      congr 1
      omega
    · rw [Array.toList_append, List.take_append_of_le_length (by simpa using Nat.le_of_eq hlen.symm)]
      have : (xs.toArray ++ news.toArray).toList = xs ++ news := by simp
      rw [this, ← hlen, List.take_length]
  have hgrow : ∀ (cells : Array Value) (row : Option Nat), w.grownBy (w.drew.alloc (.cells cells e)) row := fun cells row =>
    ⟨rfl, rfl, rfl, by simp, fun k hk _ => heap_alloc_old w.drew _ k hk⟩
  rcases Nat.eq_zero_or_pos m with rfl | hm
  · have hnil : news = [] := List.eq_nil_of_length_eq_zero (by simpa using hl)
    subst hnil
    obtain ⟨bs, cap, rfl, hcap⟩ : ∃ bs cap, v = .slice bs n cap ∧ n ≤ cap := by
      rcases hown.2 with ⟨rfl, rfl⟩ | ⟨g, cap, cur, rfl, _, _, h, _⟩
      · exact ⟨none, 0, rfl, Nat.le_refl _⟩
      · exact ⟨_, cap, rfl, h⟩
    refine ⟨_, w, run_append_zero ht hi ad bs n cap c hcap w, by simpa using hown, ⟨rfl, rfl, rfl, Nat.le_refl _, fun _ _ _ => rfl⟩, fun g hg => .inl hg⟩
  · obtain ⟨a, rfl, hcell⟩ := hnews hm
    rcases hown.2 with ⟨rfl, rfl⟩ | ⟨g, cap, cur, rfl, hbg, hg, hnc, hcm, hcs, htake⟩
    · have hx : xs = [] := List.eq_nil_of_length_eq_zero (by simpa using hown.1)
      subst hx
      have hr := run_append_nil (P := P) w t ty e i z ht hi hz a m c news hl hcell hm (by omega) (by have hb := hbytes; simp only [Nat.zero_add] at hb; omega)
      have hf := fresh 0
      simp only [Nat.zero_add, List.nil_append, Array.empty_append] at hf ⊢
      exact ⟨_, _, hr, hf, hgrow _ _, fun g hg => .inr (by simp [Value.ownBlock] at hg; omega)⟩
    · by_cases hroom : n + m ≤ cap
      · have hfit : n * i.size + news.length ≤ cur.size := by rw [hl, hcs, ← Nat.add_mul]; exact Nat.mul_le_mul_right _ hroom
        have hr := run_append_room (P := P) w t ty e i ht hi g n cap cur hg a m c news hl hcell h1 hroom hfit
        refine ⟨_, _, hr, ⟨hlen, .inr ⟨g, cap, _, rfl, hbg, setRow_heap w g cur _ e _ hg, hroom, hcm, ?_, ?_⟩⟩, grown_setRow w g _, fun g' hg' => .inl hg'⟩
        · simp only [List.size_toArray, List.length_append, List.length_take, List.length_drop, Array.length_toList]; omega
        · show List.take _ (cur.toList.take (n * i.size) ++ news ++ _) = _
          rw [htake, List.take_append_of_le_length (Nat.le_of_eq hlen.symm), ← hlen, List.take_length]
      · have holds : ∀ (j : Nat) (u : Value), xs[j]? = some u → w.cell? ((⟨g, 0, none⟩ : Addr).add j) = some u := hown.cells (g := g) rfl
        have hr := run_append_grow (P := P) w t ty e i z ht hi hz ⟨g, 0, none⟩ n cap xs hown.1 holds a m c news hl hcell (by omega) hbig (growslice_fits (by omega) hbytes)
        exact ⟨_, _, hr, fresh cap, hgrow _ _, fun g' hg' => .inr (by simp [Value.ownBlock] at hg'; omega)⟩

/-- The objects behind an append: the old row is gone, the new one is there. -/
def appPost (v : V) (id : Nat) (ob : OB) : List (Nat × Option OB) :=
  match v with
  | .ref old => [(id, some ob), (old, none)]
  | _ => [(id, some ob)]

theorem ok_append {t : TypeId} {x y : Operand} (ho : o.op = .call { callee := .builtin .append, args := #[x, y], argTypes := #[t, t] }) {e : TypeId} {es by_ : Nat} (ht : elemN P t = some (e, es)) {zs : List Value}
    (hz : zeroL P e = some zs) (hzl : zs.length = es) (hpos : 0 < es) (hb : bytesN P e = some by_) {v1 v2 : V} {p1 p2 : List (Nat × OB)} {n m : Nat} {cs ds : List V} (hx : ev T x = v1) (hy : ev T y = v2)
    (h1 : RowOf v1 p1 e es n cs) (h2 : SrcOf v2 p2 es m ds) (hle : n + m ≤ maxLen) (hbytes : (n + m) * by_ ≤ 140737488355328) {id : Nat} (hid : id ∉ (p1 ++ p2).map (·.1)) :
    OpOK P o T ⟨.ref id, p1 ++ p2, appPost v1 id (.row e es (n + m) (cs ++ ds))⟩ :=
  opok_do fun {σ R base w0 w O D} a hs hp hfr hr => by
    obtain ⟨hu, inf, hi, hes⟩ := elemN_spec ht
    obtain ⟨i, z, hi', hz2, hz3, hz4⟩ := zeroL_spec hz
    rw [hi] at hi'
    cases hi'
    have hby : inf.bytes = by_ := by simpa [bytesN, hi] using hb
    have hx' := hr x (by simp [ho, Op.operands, Call.operands])
    have hy' := hr y (by simp [ho, Op.operands, Call.operands])
    rw [hx] at hx'
    rw [hy] at hy'
    have hp1 : ∀ p ∈ p1, O p.1 = some p.2 := fun p h => hp p (List.mem_append_left _ h)
    have hp2 : ∀ p ∈ p2, O p.1 = some p.2 := fun p h => hp p (List.mem_append_right _ h)
    obtain ⟨ad, c, news, e2, hl, hone, hpw2, hnews⟩ := src_open hs h2 hp2 hy'
    have hzc : z.cells.size = es := by rw [← hzl, ← hz3]; simp
    have hidD : ¬ D id := by
      rcases hfr (id, some (.row e es (n + m) (cs ++ ds))) (by cases h1 <;> simp [appPost]) with h | h
      · exact absurd h hid
      · exact h
    have hn : σ id = none := by
      cases e : σ id with
      | none => rfl
      | some u => exact absurd (hs.dom id u e) hidD
    -- the row that is appended to
    obtain ⟨us, hown, hone1, hpw1, hrow, hsep⟩ : ∃ us, w.ownsRow base e es (a.eval x) n us ∧ (∀ u ∈ us, u.oneCell' = true) ∧ PW (RV σ R w) cs us ∧
        (∀ g, (a.eval x).ownBlock = some g → base ≤ g ∧ ∀ j, ¬ R g j) ∧
        (∀ i ob, i ≠ id → upd O (appPost v1 id (.row e es (n + m) (cs ++ ds))) i = some ob → O i = some ob ∧ ∀ vi b, σ i = some vi → blockOf vi = some b → some b ≠ (a.eval x).ownBlock) := by
      cases h1 with
      | @row old e es n cs =>
        have hO := hp1 (old, .row e es n cs) (by simp)
        obtain ⟨us, hv, k1, k2, k3, k4⟩ := row_open hs hO hx'
        refine ⟨us, k1, k2, k3, fun g hg => ⟨(k1.lt g hg).1, k4 g hg⟩, fun i ob hne hi => ?_⟩
        have hio : i ≠ old := by
          intro e
          subst e
          have : (i == id) = false := by simpa using hne
          simp [appPost, upd, List.lookup_cons, this] at hi
        have hi' : O i = some ob := by
          rwa [upd_other (by simp [appPost, hne, hio])] at hi
        refine ⟨hi', fun vi b hvi hb e => hio ?_⟩
        exact hs.inj i old ob _ vi _ b hi' hO hvi hv hb (by rw [ownsRow_block k1]; exact e.symm)
      | nil =>
        rw [rv_lit hx']
        refine ⟨[], World.ownsRow_nil w base e es, by simp, ⟨rfl, fun j x u hx => by simp at hx⟩, fun g hg => by simp [Value.ownBlock] at hg, fun i ob hne hi => ?_⟩
        rw [upd_other (by simp [appPost, hne])] at hi
        exact ⟨hi, fun vi b _ _ e => by simp [Value.ownBlock] at e⟩
    obtain ⟨v', w', hrun, k1, k2, k3⟩ := run_append_row (P := P) (ty := o.type) hu hi hz2 hes hzc hown hl (c := c) (fun hm => hnews hm hpos) hone hle (by rw [hby]; exact hbytes) (Nat.le_trans hs.base_le hs.below.size)
    obtain ⟨σ', j1, j2, j3⟩ := hs.put (id := id) (v := v') (ob := .row e es (n + m) (cs ++ ds)) (post := appPost v1 id (.row e es (n + m) (cs ++ ds))) k2 hrow (.inl hn)
      (by cases h1 <;> simp [appPost, upd]) (fun i hne ob hi => (hsep i ob hne hi).1) (by cases h1 <;> simp [appPost])
      (fun i ob vi b hne hi hvi hbb => by
        obtain ⟨q1, q2⟩ := hsep i ob hne hi
        refine ⟨q2 vi b hvi hbb, fun e => ?_⟩
        rw [ownsRow_block k1] at e
        rcases k3 b e with h | h
        · exact q2 vi b hvi hbb h.symm
        · obtain ⟨v'', l1, _, l2⟩ := (hs.objs i ob q1).lt
          rw [hvi] at l1; cases l1
          have := (l2 b hbb).2.1
          omega)
      (fun σ' e1 e2' hk => by
        refine ⟨v', us ++ news, e1, k1, fun u hu => ?_, (hpw1.append hpw2).mono fun x u hx => hx.mono e2' hk, fun g hg j hRj => ?_⟩
        · rcases List.mem_append.1 hu with hu | hu
          · exact hone1 u hu
          · exact hone u hu
        · rcases k3 g hg with h | h
          · exact (hrow g h).2 j hRj
          · have := hs.rin g j hRj
            omega)
    refine ⟨v', w', σ', R, .inl ?_, j1, j2, .ref j3 ?_⟩
    · simp only [execOp, ho, resolve, invoke, builtin, Sem.run_bind, Sem.run_pure, Result.andThen_ok, List.map_toArray, List.map_cons, List.map_nil, e2, hrun]
    · rcases k1.2 with ⟨rfl, _⟩ | ⟨g, cap, cur, rfl, _⟩ <;> rfl

end Go.AV
