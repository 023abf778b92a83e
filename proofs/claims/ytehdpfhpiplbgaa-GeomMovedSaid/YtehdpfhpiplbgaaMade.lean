/-
  A made venue may be.
-/
import Derived.Test.YtehdpfhpiplbgaaMk
namespace Go.Proofs.Ytehdpfhpiplbgaa
open Go.AV
set_option linter.unusedSimpArgs false
set_option linter.unusedVariables false

structure MOk (m : MS) (i : Nat) : Prop where
  len : m.seats.length = 1 + i
  seat : ∀ (j : Nat) (s : Seat), m.seats[j]? = some s → 0 ≤ s.row ∧ s.row ≤ j ∧ 0 ≤ s.x ∧ s.x ≤ 15 * j ∧ s.y = 10 * s.row ∧ 0 ≤ s.kind ∧ s.kind ≤ 2
  ord : ∀ (j : Nat) (r s : Seat), m.seats[j]? = some r → m.seats[j + 1]? = some s → lessS r s = true
  last : ∃ s, m.seats[i]? = some s ∧ s.row = m.row ∧ s.x = m.x
  kill : ∀ (j : Nat) (k : Int), m.kills[j]? = some k → 0 ≤ k ∧ k ≤ i
  kord : ∀ (j : Nat) (a b : Int), m.kills[j]? = some a → m.kills[j + 1]? = some b → a < b
  klen : m.kills.length ≤ i
  pole : ∀ (j : Nat) (p : Pole), m.poles[j]? = some p → poleS p = true
  plen : m.poles.length ≤ i
  rad : 0 ≤ m.radius ∧ m.radius ≤ 24

theorem snoc_get {α : Type} {l : List α} {a b : α} {j : Nat} (h : (l ++ [a])[j]? = some b) : l[j]? = some b ∨ (j = l.length ∧ a = b) := by
  rw [List.getElem?_append] at h
  split at h
  · exact .inl h
  · rename_i hj
    have hk : j - l.length = 0 := by
      rcases Nat.eq_zero_or_pos (j - l.length) with h0 | h0
      · exact h0
      · rw [List.getElem?_eq_none (by simp; omega)] at h; cases h
    rw [hk] at h
    simp at h
    exact .inr ⟨by omega, h⟩

theorem get_lt {α : Type} {l : List α} {b : α} {j : Nat} (h : l[j]? = some b) : j < l.length := (List.getElem?_eq_some_iff.1 h).1

theorem rowx_next {m : MS} {i : Nat} (u : Int) (h0 : 0 ≤ m.row) (h1 : m.row ≤ i) (h2 : 0 ≤ m.x) (h3 : m.x ≤ 15 * i) :
    0 ≤ rowM m u ∧ rowM m u ≤ i + 1 ∧ 0 ≤ xM m u ∧ xM m u ≤ 15 * (i + 1) ∧ (m.row < rowM m u ∨ (m.row = rowM m u ∧ m.x < xM m u)) := by
  unfold rowM xM
  split
  · omega
  · split <;> omega

theorem kind_bound (u : Int) : 0 ≤ kindM u ∧ kindM u ≤ 2 := by
  unfold kindM
  split
  · omega
  · split
    · omega
    · split <;> omega

theorem MOk.step {m : MS} {i : Nat} (h : MOk m i) (hi : i ≤ 100) (u : Int) : MOk (stepM m u) (i + 1) := by
  obtain ⟨s0, hs0, hr0, hx0⟩ := h.last
  obtain ⟨b1, b2, b3, b4, _, _, _⟩ := h.seat i s0 hs0
  have hn := rowx_next (m := m) (i := i) u (by omega) (by omega) (by omega) (by omega)
  have hk := kind_bound u
  refine ⟨?_, ?_, ?_, ?_, ?_, ?_, ?_, ?_, ?_, ?_⟩
  · simp [stepM, h.len]; omega
  · intro j s hs
    rcases snoc_get hs with hs | ⟨hj, rfl⟩
    · exact h.seat j s hs
    · have : (j : Int) = i + 1 := by rw [hj, h.len]; omega
      exact ⟨hn.1, show rowM m u ≤ (j : Int) by omega, hn.2.2.1, show xM m u ≤ 15 * (j : Int) by omega, rfl, hk.1, hk.2⟩
  · intro j r s hr hs
    rcases snoc_get hr with hr | ⟨hj, rfl⟩
    · rcases snoc_get hs with hs | ⟨hj, rfl⟩
      · exact h.ord j r s hr hs
      · have e : j = i := by have := h.len; omega
        rw [e, hs0] at hr
        cases hr
        simp only [lessS, seatM, Bool.or_eq_true, Bool.and_eq_true, decide_eq_true_eq, beq_iff_eq]
        rcases hn.2.2.2.2 with k | k
        · exact .inl (decide_eq_true (show s0.row < rowM m u by omega))
        · exact .inr ⟨show s0.row = rowM m u by omega, decide_eq_true (show s0.x < xM m u by omega)⟩
    · have : j + 1 < (m.seats ++ [seatM m u]).length := get_lt hs
      simp at this
      omega
  · refine ⟨seatM m u, ?_, rfl, rfl⟩
    show (m.seats ++ [seatM m u])[i + 1]? = _
    rw [List.getElem?_append_right (by rw [h.len]; omega), h.len, show i + 1 - (1 + i) = 0 by omega]; rfl
  · intro j k hkk
    simp only [stepM] at hkk
    split at hkk
    · rcases snoc_get hkk with hkk | ⟨_, rfl⟩
      · have := h.kill j k hkk; omega
      · rw [h.len]; omega
    · have := h.kill j k hkk; omega
  · intro j a b ha hb
    simp only [stepM] at ha hb
    split at ha
    · rename_i hc
      rw [if_pos hc] at hb
      rcases snoc_get hb with hb | ⟨hj, rfl⟩
      · rcases snoc_get ha with ha | ⟨hj, rfl⟩
        · exact h.kord j a b ha hb
        · have := get_lt hb; omega
      · rcases snoc_get ha with ha | ⟨hj2, rfl⟩
        · have := h.kill j a ha; rw [h.len]; omega
        · omega
    · rename_i hc
      rw [if_neg hc] at hb
      exact h.kord j a b ha hb
  · have := h.klen
    simp only [stepM]; split <;> simp <;> omega
  · intro j p hp
    simp only [stepM] at hp
    split at hp
    · rcases snoc_get hp with hp | ⟨_, rfl⟩
      · exact h.pole j p hp
      · have hq : 0 ≤ u / 500 % 12 ∧ u / 500 % 12 < 12 := ⟨Int.emod_nonneg _ (by decide), Int.emod_lt_of_pos _ (by decide)⟩
        have g1 : coordR (xM m u) = true := coordR_iff.2 (by omega)
        have g2 : coordR (10 * rowM m u) = true := coordR_iff.2 (by omega)
        have g3 : inR (1 + u / 500 % 12) 1 1048576 = true := by simp [inR]; omega
        simp only [poleS, poleM, g1, g2, g3, Bool.and_self]
    · exact h.pole j p hp
  · have := h.plen
    simp only [stepM]; split <;> simp <;> omega
  · have := h.rad
    simp only [stepM]
    split
    · have hq : 0 ≤ u / 300 % 25 ∧ u / 300 % 25 < 25 := ⟨Int.emod_nonneg _ (by decide), Int.emod_lt_of_pos _ (by decide)⟩
      omega
    · exact this

theorem initM_ok : MOk initM 0 := by
  refine ⟨rfl, ?_, ?_, ⟨_, rfl, rfl, rfl⟩, by simp [initM], by simp [initM], Nat.le_refl _, by simp [initM], Nat.le_refl _, by decide⟩
  · intro j s hs
    have := get_lt hs
    simp [initM] at this
    subst this
    simp [initM] at hs
    subst hs
    simp
  · intro j r s hr hs
    have := get_lt hs
    simp [initM] at this

theorem runM_ok (l : List Int) : ∀ i, i ≤ 100 → MOk (runM l i) i
  | 0, _ => initM_ok
  | i + 1, h => (runM_ok l i (by omega)).step (by omega) _

theorem seats_ok {l : List Seat} (h0 : 0 < l.length) (h1 : l.length ≤ 4096) (h2 : ∀ (j : Nat) (s : Seat), l[j]? = some s → seatS s = true) (h3 : ∀ (j : Nat) (r s : Seat), l[j]? = some r → l[j + 1]? = some s → lessS r s = true) : seatsB l = true := by
  simp only [seatsB, Bool.and_eq_true, decide_eq_true_eq]
  refine ⟨allB_true fun j hj => ?_, by omega, by omega⟩
  unfold seatAt
  rw [List.getElem?_eq_getElem hj]
  simp only [h2 j _ (List.getElem?_eq_getElem hj), Bool.true_and, Bool.or_eq_true, beq_iff_eq]
  by_cases hz : j = 0
  · exact .inl hz
  · refine .inr ?_
    obtain ⟨k, rfl⟩ : ∃ k, j = k + 1 := ⟨j - 1, by omega⟩
    have hk : k < l.length := by omega
    simp only [Nat.add_sub_cancel, List.getElem?_eq_getElem hk]
    exact h3 k _ _ (List.getElem?_eq_getElem hk) (List.getElem?_eq_getElem hj)

theorem kills_ok {l : List Int} {n : Int} (h1 : l.length ≤ 200) (h2 : ∀ (j : Nat) (s : Int), l[j]? = some s → 0 ≤ s ∧ s < n) (h3 : ∀ (j : Nat) (r s : Int), l[j]? = some r → l[j + 1]? = some s → r < s) : killsB l n = true := by
  simp only [killsB, Bool.and_eq_true, decide_eq_true_eq]
  refine ⟨allB_true fun j hj => ?_, by omega⟩
  unfold killAt
  rw [List.getElem?_eq_getElem hj]
  have := h2 j _ (List.getElem?_eq_getElem hj)
  simp only [decide_eq_true this.1, decide_eq_true this.2, Bool.true_and, Bool.or_eq_true, beq_iff_eq]
  by_cases hz : j = 0
  · exact .inl hz
  · refine .inr ?_
    obtain ⟨k, rfl⟩ : ∃ k, j = k + 1 := ⟨j - 1, by omega⟩
    have hk : k < l.length := by omega
    simp only [Nat.add_sub_cancel, List.getElem?_eq_getElem hk]
    exact decide_eq_true (h3 k _ _ (List.getElem?_eq_getElem hk) (List.getElem?_eq_getElem hj))

theorem poles_ok {l : List Pole} (h1 : l.length ≤ 200) (h2 : ∀ (j : Nat) (s : Pole), l[j]? = some s → poleS s = true) : polesB l = true := by
  simp only [polesB, Bool.and_eq_true, decide_eq_true_eq]
  refine ⟨allB_true fun j hj => ?_, by omega⟩
  unfold poleAt
  rw [List.getElem?_eq_getElem hj]
  exact h2 j _ (List.getElem?_eq_getElem hj)

theorem MOk.may {m : MS} {i : Nat} (h : MOk m i) (hi : i ≤ 100) : mayB m.v = true := by
  have hl := h.len
  have hk := h.klen
  have hp := h.plen
  have hr := h.rad
  simp only [mayB, Bool.and_eq_true]
  refine ⟨seats_ok (by simp only [MS.v]; omega) (by simp only [MS.v]; omega) (fun j s hs => ?_) h.ord, by simp [MS.v, inR], by simp only [MS.v, inR, Bool.and_eq_true]; exact ⟨decide_eq_true (by omega), decide_eq_true (by omega)⟩,
    kills_ok (by simp only [MS.v]; omega) (fun j s hs => ?_) h.kord, poles_ok (by simp only [MS.v]; omega) h.pole⟩
  · have hj := get_lt hs
    simp only [MS.v] at hj
    have := h.seat j s hs
    have g1 : coordR s.x = true := coordR_iff.2 (by omega)
    have g2 : coordR s.y = true := coordR_iff.2 (by omega)
    have g3 : inR s.row 0 999 = true := by simp [inR]; omega
    have g4 : inR s.kind 0 2 = true := by simp [inR]; omega
    simp only [seatS, g1, g2, g3, g4, Bool.and_self]
  · have := h.kill j s hs
    simp only [MS.v]
    omega

theorem make_ok (l : List Int) (most : Nat) (h : most ≤ 100) : MOk (runM l (makeN l most)) (makeN l most) ∧ makeN l most ≤ 100 ∧ makeN l most + 1 ≤ max most 1 := by
  have : makeN l most ≤ most - 1 := by unfold makeN; omega
  exact ⟨runM_ok l _ (by omega), by omega, by omega⟩

theorem make_may (l : List Int) (most : Nat) (h : most ≤ 100) : mayB (makeV l most) = true := (make_ok l most h).1.may (make_ok l most h).2.1

end Go.Proofs.Ytehdpfhpiplbgaa
