/- Plain: a store and the reference's, step by step. -/
import Derived.Test.YtfgjehecjgebdaaMg43
import Derived.Test.YtfgjehecjgebdaaMg37
namespace Go.Proofs.Ytfgjehecjgebdaa

/-- A store is the reference's, as is what stands on its device. -/
structure Inv (X : Sto) (R : RSto) : Prop where
  l : X.l = R.l
  s : X.sup = R.s
  hale : Hale X.D
  n : X.D.secs.length = 40
  len : X.l.length = 8
  lt4 : ∀ x ∈ X.l, x < 4
  disk : OnDisk 8 X.D.secs (ud X.l) X.sup (fun i => R.K.getD i [])
  kept : ∀ i, (X.l.getD i 0 = 1 ∨ X.l.getD i 0 = 3) → R.T.getD i [] = R.K.getD i []
  put : ∀ i, X.l.getD i 0 = 2 → X.T i = R.T.getD i [] ∧ (X.T i).length ≤ 248
  lt : R.T.length = 8
  lk : R.K.length = 8

theorem getD_lt {l : List Nat} {i : Nat} (h : l.getD i 0 ≠ 0) : i < l.length := by
  apply Nat.lt_of_not_le
  intro hle
  rw [List.getD_eq_getElem?_getD, List.getElem?_eq_none hle] at h
  simp at h

theorem Inv.read {X R} (h : Inv X R) (i : Int) : X.read i = rRead R i := by
  have hl := h.l
  by_cases h0 : i < 0
  · have e : stAt X.l i = -1 := by simp [stAt, h0]
    simp [Sto.read, e, rRead, h0]
  · obtain ⟨k, rfl⟩ : ∃ k : Nat, i = k := ⟨i.toNat, by omega⟩
    by_cases hk : k < X.l.length
    · have hst := stAt_getD hk
      have hx : X.l.getD k 0 < 4 := h.lt4 _ (by rw [List.getD_eq_getElem?_getD, List.getElem?_eq_getElem hk]; exact List.getElem_mem _)
      have hr : ¬ ((k : Int) < 0 ∨ (R.l.length : Int) ≤ k ∨ R.l.getD (k : Int).toNat 0 = 0) ↔ X.l.getD k 0 ≠ 0 := by
        rw [← hl]; simp only [Int.toNat_natCast]; omega
      simp only [Sto.read, rRead, Int.toNat_natCast]
      simp only [Int.toNat_natCast] at hr
      by_cases hz : X.l.getD k 0 = 0
      · have hn : (k : Int) < 0 ∨ (R.l.length : Int) ≤ k ∨ R.l.getD k 0 = 0 := by
          rw [← hl]; exact .inr (.inr hz)
        rw [if_pos hn, if_neg (by rw [hst, hz]; omega), if_neg (by rw [hst, hz]; omega)]
      · rw [if_neg (hr.2 hz)]
        by_cases h2 : X.l.getD k 0 = 2
        · rw [if_pos (by rw [hst, h2]; rfl), (h.put k h2).1]
        · have h13 : X.l.getD k 0 = 1 ∨ X.l.getD k 0 = 3 := by omega
          rw [if_neg (by rw [hst]; omega), if_pos (by rw [hst]; omega), h.kept k h13]
          refine h.disk.read h.hale rfl k ?_
          rw [ud_map h.lt4, getD_map0 ud1 rfl]
          simp only [ud1]
          rw [if_pos h13]
    · have e : stAt X.l k = -1 := by
        simp only [stAt, if_neg h0, Int.toNat_natCast]
        rw [List.getElem?_eq_none (by omega)]
      have hn : (k : Int) < 0 ∨ (R.l.length : Int) ≤ k ∨ R.l.getD (k : Int).toNat 0 = 0 := by rw [← hl]; exact .inr (.inl (by omega))
      simp only [Sto.read, rRead]
      rw [if_pos hn, if_neg (by omega), if_neg (by omega)]

theorem getD_set_self {l : List Nat} {i : Nat} (hi : i < l.length) (x : Nat) : (l.set i x).getD i 0 = x := by simp [List.getD, hi]
theorem getD_set_ne {α : Type} {l : List α} {i j : Nat} (h : i ≠ j) (x d : α) : (l.set i x).getD j d = l.getD j d := by simp [List.getD, h]
theorem ud_set {l : List Nat} (h4 : ∀ x ∈ l, x < 4) {i x : Nat} (hi : i < l.length) (hx : x < 4) (he : ud1 x = ud1 (l.getD i 0)) : ud (l.set i x) = ud l := by
  have h4' : ∀ y ∈ l.set i x, y < 4 := by
    intro y hy
    rcases List.mem_or_eq_of_mem_set hy with h | rfl
    · exact h4 y h
    · exact hx
  rw [ud_map h4', ud_map h4, List.map_set, he, ← getD_map0 ud1 rfl]
  apply List.ext_getElem?
  intro j
  by_cases hj : i = j
  · subst hj; simp [List.getD, hi]
  · simp [hj]

/-- A page is put. -/
theorem Inv.putted {X R} (h : Inv X R) {i : Nat} (hi : tkAt X.l = some i) {t : List UInt8} (ht : t.length ≤ 248) : Inv { X with l := X.l.set i 2, T := upd X.T i t } { R with l := R.l.set i 2, T := R.T.set i t } := by
  obtain ⟨hil, h0, _⟩ := List.findIdx?_eq_some_iff_getElem.1 hi
  have hz : X.l.getD i 0 = 0 := by rw [List.getD_eq_getElem?_getD, List.getElem?_eq_getElem hil]; simpa using h0
  have hu : ud (X.l.set i 2) = ud X.l := ud_set h.lt4 hil (by omega) (by rw [hz]; rfl)
  refine ⟨by rw [← h.l], h.s, h.hale, h.n, by simpa using h.len, ?_, by simp only; rw [hu]; exact h.disk, ?_, ?_, by simpa using h.lt, h.lk⟩
  · intro x hx
    rcases List.mem_or_eq_of_mem_set hx with hx | rfl
    · exact h.lt4 x hx
    · omega
  · intro j hj
    simp only at hj ⊢
    by_cases e : i = j
    · subst e; rw [getD_set_self hil] at hj; omega
    · rw [getD_set_ne e] at hj ⊢; exact h.kept j hj
  · intro j hj
    simp only at hj ⊢
    by_cases e : i = j
    · subst e
      have hiT : i < R.T.length := by have := h.lt; have := h.len; omega
      simp [upd, List.getD, hiT, ht]
    · rw [getD_set_ne e] at hj ⊢
      have : j ≠ i := fun h => e h.symm
      simp only [upd, if_neg this]
      exact h.put j hj

/-- A page is given back. -/
theorem Inv.given {X R} (h : Inv X R) (i : Int) : Inv { X with l := (gvRes X.l i).2 } { R with l := (gvRes X.l i).2 } := by
  by_cases h2 : stAt X.l i = 2
  · obtain ⟨k, rfl, hk, hx⟩ := stAt_nat (x := 2) h2
    have e : (gvRes X.l k).2 = X.l.set k 0 := by simp [gvRes, h2]
    have hz : X.l.getD k 0 = 2 := by have := stAt_getD hk; omega
    rw [e]
    refine ⟨rfl, h.s, h.hale, h.n, by simpa using h.len, ?_, by simp only; rw [ud_set h.lt4 hk (by omega) (by rw [hz]; rfl)]; exact h.disk, ?_, ?_, h.lt, h.lk⟩
    · intro x hx
      rcases List.mem_or_eq_of_mem_set hx with hx | rfl
      · exact h.lt4 x hx
      · omega
    · intro j hj
      simp only at hj ⊢
      by_cases e : k = j
      · subst e; rw [getD_set_self hk] at hj; omega
      · rw [getD_set_ne e] at hj; exact h.kept j hj
    · intro j hj
      simp only at hj ⊢
      by_cases e : k = j
      · subst e; rw [getD_set_self hk] at hj; omega
      · rw [getD_set_ne e] at hj; exact h.put j hj
  · by_cases h1 : stAt X.l i = 1
    · obtain ⟨k, rfl, hk, hx⟩ := stAt_nat (x := 1) h1
      have e : (gvRes X.l k).2 = X.l.set k 3 := by simp [gvRes, h1]
      have hz : X.l.getD k 0 = 1 := by have := stAt_getD hk; omega
      rw [e]
      refine ⟨rfl, h.s, h.hale, h.n, by simpa using h.len, ?_, by simp only; rw [ud_set h.lt4 hk (by omega) (by rw [hz]; rfl)]; exact h.disk, ?_, ?_, h.lt, h.lk⟩
      · intro x hx
        rcases List.mem_or_eq_of_mem_set hx with hx | rfl
        · exact h.lt4 x hx
        · omega
      · intro j hj
        simp only at hj ⊢
        by_cases e : k = j
        · subst e; exact h.kept k (.inl hz)
        · rw [getD_set_ne e] at hj; exact h.kept j hj
      · intro j hj
        simp only at hj ⊢
        by_cases e : k = j
        · subst e; rw [getD_set_self hk] at hj; omega
        · rw [getD_set_ne e] at hj; exact h.put j hj
    · have e : (gvRes X.l i).2 = X.l := by simp [gvRes, h1, h2]
      rw [e]
      have := h.l
      exact ⟨rfl, h.s, h.hale, h.n, h.len, h.lt4, h.disk, h.kept, h.put, h.lt, h.lk⟩

/-- All is as the last checkpoint left it. -/
theorem Inv.undone {X R} (h : Inv X R) (T : Nat → List UInt8) (D : Dev) (hD : Hale D) (hS : D.secs = X.D.secs) : Inv ⟨ud X.l, T, X.sup, D⟩ (rUndo R) := by
  have h01 := ud_01 X.l h.lt4
  have n2 : ∀ i, (ud X.l).getD i 0 = 0 ∨ (ud X.l).getD i 0 = 1 := by
    intro i
    rw [List.getD_eq_getElem?_getD]
    cases hx : (ud X.l)[i]? with
    | none => exact .inl rfl
    | some x => exact h01 x (List.mem_of_getElem? hx)
  refine ⟨by rw [ud_map h.lt4, h.l]; rfl, h.s, hD, by rw [hS]; exact h.n, by rw [ud_map h.lt4]; simpa using h.len, ?_, by simp only; rw [ud_of01 h01, hS]; exact h.disk, fun _ _ => rfl, ?_, h.lk, h.lk⟩
  · intro x hx
    rcases h01 x hx with e | e <;> omega
  · intro i hi
    simp only at hi
    rcases n2 i with e | e <;> omega

theorem bad_same {X R} (h : Inv X R) (ro lo ne : Int) : ckBad X ro lo ne = rBad R ro lo ne := by
  unfold ckBad rBad
  rw [h.l]

/-- A checkpoint. -/
theorem Inv.checked {X R} (h : Inv X R) (ro lo ne : Int) (hg : X.sup.gen + 1 ≤ 1099511627776) :
    (X.check ro lo ne).1 = (rCheck R ro lo ne).2 ∧ Inv (X.check ro lo ne).2 (rCheck R ro lo ne).1 := by
  by_cases hb : rBad R ro lo ne = 0
  · have hb' := bad_same h ro lo ne
    rw [hb] at hb'
    have hT : ∀ i ∈ fresh X.l, (X.T i).length ≤ 248 := fun i hi => (h.put i (mem_fresh.1 hi).2).2
    have hold : ∀ y, Says (X.D.secs.getD (X.sup.gen % 2) []) y → y.stamp ≤ X.sup.gen := by
      intro y hy
      have h1 : Says (X.D.secs.getD (X.sup.gen % 2) []) ⟨X.sup.gen, 0, supB X.sup (ud X.l)⟩ := ⟨h.disk.sec (by omega), h.disk.one.symm⟩
      rw [hy.unique h1]; exact Nat.le_refl _
    have hpg : ∀ i, X.l.getD i 0 = 1 → (R.K.getD i []).length ≤ 248 ∧ ∀ k, k < 4 → X.D.secs.getD (2 + 4 * i + k) [] = ((fullB (R.K.getD i [])).drop (64 * k)).take 64 := by
      intro i hi
      refine h.disk.page i ?_
      rw [ud_map h.lt4, getD_map0 ud1 rfl, hi]; rfl
    obtain ⟨h1, h2, h3, h4, h5, h6⟩ := ck_disk (K := fun i => R.K.getD i []) h.hale hold hpg h.lt4 h.len (by omega) hT (by have := h.n; omega) hb' hg
    have hr : rCheck R ro lo ne = (⟨R.l.map kp1, R.T, ⟨R.s.gen + 1, ro, lo.toNat, ne.toNat⟩, R.T⟩, 0) := by simp [rCheck, hb]
    rw [hr]
    refine ⟨h1, ?_⟩
    have h01 := kp_01 X.l h.lt4
    have hkl : (kp X.l).length = 8 := by rw [kp_map h.lt4]; simpa using h.len
    refine ⟨by rw [h4, kp_map h.lt4, h.l], by rw [h6, h.s], h2, by rw [h5]; exact h.n, by rw [h4]; exact hkl, ?_, ?_, fun _ _ => rfl, ?_, h.lt, h.lt⟩
    · rw [h4]; intro x hx; rcases h01 x hx with e | e <;> omega
    · rw [h4, ud_of01 h01]
      refine ⟨h3.good, h3.gen, h3.one, h3.two, h3.len, h3.l01, h3.rp, h3.root, ?_⟩
      intro i hi
      have hp := h3.page i hi
      have e : ckK X (fun i => R.K.getD i []) i = R.T.getD i [] := by
        rw [kp_map h.lt4, getD_map0 kp1 rfl] at hi
        simp only [ckK]
        by_cases h2 : X.l.getD i 0 = 2
        · rw [if_pos h2]; exact (h.put i h2).1
        · rw [if_neg h2]
          refine (h.kept i (.inl ?_)).symm
          unfold kp1 at hi
          split at hi <;> omega
      rw [e] at hp
      exact hp
    · rw [h4]
      intro i hi
      rw [List.getD_eq_getElem?_getD] at hi
      cases hx : (kp X.l)[i]? with
      | none => rw [hx] at hi; simp at hi
      | some x =>
        rw [hx] at hi
        simp only [Option.getD_some] at hi
        rcases h01 x (List.mem_of_getElem? hx) with e | e <;> omega
  · have hb' := bad_same h ro lo ne
    have e1 : X.check ro lo ne = (ckBad X ro lo ne, X) := by simp [Sto.check, hb', hb]
    have e2 : rCheck R ro lo ne = (R, rBad R ro lo ne) := by simp [rCheck, hb]
    rw [e1, e2]
    exact ⟨hb', h⟩

end Go.Proofs.Ytfgjehecjgebdaa
