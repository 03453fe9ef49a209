/- Plain: a checkpoint in which the power goes; what stands on the device behind a crash. -/
import Derived.Test.YtfgjehecjgebdaaMg43
namespace Go.Proofs.Ytfgjehecjgebdaa

/-- Nothing is loose, the power is on; it may go. -/
structure Calm (D : Dev) : Prop where
  cache : D.cache = []
  down : D.down = false
def Dev.unarmed (D : Dev) : Dev := { D with left := -1 }
theorem Calm.hale {D : Dev} (h : Calm D) : Hale D.unarmed := ⟨h.cache, rfl, h.down⟩

theorem call_arm {D : Dev} (h : D.down = false) : (∃ l, D.call = (true, { D with left := l })) ∨ D.call = (false, { D with down := true }) := by
  unfold Dev.call
  rw [h]
  simp only [Bool.false_eq_true, if_false]
  split
  · exact .inr rfl
  · split
    · exact .inl ⟨_, rfl⟩
    · exact .inl ⟨D.left, by rw [← h]⟩
theorem write_arm {D : Dev} (h : D.down = false) (a : Nat) (t : List UInt8) (ha : a < D.secs.length) (ht : t.length = 64) :
    (∃ l, D.write a t = (0, { D with cache := D.cache ++ [(a, t)], left := l })) ∨ D.write a t = (16, { D with down := true }) := by
  unfold Dev.write
  rw [if_neg (by omega)]
  rcases call_arm h with ⟨l, e⟩ | e
  · left; refine ⟨l, ?_⟩; rw [e]; simp [pad64_whole ht]
  · right; rw [e]; simp
theorem flush_arm {D : Dev} (h : D.down = false) : (∃ l, D.flush = (0, { D with secs := settle D.secs D.cache, cache := [], left := l })) ∨ D.flush = (16, { D with down := true }) := by
  unfold Dev.flush
  rcases call_arm h with ⟨l, e⟩ | e
  · left; refine ⟨l, ?_⟩; rw [e]; simp
  · right; rw [e]; simp
theorem wrAll_arm : ∀ (ws : List (Nat × List UInt8)) {D : Dev}, D.down = false → (∀ q ∈ ws, q.1 < D.secs.length ∧ q.2.length = 64) →
    (∃ l, wrAll D ws = (0, { D with cache := D.cache ++ ws, left := l })) ∨ (∃ k l, wrAll D ws = (16, { D with cache := D.cache ++ ws.take k, left := l, down := true }))
  | [], D, _, _ => by left; exact ⟨D.left, by simp [wrAll]⟩
  | q :: r, D, hd, hw => by
    simp only [wrAll]
    rcases write_arm hd q.1 q.2 (hw q (by simp)).1 (hw q (by simp)).2 with ⟨l, e⟩ | e
    · rw [e]
      simp only [if_true]
      rcases wrAll_arm r (D := { D with cache := D.cache ++ [(q.1, q.2)], left := l }) hd (fun x hx => hw x (by simp [hx])) with ⟨l2, e2⟩ | ⟨k, l2, e2⟩
      · left; exact ⟨l2, by rw [e2]; simp⟩
      · right; exact ⟨k + 1, l2, by rw [e2]; simp⟩
    · right
      rw [e]
      exact ⟨0, D.left, by simp⟩

/-- What a device may be where the power went. -/
def Gone (X : Sto) (s : Sup) (D : Dev) : Prop :=
  D.down = true ∧ ((D.secs = X.D.secs ∧ ∃ k, D.cache = (ckW X).take k) ∨ (D.secs = settle X.D.secs (ckW X) ∧ (D.cache = [] ∨ D.cache = [(s.gen % 2, secText ⟨s.gen, 0, supB s X.l⟩)])))

theorem ck_arm {X : Sto} {root log next : Int} (hD : Calm X.D) (hb : ckBad X root log next = 0) (hT : ∀ i ∈ fresh X.l, (X.T i).length ≤ 248) (hS : 2 + 4 * X.l.length ≤ X.D.secs.length) {s : Sup} (hs : s = ⟨X.sup.gen + 1, root, log.toNat, next.toNat⟩)
    (hsec : (secText ⟨s.gen, 0, supB s X.l⟩).length = 64) :
    (∃ l, X.check root log next = (0, { X with l := kp X.l, sup := s, D := { X.D with secs := (settle X.D.secs (ckW X)).set (s.gen % 2) (secText ⟨s.gen, 0, supB s X.l⟩), cache := [], left := l } })) ∨
    (∃ D', X.check root log next = (16, { X with D := D' }) ∧ Gone X s D') := by
  have hck : X.check root log next = if (ckDev X s).1 = 0 then (0, { X with l := kp X.l, sup := s, D := (ckDev X s).2 }) else ((ckDev X s).1, { X with D := (ckDev X s).2 }) := by
    subst hs; simp only [Sto.check, hb, ne_eq, not_true_eq_false, if_false]
  have key : (∃ l, ckDev X s = (0, { X.D with secs := (settle X.D.secs (ckW X)).set (s.gen % 2) (secText ⟨s.gen, 0, supB s X.l⟩), cache := [], left := l })) ∨ (∃ D', ckDev X s = (16, D') ∧ Gone X s D') := by
    unfold ckDev
    simp only
    rcases wrAll_arm (ckW X) hD.down (ckW_ok hT hS) with ⟨l, e⟩ | ⟨k, l, e⟩
    · unfold ckW at e
      rw [e]
      simp only [ne_eq, not_true_eq_false, if_false]
      rcases flush_arm (D := { X.D with cache := X.D.cache ++ ckW X, left := l }) hD.down with ⟨l2, e2⟩ | e2
      · unfold ckW at e2
        rw [e2]
        simp only [not_true_eq_false, if_false]
        rcases write_arm (D := { X.D with secs := settle X.D.secs (X.D.cache ++ ckW X), cache := [], left := l2 }) hD.down (s.gen % 2) (secText ⟨s.gen, 0, supB s X.l⟩) (by simp only [settle_len]; omega) hsec with ⟨l3, e3⟩ | e3
        · unfold ckW at e3
          rw [e3]
          simp only [not_true_eq_false, if_false]
          rcases flush_arm (D := { X.D with secs := settle X.D.secs (X.D.cache ++ ckW X), cache := [] ++ [(s.gen % 2, secText ⟨s.gen, 0, supB s X.l⟩)], left := l3 }) hD.down with ⟨l4, e4⟩ | e4
          · unfold ckW at e4
            left
            exact ⟨l4, by rw [e4, hD.cache]; simp [settle, ckW]⟩
          · unfold ckW at e4
            right
            rw [e4]
            refine ⟨_, rfl, rfl, .inr ⟨?_, .inr ?_⟩⟩
            · rw [hD.cache]; rfl
            · rfl
        · unfold ckW at e3
          right
          rw [e3]
          refine ⟨_, rfl, rfl, .inr ⟨?_, .inl rfl⟩⟩
          rw [hD.cache]; rfl
      · unfold ckW at e2
        right
        rw [e2]
        refine ⟨_, rfl, rfl, .inl ⟨rfl, (ckW X).length, ?_⟩⟩
        rw [List.take_length, hD.cache]; rfl
    · unfold ckW at e
      right
      rw [e]
      refine ⟨_, rfl, rfl, .inl ⟨rfl, k, ?_⟩⟩
      rw [hD.cache]; simp [ckW]
  rw [hck]
  rcases key with ⟨l, e⟩ | ⟨D', e, h⟩
  · left; exact ⟨l, by rw [e]; rfl⟩
  · right; exact ⟨D', by rw [e]; rfl, h⟩

theorem kept_mem {keep : List Int} {c : List (Nat × List UInt8)} {q : Nat × List UInt8} (h : q ∈ kept keep c) : q ∈ c := by
  simp only [kept, List.mem_map, List.mem_filter] at h
  obtain ⟨x, ⟨hx, _⟩, rfl⟩ := h
  obtain ⟨a, i⟩ := x
  exact (List.mem_zipIdx' hx).2 ▸ List.getElem_mem _
theorem kept_one (keep : List Int) (a : Nat × List UInt8) : kept keep [a] = [] ∨ kept keep [a] = [a] := by
  by_cases h : (0 : Int) ∈ keep
  · right; simp [kept, h]
  · left; simp [kept, h]

/-- Writes to pages that aren't in use change nothing. -/
theorem OnDisk.after {p S l s K} (h : OnDisk p S l s K) {c : List (Nat × List UInt8)} (hc : ∀ q ∈ c, ∃ i k, q.1 = 2 + 4 * i + k ∧ k < 4 ∧ l.getD i 0 ≠ 1) : OnDisk p (settle S c) l s K := by
  have lo : ∀ j, j < 2 → (settle S c).getD j [] = S.getD j [] := fun j hj => settle_no fun q hq e => by
    obtain ⟨i, k, e1, _, _⟩ := hc q hq; omega
  refine ⟨h.good, h.gen, by rw [lo _ (by omega)]; exact h.one, by rw [lo _ (by omega)]; exact h.two, h.len, h.l01, h.rp, h.root, fun i hi => ⟨(h.page i hi).1, fun k hk => ?_⟩⟩
  rw [settle_no, (h.page i hi).2 k hk]
  intro q hq e
  obtain ⟨i', k', e1, hk', hn⟩ := hc q hq
  have : i' = i := by omega
  exact hn (this ▸ hi)

theorem ckW_free {X : Sto} (h4 : ∀ x ∈ X.l, x < 4) (hT : ∀ i ∈ fresh X.l, (X.T i).length ≤ 248) {q : Nat × List UInt8} (hq : q ∈ ckW X) : ∃ i k, q.1 = 2 + 4 * i + k ∧ k < 4 ∧ (ud X.l).getD i 0 ≠ 1 := by
  obtain ⟨i, hi, k, hk, rfl, _⟩ := ckW_mem hT hq
  refine ⟨i, k, rfl, hk, ?_⟩
  rw [ud_map h4, getD_map0 ud1 rfl, (mem_fresh.1 hi).2]
  decide

/-- A store beside the reference's, the device armed or not. -/
structure InvS (X : Sto) (R : RSto) : Prop where
  calm : Calm X.D
  inv : Inv { X with D := X.D.unarmed } R

theorem Inv.old {X R} (h : Inv X R) {S : Dev} (hS : Hale S) (hl : S.secs.length = 40) (hd : OnDisk 8 S.secs (ud X.l) X.sup (fun i => R.K.getD i [])) : Inv ⟨ud X.l, fun _ => [], X.sup, S⟩ (rUndo R) := by
  have h01 := ud_01 X.l h.lt4
  have n2 : ∀ i, (ud X.l).getD i 0 = 0 ∨ (ud X.l).getD i 0 = 1 := by
    intro i
    rw [List.getD_eq_getElem?_getD]
    cases hx : (ud X.l)[i]? with
    | none => exact .inl rfl
    | some x => exact h01 x (List.mem_of_getElem? hx)
  refine ⟨by rw [ud_map h.lt4, h.l]; rfl, h.s, hS, hl, by rw [ud_map h.lt4]; simpa using h.len, ?_, by simp only; rw [ud_of01 h01]; exact hd, fun _ _ => rfl, ?_, h.lk, h.lk⟩
  · intro x hx
    rcases h01 x hx with e | e <;> omega
  · intro i hi
    simp only at hi
    rcases n2 i with e | e <;> omega

theorem rUndo_check {R : RSto} {ro lo ne : Int} (hb : rBad R ro lo ne = 0) (h4 : ∀ x ∈ R.l, x < 4) : rUndo (rCheck R ro lo ne).1 = (rCheck R ro lo ne).1 := by
  simp only [rCheck, hb, ne_eq, not_true_eq_false, if_false, rUndo, List.map_map]
  congr 1
  apply List.map_congr_left
  intro x hx
  have := h4 x hx
  obtain rfl | rfl | rfl | rfl : x = 0 ∨ x = 1 ∨ x = 2 ∨ x = 3 := by omega
  all_goals rfl

/-- What a checkpoint of a device whose power may go leaves; and what a crash leaves of it. -/
theorem InvS.checked {X R} (h : InvS X R) (ro lo ne : Int) (hg : X.sup.gen + 1 ≤ 1099511627776) :
    ((X.check ro lo ne).1 = (rCheck R ro lo ne).2 ∧ (rCheck R ro lo ne).2 ≠ 16 ∧ InvS (X.check ro lo ne).2 (rCheck R ro lo ne).1) ∨
    ((X.check ro lo ne).1 = 16 ∧ ∀ keep, ∃ Y, Y.D = (X.check ro lo ne).2.D.crash keep ∧ Hale Y.D ∧ (Y.T = fun _ => []) ∧ OnDisk 8 Y.D.secs Y.l Y.sup (fun i => (if Y.sup.gen = X.sup.gen then rUndo R else (rCheck R ro lo ne).1).K.getD i []) ∧
      ((Y.sup.gen = X.sup.gen ∧ Inv Y (rUndo R)) ∨ (Y.sup.gen = X.sup.gen + 1 ∧ Inv Y (rCheck R ro lo ne).1))) := by
  have hi := h.inv
  have hX : ckBad X ro lo ne = rBad R ro lo ne := bad_same hi ro lo ne
  by_cases hb : rBad R ro lo ne = 0
  · rw [hb] at hX
    have hT : ∀ i ∈ fresh X.l, (X.T i).length ≤ 248 := fun i hf => (hi.put i (mem_fresh.1 hf).2).2
    have hlen : X.l.length = 8 := hi.len
    have hn : X.D.secs.length = 40 := hi.n
    obtain ⟨s, hs⟩ : ∃ s : Sup, s = ⟨X.sup.gen + 1, ro, lo.toNat, ne.toNat⟩ := ⟨_, rfl⟩
    have hgs : s.gen = X.sup.gen + 1 := by rw [hs]
    have hsup : (rCheck R ro lo ne).1.s = s := by
      have := hi.s
      simp only at this
      rw [hs, this]; simp [rCheck, hb]
    have h0 := (hi.checked ro lo ne hg)
    have hgood : Sec.Good ⟨s.gen, 0, supB s X.l⟩ := by
      have hr : (ro = -1 ∨ (0 ≤ ro ∧ (stAt X.l ro = 1 ∨ stAt X.l ro = 2))) ∧ -1 ≤ ro ∧ ro < X.l.length ∧ 1 ≤ lo ∧ lo ≤ 1099511627776 ∧ 0 ≤ ne ∧ ne ≤ 1099511627776 := by
        unfold ckBad at hX
        split at hX
        · omega
        · split at hX <;> omega
      have hsg : s.Good := by rw [hs]; exact ⟨by simp only; omega, by simp only; omega, by simp only; omega, by simp only; omega, by simp only; omega⟩
      exact ⟨by simp only; omega, by simp only; omega, by simp only; omega, (supB_len hsg (by omega)).1⟩
    have hck0 := ck_hale (X := { X with D := X.D.unarmed }) h.calm.hale hX hT (by rw [hlen]; show 2 + 4 * 8 ≤ X.D.secs.length; omega) hs hgood.len
    rw [hck0] at h0
    obtain ⟨-, hnew⟩ := h0
    rcases ck_arm h.calm hX hT (by omega) hs hgood.len with ⟨l, e⟩ | ⟨D', e, hgo⟩
    · left
      rw [e]
      refine ⟨by simp [rCheck, hb], by simp [rCheck, hb], ⟨rfl, h.calm.down⟩, ?_⟩
      exact hnew
    · right
      rw [e]
      refine ⟨rfl, fun keep => ?_⟩
      have hold : ∀ c, (∀ q ∈ c, q ∈ ckW X) → OnDisk 8 (settle X.D.secs c) (ud X.l) X.sup (fun i => R.K.getD i []) := fun c hc =>
        OnDisk.after hi.disk fun q hq => ckW_free hi.lt4 hT (hc q hq)
      have low : ∀ S : Dev, Hale S → (∃ c, (∀ q ∈ c, q ∈ ckW X) ∧ S.secs = settle X.D.secs c) →
          ∃ Y : Sto, Y.D = S ∧ Hale Y.D ∧ (Y.T = fun _ => []) ∧ OnDisk 8 Y.D.secs Y.l Y.sup (fun i => (if Y.sup.gen = X.sup.gen then rUndo R else (rCheck R ro lo ne).1).K.getD i []) ∧ ((Y.sup.gen = X.sup.gen ∧ Inv Y (rUndo R)) ∨ (Y.sup.gen = X.sup.gen + 1 ∧ Inv Y (rCheck R ro lo ne).1)) := by
        rintro S hS ⟨c, hc, e2⟩
        have hd := hold c hc
        rw [← e2] at hd
        refine ⟨⟨ud X.l, fun _ => [], X.sup, S⟩, rfl, hS, rfl, by simp only [if_true]; exact hd, .inl ⟨rfl, ?_⟩⟩
        exact hi.old hS (by rw [e2, settle_len]; exact hn) hd
      have hcr : Hale (D'.crash keep) := ⟨rfl, rfl, rfl⟩
      rcases hgo.2 with ⟨e1, k, e2⟩ | ⟨e1, e2 | e2⟩
      · refine low _ hcr ⟨kept keep ((ckW X).take k), fun q hq => List.mem_of_mem_take (kept_mem hq), ?_⟩
        simp only [Dev.crash]; rw [e1, e2]
      · refine low _ hcr ⟨ckW X, fun q hq => hq, ?_⟩
        simp only [Dev.crash]; rw [e1, e2]; rfl
      · rcases kept_one keep (s.gen % 2, secText ⟨s.gen, 0, supB s X.l⟩) with e3 | e3
        · refine low _ hcr ⟨ckW X, fun q hq => hq, ?_⟩
          simp only [Dev.crash]; rw [e1, e2, e3]; rfl
        · have hS : (D'.crash keep).secs = (settle X.D.secs (ckW X)).set (s.gen % 2) (secText ⟨s.gen, 0, supB s X.l⟩) := by
            simp only [Dev.crash]; rw [e1, e2, e3]; rfl
          have h01 := kp_01 X.l hi.lt4
          have hdk := hnew.disk
          simp only at hdk
          rw [ud_of01 h01] at hdk
          have hdk' : OnDisk 8 (D'.crash keep).secs (kp X.l) s (fun i => (rCheck R ro lo ne).1.K.getD i []) := by rw [hS]; exact hdk
          have hinv := hnew.old (S := D'.crash keep) hcr (by rw [hS]; simp [settle_len, hn]) (by simp only; rw [ud_of01 h01]; exact hdk')
          rw [rUndo_check hb (by have := hi.l; simp only at this; rw [← this]; exact hi.lt4)] at hinv
          simp only at hinv
          rw [ud_of01 h01] at hinv
          refine ⟨⟨kp X.l, fun _ => [], s, D'.crash keep⟩, rfl, hcr, rfl, ?_, .inr ⟨hgs, hinv⟩⟩
          simp only
          rw [if_neg (by omega)]
          exact hdk'
  · left
    have e1 : X.check ro lo ne = (ckBad X ro lo ne, X) := by simp [Sto.check, hX, hb]
    have e2 : rCheck R ro lo ne = (R, rBad R ro lo ne) := by simp [rCheck, hb]
    rw [e1, e2]
    refine ⟨hX, ?_, h⟩
    simp only
    unfold rBad at hb ⊢
    split
    · simp
    · split <;> simp

end Go.Proofs.Ytfgjehecjgebdaa
