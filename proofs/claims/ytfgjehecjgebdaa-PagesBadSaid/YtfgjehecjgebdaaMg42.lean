/- Pages: Checkpoint. -/
import Derived.Test.YtfgjehecjgebdaaMg40
namespace Go.Proofs.Ytfgjehecjgebdaa
open Go.RowKit Go.Maps Go.ChangeMaps

def rootBad (X : Sto) (root : Int) : Bool := decide (root < -1 ∨ (0 ≤ root ∧ stAt X.l root ≠ 1 ∧ stAt X.l root ≠ 2) ∨ (X.l.length : Int) ≤ root)
def numBad (log next : Int) : Bool := decide (log < 1 ∨ 1099511627776 < log ∨ next < 0 ∨ 1099511627776 < next)

/-- What a store's step leaves that may write to its device. -/
structure StoTo (w : World) (st b c m d : Nat) (vs vc : Value) (p g : Nat) (w' : World) (vc' : Value) (X' : Sto) : Prop where
  sto : IsStore w' st b c m d vs vc' p g X'
  kept : Kept (fun k => k = st ∨ k = c ∨ k = m ∨ k = d ∨ vs.ownBlock = some k ∨ vc.ownBlock = some k) w w'
  own : ∀ k, vc'.ownBlock = some k → vc.ownBlock = some k ∨ w.heap.size ≤ k
def CkPost (w : World) (st b c m d : Nat) (vs vc : Value) (p g : Nat) (r : Int × Sto) (e : Ending) (w' : World) : Prop :=
  e = .returned (.int .i64 r.1) ∧ ∃ vc', StoTo w st b c m d vs vc p g w' vc' r.2

theorem StoTo.refl {w st b c m d vs vc p g X} (h : IsStore w st b c m d vs vc p g X) : StoTo w st b c m d vs vc p g w vc X := ⟨h, Kept.refl _ _, fun _ h => .inl h⟩

theorem check_bad {X : Sto} {root log next : Int} (h : ckBad X root log next ≠ 0) : X.check root log next = (ckBad X root log next, X) := by simp [Sto.check, h]

set_option maxRecDepth 100000 in
theorem Ck_root {w st b c m d vs vc p g X} (h : IsStore w st b c m d vs vc p g X) (root log next : Int) (hb : rootBad X root = true) :
    Calls Try.prog 32 #[.pointer (some ⟨st, 0, none⟩), .int .i64 root, .int .i64 log, .int .i64 next] w (CkPost w st b c m d vs vc p g (X.check root log next)) := by
  have hc0 : w.cell? ⟨st, 0, none⟩ = some (.pointer (some ⟨b, 0, none⟩)) := (cell_heap h.head 0).trans rfl
  have HST := Lib.hid (State_calls h.sp root)
  have HLN := Lib.hid (Len_calls h.sp)
  have H := Lib.hid h
  have HR : Hid (X.check root log next = (8, X)) := by
    have e : ckBad X root log next = 8 := by simp only [ckBad]; rw [if_pos (by simpa [rootBad] using hb)]
    rw [Hid, check_bad (by rw [e]; omega), e]
  simp only [rootBad, decide_eq_true_eq] at hb
  by_cases h1 : root < -1
  · have hg1 : decide (root < -1) = true := by simpa using h1
    clear h hb h1
    go_enter Try.func32, Try.ntmps32
    go_wp2
    go_ret
    exact ⟨by rw [HR.out]; rfl, vc, by rw [HR.out]; exact StoTo.refl H.out⟩
  · have hg1 : decide (root < -1) = false := by simpa using h1
    have h0 : 0 ≤ root := by
      have := h.len; have := h.lay.p1
      omega
    have hg2 : decide (0 ≤ root) = true := by simpa using h0
    have hs : stAt X.l root ≠ 1 ∧ stAt X.l root ≠ 2 := by
      rcases hb with hb | hb | hb
      · omega
      · exact hb.2
      · have : stAt X.l root = -1 := by
          simp only [stAt, if_neg (show ¬ root < 0 by omega)]
          rw [List.getElem?_eq_none (by omega)]
        omega
    have ht1 : (stAt X.l root != 1) = true := by simpa using hs.1
    have ht2 : (stAt X.l root != 2) = true := by simpa using hs.2
    clear h hb h1 h0 hs
    generalize stAt X.l root = sv at *
    go_enter Try.func32, Try.ntmps32
    go_wp2_with (first | (go_at_call 17; refine HST.out.mono ?_; rintro e w1 ⟨rfl, rfl⟩) | (go_at_call 26; refine HLN.out.mono ?_; rintro e w1 ⟨rfl, rfl⟩))
    go_ret
    exact ⟨by rw [HR.out]; rfl, vc, by rw [HR.out]; exact StoTo.refl H.out⟩

set_option maxRecDepth 100000 in
theorem Ck_num {w st b c m d vs vc p g X} (h : IsStore w st b c m d vs vc p g X) (root log next : Int) (hb : rootBad X root = false) (hn : numBad log next = true) :
    Calls Try.prog 32 #[.pointer (some ⟨st, 0, none⟩), .int .i64 root, .int .i64 log, .int .i64 next] w (CkPost w st b c m d vs vc p g (X.check root log next)) := by
  have hc0 : w.cell? ⟨st, 0, none⟩ = some (.pointer (some ⟨b, 0, none⟩)) := (cell_heap h.head 0).trans rfl
  have HST := Lib.hid (State_calls h.sp root)
  have HLN := Lib.hid (Len_calls h.sp)
  have H := Lib.hid h
  have HR : Hid (X.check root log next = (18, X)) := by
    have e : ckBad X root log next = 18 := by simp only [ckBad]; rw [if_neg (by simpa [rootBad] using hb), if_pos (by simpa [numBad] using hn)]
    rw [Hid, check_bad (by rw [e]; omega), e]
  simp only [rootBad, decide_eq_false_iff_not] at hb
  simp only [numBad, decide_eq_true_eq] at hn
  have hg1 : decide (root < -1) = false := by simp; omega
  have hg9 : decide ((X.l.length : Int) ≤ root) = false := by simp; omega
  have hroot : root = -1 ∨ (0 ≤ root ∧ stAt X.l root = 1) ∨ (0 ≤ root ∧ stAt X.l root = 2) := by omega
  have hnum : (decide (log < 1) = true) ∨ (decide (log < 1) = false ∧ decide (1099511627776 < log) = true) ∨ (decide (log < 1) = false ∧ decide (1099511627776 < log) = false ∧ decide (next < 0) = true) ∨ (decide (log < 1) = false ∧ decide (1099511627776 < log) = false ∧ decide (next < 0) = false ∧ decide (1099511627776 < next) = true) := by
    simp only [decide_eq_true_eq, decide_eq_false_iff_not]; omega
  have HRT := Lib.hid hroot
  clear h hb hn hroot
  rcases HRT.out with h0 | ⟨h0, hs⟩ | ⟨h0, hs⟩
  · have hg2 : decide (0 ≤ root) = false := by simp; omega
    clear h0
    rcases hnum with n1 | ⟨n1, n2⟩ | ⟨n1, n2, n3⟩ | ⟨n1, n2, n3, n4⟩
    all_goals
      go_enter Try.func32, Try.ntmps32
      go_wp2_with (first | (go_at_call 17; refine HST.out.mono ?_; rintro e w1 ⟨rfl, rfl⟩) | (go_at_call 26; refine HLN.out.mono ?_; rintro e w1 ⟨rfl, rfl⟩))
      go_ret
      exact ⟨by rw [HR.out]; rfl, vc, by rw [HR.out]; exact StoTo.refl H.out⟩
  · have hg2 : decide (0 ≤ root) = true := by simpa using h0
    rw [hs] at HST
    clear h0 hs
    rcases hnum with n1 | ⟨n1, n2⟩ | ⟨n1, n2, n3⟩ | ⟨n1, n2, n3, n4⟩
    all_goals
      go_enter Try.func32, Try.ntmps32
      go_wp2_with (first | (go_at_call 17; refine HST.out.mono ?_; rintro e w1 ⟨rfl, rfl⟩) | (go_at_call 26; refine HLN.out.mono ?_; rintro e w1 ⟨rfl, rfl⟩))
      go_ret
      exact ⟨by rw [HR.out]; rfl, vc, by rw [HR.out]; exact StoTo.refl H.out⟩
  · have hg2 : decide (0 ≤ root) = true := by simpa using h0
    rw [hs] at HST
    clear h0 hs
    rcases hnum with n1 | ⟨n1, n2⟩ | ⟨n1, n2, n3⟩ | ⟨n1, n2, n3, n4⟩
    all_goals
      go_enter Try.func32, Try.ntmps32
      go_wp2_with (first | (go_at_call 17; refine HST.out.mono ?_; rintro e w1 ⟨rfl, rfl⟩) | (go_at_call 26; refine HLN.out.mono ?_; rintro e w1 ⟨rfl, rfl⟩))
      go_ret
      exact ⟨by rw [HR.out]; rfl, vc, by rw [HR.out]; exact StoTo.refl H.out⟩

end Go.Proofs.Ytfgjehecjgebdaa
