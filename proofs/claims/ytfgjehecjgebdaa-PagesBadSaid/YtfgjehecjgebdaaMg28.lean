/- Stamp: Latest. -/
import Derived.Test.YtfgjehecjgebdaaMg27
namespace Go.Proofs.Ytfgjehecjgebdaa
open Go.RowKit

/-- Which of two texts says more: its sector; is it the second. -/
inductive Newest (ta tb : List UInt8) : Option (Sec × Bool) → Prop where
  | second (y : Sec) : Says tb y → (∀ x, Says ta x → x.stamp < y.stamp) → Newest ta tb (some (y, true))
  | first (x : Sec) : Says ta x → (∀ y, Says tb y → y.stamp ≤ x.stamp) → Newest ta tb (some (x, false))
  | none : (∀ x, ¬ Says ta x) → (∀ y, ¬ Says tb y) → Newest ta tb none

/-- What Latest leaves. -/
def LatestPost (ra rb : List UInt8 × Int) (a b : Int) (w : World) (e : Ending) (w' : World) : Prop :=
  ∃ (x : Sec) (n c : Int), e = .returned (.tuple #[secOf x, .int .i64 n, .int .i64 c]) ∧ Kept (fun _ => False) w w' ∧
    c = (if ra.2 ≠ 0 then ra.2 else rb.2) ∧ (ra.2 = 0 → rb.2 = 0 → ∃ r, Newest ra.1 rb.1 r ∧ match r with | some (y, s) => x = y ∧ n = (if s then b else a) | none => n = -1)

set_option maxRecDepth 100000 in
theorem StLatest_calls {w d vs vc D} (h : IsDev w d vs vc D) (a b : Int) (hcl : D.cache.length ≤ 1000000) :
    Calls Try.prog 34 #[.pointer (some ⟨d, 0, none⟩), .int .i64 a, .int .i64 b] w (LatestPost (D.read a) (D.read b) a b w) := by
  have HD : Hid (∀ W n, Kept (fun _ => False) w W → Calls Try.prog 61 #[.pointer (some ⟨d, 0, none⟩), .int .i64 n] W (StReadPost (D.read n) W)) := fun W n hW => StRead_calls (h.keptF hW) n hcl
  clear h
  generalize hra : D.read a = ra at *
  generalize hrb : D.read b = rb at *
  have HRA := Lib.hid hra
  have HRB := Lib.hid hrb
  clear hra hrb
  go_enter Try.func34, Try.ntmps34
  go_wp2_with fail
  obtain ⟨W, hW⟩ : ∃ W, W = w.alloc (.cells #[.int .i64 0, .int .u8 0, .string ⟨#[]⟩] 64) := ⟨_, rfl⟩
  rw [← hW]
  have HW0 : Hid (W.heap[w.heap.size]? = some (.cells #[.int .i64 0, .int .u8 0, .string ⟨#[]⟩] 64 (0, 0))) := by rw [hW]; exact heap_new w _
  have KW : Hid (Kept (fun _ => False) w W) := by rw [hW]; exact (Kept.refl _ _).alloc _
  clear hW
  refine (HD.out W a KW.out).mono ?_
  rw [HRA.out]
  rintro e w1 ⟨⟨xs, xm, xd⟩, okx, rfl, k1, hx⟩
  have KX : Hid (Kept (fun _ => False) w w1) := KW.out.trans k1
  have hr := k1.heap HW0.out id
  have HR := Lib.hid hr
  have HX := Lib.hid hx
  clear hr k1 hx
  simp only [secOf, secV]
  obtain ⟨ta, ea⟩ := ra
  simp only at HX ⊢
  have HXD : Hid (∃ q, q = ba xd) := ⟨_, rfl⟩
  obtain ⟨qx, hqx⟩ := HXD.out
  rw [← hqx]
  have HQX := Lib.hid hqx
  clear hqx
  by_cases he : ea = 0
  · subst he
    have hrl := lt_heap HR.out
    go_wp2_with fail
    obtain ⟨W2, hW2⟩ : ∃ W2, W2 = w1.alloc (.cells #[.int .i64 xs, .int .u8 xm, .string qx] 64) := ⟨_, rfl⟩
    rw [← hW2]
    have hb2 : W2.heap[w1.heap.size]? = some (.cells #[.int .i64 xs, .int .u8 xm, .string qx] 64 (0, 0)) := by rw [hW2]; exact heap_new w1 _
    have hr2 : W2.heap[w.heap.size]? = some (.cells #[.int .i64 0, .int .u8 0, .string ⟨#[]⟩] 64 (0, 0)) := by rw [hW2]; exact heap_old HR.out _
    have KX2 : Hid (Kept (fun _ => False) w W2) := by rw [hW2]; exact KX.out.alloc _
    clear hW2 hrl
    refine (HD.out W2 b KX2.out).mono ?_
    rw [HRB.out]
    rintro e w3 ⟨⟨ys, ym, yd⟩, oky, rfl, k3, hy⟩
    have KX3 : Hid (Kept (fun _ => False) w w3) := KX2.out.trans k3
    have hr3 := k3.heap hr2 id
    have hb3 := k3.heap hb2 id
    have HR3 := Lib.hid hr3
    have HY := Lib.hid hy
    have x0 : w3.cell? ⟨w1.heap.size, 0, none⟩ = some (.int .i64 xs) := (cell_heap hb3 0).trans rfl
    have x1 : w3.cell? ⟨w1.heap.size, 1, none⟩ = some (.int .u8 xm) := (cell_heap hb3 1).trans rfl
    have x2 : w3.cell? ⟨w1.heap.size, 2, none⟩ = some (.string qx) := (cell_heap hb3 2).trans rfl
    have r0 : w3.cell? ⟨w.heap.size, 0, none⟩ = some (.int .i64 0) := (cell_heap hr3 0).trans rfl
    have r1 : w3.cell? ⟨w.heap.size, 1, none⟩ = some (.int .u8 0) := (cell_heap hr3 1).trans rfl
    have r2 : w3.cell? ⟨w.heap.size, 2, none⟩ = some (.string ⟨#[]⟩) := (cell_heap hr3 2).trans rfl
    have f0 := free_heap hr3 0
    have f1 := free_heap hr3 1
    have f2 := free_heap hr3 2
    have hrl := lt_heap hr3
    have hbl := lt_heap hb3
    clear k3 hr2 hb2 hr3 hb3 hy
    simp only [secOf, secV]
    obtain ⟨tb, eb⟩ := rb
    simp only at HY ⊢
    obtain ⟨qy, hqy⟩ : ∃ q, q = ba yd := ⟨_, rfl⟩
    rw [← hqy]
    have HQY := Lib.hid hqy
    clear hqy
    by_cases hb : eb = 0
    · subst hb
      have HX2 := Lib.hid (HX.out (by simp))
      have HY2 := Lib.hid (HY.out (by simp))
      cases oky with
      | true =>
        have hsy : Says tb ⟨ys, ym, yd⟩ := by rcases HY2.out with h | h; exact h.2; exact absurd h.1 (by simp)
        have HSY := Lib.hid hsy
        clear hsy
        cases okx with
        | true =>
          have hsx : Says ta ⟨xs, xm, xd⟩ := by rcases HX2.out with h | h; exact h.2; exact absurd h.1 (by simp)
          have HSX := Lib.hid hsx
          clear hsx
          by_cases hlt : xs < ys
          · have hg : decide ((xs : Int) < (ys : Int)) = true := by simpa using hlt
            have HN : Hid (Newest ta tb (some (⟨ys, ym, yd⟩, true))) := .second _ HSY.out (fun x hx => by rw [hx.unique HSX.out]; exact hlt)
            go_wp2_with fail
            refine bodyPost_ret (v := .tuple #[.agg #[.int .i64 ys, .int .u8 ym, .string qy], .int .i64 b, .int .i64 0]) ?_ rfl ?_
            · have hh := heap_old (sec_set HR3.out (.int .i64 ys) (.int .u8 ym) (.string qy)) (.cells #[.int .i64 ys, .int .u8 ym, .string qy] 64)
              have g0 := (cell_heap hh 0).trans rfl
              have g1 := (cell_heap hh 1).trans rfl
              have g2 := (cell_heap hh 2).trans rfl
              simp [results, Try.f34, go_sem, g0, g1, g2]
            · exact ⟨⟨ys, ym, yd⟩, b, 0, by rw [HQY.out]; rfl, (sec_setK KX3.out (Nat.le_refl _) _ _ _).alloc _, by simp, fun _ _ => ⟨_, HN.out, rfl, rfl⟩⟩
          · have hg : decide ((xs : Int) < (ys : Int)) = false := by simpa using hlt
            have HN : Hid (Newest ta tb (some (⟨xs, xm, xd⟩, false))) := .first _ HSX.out (fun y hy => by rw [hy.unique HSY.out]; simp only; omega)
            go_wp2_with fail
            refine bodyPost_ret (v := .tuple #[.agg #[.int .i64 xs, .int .u8 xm, .string qx], .int .i64 a, .int .i64 0]) ?_ rfl ?_
            · have hh := heap_old (sec_set HR3.out (.int .i64 xs) (.int .u8 xm) (.string qx)) (.cells #[.int .i64 ys, .int .u8 ym, .string qy] 64)
              have g0 := (cell_heap hh 0).trans rfl
              have g1 := (cell_heap hh 1).trans rfl
              have g2 := (cell_heap hh 2).trans rfl
              simp [results, Try.f34, go_sem, g0, g1, g2]
            · exact ⟨⟨xs, xm, xd⟩, a, 0, by rw [HQX.out]; rfl, (sec_setK KX3.out (Nat.le_refl _) _ _ _).alloc _, by simp, fun _ _ => ⟨_, HN.out, rfl, rfl⟩⟩
        | false =>
          have HN : Hid (Newest ta tb (some (⟨ys, ym, yd⟩, true))) := .second _ HSY.out (fun x hx => by rcases HX2.out with h | h; exact absurd h.1 (by simp); exact absurd hx (h.2 x))
          go_wp2_with fail
          refine bodyPost_ret (v := .tuple #[.agg #[.int .i64 ys, .int .u8 ym, .string qy], .int .i64 b, .int .i64 0]) ?_ rfl ?_
          · have hh := heap_old (sec_set HR3.out (.int .i64 ys) (.int .u8 ym) (.string qy)) (.cells #[.int .i64 ys, .int .u8 ym, .string qy] 64)
            have g0 := (cell_heap hh 0).trans rfl
            have g1 := (cell_heap hh 1).trans rfl
            have g2 := (cell_heap hh 2).trans rfl
            simp [results, Try.f34, go_sem, g0, g1, g2]
          · exact ⟨⟨ys, ym, yd⟩, b, 0, by rw [HQY.out]; rfl, (sec_setK KX3.out (Nat.le_refl _) _ _ _).alloc _, by simp, fun _ _ => ⟨_, HN.out, rfl, rfl⟩⟩
      | false =>
        cases okx with
        | true =>
          have HN : Hid (Newest ta tb (some (⟨xs, xm, xd⟩, false))) := .first _ (by rcases HX2.out with h | h; exact h.2; exact absurd h.1 (by simp)) (fun y hy => by rcases HY2.out with h | h; exact absurd h.1 (by simp); exact absurd hy (h.2 y))
          go_wp2_with fail
          refine bodyPost_ret (v := .tuple #[.agg #[.int .i64 xs, .int .u8 xm, .string qx], .int .i64 a, .int .i64 0]) ?_ rfl ?_
          · have hh := heap_old (sec_set HR3.out (.int .i64 xs) (.int .u8 xm) (.string qx)) (.cells #[.int .i64 ys, .int .u8 ym, .string qy] 64)
            have g0 := (cell_heap hh 0).trans rfl
            have g1 := (cell_heap hh 1).trans rfl
            have g2 := (cell_heap hh 2).trans rfl
            simp [results, Try.f34, go_sem, g0, g1, g2]
          · exact ⟨⟨xs, xm, xd⟩, a, 0, by rw [HQX.out]; rfl, (sec_setK KX3.out (Nat.le_refl _) _ _ _).alloc _, by simp, fun _ _ => ⟨_, HN.out, rfl, rfl⟩⟩
        | false =>
          have HN : Hid (Newest ta tb none) := .none (by rcases HX2.out with h | h; exact absurd h.1 (by simp); exact h.2) (by rcases HY2.out with h | h; exact absurd h.1 (by simp); exact h.2)
          go_wp2_with fail
          refine bodyPost_ret (v := .tuple #[.agg #[.int .i64 0, .int .u8 0, .string ⟨#[]⟩], .int .i64 (-1), .int .i64 0]) ?_ rfl ?_
          · have hh := heap_old (sec_set HR3.out (.int .i64 0) (.int .u8 0) (.string ⟨#[]⟩)) (.cells #[.int .i64 ys, .int .u8 ym, .string qy] 64)
            have g0 := (cell_heap hh 0).trans rfl
            have g1 := (cell_heap hh 1).trans rfl
            have g2 := (cell_heap hh 2).trans rfl
            simp [results, Try.f34, go_sem, g0, g1, g2]
          · exact ⟨⟨0, 0, []⟩, -1, 0, rfl, (sec_setK KX3.out (Nat.le_refl _) _ _ _).alloc _, by simp, fun _ _ => ⟨_, HN.out, rfl⟩⟩
    · have ht : (eb != 0) = true := by simpa using hb
      have HE := Lib.hid hb
      clear hb
      go_wp2_with fail
      refine bodyPost_ret (v := .tuple #[.agg #[.int .i64 0, .int .u8 0, .string ⟨#[]⟩], .int .i64 (-1), .int .i64 eb]) ?_ rfl ?_
      · have hh := heap_old (sec_set HR3.out (.int .i64 0) (.int .u8 0) (.string ⟨#[]⟩)) (.cells #[.int .i64 ys, .int .u8 ym, .string qy] 64)
        have g0 := (cell_heap hh 0).trans rfl
        have g1 := (cell_heap hh 1).trans rfl
        have g2 := (cell_heap hh 2).trans rfl
        simp [results, Try.f34, go_sem, g0, g1, g2]
      · exact ⟨⟨0, 0, []⟩, -1, eb, rfl, (sec_setK KX3.out (Nat.le_refl _) _ _ _).alloc _, by simp, fun _ h => absurd h HE.out⟩
  · have ht : (ea != 0) = true := by simpa using he
    have c0 : w1.cell? ⟨w.heap.size, 0, none⟩ = some (.int .i64 0) := (cell_heap HR.out 0).trans rfl
    have c1 : w1.cell? ⟨w.heap.size, 1, none⟩ = some (.int .u8 0) := (cell_heap HR.out 1).trans rfl
    have c2 : w1.cell? ⟨w.heap.size, 2, none⟩ = some (.string ⟨#[]⟩) := (cell_heap HR.out 2).trans rfl
    have f0 := free_heap HR.out 0
    have f1 := free_heap HR.out 1
    have f2 := free_heap HR.out 2
    have hrl := lt_heap HR.out
    have HE := Lib.hid he
    clear he
    go_wp2_with fail
    refine bodyPost_ret (v := .tuple #[.agg #[.int .i64 0, .int .u8 0, .string ⟨#[]⟩], .int .i64 (-1), .int .i64 ea]) ?_ rfl ?_
    · have hh := heap_old (sec_set HR.out (.int .i64 0) (.int .u8 0) (.string ⟨#[]⟩)) (.cells #[.int .i64 xs, .int .u8 xm, .string qx] 64)
      have g0 := (cell_heap hh 0).trans rfl
      have g1 := (cell_heap hh 1).trans rfl
      have g2 := (cell_heap hh 2).trans rfl
      simp [results, Try.f34, go_sem, g0, g1, g2]
    · exact ⟨⟨0, 0, []⟩, -1, ea, rfl, (sec_setK KX.out (Nat.le_refl _) _ _ _).alloc _, by simp [HE.out], fun h => absurd h HE.out⟩

end Go.Proofs.Ytfgjehecjgebdaa
