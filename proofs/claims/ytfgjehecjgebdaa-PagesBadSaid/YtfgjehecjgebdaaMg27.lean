/- Stamp: Read, Write. -/
import Derived.Test.YtfgjehecjgebdaaMg22
import Derived.Test.YtfgjehecjgebdaaMg26
namespace Go.Proofs.Ytfgjehecjgebdaa
open Go.RowKit

/-- What Read leaves of (its text, its error). -/
def StReadPost (r : List UInt8 × Int) (w : World) (e : Ending) (w' : World) : Prop :=
  ∃ (x : Sec) (ok : Bool), e = .returned (.tuple #[secOf x, .bool ok, .int .i64 r.2]) ∧ Kept (fun _ => False) w w' ∧ (r.2 = 0 → (ok = true ∧ Says r.1 x) ∨ (ok = false ∧ ∀ x', ¬ Says r.1 x'))

set_option maxRecDepth 100000 in
theorem StRead_calls {w d vs vc D} (h : IsDev w d vs vc D) (a : Int) (hcl : D.cache.length ≤ 1000000) :
    Calls Try.prog 61 #[.pointer (some ⟨d, 0, none⟩), .int .i64 a] w (StReadPost (D.read a) w) := by
  obtain ⟨⟨t, er⟩, hr⟩ : ∃ p, D.read a = p := ⟨_, rfl⟩
  rw [hr]
  have HD : Hid (∀ W, Kept (fun _ => False) w W → Calls Try.prog 36 #[.pointer (some ⟨d, 0, none⟩), .int .i64 a] W (DReadPost (t, er) W)) := fun W hW => by
    rw [← hr]; exact DevRead_calls (h.keptF hW) a hcl
  clear hr h
  go_enter Try.func61, Try.ntmps61
  go_wp2_with fail
  obtain ⟨W, hW⟩ : ∃ W, W = w.alloc (.cells #[.int .i64 0, .int .u8 0, .string ⟨#[]⟩] 64) := ⟨_, rfl⟩
  rw [← hW]
  have HW0 : Hid (W.heap[w.heap.size]? = some (.cells #[.int .i64 0, .int .u8 0, .string ⟨#[]⟩] 64 (0, 0))) := by rw [hW]; exact heap_new w _
  have KW : Hid (Kept (fun _ => False) w W) := by rw [hW]; exact (Kept.refl _ _).alloc _
  clear hW
  refine (HD.out W KW.out).mono ?_
  rintro e w1 ⟨rfl, k1⟩
  have KX : Hid (Kept (fun _ => False) w w1) := KW.out.trans (Kept.of_below k1)
  have hr := (Kept.of_below k1).heap HW0.out id
  have c0 : w1.cell? ⟨w.heap.size, 0, none⟩ = some (.int .i64 0) := (cell_heap hr 0).trans rfl
  have c1 : w1.cell? ⟨w.heap.size, 1, none⟩ = some (.int .u8 0) := (cell_heap hr 1).trans rfl
  have c2 : w1.cell? ⟨w.heap.size, 2, none⟩ = some (.string ⟨#[]⟩) := (cell_heap hr 2).trans rfl
  have f0 := free_heap hr 0
  have f1 := free_heap hr 1
  have f2 := free_heap hr 2
  have HR := Lib.hid hr
  clear hr k1
  by_cases he : er = 0
  · subst he
    have CP := Lib.hid (StParse_calls t w1)
    generalize ba t = s at *
    go_wp2_with fail
    refine CP.out.mono ?_
    rintro e w2 ⟨⟨xs, xm, xd⟩, c, rfl, k2, hc⟩
    have hr2 := k2.heap HR.out id
    have KX2 : Hid (Kept (fun _ => False) w w2) := KX.out.trans k2
    have HC : Hid ((decide (c = 0) = true ∧ Says t ⟨xs, xm, xd⟩) ∨ (decide (c = 0) = false ∧ ∀ x', ¬ Says t x')) := by
      rcases hc with ⟨h1, h2⟩ | ⟨h1, h2⟩
      · exact .inl ⟨by simpa using h1, h2⟩
      · exact .inr ⟨by simpa using h1, h2⟩
    have hce : (c == 0) = decide (c = 0) := by simp [BEq.beq]
    have HCE := Lib.hid hce
    have r0 : w2.cell? ⟨w.heap.size, 0, none⟩ = some (.int .i64 0) := (cell_heap hr2 0).trans rfl
    have r1 : w2.cell? ⟨w.heap.size, 1, none⟩ = some (.int .u8 0) := (cell_heap hr2 1).trans rfl
    have r2 : w2.cell? ⟨w.heap.size, 2, none⟩ = some (.string ⟨#[]⟩) := (cell_heap hr2 2).trans rfl
    have f0 := free_heap hr2 0
    have f1 := free_heap hr2 1
    have f2 := free_heap hr2 2
    have hrl := lt_heap hr2
    have HR3 := Lib.hid hr2
    clear hr2 k2 hc hce
    simp only [secOf, secV]
    go_wp2_with fail
    refine bodyPost_ret (v := .tuple #[secOf ⟨xs, xm, xd⟩, .bool (decide (c = 0)), .int .i64 0]) ?_ rfl ?_
    · have hh := heap_old (sec_set HR3.out (.int .i64 xs) (.int .u8 xm) (.string (ba xd))) (.cells #[.int .i64 xs, .int .u8 xm, .string (ba xd)] 64)
      have g0 := (cell_heap hh 0).trans rfl
      have g1 := (cell_heap hh 1).trans rfl
      have g2 := (cell_heap hh 2).trans rfl
      simp [results, Try.f61, go_sem, g0, g1, g2, secOf, secV, HCE.out]
    · exact ⟨⟨xs, xm, xd⟩, decide (c = 0), rfl, (sec_setK KX2.out (Nat.le_refl _) _ _ _).alloc _, fun _ => HC.out⟩
  · have ht : (er != 0) = true := by simpa using he
    have HE := Lib.hid he
    go_wp2_with fail
    refine bodyPost_ret (v := .tuple #[secOf ⟨0, 0, []⟩, .bool false, .int .i64 er]) ?_ rfl ?_
    · have hh := sec_set HR.out (.int .i64 0) (.int .u8 0) (.string ⟨#[]⟩)
      have g0 := (cell_heap hh 0).trans rfl
      have g1 := (cell_heap hh 1).trans rfl
      have g2 := (cell_heap hh 2).trans rfl
      simp [results, Try.f61, go_sem, g0, g1, g2, secOf, secV, ba]
    · exact ⟨⟨0, 0, []⟩, false, rfl, sec_setK KX.out (Nat.le_refl _) _ _ _, fun h => absurd h HE.out⟩

theorem secCheck_good {s : Sec} (h : s.Good) : secCheck s.stamp s.data = 0 := by
  have := h.one; have := h.most; have := h.data
  simp only [secCheck]
  rw [if_neg (by omega), if_neg (by omega)]

set_option maxRecDepth 100000 in
theorem StWrite_calls {w d vs vc D} (h : IsDev w d vs vc D) (a : Int) (s : Sec) (hs : s.Good) (hcl : D.cache.length ≤ 1000000) :
    Calls Try.prog 59 #[.pointer (some ⟨d, 0, none⟩), .int .i64 a, secOf s] w (WritePost w d vs vc (D.write a (secText s))) := by
  have HG := Lib.hid hs
  have H := Lib.hid h
  obtain ⟨st, mk, data⟩ := s
  have HCK : Hid (∀ W, Calls Try.prog 84 #[.agg #[.int .i64 st, .int .u8 mk, .string (ba data)]] W fun e w' => e = .returned (.int .i64 0) ∧ Kept (fun _ => False) W w') := fun W => by
    have := StCheck_calls st mk data W
    rw [secCheck_good hs] at this
    exact this
  have HTX : Hid (∀ W, Calls Try.prog 41 #[.agg #[.int .i64 st, .int .u8 mk, .string (ba data)]] W fun e w' => e = .returned (.string (ba (secText ⟨st, mk, data⟩))) ∧ Kept (fun _ => False) W w') := fun W => StText_calls ⟨st, mk, data⟩ hs.most hs.mark hs.data W
  have HWR : Hid (∀ W, Kept (fun _ => False) w W → Calls Try.prog 57 #[.pointer (some ⟨d, 0, none⟩), .int .i64 a, .string (ba (secText ⟨st, mk, data⟩))] W (WritePost W d vs vc (D.write a (secText ⟨st, mk, data⟩)))) := fun W hW => DevWrite_calls (h.keptF hW) a _ hcl
  clear h hs
  unfold secOf secV
  simp only
  generalize ba data = dt at *
  generalize secText ⟨st, mk, data⟩ = tx at *
  go_enter Try.func59, Try.ntmps59
  go_wp2_with fail
  obtain ⟨W, hW⟩ : ∃ W, W = w.alloc (.cells #[.int .i64 st, .int .u8 mk, .string dt] 64) := ⟨_, rfl⟩
  rw [← hW]
  have hb : W.heap[w.heap.size]? = some (.cells #[.int .i64 st, .int .u8 mk, .string dt] 64 (0, 0)) := by rw [hW]; exact heap_new w _
  have KW : Hid (Kept (fun _ => False) w W) := by rw [hW]; exact (Kept.refl _ _).alloc _
  clear hW
  refine (HCK.out W).mono ?_
  rintro e w1 ⟨rfl, k1⟩
  have hb1 := k1.heap hb id
  have b0 : w1.cell? ⟨w.heap.size, 0, none⟩ = some (.int .i64 st) := (cell_heap hb1 0).trans rfl
  have b1 : w1.cell? ⟨w.heap.size, 1, none⟩ = some (.int .u8 mk) := (cell_heap hb1 1).trans rfl
  have b2 : w1.cell? ⟨w.heap.size, 2, none⟩ = some (.string dt) := (cell_heap hb1 2).trans rfl
  have K1 : Hid (Kept (fun _ => False) w w1) := KW.out.trans k1
  clear k1 hb hb1
  go_wp2_with fail
  refine (HTX.out w1).mono ?_
  rintro e w2 ⟨rfl, k2⟩
  have K2 : Hid (Kept (fun _ => False) w w2) := K1.out.trans k2
  clear k2
  go_wp2_with fail
  refine (HWR.out w2 K2.out).mono ?_
  rintro e w3 ⟨rfl, vc3, h3⟩
  have H3 : Hid (DevTo w d vs vc w3 vc3 (D.write a tx).2) := DevTo.behind H.out K2.out h3
  clear h3
  go_wp2_with fail
  go_ret
  exact ⟨rfl, vc3, H3.out⟩

end Go.Proofs.Ytfgjehecjgebdaa
