/- The reference's pages: a good Checkpoint; Put. -/
import Derived.Test.YtfgjehecjgebdaaMg35
namespace Go.Proofs.Ytfgjehecjgebdaa
open Go.RowKit

theorem keep_enters : Enters Try.prog 20 := enters_of Try.func20 (by kernel_rfl) rfl

theorem check_fin {w w1 : World} {B gl cl gt ct gk ck gen log next gn lo ne N g' cap' : Nat} {root ro : Int} {l : List Nat} {T K : List (List UInt8)} {z : Array Value}
    (H : IsRef w B ⟨gl, cl, gt, ct, gk, ck⟩ ⟨l, T, ⟨gen, root, log, next⟩, K⟩) (hN : N = w.heap.size) (hgn : gn = gen + 1) (K1 : Kept (fun _ => False) w w1) (H1 : IR w1 g' cap' (l.map kp1))
    (hr : w1.heap[N + 1]? = some (.cells z 55 (0, 0))) (v0 v1 v2 v3 v4 v5 v6 : Value) :
    RefPost2 B (⟨l.map kp1, T, ⟨gen + 1, ro, lo, ne⟩, T⟩, 0) w (.returned (.tuple #[refV ⟨g', cap', gt, ct, gt, ct⟩ ⟨l.map kp1, T, ⟨gn, ro, lo, ne⟩, T⟩, .int .i64 0]))
      (((((((w1.setCell ⟨N + 1, 0, none⟩ v0).setCell ⟨N + 1, 1, none⟩ v1).setCell ⟨N + 1, 2, none⟩ v2).setCell ⟨N + 1, 3, none⟩ v3).setCell ⟨N + 1, 4, none⟩ v4).setCell ⟨N + 1, 5, none⟩ v5).setCell ⟨N + 1, 6, none⟩ v6) := by
  subst hgn
  have k3 := keptS7 (S := (· = N + 1)) (n := N + 1) (Kept.refl _ w1) rfl v0 v1 v2 v3 v4 v5 v6
  have hK := K1.then k3 (by intro i hi e; omega)
  have hgt := H.texts.lt
  simp only at hgt
  have n2 : g' ≠ N + 1 := H1.ne hr (by decide)
  have htx := (H.texts.kept K1 id).kept k3 (by simp only; omega)
  refine ⟨_, rfl, ⟨H1.kept k3 n2, htx, htx, H.bt, H.bt, ?_, ?_, ?_, ?_, ?_⟩, hK⟩
  · simp only [List.length_map]; exact H.lt
  · simp only [List.length_map]; exact H.lt
  · simp only [List.length_map]; exact H.pos
  · simp only [List.length_map]; exact H.len
  · intro x hx
    simp only [List.mem_map] at hx
    obtain ⟨y, _, rfl⟩ := hx
    unfold kp1; split <;> omega

set_option maxHeartbeats 8000000 in
set_option maxRecDepth 100000 in
theorem refCheck_good {w B q R} (h : IsRef w B q R) (ro lo ne : Int) (hb : rBad R ro lo ne = 0) (hg : R.s.gen ≤ 1099511627776) :
    Calls Try.prog 33 #[refV q R, .int .i64 ro, .int .i64 lo, .int .i64 ne] w (RefPost2 B (rCheck R ro lo ne) w) := by
  have H := Lib.hid h
  have hlen := h.len
  have HR : Hid (rCheck R ro lo ne = (⟨R.l.map kp1, R.T, ⟨R.s.gen + 1, ro, lo.toNat, ne.toNat⟩, R.T⟩, 0)) := by simp [Hid, rCheck, hb]
  rw [HR.out]
  have hcase : (ro = -1 ∨ ∃ k : Nat, ro = k ∧ ∃ hk : k < R.l.length, R.l[k] = 1 ∨ R.l[k] = 2) ∧ ¬ lo < 1 ∧ ¬ 1099511627776 < lo ∧ ¬ ne < 0 ∧ ¬ 1099511627776 < ne := by
    unfold rBad at hb
    by_cases c : ro < -1 ∨ (0 ≤ ro ∧ stAt R.l ro ≠ 1 ∧ stAt R.l ro ≠ 2) ∨ (R.l.length : Int) ≤ ro
    · rw [if_pos c] at hb; omega
    · rw [if_neg c] at hb
      by_cases d : lo < 1 ∨ 1099511627776 < lo ∨ ne < 0 ∨ 1099511627776 < ne
      · rw [if_pos d] at hb; omega
      · simp only [not_or] at c
        refine ⟨?_, by omega, by omega, by omega, by omega⟩
        by_cases c1 : 0 ≤ ro
        · obtain ⟨k, rfl, hk, e⟩ := root_in c1 c.2.2
          rw [e] at c
          exact .inr ⟨k, rfl, hk, by omega⟩
        · exact .inl (by omega)
  obtain ⟨hc, hn1, hn2, hn3, hn4⟩ := hcase
  obtain ⟨lo, rfl⟩ : ∃ n : Nat, lo = n := ⟨lo.toNat, by omega⟩
  obtain ⟨ne, rfl⟩ : ∃ n : Nat, ne = n := ⟨ne.toNat, by omega⟩
  have n1 : decide ((lo : Int) < 1) = false := by simpa using hn1
  have n2 : decide ((1099511627776 : Int) < lo) = false := by simpa using hn2
  have n3 : decide ((ne : Int) < 0) = false := by simp
  have n4 : decide ((1099511627776 : Int) < ne) = false := by simpa using hn4
  clear hb hn1 hn2 hn3 hn4 h
  obtain ⟨l, T, ⟨gen, root, log, next⟩, K⟩ := R
  obtain ⟨gl, cl, gt, ct, gk, ck⟩ := q
  unfold refV refCells
  simp only at hc hlen hg ⊢
  have HU : Hid (∀ W, Kept (fun _ => False) w W → Calls Try.prog 20 #[.slice (some ⟨gl, 0, none⟩) l.length cl] W (RList (l.map kp1) W)) := fun W hW => refKeep_calls (H.out.ints.kept hW id) H.out.len H.out.pos H.out.lt4
  obtain ⟨gn, hgn⟩ : ∃ n, n = gen + 1 := ⟨_, rfl⟩
  have q1 : IntKind.i64.wrap ((gen : Int) + 1) = (gn : Int) := by rw [IntKind.wrap_i64]; omega
  have HGN := Lib.hid hgn
  clear hgn hg
  have HROOT : Hid (decide (ro < -1) = false ∧ decide ((l.length : Int) ≤ ro) = false) := by
    rcases hc with rfl | ⟨k, rfl, hk, _⟩
    · exact ⟨by simp, by simp; omega⟩
    · exact ⟨by simp, by simp; omega⟩
  obtain ⟨h1, h2⟩ := HROOT.out
  have hgl := H.out.ints.lt
  simp only at hgl
  have HC : Hid ((decide (0 ≤ ro) = false) ∨ ∃ k : Nat, ro = k ∧ ∃ hk : k < l.length, l[k] = 1 ∨ l[k] = 2) := by
    rcases hc with rfl | hc
    · exact .inl (by simp)
    · exact .inr hc
  clear hc
  rcases HC.out with h3 | ⟨k, rfl, hk, hv⟩
  · -- no root
    go_enter Try.func33, Try.ntmps33
    go_wp2
    obtain ⟨W, hW⟩ : ∃ W, W = (w.alloc (.cells #[.slice (some ⟨gl, 0, none⟩) l.length cl, .slice (some ⟨gt, 0, none⟩) T.length ct, .int .i64 gen, .int .i64 root, .int .i64 log, .int .i64 next, .slice (some ⟨gk, 0, none⟩) K.length ck] 55)).alloc (.cells #[.slice none 0 0, .slice none 0 0, .int .i64 0, .int .i64 0, .int .i64 0, .int .i64 0, .slice none 0 0] 55) := ⟨_, rfl⟩
    rw [← hW]
    obtain ⟨N, hN⟩ : ∃ N, N = w.heap.size := ⟨_, rfl⟩
    have KW : Hid (Kept (fun _ => False) w W) := by rw [hW]; exact ((Kept.refl _ _).alloc _).alloc _
    have hb : W.heap[N]? = some (.cells #[.slice (some ⟨gl, 0, none⟩) l.length cl, .slice (some ⟨gt, 0, none⟩) T.length ct, .int .i64 gen, .int .i64 root, .int .i64 log, .int .i64 next, .slice (some ⟨gk, 0, none⟩) K.length ck] 55 (0, 0)) := by rw [hW, hN]; exact heap_old (heap_new w _) _
    have hr : W.heap[N + 1]? = some (.cells #[.slice none 0 0, .slice none 0 0, .int .i64 0, .int .i64 0, .int .i64 0, .int .i64 0, .slice none 0 0] 55 (0, 0)) := by rw [hW, hN]; exact heap_newAt (by simp) _
    have HBX := Lib.hid hb
    have HRS := Lib.hid hr
    have HN := Lib.hid hN
    rw [← hN]
    obtain ⟨a0, a1, a2, a3, a4, a5, a6⟩ := cells7 hb
    have hl1 := lt_heap hb
    have hl2 := lt_heap hr
    clear hW hb hr hN
    go_region_held3 (fun w' => w'.cell? ⟨N, 0, none⟩ = some (.slice (some ⟨gl, 0, none⟩) l.length cl) ∧ w'.cell? ⟨N, 1, none⟩ = some (.slice (some ⟨gt, 0, none⟩) T.length ct) ∧ w'.cell? ⟨N, 2, none⟩ = some (.int .i64 gen)) (go_keep)
      (first
        | (go_at_call 20; refine (HU.out _ (KW.out.trans (by repeat (first | exact Kept.refl _ _ | refine Kept.drew ?_ | refine Kept.alloc ?_ _)))).mono ?_; rintro e w1 ⟨g', cap', rfl, h1, k1⟩; rw [List.length_map]; have H1 := Lib.hid h1; have K1 : Hid (Kept (fun _ => False) w w1) := (KW.out.trans (by repeat (first | exact Kept.refl _ _ | refine Kept.drew ?_ | refine Kept.alloc ?_ _))).trans k1; have hb := k1.heap (w := _) HBX.out id; have hr := k1.heap (w := _) HRS.out id; obtain ⟨b0, b1, b2, b3, b4, b5, b6⟩ := cells7 hb; obtain ⟨c0, c1, c2, c3, c4, c5, c6⟩ := cells7 hr; obtain ⟨g0, g1, g2, g3, g4, g5, g6⟩ := free7 hr; have hl3 := lt_heap hb; have hl4 := lt_heap hr; have HRS1 := Lib.hid hr; have HBX1 := Lib.hid hb; clear h1 k1 hb hr))
    all_goals go_wp2_with fail
    all_goals
      refine bodyPost_ret (v := .tuple #[refV ⟨g', cap', gt, ct, gt, ct⟩ ⟨l.map kp1, T, ⟨gn, ro, lo, ne⟩, T⟩, .int .i64 0]) ?_ rfl ?_
      · have hh := set7 HRS1.out (.slice (some ⟨g', 0, none⟩) l.length cap') (.slice (some ⟨gt, 0, none⟩) T.length ct) (.int .i64 gn) (.int .i64 ro) (.int .i64 lo) (.int .i64 ne) (.slice (some ⟨gt, 0, none⟩) T.length ct)
        obtain ⟨x0, x1, x2, x3, x4, x5, x6⟩ := cells7 hh
        simp [results, Try.f33, go_sem, x0, x1, x2, x3, x4, x5, x6, refV, refCells]
      · exact check_fin H.out HN.out HGN.out K1.out H1.out HRS1.out _ _ _ _ _ _ _
  · have hck := H.out.ints.cell k hk
    simp only at hck
    have hck4 := H.out.lt4 l[k] (List.getElem_mem _)
    have h3 : decide ((0 : Int) ≤ (k : Int)) = true := by simp
    rcases hv with hv | hv
    · have t1 : ((l[k] : Int) != 1) = false := by rw [bne_eq_false_iff_eq]; omega
      clear hv
      go_enter Try.func33, Try.ntmps33
      go_wp2
      obtain ⟨W, hW⟩ : ∃ W, W = (w.alloc (.cells #[.slice (some ⟨gl, 0, none⟩) l.length cl, .slice (some ⟨gt, 0, none⟩) T.length ct, .int .i64 gen, .int .i64 root, .int .i64 log, .int .i64 next, .slice (some ⟨gk, 0, none⟩) K.length ck] 55)).alloc (.cells #[.slice none 0 0, .slice none 0 0, .int .i64 0, .int .i64 0, .int .i64 0, .int .i64 0, .slice none 0 0] 55) := ⟨_, rfl⟩
      rw [← hW]
      obtain ⟨N, hN⟩ : ∃ N, N = w.heap.size := ⟨_, rfl⟩
      have KW : Hid (Kept (fun _ => False) w W) := by rw [hW]; exact ((Kept.refl _ _).alloc _).alloc _
      have hb : W.heap[N]? = some (.cells #[.slice (some ⟨gl, 0, none⟩) l.length cl, .slice (some ⟨gt, 0, none⟩) T.length ct, .int .i64 gen, .int .i64 root, .int .i64 log, .int .i64 next, .slice (some ⟨gk, 0, none⟩) K.length ck] 55 (0, 0)) := by rw [hW, hN]; exact heap_old (heap_new w _) _
      have hr : W.heap[N + 1]? = some (.cells #[.slice none 0 0, .slice none 0 0, .int .i64 0, .int .i64 0, .int .i64 0, .int .i64 0, .slice none 0 0] 55 (0, 0)) := by rw [hW, hN]; exact heap_newAt (by simp) _
      have HBX := Lib.hid hb
      have HRS := Lib.hid hr
      have HN := Lib.hid hN
      rw [← hN]
      obtain ⟨a0, a1, a2, a3, a4, a5, a6⟩ := cells7 hb
      have hl1 := lt_heap hb
      have hl2 := lt_heap hr
      clear hW hb hr hN
      go_region_held3 (fun w' => w'.cell? ⟨N, 0, none⟩ = some (.slice (some ⟨gl, 0, none⟩) l.length cl) ∧ w'.cell? ⟨N, 1, none⟩ = some (.slice (some ⟨gt, 0, none⟩) T.length ct) ∧ w'.cell? ⟨N, 2, none⟩ = some (.int .i64 gen)) (go_keep)
        (first
          | (go_at_call 20; refine (HU.out _ (KW.out.trans (by repeat (first | exact Kept.refl _ _ | refine Kept.drew ?_ | refine Kept.alloc ?_ _)))).mono ?_; rintro e w1 ⟨g', cap', rfl, h1, k1⟩; rw [List.length_map]; have H1 := Lib.hid h1; have K1 : Hid (Kept (fun _ => False) w w1) := (KW.out.trans (by repeat (first | exact Kept.refl _ _ | refine Kept.drew ?_ | refine Kept.alloc ?_ _))).trans k1; have hb := k1.heap (w := _) HBX.out id; have hr := k1.heap (w := _) HRS.out id; obtain ⟨b0, b1, b2, b3, b4, b5, b6⟩ := cells7 hb; obtain ⟨c0, c1, c2, c3, c4, c5, c6⟩ := cells7 hr; obtain ⟨g0, g1, g2, g3, g4, g5, g6⟩ := free7 hr; have hl3 := lt_heap hb; have hl4 := lt_heap hr; have HRS1 := Lib.hid hr; have HBX1 := Lib.hid hb; clear h1 k1 hb hr))
      all_goals go_wp2_with fail
      all_goals
        refine bodyPost_ret (v := .tuple #[refV ⟨g', cap', gt, ct, gt, ct⟩ ⟨l.map kp1, T, ⟨gn, (k : Int), lo, ne⟩, T⟩, .int .i64 0]) ?_ rfl ?_
        · have hh := set7 HRS1.out (.slice (some ⟨g', 0, none⟩) l.length cap') (.slice (some ⟨gt, 0, none⟩) T.length ct) (.int .i64 gn) (.int .i64 (k : Int)) (.int .i64 lo) (.int .i64 ne) (.slice (some ⟨gt, 0, none⟩) T.length ct)
          obtain ⟨x0, x1, x2, x3, x4, x5, x6⟩ := cells7 hh
          simp [results, Try.f33, go_sem, x0, x1, x2, x3, x4, x5, x6, refV, refCells]
        · exact check_fin H.out HN.out HGN.out K1.out H1.out HRS1.out _ _ _ _ _ _ _
    · have t1 : ((l[k] : Int) != 1) = true := by rw [bne_iff_ne]; omega
      have t2 : ((l[k] : Int) != 2) = false := by rw [bne_eq_false_iff_eq]; omega
      clear hv
      go_enter Try.func33, Try.ntmps33
      go_wp2
      obtain ⟨W, hW⟩ : ∃ W, W = (w.alloc (.cells #[.slice (some ⟨gl, 0, none⟩) l.length cl, .slice (some ⟨gt, 0, none⟩) T.length ct, .int .i64 gen, .int .i64 root, .int .i64 log, .int .i64 next, .slice (some ⟨gk, 0, none⟩) K.length ck] 55)).alloc (.cells #[.slice none 0 0, .slice none 0 0, .int .i64 0, .int .i64 0, .int .i64 0, .int .i64 0, .slice none 0 0] 55) := ⟨_, rfl⟩
      rw [← hW]
      obtain ⟨N, hN⟩ : ∃ N, N = w.heap.size := ⟨_, rfl⟩
      have KW : Hid (Kept (fun _ => False) w W) := by rw [hW]; exact ((Kept.refl _ _).alloc _).alloc _
      have hb : W.heap[N]? = some (.cells #[.slice (some ⟨gl, 0, none⟩) l.length cl, .slice (some ⟨gt, 0, none⟩) T.length ct, .int .i64 gen, .int .i64 root, .int .i64 log, .int .i64 next, .slice (some ⟨gk, 0, none⟩) K.length ck] 55 (0, 0)) := by rw [hW, hN]; exact heap_old (heap_new w _) _
      have hr : W.heap[N + 1]? = some (.cells #[.slice none 0 0, .slice none 0 0, .int .i64 0, .int .i64 0, .int .i64 0, .int .i64 0, .slice none 0 0] 55 (0, 0)) := by rw [hW, hN]; exact heap_newAt (by simp) _
      have HBX := Lib.hid hb
      have HRS := Lib.hid hr
      have HN := Lib.hid hN
      rw [← hN]
      obtain ⟨a0, a1, a2, a3, a4, a5, a6⟩ := cells7 hb
      have hl1 := lt_heap hb
      have hl2 := lt_heap hr
      clear hW hb hr hN
      go_region_held3 (fun w' => w'.cell? ⟨N, 0, none⟩ = some (.slice (some ⟨gl, 0, none⟩) l.length cl) ∧ w'.cell? ⟨N, 1, none⟩ = some (.slice (some ⟨gt, 0, none⟩) T.length ct) ∧ w'.cell? ⟨N, 2, none⟩ = some (.int .i64 gen)) (go_keep)
        (first
          | (go_at_call 20; refine (HU.out _ (KW.out.trans (by repeat (first | exact Kept.refl _ _ | refine Kept.drew ?_ | refine Kept.alloc ?_ _)))).mono ?_; rintro e w1 ⟨g', cap', rfl, h1, k1⟩; rw [List.length_map]; have H1 := Lib.hid h1; have K1 : Hid (Kept (fun _ => False) w w1) := (KW.out.trans (by repeat (first | exact Kept.refl _ _ | refine Kept.drew ?_ | refine Kept.alloc ?_ _))).trans k1; have hb := k1.heap (w := _) HBX.out id; have hr := k1.heap (w := _) HRS.out id; obtain ⟨b0, b1, b2, b3, b4, b5, b6⟩ := cells7 hb; obtain ⟨c0, c1, c2, c3, c4, c5, c6⟩ := cells7 hr; obtain ⟨g0, g1, g2, g3, g4, g5, g6⟩ := free7 hr; have hl3 := lt_heap hb; have hl4 := lt_heap hr; have HRS1 := Lib.hid hr; have HBX1 := Lib.hid hb; clear h1 k1 hb hr))
      all_goals go_wp2_with fail
      all_goals
        refine bodyPost_ret (v := .tuple #[refV ⟨g', cap', gt, ct, gt, ct⟩ ⟨l.map kp1, T, ⟨gn, (k : Int), lo, ne⟩, T⟩, .int .i64 0]) ?_ rfl ?_
        · have hh := set7 HRS1.out (.slice (some ⟨g', 0, none⟩) l.length cap') (.slice (some ⟨gt, 0, none⟩) T.length ct) (.int .i64 gn) (.int .i64 (k : Int)) (.int .i64 lo) (.int .i64 ne) (.slice (some ⟨gt, 0, none⟩) T.length ct)
          obtain ⟨x0, x1, x2, x3, x4, x5, x6⟩ := cells7 hh
          simp [results, Try.f33, go_sem, x0, x1, x2, x3, x4, x5, x6, refV, refCells]
        · exact check_fin H.out HN.out HGN.out K1.out H1.out HRS1.out _ _ _ _ _ _ _

/-- What a call leaves that hands a store back, and two numbers. -/
def RefPost3 (B : Nat) (r : RSto × Int × Int) (w : World) (e : Ending) (w' : World) : Prop :=
  ∃ q, e = .returned (.tuple #[refV q r.1, .int .i64 r.2.1, .int .i64 r.2.2]) ∧ IsRef w' B q r.1 ∧ Kept (fun _ => False) w w'
def rPut (R : RSto) (t : List UInt8) : RSto × Int × Int :=
  if 248 < t.length then (R, 0, 3) else match tkAt R.l with
    | none => (R, 0, 7)
    | some i => ({ R with l := R.l.set i 2, T := R.T.set i t }, i, 0)

theorem SR.ne {w : World} {g cap : Nat} {T : List (List UInt8)} (h : SR w g cap T) {b : Nat} {cs : Array Value} {e : TypeId} {f : Nat × Nat} (hb : w.heap[b]? = some (.cells cs e f)) (hT : e ≠ 9) : g ≠ b := by
  obtain ⟨cs', f', hg, _⟩ := RowIs.of_own h
  exact fun e => ne_type hb hg hT e.symm
theorem put_fin {w w1 w2 : World} {B gl cl gt ct gk ck gen log next N g' cap' g1 cap1 i : Nat} {root : Int} {l : List Nat} {T K : List (List UInt8)} {t : List UInt8} {x : ByteArray} {z z' : Array Value}
    (H : IsRef w B ⟨gl, cl, gt, ct, gk, ck⟩ ⟨l, T, ⟨gen, root, log, next⟩, K⟩) (HB : B ≤ w.heap.size) (hN : N = w.heap.size) (K1 : Kept (fun _ => False) w w1) (K2 : Kept (fun _ => False) w1 w2) (H1 : IR w1 g' cap' (l.set i 2)) (HO : SR w2 g1 cap1 T)
    (hx : x = ba t) (_hi : i < l.length) (hg1 : w1.heap.size ≤ g1) (hb : w2.heap[N]? = some (.cells z' 55 (0, 0))) (hr : w2.heap[N + 1]? = some (.cells z 55 (0, 0))) (u0 u1 v0 v1 v2 v3 v4 v5 v6 : Value) :
    RefPost3 B (⟨l.set i 2, T.set i t, ⟨gen, root, log, next⟩, K⟩, i, 0) w (.returned (.tuple #[refV ⟨g', cap', g1, cap1, gk, ck⟩ ⟨l.set i 2, T.set i t, ⟨gen, root, log, next⟩, K⟩, .int .i64 i, .int .i64 0]))
      ((((((((((w2.setCell ⟨g1, i, none⟩ (.string x)).setCell ⟨N, 0, none⟩ u0).setCell ⟨N, 1, none⟩ u1).setCell ⟨N + 1, 0, none⟩ v0).setCell ⟨N + 1, 1, none⟩ v1).setCell ⟨N + 1, 2, none⟩ v2).setCell ⟨N + 1, 3, none⟩ v3).setCell ⟨N + 1, 4, none⟩ v4).setCell ⟨N + 1, 5, none⟩ v5).setCell ⟨N + 1, 6, none⟩ v6) := by
  have ks : Kept (· = g1) w2 (w2.setCell ⟨g1, i, none⟩ (.string x)) := (Kept.refl _ _).set1 i _
  have k2 : Kept (fun j => j = N ∨ j = N + 1) (w2.setCell ⟨g1, i, none⟩ (.string x)) (((w2.setCell ⟨g1, i, none⟩ (.string x)).setCell ⟨N, 0, none⟩ u0).setCell ⟨N, 1, none⟩ u1) := ((Kept.refl _ _).setCell (.inl (.inl rfl)) _).setCell (.inl (.inl rfl)) _
  have k3 := keptS7 (n := N + 1) k2 (.inr rfl) v0 v1 v2 v3 v4 v5 v6
  have n1 : g1 ≠ N := HO.ne hb (by decide)
  have n2 : g1 ≠ N + 1 := HO.ne hr (by decide)
  have H2 : IR w2 g' cap' (l.set i 2) := H1.kept K2 id
  have n3 : g' ≠ N := H2.ne hb (by decide)
  have n4 : g' ≠ N + 1 := H2.ne hr (by decide)
  have n5 : g' ≠ g1 := by
    obtain ⟨cs, f, hg, _⟩ := RowIs.of_own HO
    exact H2.ne hg (by decide)
  have hsz := K1.size
  have hgk := H.keeps.lt
  simp only at hgk
  have hT : SR (w2.setCell ⟨g1, i, none⟩ (.string x)) g1 cap1 (T.set i t) := by
    have := (World.ownsRow.stored HO i (.string x)).1
    unfold SR
    rw [List.map_set, List.length_set, show Ss t = .string x by rw [hx]; rfl]
    exact this
  have KA : Kept (fun _ => False) w w2 := K1.trans K2
  refine ⟨_, rfl, ⟨(H2.kept ks n5).kept k3 (by omega), hT.kept k3 (by omega), ((H.keeps.kept KA id).kept ks (by simp only; omega)).kept k3 (by simp only; omega), by simp only; omega, H.bk, ?_, ?_, ?_, ?_, ?_⟩, ?_⟩
  · simp only [List.length_set]; exact H.lt
  · simp only [List.length_set]; exact H.lk
  · simp only [List.length_set]; exact H.pos
  · simp only [List.length_set]; exact H.len
  · intro y hy
    rcases List.mem_or_eq_of_mem_set hy with h | rfl
    · exact H.lt4 y h
    · omega
  · exact (KA.then ks (by intro j hj e; omega)).then k3 (by intro j hj e; omega)

set_option maxHeartbeats 8000000 in
set_option maxRecDepth 100000 in
theorem refPut_calls {w B q R} (h : IsRef w B q R) (hB : B ≤ w.heap.size) (t : List UInt8) : Calls Try.prog 31 #[refV q R, .string (ba t)] w (RefPost3 B (rPut R t) w) := by
  have H := Lib.hid h
  have HB := Lib.hid hB
  have hlen := h.len
  have HLT := Lib.hid h.lt
  obtain ⟨x, hx⟩ : ∃ x, x = ba t := ⟨_, rfl⟩
  have hxs : x.size = t.length := by rw [hx, ba_size]
  rw [← hx]
  have HX := Lib.hid hx
  obtain ⟨l, T, ⟨gen, root, log, next⟩, K⟩ := R
  obtain ⟨gl, cl, gt, ct, gk, ck⟩ := q
  have HF : Hid (∀ W (c : Int), Kept (fun _ => False) w W → RefPost3 B (⟨l, T, ⟨gen, root, log, next⟩, K⟩, 0, c) w (.returned (.tuple #[refV ⟨gl, cl, gt, ct, gk, ck⟩ ⟨l, T, ⟨gen, root, log, next⟩, K⟩, .int .i64 0, .int .i64 c])) W) := fun W c hW => ⟨_, rfl, h.keptF hW, hW⟩
  have HTK : Hid (∀ W, Kept (fun _ => False) w W → Calls Try.prog 18 #[.slice (some ⟨gl, 0, none⟩) l.length cl] W (RTake l (tkRes l).1 (tkRes l).2.2 (tkAt l).isSome W)) := fun W hW => refTake_calls (h.ints.kept hW id) h.lt4 h.len
  clear h hB hx
  unfold refV refCells
  simp only at hlen ⊢
  by_cases hbig : 248 < t.length
  · have hb1 : 248 < x.size := by omega
    have HR : Hid (rPut ⟨l, T, ⟨gen, root, log, next⟩, K⟩ t = (⟨l, T, ⟨gen, root, log, next⟩, K⟩, 0, 3)) := by simp [Hid, rPut, hbig]
    rw [HR.out]
    clear hbig hxs
    go_enter Try.func31, Try.ntmps31
    go_wp2
    refine bodyPost_ret (v := .tuple #[refV ⟨gl, cl, gt, ct, gk, ck⟩ ⟨l, T, ⟨gen, root, log, next⟩, K⟩, .int .i64 0, .int .i64 3]) ?_ rfl (HF.out _ 3 (((Kept.refl _ _).alloc _).alloc _))
    simp [results, Try.f31, go_sem, refV, refCells]
  · have hb1 : x.size ≤ 248 := by omega
    cases ht : tkAt l with
    | none =>
      have HR : Hid (rPut ⟨l, T, ⟨gen, root, log, next⟩, K⟩ t = (⟨l, T, ⟨gen, root, log, next⟩, K⟩, 0, 7)) := by simp [Hid, rPut, hbig, ht]
      rw [HR.out]
      have HT2 : Hid (tkRes l = (0, 7, l)) := by simp [Hid, tkRes, ht]
      rw [HT2.out, ht] at HTK
      simp only [Option.isSome_none] at HTK
      clear hbig hxs ht
      go_enter Try.func31, Try.ntmps31
      go_wp2_with fail
      obtain ⟨W, hW⟩ : ∃ W, W = (w.alloc (.cells #[.slice (some ⟨gl, 0, none⟩) l.length cl, .slice (some ⟨gt, 0, none⟩) T.length ct, .int .i64 gen, .int .i64 root, .int .i64 log, .int .i64 next, .slice (some ⟨gk, 0, none⟩) K.length ck] 55)).alloc (.cells #[.slice none 0 0, .slice none 0 0, .int .i64 0, .int .i64 0, .int .i64 0, .int .i64 0, .slice none 0 0] 55) := ⟨_, rfl⟩
      rw [← hW]
      obtain ⟨N, hN⟩ : ∃ N, N = w.heap.size := ⟨_, rfl⟩
      have KW : Hid (Kept (fun _ => False) w W) := by rw [hW]; exact ((Kept.refl _ _).alloc _).alloc _
      have hb : W.heap[N]? = some (.cells #[.slice (some ⟨gl, 0, none⟩) l.length cl, .slice (some ⟨gt, 0, none⟩) T.length ct, .int .i64 gen, .int .i64 root, .int .i64 log, .int .i64 next, .slice (some ⟨gk, 0, none⟩) K.length ck] 55 (0, 0)) := by rw [hW, hN]; exact heap_old (heap_new w _) _
      have hr : W.heap[N + 1]? = some (.cells #[.slice none 0 0, .slice none 0 0, .int .i64 0, .int .i64 0, .int .i64 0, .int .i64 0, .slice none 0 0] 55 (0, 0)) := by rw [hW, hN]; exact heap_newAt (by simp) _
      have HBX := Lib.hid hb
      have HRS := Lib.hid hr
      have HN := Lib.hid hN
      rw [← hN]
      clear hW hb hr hN
      refine (HTK.out W KW.out).mono ?_
      rintro e w1 ⟨g', cap', rfl, h1, hl1, k1⟩
      have K1 : Hid (Kept (fun _ => False) w w1) := KW.out.trans k1
      have hb := k1.heap HBX.out id
      have hr := k1.heap HRS.out id
      obtain ⟨a0, a1, a2, a3, a4, a5, a6⟩ := cells7 hb
      obtain ⟨b0, b1, b2, b3, b4, b5, b6⟩ := cells7 hr
      obtain ⟨g0, g1, g2, g3, g4, g5, g6⟩ := free7 hr
      have HRS1 := Lib.hid hr
      clear h1 k1 hb hr hl1
      go_wp2_with fail
      refine bodyPost_ret (v := .tuple #[refV ⟨gl, cl, gt, ct, gk, ck⟩ ⟨l, T, ⟨gen, root, log, next⟩, K⟩, .int .i64 0, .int .i64 7]) ?_ rfl (HF.out _ 7 (kept7 K1.out (by have := HN.out; omega) _ _ _ _ _ _ _))
      have hh := set7 HRS1.out (.slice (some ⟨gl, 0, none⟩) l.length cl) (.slice (some ⟨gt, 0, none⟩) T.length ct) (.int .i64 gen) (.int .i64 root) (.int .i64 log) (.int .i64 next) (.slice (some ⟨gk, 0, none⟩) K.length ck)
      obtain ⟨x0, x1, x2, x3, x4, x5, x6⟩ := cells7 hh
      simp [results, Try.f31, go_sem, x0, x1, x2, x3, x4, x5, x6, refV, refCells]
    | some i =>
      have hi : i < l.length := (List.findIdx?_eq_some_iff_getElem.1 ht).1
      have HR : Hid (rPut ⟨l, T, ⟨gen, root, log, next⟩, K⟩ t = ((⟨l.set i 2, T.set i t, ⟨gen, root, log, next⟩, K⟩ : RSto), (i : Int), 0)) := by simp [Hid, rPut, hbig, ht]
      rw [HR.out]
      have HT2 : Hid (tkRes l = ((i : Int), 0, l.set i 2)) := by simp [Hid, tkRes, ht]
      rw [HT2.out, ht] at HTK
      simp only [Option.isSome_some] at HTK
      clear hbig hxs ht
      go_enter Try.func31, Try.ntmps31
      go_wp2_with fail
      obtain ⟨W, hW⟩ : ∃ W, W = (w.alloc (.cells #[.slice (some ⟨gl, 0, none⟩) l.length cl, .slice (some ⟨gt, 0, none⟩) T.length ct, .int .i64 gen, .int .i64 root, .int .i64 log, .int .i64 next, .slice (some ⟨gk, 0, none⟩) K.length ck] 55)).alloc (.cells #[.slice none 0 0, .slice none 0 0, .int .i64 0, .int .i64 0, .int .i64 0, .int .i64 0, .slice none 0 0] 55) := ⟨_, rfl⟩
      rw [← hW]
      obtain ⟨N, hN⟩ : ∃ N, N = w.heap.size := ⟨_, rfl⟩
      have KW : Hid (Kept (fun _ => False) w W) := by rw [hW]; exact ((Kept.refl _ _).alloc _).alloc _
      have hb : W.heap[N]? = some (.cells #[.slice (some ⟨gl, 0, none⟩) l.length cl, .slice (some ⟨gt, 0, none⟩) T.length ct, .int .i64 gen, .int .i64 root, .int .i64 log, .int .i64 next, .slice (some ⟨gk, 0, none⟩) K.length ck] 55 (0, 0)) := by rw [hW, hN]; exact heap_old (heap_new w _) _
      have hr : W.heap[N + 1]? = some (.cells #[.slice none 0 0, .slice none 0 0, .int .i64 0, .int .i64 0, .int .i64 0, .int .i64 0, .slice none 0 0] 55 (0, 0)) := by rw [hW, hN]; exact heap_newAt (by simp) _
      have HBX := Lib.hid hb
      have HRS := Lib.hid hr
      have HN := Lib.hid hN
      rw [← hN]
      clear hW hb hr hN
      refine (HTK.out W KW.out).mono ?_
      rintro e w1 ⟨g', cap', rfl, h1, hl1, k1⟩
      have K1 : Hid (Kept (fun _ => False) w w1) := KW.out.trans k1
      have hb := k1.heap HBX.out id
      have hr := k1.heap HRS.out id
      obtain ⟨a0, a1, a2, a3, a4, a5, a6⟩ := cells7 hb
      have hbl := lt_heap hb
      have HRS1 := Lib.hid hr
      have HBX1 := Lib.hid hb
      have H1 := Lib.hid h1
      have HT1 := Lib.hid (H.out.texts.kept K1.out id)
      have HIL := Lib.hid hi
      have hTl : i < T.length := by have := HLT.out; omega
      clear h1 k1 hb hr hl1
      have hT128 : T.length ≤ 128 := by have := HLT.out; omega
      go_wp2_with (at_builtin; refine app_one (v := .slice (some ⟨w1.heap.size, 0, none⟩) 0 0) rfl (.tmp 25) (.tmp 27) rfl und_strs info_str rfl rfl (own_empty _ _) w1.heap.size rfl (HT1.out.reads.alloc (Nat.le_refl _) _) (ss_one T) (by unfold maxLen; omega) (by omega) ?_; intro v1 w2 hown1 hg1 hat1; simp only [Nat.zero_add, List.nil_append] at hown1; obtain ⟨g1, cap1, rfl⟩ := own_form hown1 (by omega); have HO := Lib.hid hown1; have K2 : Hid (Kept (fun _ => False) w1 w2) := ((Kept.refl _ _).alloc _).grown hg1 (by intro k' hk'; simp [Value.ownBlock] at hk'; exact .inr (by omega)); have HG1 : Hid (w1.heap.size ≤ g1) := (by rcases hat1 with e | e <;> simp [Value.ownBlock] at e <;> simp [Hid, e]); have hc1 := SR.cell hown1 i hTl; have hf1 := hown1.frozenAt i; have hb2 := K2.out.heap HBX1.out id; have hr2 := K2.out.heap HRS1.out id; have HB2 := Lib.hid hb2; have HR2 := Lib.hid hr2; obtain ⟨a0, a1, a2, a3, a4, a5, a6⟩ := cells7 hb2; obtain ⟨f0, f1, -, -, -, -, -⟩ := free7 hb2; obtain ⟨b0, b1, b2, b3, b4, b5, b6⟩ := cells7 hr2; obtain ⟨g0, gf1, gf2, gf3, gf4, gf5, gf6⟩ := free7 hr2; have hne1 : g1 ≠ N := SR.ne hown1 hb2 (by decide); have hne2 : g1 ≠ N + 1 := SR.ne hown1 hr2 (by decide); have hl21 := lt_heap hb2; have hl22 := lt_heap hr2; have hl23 := SR.lt hown1; clear hown1 hg1 hat1 hb2 hr2)
      refine bodyPost_ret (v := .tuple #[refV ⟨g', cap', g1, cap1, gk, ck⟩ ⟨l.set i 2, T.set i t, ⟨gen, root, log, next⟩, K⟩, .int .i64 i, .int .i64 0]) ?_ rfl ?_
      · have hh := set7 (heap_set_other (a := ⟨N, 1, none⟩) (v := .slice (some ⟨g1, 0, none⟩) T.length cap1) (heap_set_other (a := ⟨N, 0, none⟩) (v := .slice (some ⟨g', 0, none⟩) l.length cap') (heap_set_other (a := ⟨g1, i, none⟩) (v := .string x) HR2.out hne2.symm) (by simp)) (by simp)) (.slice (some ⟨g', 0, none⟩) l.length cap') (.slice (some ⟨g1, 0, none⟩) T.length cap1) (.int .i64 gen) (.int .i64 root) (.int .i64 log) (.int .i64 next) (.slice (some ⟨gk, 0, none⟩) K.length ck)
        obtain ⟨x0, x1, x2, x3, x4, x5, x6⟩ := cells7 hh
        simp [results, Try.f31, go_sem, x0, x1, x2, x3, x4, x5, x6, refV, refCells]
      · exact put_fin H.out HB.out HN.out K1.out K2.out H1.out HO.out HX.out HIL.out HG1.out HB2.out HR2.out _ _ _ _ _ _ _ _ _

end Go.Proofs.Ytfgjehecjgebdaa
