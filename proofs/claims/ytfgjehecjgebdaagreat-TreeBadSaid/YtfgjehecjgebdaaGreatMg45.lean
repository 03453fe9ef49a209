/- The tree: level, where the kid beside can't be read or is of the other kind. -/
import Derived.Test.YtfgjehecjgebdaaGreatMg44
namespace Go.Proofs.YtfgjehecjgebdaaGreat
open Go.RowKit Go.Maps Go.ChangeMaps
attribute [local go_sem] Oper.semAt_some
theorem IRow.at_ {w B g a c T j} (hr : IRow w B (.slice (some ⟨g, 0, none⟩) a c) T) (hj : j < T.length) : w.cell? ⟨g, j, none⟩ = some (.int .i64 (T[j] : Nat)) := by
  have hl : a = T.length := by
    rcases hr.2 with ⟨e, _⟩ | ⟨g', cap, cur, e, _⟩
    · cases e
    · injection e
  subst hl
  have h1 := World.ownsRow.cellAt hr j (by rw [Nat.mul_one]; exact hj)
  rw [h1]
  simp [hj, I]
/-- A node's kid, in memory. -/
theorem kid_cell {w B v n l P1 n1 c1 P2 n2 c2 P3 n3 c3} (h : IsNd w B v n) (e : v = .agg #[.bool l, .slice P1 n1 c1, .slice P2 n2 c2, .slice P3 n3 c3]) {i : Nat} (hi : i < n.kids.length) :
    n3 = n.kids.length ∧ ∃ g, P3 = some ⟨g, 0, none⟩ ∧ g < w.heap.size ∧ w.cell? ⟨g, i, none⟩ = some (.int .i64 (n.kids.getD i 0 : Nat)) := by
  obtain ⟨l', A1, m1, d1, A2, m2, d2, A3, m3, d3, e', HE, -, -, -, h3⟩ := h.opened
  rw [e] at e'
  injection e' with e'
  injection e' with e'
  injection e' with _ e'
  injection e' with _ e'
  injection e' with _ e'
  injection e' with e3 _
  injection e3 with ep en ec
  subst ep en ec
  have hl := HE.out.2.2.2
  have h3 := h3.out
  obtain ⟨g, c, ev⟩ := own_form h3 (by omega)
  injection ev with e1 _ _
  subst e1
  refine ⟨hl, g, rfl, own_lt h3 rfl, ?_⟩
  rw [IRow.at_ h3 hi]
  simp [hi, List.getD]
theorem key_cell {w B v n l P1 n1 c1 P2 n2 c2 P3 n3 c3} (h : IsNd w B v n) (e : v = .agg #[.bool l, .slice P1 n1 c1, .slice P2 n2 c2, .slice P3 n3 c3]) {i : Nat} (hi : i < n.keys.length) :
    n1 = n.keys.length ∧ ∃ g, P1 = some ⟨g, 0, none⟩ ∧ g < w.heap.size ∧ w.cell? ⟨g, i, none⟩ = some (.string (ba (n.keys.getD i []))) ∧ ∃ cs f, w.heap[g]? = some (.cells cs 9 f) := by
  obtain ⟨l', A1, m1, d1, A2, m2, d2, A3, m3, d3, e', HE, -, h1, -, -⟩ := h.opened
  rw [e] at e'
  injection e' with e'
  injection e' with e'
  injection e' with _ e'
  injection e' with e1 _
  injection e1 with ep en ec
  subst ep en ec
  have hl := HE.out.2.1
  have h1 := h1.out
  obtain ⟨g, c, ev⟩ := own_form h1 (by omega)
  injection ev with e1 _ _
  subst e1
  refine ⟨hl, g, rfl, own_lt h1 rfl, ?_, own_type h1 rfl⟩
  rw [SRow.at_ h1 hi]
  simp [hi, Ss, List.getD]
set_option maxHeartbeats 2000000 in
theorem TWlevel_load_a {w q wk vf vo W root Z} {s : Stp} {l : Bool} {P1 P2 P3 : Option Addr} {n1 c1 n2 c2 n3 c3 : Nat} {vk : Value} {kid : Nd} (h : WkW w q wk vf vo W root Z) (hs : NdAp w (wkS q wk vf vo) (.agg #[.bool l, .slice P1 n1 c1, .slice P2 n2 c2, .slice P3 n3 c3]) s.n) (hk : NdAp w (wkS q wk vf vo) vk kid)
    (hok : s.n.Ok) (hat : s.at_ + 1 ≤ s.n.kids.length) (hlf : s.n.leaf = false) (hm : s.at_ = 0) (hu : kid.under = true) (he : (W.X.load (lvOther s)).2 ≠ 0) :
    Calls Tryz.prog 90 #[.pointer (some ⟨wk, 0, none⟩), .agg #[.int .i64 (s.id : Int), .int .i64 (s.at_ : Int), .bool l, .slice P1 n1 c1, .slice P2 n2 c2, .slice P3 n3 c3], vk] w (LevTo (levelP W s kid) w q wk vf vo root Z) := by
  have CU := Lib.hid fun w' (kk : Kept (fun _ => False) w w') => NdUnder_calls (hk.zero.kept kk)
  rw [hu] at CU
  obtain ⟨l', A1, m1, d1, A2, m2, d2, A3, m3, d3, rfl⟩ := hk.zero.agg
  have HP : Hid (levelP W s kid = (nd0, (W.X.load (lvOther s)).2, W)) := by show _ = _; unfold levelP; rw [if_neg (by simp [hu]), if_pos he]
  obtain ⟨r, hr⟩ : ∃ r, r = levelP W s kid := ⟨_, rfl⟩
  rw [← hr] at HP ⊢
  have hlk := hok.len
  have hot : lvOther s = s.n.kids.getD 1 0 := by unfold lvOther lvLeft; rw [if_pos (by omega), hm]
  have hk2 := (hok.inner hlf).1
  obtain ⟨hn3, g, rfl, hg, hg0⟩ := kid_cell hs.zero rfl (i := 0) (by omega)
  obtain ⟨-, g', eg, -, hgc⟩ := kid_cell hs.zero rfl (i := 1) (by omega)
  injection eg with eg
  injection eg with eg
  subst eg
  rw [← hot] at hgc
  obtain ⟨k0, hk0⟩ : ∃ k, k = s.n.kids.getD 0 0 := ⟨_, rfl⟩
  rw [← hk0] at hg0
  have hmn : 1 < n3 := by omega
  have hmn0 : 0 < n3 := by omega
  have CL := Lib.hid fun w' (kk : Kept (fun _ => False) w w') => TreeLoad_calls (h.keptF kk).tw (lvOther s)
  obtain ⟨ot, hot'⟩ : ∃ o, o = lvOther s := ⟨_, rfl⟩
  rw [← hot'] at hgc CL HP he
  have H := Lib.hid h; have HS := Lib.hid hs; have HK := Lib.hid hk; have HOK := Lib.hid hok; have HAT := Lib.hid hat; have HE := Lib.hid he
  rw [hm]
  have g2 : max (-1 : Int) 0 = 0 := by decide
  have cwk := (wk_cells h.blk).1
  have lwk := lt_heap h.blk
  clear h hs hk hok hat hu hr hm hot hot' hk0 hk2 hlf he hn3 hlk
  go_enter Tryz.func90, Tryz.ntmps90
  go_wp2_with fail
  refine (CU.out _ (by repeat (first | exact Kept.refl _ _ | refine Kept.alloc ?_ _))).mono ?_
  rintro e w1 ⟨rfl, k1⟩
  obtain ⟨N, hN⟩ : ∃ N, N = w.heap.size := ⟨_, rfl⟩
  have HN := Lib.hid hN
  have B0 : Hid (w1.heap[N]? = some (Obj.cells #[.int .i64 (s.id : Int), .int .i64 ((0 : Nat) : Int), .bool l, .slice P1 n1 c1, .slice P2 n2 c2, .slice (some ⟨g, 0, none⟩) n3 c3] 157 (0, 0))) := by show _ = _; rw [hN]; exact k1.heap (heap_old (heap_old (heap_new w _) _) _) not_false
  have B1 : Hid (w1.heap[N + 1]? = some (Obj.cells #[.bool l', .slice A1 m1 d1, .slice A2 m2 d2, .slice A3 m3 d3] 148 (0, 0))) := by show _ = _; rw [hN]; exact k1.heap (heap_old (heap_newAt (by simp) _) _) not_false
  have B2 : Hid (w1.heap[N + 1 + 1]? = some (Obj.cells #[.bool false, .slice none 0 0, .slice none 0 0, .slice none 0 0] 148 (0, 0))) := by show _ = _; rw [hN]; exact k1.heap (heap_newAt (by simp) _) not_false
  have K1 : Hid (Kept (fun _ => False) w w1) := by exact ((((Kept.refl _ w).alloc _).alloc _).alloc _).trans k1
  rw [← hN]
  have hgc1 : w1.cell? ⟨g, 1, none⟩ = some (.int .i64 (ot : Nat)) := (World.cell?_of_block (K1.out.block g hg id)).trans hgc
  have hgc0 : w1.cell? ⟨g, 0, none⟩ = some (.int .i64 (k0 : Nat)) := (World.cell?_of_block (K1.out.block g hg id)).trans hg0
  have x1 : w1.cell? ⟨N, 1, none⟩ = some (.int .i64 ((0 : Nat) : Int)) := (cell_heap B0.out 1).trans rfl
  have x2 : w1.cell? ⟨N, 2, none⟩ = some (.bool l) := (cell_heap B0.out 2).trans rfl
  have x3 : w1.cell? ⟨N, 3, none⟩ = some (.slice P1 n1 c1) := (cell_heap B0.out 3).trans rfl
  have x4 : w1.cell? ⟨N, 4, none⟩ = some (.slice P2 n2 c2) := (cell_heap B0.out 4).trans rfl
  have x5 : w1.cell? ⟨N, 5, none⟩ = some (.slice (some ⟨g, 0, none⟩) n3 c3) := (cell_heap B0.out 5).trans rfl
  have cwk1 : w1.cell? ⟨wk, 0, none⟩ = some (.pointer (some ⟨q.t, 0, none⟩)) := (World.cell?_of_block (K1.out.block wk lwk id)).trans cwk
  clear k1 CU hN cwk lwk hgc hg hg0
  go_wp2_with fail
  refine (CL.out _ K1.out).mono ?_
  rintro e w2 ⟨k2, vb, rfl, hb⟩
  obtain ⟨lb, X1, y1, z1, X2, y2, z2, X3, y3, z3, rfl⟩ := hb.agg
  have K2 := Lib.hid (K1.out.trans k2)
  have hb2 := k2.heap B2.out not_false
  have HB2 := Lib.hid hb2
  have lb2 := lt_heap hb2
  obtain ⟨d0, d1', d2', d3'⟩ := nd_cells hb2
  have fz : ∀ i, w2.frozen? ⟨N + 1 + 1, i, none⟩ = false := fun i => free_heap hb2 i
  obtain ⟨er, her⟩ : ∃ e, e = (W.X.load (ot : Int)).2 := ⟨_, rfl⟩
  rw [← her] at HP HE ⊢
  have hz1 : (er == 0) = false := by rw [beq_eq_false_iff_ne]; exact HE.out
  have hz2 : (er != 0) = true := by rw [bne_iff_ne]; exact HE.out
  clear hb k2 CL hb2 her x1 x2 x3 x4 x5 cwk1 hgc1 hgc0
  go_wp2_with fail
  have hb4 := set4_heap HB2.out (by simp) (.bool false) (.slice none 0 0) (.slice none 0 0) (.slice none 0 0)
  have k4 := set4_kept w2 (N + 1 + 1) (.bool false) (.slice none 0 0) (.slice none 0 0) (.slice none 0 0)
  have hb5 := heap_old hb4 (.cells #[.bool lb, .slice X1 y1 z1, .slice X2 y2 z2, .slice X3 y3 z3] 148)
  have k5 := (Kept.refl (fun _ => False) ((((w2.setCell ⟨N + 1 + 1, 0, none⟩ (.bool false)).setCell ⟨N + 1 + 1, 1, none⟩ (.slice none 0 0)).setCell ⟨N + 1 + 1, 2, none⟩ (.slice none 0 0)).setCell ⟨N + 1 + 1, 3, none⟩ (.slice none 0 0))).alloc (.cells #[.bool lb, .slice X1 y1 z1, .slice X2 y2 z2, .slice X3 y3 z3] 148)
  obtain ⟨e0, e1, e2, e3⟩ := nd_cells hb5
  refine bodyPost_ret (v := .tuple #[.agg #[.bool false, .slice none 0 0, .slice none 0 0, .slice none 0 0], .int .i64 er]) (by simp [results, Tryz.f90, go_sem, e0, e1, e2, e3]) rfl ?_
  rw [HP.out]
  have hn := HN.out
  refine ⟨_, vf, vo, rfl, NdAp.new H.out (nd0_is _ w.heap.size) (Nat.le_refl _), ((H.out.keptF K2.out).asideOne HB2.out k4 (by decide) (by decide) (by decide)).keptF k5, ?_, fun g hg => .inl hg⟩
  exact (((K2.out.mono fun _ _ => False.elim).then k4 fun i hi e => by omega)).then k5 fun i hi e => e.elim
set_option maxHeartbeats 2000000 in
theorem TWlevel_kind_a {w q wk vf vo W root Z} {s : Stp} {l : Bool} {P1 P2 P3 : Option Addr} {n1 c1 n2 c2 n3 c3 : Nat} {vk : Value} {kid : Nd} (h : WkW w q wk vf vo W root Z) (hs : NdAp w (wkS q wk vf vo) (.agg #[.bool l, .slice P1 n1 c1, .slice P2 n2 c2, .slice P3 n3 c3]) s.n) (hk : NdAp w (wkS q wk vf vo) vk kid)
    (hok : s.n.Ok) (hat : s.at_ + 1 ≤ s.n.kids.length) (hlf : s.n.leaf = false) (hm : s.at_ = 0) (hu : kid.under = true) (he : (W.X.load (lvOther s)).2 = 0) (hkd : (W.X.load (lvOther s)).1.leaf ≠ kid.leaf) :
    Calls Tryz.prog 90 #[.pointer (some ⟨wk, 0, none⟩), .agg #[.int .i64 (s.id : Int), .int .i64 (s.at_ : Int), .bool l, .slice P1 n1 c1, .slice P2 n2 c2, .slice P3 n3 c3], vk] w (LevTo (levelP W s kid) w q wk vf vo root Z) := by
  have CU := Lib.hid fun w' (kk : Kept (fun _ => False) w w') => NdUnder_calls (hk.zero.kept kk)
  rw [hu] at CU
  obtain ⟨l', A1, m1, d1, A2, m2, d2, A3, m3, d3, rfl⟩ := hk.zero.agg
  have HP : Hid (levelP W s kid = (nd0, 17, W)) := by show _ = _; unfold levelP; rw [if_neg (by simp [hu]), if_neg (by simp [he]), if_pos hkd]
  have HKD := Lib.hid hkd
  obtain ⟨r, hr⟩ : ∃ r, r = levelP W s kid := ⟨_, rfl⟩
  rw [← hr] at HP ⊢
  have hlk := hok.len
  have hot : lvOther s = s.n.kids.getD 1 0 := by unfold lvOther lvLeft; rw [if_pos (by omega), hm]
  have hk2 := (hok.inner hlf).1
  obtain ⟨hn3, g, rfl, hg, hg0⟩ := kid_cell hs.zero rfl (i := 0) (by omega)
  obtain ⟨-, g', eg, -, hgc⟩ := kid_cell hs.zero rfl (i := 1) (by omega)
  injection eg with eg
  injection eg with eg
  subst eg
  rw [← hot] at hgc
  obtain ⟨k0, hk0⟩ : ∃ k, k = s.n.kids.getD 0 0 := ⟨_, rfl⟩
  rw [← hk0] at hg0
  have hmn : 1 < n3 := by omega
  have hmn0 : 0 < n3 := by omega
  have CL := Lib.hid fun w' (kk : Kept (fun _ => False) w w') => TreeLoad_calls (h.keptF kk).tw (lvOther s)
  obtain ⟨ot, hot'⟩ : ∃ o, o = lvOther s := ⟨_, rfl⟩
  rw [← hot'] at hgc CL he HKD
  have H := Lib.hid h; have HS := Lib.hid hs; have HK := Lib.hid hk; have HOK := Lib.hid hok; have HAT := Lib.hid hat; have HE := Lib.hid he
  rw [hm]
  have g2 : max (-1 : Int) 0 = 0 := by decide
  have cwk := (wk_cells h.blk).1
  have lwk := lt_heap h.blk
  clear h hs hk hok hat hu hr hm hot hot' hk0 hk2 hlf he hkd hn3 hlk
  go_enter Tryz.func90, Tryz.ntmps90
  go_wp2_with fail
  refine (CU.out _ (by repeat (first | exact Kept.refl _ _ | refine Kept.alloc ?_ _))).mono ?_
  rintro e w1 ⟨rfl, k1⟩
  obtain ⟨N, hN⟩ : ∃ N, N = w.heap.size := ⟨_, rfl⟩
  have HN := Lib.hid hN
  have B0 : Hid (w1.heap[N]? = some (Obj.cells #[.int .i64 (s.id : Int), .int .i64 ((0 : Nat) : Int), .bool l, .slice P1 n1 c1, .slice P2 n2 c2, .slice (some ⟨g, 0, none⟩) n3 c3] 157 (0, 0))) := by show _ = _; rw [hN]; exact k1.heap (heap_old (heap_old (heap_new w _) _) _) not_false
  have B1 : Hid (w1.heap[N + 1]? = some (Obj.cells #[.bool l', .slice A1 m1 d1, .slice A2 m2 d2, .slice A3 m3 d3] 148 (0, 0))) := by show _ = _; rw [hN]; exact k1.heap (heap_old (heap_newAt (by simp) _) _) not_false
  have B2 : Hid (w1.heap[N + 1 + 1]? = some (Obj.cells #[.bool false, .slice none 0 0, .slice none 0 0, .slice none 0 0] 148 (0, 0))) := by show _ = _; rw [hN]; exact k1.heap (heap_newAt (by simp) _) not_false
  have K1 : Hid (Kept (fun _ => False) w w1) := by exact ((((Kept.refl _ w).alloc _).alloc _).alloc _).trans k1
  rw [← hN]
  have hgc1 : w1.cell? ⟨g, 1, none⟩ = some (.int .i64 (ot : Nat)) := (World.cell?_of_block (K1.out.block g hg id)).trans hgc
  have hgc0 : w1.cell? ⟨g, 0, none⟩ = some (.int .i64 (k0 : Nat)) := (World.cell?_of_block (K1.out.block g hg id)).trans hg0
  have x1 : w1.cell? ⟨N, 1, none⟩ = some (.int .i64 ((0 : Nat) : Int)) := (cell_heap B0.out 1).trans rfl
  have x2 : w1.cell? ⟨N, 2, none⟩ = some (.bool l) := (cell_heap B0.out 2).trans rfl
  have x3 : w1.cell? ⟨N, 3, none⟩ = some (.slice P1 n1 c1) := (cell_heap B0.out 3).trans rfl
  have x4 : w1.cell? ⟨N, 4, none⟩ = some (.slice P2 n2 c2) := (cell_heap B0.out 4).trans rfl
  have x5 : w1.cell? ⟨N, 5, none⟩ = some (.slice (some ⟨g, 0, none⟩) n3 c3) := (cell_heap B0.out 5).trans rfl
  have cwk1 : w1.cell? ⟨wk, 0, none⟩ = some (.pointer (some ⟨q.t, 0, none⟩)) := (World.cell?_of_block (K1.out.block wk lwk id)).trans cwk
  clear k1 CU hN cwk lwk hgc hg hg0
  go_wp2_with fail
  refine (CL.out _ K1.out).mono ?_
  rintro e w2 ⟨k2, vb, rfl, hb⟩
  obtain ⟨lb, X1, y1, z1, X2, y2, z2, X3, y3, z3, rfl⟩ := hb.agg
  have K2 := Lib.hid (K1.out.trans k2)
  have hb2 := k2.heap B2.out not_false
  have HB2 := Lib.hid hb2
  have lb2 := lt_heap hb2
  obtain ⟨d0, d1', d2', d3'⟩ := nd_cells hb2
  have fz : ∀ i, w2.frozen? ⟨N + 1 + 1, i, none⟩ = false := fun i => free_heap hb2 i
  have HO := Lib.hid hb.opened
  have HO2 := Lib.hid HK.out.zero.opened
  have e0 : (W.X.load (ot : Int)).2 = 0 := HE.out
  rw [e0]
  have hne : (lb != l') = true := by
    obtain ⟨_, _, _, _, _, _, _, _, _, _, e, h1, -⟩ := HO.out
    obtain ⟨_, _, _, _, _, _, _, _, _, _, e', h2, -⟩ := HO2.out
    injection e with e; injection e with e; injection e with e _; injection e with e
    injection e' with e'; injection e' with e'; injection e' with e' _; injection e' with e'
    rw [bne_iff_ne, e, e', h1.out.1, h2.out.1]
    exact HKD.out
  have hne2 : (lb == l') = false := by rw [beq_eq_false_iff_ne]; exact bne_iff_ne.1 hne
  have hne3 : ¬ lb = l' := bne_iff_ne.1 hne
  have hb21 := k2.heap B1.out not_false
  have lb21 := lt_heap hb21
  obtain ⟨f0, -, -, -⟩ := nd_cells hb21
  clear hb k2 CL hb2 e0 hb21 x1 x2 x3 x4 x5 cwk1 hgc1 hgc0
  go_wp2_with fail
  have hb4 := set4_heap HB2.out (by simp) (.bool false) (.slice none 0 0) (.slice none 0 0) (.slice none 0 0)
  have k4 := set4_kept w2 (N + 1 + 1) (.bool false) (.slice none 0 0) (.slice none 0 0) (.slice none 0 0)
  have hb5 := heap_old hb4 (.cells #[.bool lb, .slice X1 y1 z1, .slice X2 y2 z2, .slice X3 y3 z3] 148)
  have k5 := (Kept.refl (fun _ => False) ((((w2.setCell ⟨N + 1 + 1, 0, none⟩ (.bool false)).setCell ⟨N + 1 + 1, 1, none⟩ (.slice none 0 0)).setCell ⟨N + 1 + 1, 2, none⟩ (.slice none 0 0)).setCell ⟨N + 1 + 1, 3, none⟩ (.slice none 0 0))).alloc (.cells #[.bool lb, .slice X1 y1 z1, .slice X2 y2 z2, .slice X3 y3 z3] 148)
  obtain ⟨e0, e1, e2, e3⟩ := nd_cells hb5
  refine bodyPost_ret (v := .tuple #[.agg #[.bool false, .slice none 0 0, .slice none 0 0, .slice none 0 0], .int .i64 17]) (by simp [results, Tryz.f90, go_sem, e0, e1, e2, e3]) rfl ?_
  rw [HP.out]
  have hn := HN.out
  refine ⟨_, vf, vo, rfl, NdAp.new H.out (nd0_is _ w.heap.size) (Nat.le_refl _), ((H.out.keptF K2.out).asideOne HB2.out k4 (by decide) (by decide) (by decide)).keptF k5, ?_, fun g hg => .inl hg⟩
  exact (((K2.out.mono fun _ _ => False.elim).then k4 fun i hi e => by omega)).then k5 fun i hi e => e.elim
set_option maxHeartbeats 2000000 in
theorem TWlevel_load_b {w q wk vf vo W root Z} {s : Stp} {m : Nat} {l : Bool} {P1 P2 P3 : Option Addr} {n1 c1 n2 c2 n3 c3 : Nat} {vk : Value} {kid : Nd} (h : WkW w q wk vf vo W root Z) (hs : NdAp w (wkS q wk vf vo) (.agg #[.bool l, .slice P1 n1 c1, .slice P2 n2 c2, .slice P3 n3 c3]) s.n) (hk : NdAp w (wkS q wk vf vo) vk kid)
    (hok : s.n.Ok) (hat : s.at_ + 1 ≤ s.n.kids.length) (hm : s.at_ = m + 1) (hu : kid.under = true) (he : (W.X.load (lvOther s)).2 ≠ 0) :
    Calls Tryz.prog 90 #[.pointer (some ⟨wk, 0, none⟩), .agg #[.int .i64 (s.id : Int), .int .i64 (s.at_ : Int), .bool l, .slice P1 n1 c1, .slice P2 n2 c2, .slice P3 n3 c3], vk] w (LevTo (levelP W s kid) w q wk vf vo root Z) := by
  have CU := Lib.hid fun w' (kk : Kept (fun _ => False) w w') => NdUnder_calls (hk.zero.kept kk)
  rw [hu] at CU
  obtain ⟨l', A1, m1, d1, A2, m2, d2, A3, m3, d3, rfl⟩ := hk.zero.agg
  have HP : Hid (levelP W s kid = (nd0, (W.X.load (lvOther s)).2, W)) := by show _ = _; unfold levelP; rw [if_neg (by simp [hu]), if_pos he]
  obtain ⟨r, hr⟩ : ∃ r, r = levelP W s kid := ⟨_, rfl⟩
  rw [← hr] at HP ⊢
  have hlk := hok.len
  have hot : lvOther s = s.n.kids.getD m 0 := by unfold lvOther lvLeft; rw [if_neg (by omega), hm, Nat.add_sub_cancel]
  obtain ⟨hn3, g, rfl, hg, hgc⟩ := kid_cell hs.zero rfl (i := m) (by omega)
  rw [← hot] at hgc
  have hm20 : m ≤ 20 := by omega
  have hmn : m < n3 := by omega
  have CL := Lib.hid fun w' (kk : Kept (fun _ => False) w w') => TreeLoad_calls (h.keptF kk).tw (lvOther s)
  obtain ⟨ot, hot'⟩ : ∃ o, o = lvOther s := ⟨_, rfl⟩
  rw [← hot'] at hgc CL HP he
  have H := Lib.hid h; have HS := Lib.hid hs; have HK := Lib.hid hk; have HOK := Lib.hid hok; have HAT := Lib.hid hat; have HE := Lib.hid he
  rw [hm]
  have g1 : ((m : Int) == (m : Int) + 1) = false := by rw [beq_eq_false_iff_ne]; omega
  have g2 : max (m : Int) 0 = m := by omega
  have cwk := (wk_cells h.blk).1
  have lwk := lt_heap h.blk
  clear h hs hk hok hat hu hr hm hot hot' he hn3 hlk
  go_enter Tryz.func90, Tryz.ntmps90
  go_wp2_with fail
  refine (CU.out _ (by repeat (first | exact Kept.refl _ _ | refine Kept.alloc ?_ _))).mono ?_
  rintro e w1 ⟨rfl, k1⟩
  obtain ⟨N, hN⟩ : ∃ N, N = w.heap.size := ⟨_, rfl⟩
  have HN := Lib.hid hN
  have B0 : Hid (w1.heap[N]? = some (Obj.cells #[.int .i64 (s.id : Int), .int .i64 ((m + 1 : Nat) : Int), .bool l, .slice P1 n1 c1, .slice P2 n2 c2, .slice (some ⟨g, 0, none⟩) n3 c3] 157 (0, 0))) := by show _ = _; rw [hN]; exact k1.heap (heap_old (heap_old (heap_new w _) _) _) not_false
  have B1 : Hid (w1.heap[N + 1]? = some (Obj.cells #[.bool l', .slice A1 m1 d1, .slice A2 m2 d2, .slice A3 m3 d3] 148 (0, 0))) := by show _ = _; rw [hN]; exact k1.heap (heap_old (heap_newAt (by simp) _) _) not_false
  have B2 : Hid (w1.heap[N + 1 + 1]? = some (Obj.cells #[.bool false, .slice none 0 0, .slice none 0 0, .slice none 0 0] 148 (0, 0))) := by show _ = _; rw [hN]; exact k1.heap (heap_newAt (by simp) _) not_false
  have K1 : Hid (Kept (fun _ => False) w w1) := by exact ((((Kept.refl _ w).alloc _).alloc _).alloc _).trans k1
  rw [← hN]
  have hgc1 : w1.cell? ⟨g, m, none⟩ = some (.int .i64 (ot : Nat)) := (World.cell?_of_block (K1.out.block g hg id)).trans hgc
  have x1 : w1.cell? ⟨N, 1, none⟩ = some (.int .i64 ((m + 1 : Nat) : Int)) := (cell_heap B0.out 1).trans rfl
  have x2 : w1.cell? ⟨N, 2, none⟩ = some (.bool l) := (cell_heap B0.out 2).trans rfl
  have x3 : w1.cell? ⟨N, 3, none⟩ = some (.slice P1 n1 c1) := (cell_heap B0.out 3).trans rfl
  have x4 : w1.cell? ⟨N, 4, none⟩ = some (.slice P2 n2 c2) := (cell_heap B0.out 4).trans rfl
  have x5 : w1.cell? ⟨N, 5, none⟩ = some (.slice (some ⟨g, 0, none⟩) n3 c3) := (cell_heap B0.out 5).trans rfl
  have cwk1 : w1.cell? ⟨wk, 0, none⟩ = some (.pointer (some ⟨q.t, 0, none⟩)) := (World.cell?_of_block (K1.out.block wk lwk id)).trans cwk
  clear k1 CU hN cwk lwk hgc hg
  go_wp2_with fail
  refine (CL.out _ K1.out).mono ?_
  rintro e w2 ⟨k2, vb, rfl, hb⟩
  obtain ⟨lb, X1, y1, z1, X2, y2, z2, X3, y3, z3, rfl⟩ := hb.agg
  have K2 := Lib.hid (K1.out.trans k2)
  have hb2 := k2.heap B2.out not_false
  have HB2 := Lib.hid hb2
  have lb2 := lt_heap hb2
  obtain ⟨d0, d1', d2', d3'⟩ := nd_cells hb2
  have fz : ∀ i, w2.frozen? ⟨N + 1 + 1, i, none⟩ = false := fun i => free_heap hb2 i
  obtain ⟨er, her⟩ : ∃ e, e = (W.X.load (ot : Int)).2 := ⟨_, rfl⟩
  rw [← her] at HP HE ⊢
  have hz1 : (er == 0) = false := by rw [beq_eq_false_iff_ne]; exact HE.out
  have hz2 : (er != 0) = true := by rw [bne_iff_ne]; exact HE.out
  clear hb k2 CL hb2 her x1 x2 x3 x4 x5 cwk1 hgc1
  go_wp2_with fail
  have hb4 := set4_heap HB2.out (by simp) (.bool false) (.slice none 0 0) (.slice none 0 0) (.slice none 0 0)
  have k4 := set4_kept w2 (N + 1 + 1) (.bool false) (.slice none 0 0) (.slice none 0 0) (.slice none 0 0)
  have hb5 := heap_old hb4 (.cells #[.bool lb, .slice X1 y1 z1, .slice X2 y2 z2, .slice X3 y3 z3] 148)
  have k5 := (Kept.refl (fun _ => False) ((((w2.setCell ⟨N + 1 + 1, 0, none⟩ (.bool false)).setCell ⟨N + 1 + 1, 1, none⟩ (.slice none 0 0)).setCell ⟨N + 1 + 1, 2, none⟩ (.slice none 0 0)).setCell ⟨N + 1 + 1, 3, none⟩ (.slice none 0 0))).alloc (.cells #[.bool lb, .slice X1 y1 z1, .slice X2 y2 z2, .slice X3 y3 z3] 148)
  obtain ⟨e0, e1, e2, e3⟩ := nd_cells hb5
  refine bodyPost_ret (v := .tuple #[.agg #[.bool false, .slice none 0 0, .slice none 0 0, .slice none 0 0], .int .i64 er]) (by simp [results, Tryz.f90, go_sem, e0, e1, e2, e3]) rfl ?_
  rw [HP.out]
  have hn := HN.out
  refine ⟨_, vf, vo, rfl, NdAp.new H.out (nd0_is _ w.heap.size) (Nat.le_refl _), ((H.out.keptF K2.out).asideOne HB2.out k4 (by decide) (by decide) (by decide)).keptF k5, ?_, fun g hg => .inl hg⟩
  exact (((K2.out.mono fun _ _ => False.elim).then k4 fun i hi e => by omega)).then k5 fun i hi e => e.elim
set_option maxHeartbeats 2000000 in
theorem TWlevel_kind_b {w q wk vf vo W root Z} {s : Stp} {m : Nat} {l : Bool} {P1 P2 P3 : Option Addr} {n1 c1 n2 c2 n3 c3 : Nat} {vk : Value} {kid : Nd} (h : WkW w q wk vf vo W root Z) (hs : NdAp w (wkS q wk vf vo) (.agg #[.bool l, .slice P1 n1 c1, .slice P2 n2 c2, .slice P3 n3 c3]) s.n) (hk : NdAp w (wkS q wk vf vo) vk kid)
    (hok : s.n.Ok) (hat : s.at_ + 1 ≤ s.n.kids.length) (hm : s.at_ = m + 1) (hu : kid.under = true) (he : (W.X.load (lvOther s)).2 = 0) (hkd : (W.X.load (lvOther s)).1.leaf ≠ kid.leaf) :
    Calls Tryz.prog 90 #[.pointer (some ⟨wk, 0, none⟩), .agg #[.int .i64 (s.id : Int), .int .i64 (s.at_ : Int), .bool l, .slice P1 n1 c1, .slice P2 n2 c2, .slice P3 n3 c3], vk] w (LevTo (levelP W s kid) w q wk vf vo root Z) := by
  have CU := Lib.hid fun w' (kk : Kept (fun _ => False) w w') => NdUnder_calls (hk.zero.kept kk)
  rw [hu] at CU
  obtain ⟨l', A1, m1, d1, A2, m2, d2, A3, m3, d3, rfl⟩ := hk.zero.agg
  have HP : Hid (levelP W s kid = (nd0, 17, W)) := by show _ = _; unfold levelP; rw [if_neg (by simp [hu]), if_neg (by simp [he]), if_pos hkd]
  have HKD := Lib.hid hkd
  obtain ⟨r, hr⟩ : ∃ r, r = levelP W s kid := ⟨_, rfl⟩
  rw [← hr] at HP ⊢
  have hlk := hok.len
  have hot : lvOther s = s.n.kids.getD m 0 := by unfold lvOther lvLeft; rw [if_neg (by omega), hm, Nat.add_sub_cancel]
  obtain ⟨hn3, g, rfl, hg, hgc⟩ := kid_cell hs.zero rfl (i := m) (by omega)
  rw [← hot] at hgc
  have hm20 : m ≤ 20 := by omega
  have hmn : m < n3 := by omega
  have CL := Lib.hid fun w' (kk : Kept (fun _ => False) w w') => TreeLoad_calls (h.keptF kk).tw (lvOther s)
  obtain ⟨ot, hot'⟩ : ∃ o, o = lvOther s := ⟨_, rfl⟩
  rw [← hot'] at hgc CL he HKD
  have H := Lib.hid h; have HS := Lib.hid hs; have HK := Lib.hid hk; have HOK := Lib.hid hok; have HAT := Lib.hid hat; have HE := Lib.hid he
  rw [hm]
  have g1 : ((m : Int) == (m : Int) + 1) = false := by rw [beq_eq_false_iff_ne]; omega
  have g2 : max (m : Int) 0 = m := by omega
  have cwk := (wk_cells h.blk).1
  have lwk := lt_heap h.blk
  clear h hs hk hok hat hu hr hm hot hot' he hkd hn3 hlk
  go_enter Tryz.func90, Tryz.ntmps90
  go_wp2_with fail
  refine (CU.out _ (by repeat (first | exact Kept.refl _ _ | refine Kept.alloc ?_ _))).mono ?_
  rintro e w1 ⟨rfl, k1⟩
  obtain ⟨N, hN⟩ : ∃ N, N = w.heap.size := ⟨_, rfl⟩
  have HN := Lib.hid hN
  have B0 : Hid (w1.heap[N]? = some (Obj.cells #[.int .i64 (s.id : Int), .int .i64 ((m + 1 : Nat) : Int), .bool l, .slice P1 n1 c1, .slice P2 n2 c2, .slice (some ⟨g, 0, none⟩) n3 c3] 157 (0, 0))) := by show _ = _; rw [hN]; exact k1.heap (heap_old (heap_old (heap_new w _) _) _) not_false
  have B1 : Hid (w1.heap[N + 1]? = some (Obj.cells #[.bool l', .slice A1 m1 d1, .slice A2 m2 d2, .slice A3 m3 d3] 148 (0, 0))) := by show _ = _; rw [hN]; exact k1.heap (heap_old (heap_newAt (by simp) _) _) not_false
  have B2 : Hid (w1.heap[N + 1 + 1]? = some (Obj.cells #[.bool false, .slice none 0 0, .slice none 0 0, .slice none 0 0] 148 (0, 0))) := by show _ = _; rw [hN]; exact k1.heap (heap_newAt (by simp) _) not_false
  have K1 : Hid (Kept (fun _ => False) w w1) := by exact ((((Kept.refl _ w).alloc _).alloc _).alloc _).trans k1
  rw [← hN]
  have hgc1 : w1.cell? ⟨g, m, none⟩ = some (.int .i64 (ot : Nat)) := (World.cell?_of_block (K1.out.block g hg id)).trans hgc
  have x1 : w1.cell? ⟨N, 1, none⟩ = some (.int .i64 ((m + 1 : Nat) : Int)) := (cell_heap B0.out 1).trans rfl
  have x2 : w1.cell? ⟨N, 2, none⟩ = some (.bool l) := (cell_heap B0.out 2).trans rfl
  have x3 : w1.cell? ⟨N, 3, none⟩ = some (.slice P1 n1 c1) := (cell_heap B0.out 3).trans rfl
  have x4 : w1.cell? ⟨N, 4, none⟩ = some (.slice P2 n2 c2) := (cell_heap B0.out 4).trans rfl
  have x5 : w1.cell? ⟨N, 5, none⟩ = some (.slice (some ⟨g, 0, none⟩) n3 c3) := (cell_heap B0.out 5).trans rfl
  have cwk1 : w1.cell? ⟨wk, 0, none⟩ = some (.pointer (some ⟨q.t, 0, none⟩)) := (World.cell?_of_block (K1.out.block wk lwk id)).trans cwk
  clear k1 CU hN cwk lwk hgc hg
  go_wp2_with fail
  refine (CL.out _ K1.out).mono ?_
  rintro e w2 ⟨k2, vb, rfl, hb⟩
  obtain ⟨lb, X1, y1, z1, X2, y2, z2, X3, y3, z3, rfl⟩ := hb.agg
  have K2 := Lib.hid (K1.out.trans k2)
  have hb2 := k2.heap B2.out not_false
  have HB2 := Lib.hid hb2
  have lb2 := lt_heap hb2
  obtain ⟨d0, d1', d2', d3'⟩ := nd_cells hb2
  have fz : ∀ i, w2.frozen? ⟨N + 1 + 1, i, none⟩ = false := fun i => free_heap hb2 i
  have HO := Lib.hid hb.opened
  have HO2 := Lib.hid HK.out.zero.opened
  have e0 : (W.X.load (ot : Int)).2 = 0 := HE.out
  rw [e0]
  have hne : (lb != l') = true := by
    obtain ⟨_, _, _, _, _, _, _, _, _, _, e, h1, -⟩ := HO.out
    obtain ⟨_, _, _, _, _, _, _, _, _, _, e', h2, -⟩ := HO2.out
    injection e with e; injection e with e; injection e with e _; injection e with e
    injection e' with e'; injection e' with e'; injection e' with e' _; injection e' with e'
    rw [bne_iff_ne, e, e', h1.out.1, h2.out.1]
    exact HKD.out
  have hne2 : (lb == l') = false := by rw [beq_eq_false_iff_ne]; exact bne_iff_ne.1 hne
  have hne3 : ¬ lb = l' := bne_iff_ne.1 hne
  have hb21 := k2.heap B1.out not_false
  have lb21 := lt_heap hb21
  obtain ⟨f0, -, -, -⟩ := nd_cells hb21
  clear hb k2 CL hb2 e0 hb21 x1 x2 x3 x4 x5 cwk1 hgc1
  go_wp2_with fail
  have hb4 := set4_heap HB2.out (by simp) (.bool false) (.slice none 0 0) (.slice none 0 0) (.slice none 0 0)
  have k4 := set4_kept w2 (N + 1 + 1) (.bool false) (.slice none 0 0) (.slice none 0 0) (.slice none 0 0)
  have hb5 := heap_old hb4 (.cells #[.bool lb, .slice X1 y1 z1, .slice X2 y2 z2, .slice X3 y3 z3] 148)
  have k5 := (Kept.refl (fun _ => False) ((((w2.setCell ⟨N + 1 + 1, 0, none⟩ (.bool false)).setCell ⟨N + 1 + 1, 1, none⟩ (.slice none 0 0)).setCell ⟨N + 1 + 1, 2, none⟩ (.slice none 0 0)).setCell ⟨N + 1 + 1, 3, none⟩ (.slice none 0 0))).alloc (.cells #[.bool lb, .slice X1 y1 z1, .slice X2 y2 z2, .slice X3 y3 z3] 148)
  obtain ⟨e0, e1, e2, e3⟩ := nd_cells hb5
  refine bodyPost_ret (v := .tuple #[.agg #[.bool false, .slice none 0 0, .slice none 0 0, .slice none 0 0], .int .i64 17]) (by simp [results, Tryz.f90, go_sem, e0, e1, e2, e3]) rfl ?_
  rw [HP.out]
  have hn := HN.out
  refine ⟨_, vf, vo, rfl, NdAp.new H.out (nd0_is _ w.heap.size) (Nat.le_refl _), ((H.out.keptF K2.out).asideOne HB2.out k4 (by decide) (by decide) (by decide)).keptF k5, ?_, fun g hg => .inl hg⟩
  exact (((K2.out.mono fun _ _ => False.elim).then k4 fun i hi e => by omega)).then k5 fun i hi e => e.elim
end Go.Proofs.YtfgjehecjgebdaaGreat
