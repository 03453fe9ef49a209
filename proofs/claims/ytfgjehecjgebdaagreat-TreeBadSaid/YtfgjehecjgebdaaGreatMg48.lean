/- The tree: level, the two kids levelled. -/
import Derived.Test.YtfgjehecjgebdaaGreatMg47
import Derived.Test.YtfgjehecjgebdaaGreatMg39
namespace Go.Proofs.YtfgjehecjgebdaaGreat
open Go.RowKit Go.Maps Go.ChangeMaps
attribute [local go_sem] Oper.semAt_some
set_option maxRecDepth 100000 in
set_option maxHeartbeats 2000000 in
theorem TWlevel_full_a {w q wk vf vo W root Z} {s : Stp} {l : Bool} {P1 P2 P3 : Option Addr} {n1 c1 n2 c2 n3 c3 : Nat} {vk : Value} {kid : Nd} (h : WkW w q wk vf vo W root Z) (hs : NdAp w (wkS q wk vf vo) (.agg #[.bool l, .slice P1 n1 c1, .slice P2 n2 c2, .slice P3 n3 c3]) s.n) (hk : NdAp w (wkS q wk vf vo) vk kid)
    (hok : s.n.Ok) (hat : s.at_ + 1 ≤ s.n.kids.length) (hlf : s.n.leaf = false) (hm : s.at_ = 0) (hu : kid.under = true) (he : (W.X.load (lvOther s)).2 = 0) (hkd : (W.X.load (lvOther s)).1.leaf = kid.leaf) (hf : kid.Fit) (hkl : kid.len ≤ 8) (hZ : Z ≤ w.heap.size) (hl : W.fresh.length ≤ 900) (hold : W.old.length ≤ 900) :
    Calls Tryz.prog 90 #[.pointer (some ⟨wk, 0, none⟩), .agg #[.int .i64 (s.id : Int), .int .i64 (s.at_ : Int), .bool l, .slice P1 n1 c1, .slice P2 n2 c2, .slice P3 n3 c3], vk] w (LevTo (levelP W s kid) w q wk vf vo root Z) := by
  have CU := Lib.hid fun w' (kk : Kept (fun _ => False) w w') => NdUnder_calls (hk.zero.kept kk)
  rw [hu] at CU
  obtain ⟨l', A1, m1, d1, A2, m2, d2, A3, m3, d3, rfl⟩ := hk.zero.agg
  have HKD := Lib.hid hkd
  have HF := Lib.hid hf; have HKL := Lib.hid hkl; have HZ := Lib.hid hZ; have HLL := Lib.hid hl; have HOLD := Lib.hid hold; have HU := Lib.hid hu; have HM := Lib.hid hm
  obtain ⟨r, hr⟩ : ∃ r, r = levelP W s kid := ⟨_, rfl⟩
  rw [← hr]
  have HR := Lib.hid hr
  have hlk := hok.len
  have hot : lvOther s = s.n.kids.getD 1 0 := by unfold lvOther lvLeft; rw [if_pos (by omega), hm]
  have hk2 := (hok.inner hlf).1
  obtain ⟨hn3, g, rfl, hg, hg0⟩ := kid_cell hs.zero rfl (i := 0) (by omega)
  obtain ⟨-, g', eg, -, hgc⟩ := kid_cell hs.zero rfl (i := 1) (by omega)
  injection eg with eg
  injection eg with eg
  subst eg
  rw [← hot] at hgc
  obtain ⟨hn1, gk, rfl, hgk, hkc, kcs, kf, hkh⟩ := key_cell hs.zero rfl (i := 0) (by have := (hok.inner hlf).2.1; omega)
  have hmk : 0 < n1 := by have := (hok.inner hlf).2.1; omega
  obtain ⟨kt, hkt⟩ : ∃ t, t = ba (s.n.keys.getD 0 []) := ⟨_, rfl⟩
  rw [← hkt] at hkc
  have HKT := Lib.hid hkt; have HGK := Lib.hid hgk; have HKC := Lib.hid hkc; have HKH := Lib.hid hkh
  clear hgk hkc hkt hn1 hkh
  obtain ⟨k0, hk0⟩ : ∃ k, k = s.n.kids.getD 0 0 := ⟨_, rfl⟩
  rw [← hk0] at hg0
  have hmn : 1 < n3 := by omega
  have hmn0 : 0 < n3 := by omega
  have CL := Lib.hid fun w' (kk : Kept (fun _ => False) w w') => TreeLoad_calls (h.keptF kk).tw (lvOther s)
  obtain ⟨ot, hot'⟩ : ∃ o, o = lvOther s := ⟨_, rfl⟩
  rw [← hot'] at hgc CL he HKD
  have H := Lib.hid h; have HS := Lib.hid hs; have HK := Lib.hid hk; have HOK := Lib.hid hok; have HAT := Lib.hid hat; have HE := Lib.hid he; have HOT := Lib.hid hot'; have HLFT : Hid (lvLeft s = 0) := by show _ = _; unfold lvLeft; omega
  rw [hm]
  have g2 : max (-1 : Int) 0 = 0 := by decide
  have cwk := (wk_cells h.blk).1
  have lwk := lt_heap h.blk
  have HLF := Lib.hid hlf
  clear h hs hk hok hat hu hr hm hot hot' hk0 hk2 hlf he hkd hf hkl hZ hl hold hn3 hlk
  go_enter Tryz.func90, Tryz.ntmps90
  go_wp2_with fail
  refine (CU.out _ (by repeat (first | exact Kept.refl _ _ | refine Kept.alloc ?_ _))).mono ?_
  rintro e w1 ⟨rfl, k1⟩
  obtain ⟨N, hN⟩ : ∃ N, N = w.heap.size := ⟨_, rfl⟩
  have HN := Lib.hid hN
  have B0 : Hid (w1.heap[N]? = some (Obj.cells #[.int .i64 (s.id : Int), .int .i64 ((0 : Nat) : Int), .bool l, .slice (some ⟨gk, 0, none⟩) n1 c1, .slice P2 n2 c2, .slice (some ⟨g, 0, none⟩) n3 c3] 157 (0, 0))) := by show _ = _; rw [hN]; exact k1.heap (heap_old (heap_old (heap_new w _) _) _) not_false
  have B1 : Hid (w1.heap[N + 1]? = some (Obj.cells #[.bool l', .slice A1 m1 d1, .slice A2 m2 d2, .slice A3 m3 d3] 148 (0, 0))) := by show _ = _; rw [hN]; exact k1.heap (heap_old (heap_newAt (by simp) _) _) not_false
  have B2 : Hid (w1.heap[N + 1 + 1]? = some (Obj.cells #[.bool false, .slice none 0 0, .slice none 0 0, .slice none 0 0] 148 (0, 0))) := by show _ = _; rw [hN]; exact k1.heap (heap_newAt (by simp) _) not_false
  have K1 : Hid (Kept (fun _ => False) w w1) := by exact ((((Kept.refl _ w).alloc _).alloc _).alloc _).trans k1
  rw [← hN]
  have hgc1 : w1.cell? ⟨g, 1, none⟩ = some (.int .i64 (ot : Nat)) := (World.cell?_of_block (K1.out.block g hg id)).trans hgc
  have hgc0 : w1.cell? ⟨g, 0, none⟩ = some (.int .i64 (k0 : Nat)) := (World.cell?_of_block (K1.out.block g hg id)).trans hg0
  have x1 : w1.cell? ⟨N, 1, none⟩ = some (.int .i64 ((0 : Nat) : Int)) := (cell_heap B0.out 1).trans rfl
  have x2 : w1.cell? ⟨N, 2, none⟩ = some (.bool l) := (cell_heap B0.out 2).trans rfl
  have x3 : w1.cell? ⟨N, 3, none⟩ = some (.slice (some ⟨gk, 0, none⟩) n1 c1) := (cell_heap B0.out 3).trans rfl
  have x4 : w1.cell? ⟨N, 4, none⟩ = some (.slice P2 n2 c2) := (cell_heap B0.out 4).trans rfl
  have x5 : w1.cell? ⟨N, 5, none⟩ = some (.slice (some ⟨g, 0, none⟩) n3 c3) := (cell_heap B0.out 5).trans rfl
  have cwk1 : w1.cell? ⟨wk, 0, none⟩ = some (.pointer (some ⟨q.t, 0, none⟩)) := (World.cell?_of_block (K1.out.block wk lwk id)).trans cwk
  clear k1 CU hN cwk lwk hgc hg hg0
  go_wp2_with fail
  refine (CL.out _ K1.out).mono ?_
  rintro e w2 ⟨k2, vb, rfl, hb⟩
  obtain ⟨lb, X1, y1, z1, X2, y2, z2, X3, y3, z3, rfl⟩ := hb.agg
  have K2 := Lib.hid (K1.out.trans k2)
  have K12 := Lib.hid k2
  have hb2 := k2.heap B2.out not_false
  have HB2 := Lib.hid hb2
  have lb2 := lt_heap hb2
  have HO := Lib.hid hb.opened
  have HO2 := Lib.hid HK.out.zero.opened
  have e0 : (W.X.load (ot : Int)).2 = 0 := HE.out
  rw [e0]
  have hne : lb = l' := by
    obtain ⟨_, _, _, _, _, _, _, _, _, _, e, h1, -⟩ := HO.out
    obtain ⟨_, _, _, _, _, _, _, _, _, _, e', h2, -⟩ := HO2.out
    injection e with e; injection e with e; injection e with e _; injection e with e
    injection e' with e'; injection e' with e'; injection e' with e' _; injection e' with e'
    rw [e, e', h1.out.1, h2.out.1]
    exact HKD.out
  subst hne
  have hb21 := k2.heap B1.out not_false
  have HB1 := Lib.hid hb21
  have lb21 := lt_heap hb21
  obtain ⟨f0, -, -, -⟩ := nd_cells hb21
  have HBS := Lib.hid hb
  obtain ⟨UX, UF, UO⟩ := W
  obtain ⟨w3, hw3⟩ : ∃ w3, w3 = w2.alloc (.cells #[.bool lb, .slice X1 y1 z1, .slice X2 y2 z2, .slice X3 y3 z3] 148) := ⟨_, rfl⟩
  have K3 : Hid (Kept (fun _ => False) w2 w3) := by rw [hw3]; exact (Kept.refl _ _).alloc _
  have HBB : Hid (w3.heap[w2.heap.size]? = some (.cells #[.bool lb, .slice X1 y1 z1, .slice X2 y2 z2, .slice X3 y3 z3] 148 (0, 0))) := by show _ = _; rw [hw3]; exact heap_new w2 _
  have H3 := Lib.hid (H.out.keptF (K2.out.trans K3.out))
  obtain ⟨Ao, co, evo⟩ := own_slice H3.out.ro
  subst evo
  obtain ⟨lo, hlo⟩ : ∃ n, n = UO.length := ⟨_, rfl⟩
  have HLO := Lib.hid hlo
  have WK3 : Hid (WkW w3 q wk vf (.slice Ao lo co) ⟨UX, UF, UO⟩ root Z) := by show WkW _ _ _ _ _ _ _ _; rw [hlo]; exact H3.out
  have cwk2 : w2.cell? ⟨wk, 2, none⟩ = some (.slice Ao lo co) := by rw [hlo]; exact (wk_cells (H.out.keptF K2.out).blk).2.2
  have lwk2 := lt_heap (H.out.keptF K2.out).blk
  have fwk2 : ∀ i, w2.frozen? ⟨wk, i, none⟩ = false := fun i => free_heap (H.out.keptF K2.out).blk i
  have OWN : Hid ((w3.alloc (.cells #[.int .i64 (ot : Nat)] 3)).ownsRow 0 3 1 (.slice Ao lo co) lo (UO.map I)) := by
    have h := WK3.out.ro.keptF ((Kept.refl _ w3).alloc (.cells #[.int .i64 (ot : Nat)] 3))
    unfold IRow at h
    dsimp only at h
    rw [← HLO.out] at h
    exact own_base h fun _ _ => Nat.zero_le _
  have M1 : Hid (lo + 1 ≤ maxLen) := by have := HOLD.out; have := HLO.out; simp only at *; show _ ≤ _; unfold maxLen; omega
  have M2 : Hid ((lo + 1) * 8 ≤ 140737488355328) := by have := HOLD.out; have := HLO.out; simp only at *; show _ ≤ _; omega
  rw [hw3] at OWN
  have RD : Hid (Reads (w3.alloc (.cells #[.int .i64 (ot : Nat)] 3)) (w3.heap.size + 1) 1 (some ⟨w2.heap.size + 1, 0, none⟩) 1 [.int .i64 (ot : Nat)]) := by
    have h := reads_one w3 (.int .i64 (ot : Nat)) 3
    rw [show w2.heap.size + 1 = w3.heap.size by rw [hw3]; simp]
    exact h
  rw [hw3] at RD
  have HW3 := Lib.hid hw3
  clear hb k2 CL hb2 e0 hb21 hlo hw3 hgc1 hgc0 cwk1
  go_wp2_with (at_builtin; (refine app_one (v := .slice Ao lo co) rfl (.tmp 87) (.tmp 89) rfl Tryz.underlying28 info_int rfl rfl OWN.out _ rfl RD.out (ints_one [ot]) M1.out M2.out ?_; intro v' w4 hv' hg' hob; have hg2 : (w3.alloc (.cells #[.int .i64 (ot : Nat)] 3)).grownBy w4 (Value.slice Ao lo co).ownBlock := (by rw [HW3.out]; exact hg'); have hob2 : v'.ownBlock = (Value.slice Ao lo co).ownBlock ∨ v'.ownBlock = some (w3.alloc (.cells #[.int .i64 (ot : Nat)] 3)).heap.size := (by rw [HW3.out]; exact hob); obtain ⟨A6, c6, rfl, hb4, hw, hk5, ho5⟩ := wk_appO WK3.out ((Kept.refl _ w3).alloc _) (by have := HZ.out; have := K2.out.size; have := K3.out.size; omega) HLO.out hv' hg2 hob2; have HW := Lib.hid hw; have HK5 := Lib.hid hk5; have HO5 := Lib.hid ho5; have HB4 := Lib.hid hb4; obtain ⟨b40, b41, b42⟩ := wk_cells hb4; have fw4 : ∀ i, w4.frozen? ⟨wk, i, none⟩ = false := fun i => free_heap hb4 i; clear hv' hg' hob hg2 hob2 hw hk5 ho5 hb4 fwk2 cwk2))
  obtain ⟨w5, hw5⟩ : ∃ w5, w5 = w4.setCell ⟨wk, 2, none⟩ (.slice A6 (lo + 1) c6) := ⟨_, rfl⟩
  rw [← hw5] at HW HK5 ⊢
  have kN : ∀ {i : Nat} {cs : Array Value} {f : Nat × Nat}, w3.heap[i]? = some (.cells cs 148 f) → w5.heap[i]? = some (.cells cs 148 f) := fun hi => HK5.out.heap hi (by
    rintro (e | e)
    · subst e
      have h := WK3.out.blk
      rw [hi] at h
      injection h with h
      injection h with _ h _
      exact absurd h (by decide)
    · exact own_neH WK3.out.ro hi (by decide) _ e rfl)
  have HB5 := Lib.hid (kN HBB.out)
  have HK15 := Lib.hid (kN (K3.out.heap HB1.out not_false))
  have HR5 := Lib.hid (kN (K3.out.heap HB2.out not_false))
  clear hw5 b40 b41 b42 fw4 lwk2 lb2 lb21 f0 HB4
  refine wp_hide fun a0 ha0 => ?_
  have HA0 := Lib.hid ha0
  refine wp_mono (Q := Exit.then (fun a' w' => ∃ b14 b15, w5.heap.size ≤ b14 ∧ w5.heap.size ≤ b15 ∧ b14 ≠ b15 ∧ Kept (fun _ => False) w5 w' ∧ w'.heap[b14]? = some (.cells #[.bool lb, .slice X1 y1 z1, .slice X2 y2 z2, .slice X3 y3 z3] 148 (0, 0)) ∧ w'.heap[b15]? = some (.cells #[.bool lb, .slice A1 m1 d1, .slice A2 m2 d2, .slice A3 m3 d3] 148 (0, 0)) ∧
    a' = (((a0.put (some 93) (.agg #[.bool lb, .slice X1 y1 z1, .slice X2 y2 z2, .slice X3 y3 z3])).put (some 94) (.agg #[.bool lb, .slice A1 m1 d1, .slice A2 m2 d2, .slice A3 m3 d3])).put (some 14) (.pointer (some ⟨b14, 0, none⟩))).put (some 15) (.pointer (some ⟨b15, 0, none⟩))) (fun _ _ _ => False)) ?reg ?rest
  case reg =>
    rw [HA0.out]
    have HSA : Hid (∀ w', Kept (fun _ => False) w5 w' → w'.cell? ⟨w2.heap.size, 0, none⟩ = some (.bool lb) ∧ w'.cell? ⟨w2.heap.size, 1, none⟩ = some (.slice X1 y1 z1) ∧ w'.cell? ⟨w2.heap.size, 2, none⟩ = some (.slice X2 y2 z2) ∧ w'.cell? ⟨w2.heap.size, 3, none⟩ = some (.slice X3 y3 z3) ∧ w'.cell? ⟨N + 1, 0, none⟩ = some (.bool lb) ∧ w'.cell? ⟨N + 1, 1, none⟩ = some (.slice A1 m1 d1) ∧ w'.cell? ⟨N + 1, 2, none⟩ = some (.slice A2 m2 d2) ∧ w'.cell? ⟨N + 1, 3, none⟩ = some (.slice A3 m3 d3)) := fun w' kk => by
      obtain ⟨p0, p1, p2, p3⟩ := nd_cells (kk.heap HB5.out not_false)
      obtain ⟨q0, q1, q2, q3⟩ := nd_cells (kk.heap HK15.out not_false)
      exact ⟨p0, p1, p2, p3, q0, q1, q2, q3⟩
    have hS1 := HSA.out w5.drew (Kept.refl _ w5).drew
    refine wp_region_held_drew (S := fun w' => w'.cell? ⟨w2.heap.size, 0, none⟩ = some (.bool lb) ∧ w'.cell? ⟨w2.heap.size, 1, none⟩ = some (.slice X1 y1 z1) ∧ w'.cell? ⟨w2.heap.size, 2, none⟩ = some (.slice X2 y2 z2) ∧ w'.cell? ⟨w2.heap.size, 3, none⟩ = some (.slice X3 y3 z3) ∧ w'.cell? ⟨N + 1, 0, none⟩ = some (.bool lb) ∧ w'.cell? ⟨N + 1, 1, none⟩ = some (.slice A1 m1 d1) ∧ w'.cell? ⟨N + 1, 2, none⟩ = some (.slice A2 m2 d2) ∧ w'.cell? ⟨N + 1, 3, none⟩ = some (.slice A3 m3 d3)) (by kernel_rfl) hS1 (fun hHeld => ?_)
    clear hS1
    refine wpAnyH_take (i := 0) (v := ?_) rfl (by kernel_rfl) (by kernel_rfl) (by kernel_rfl) (fun _ _ _ h => h) (Or.inl ⟨by rfl, ?_⟩) (by assumption) ?_
    rotate_left
    · intro w' hSw; (try dsimp only at hSw); go_simp; (try with_reducible rfl)
    (try simp only [lit1]); (try simp only [lit2]); (try simp only [lit3]); (try simp only [Act.put]); (try simp only [lit4]); (try simp only [lit5]); (try simp only [lit6])
    refine wpAnyH_take (i := 1) (v := ?_) rfl (by kernel_rfl) (by kernel_rfl) (by kernel_rfl) (fun _ _ _ h => h) (Or.inl ⟨by rfl, ?_⟩) (by assumption) ?_
    rotate_left
    · intro w' hSw; (try dsimp only at hSw); go_simp; (try with_reducible rfl)
    (try simp only [lit1]); (try simp only [lit2]); (try simp only [lit3]); (try simp only [Act.put]); (try simp only [lit4]); (try simp only [lit5]); (try simp only [lit6])
    refine wpAnyH_ready (rs := [2, 3]) (by kernel_rfl) (by simp) ?_
    refine AllReadyH.cons rfl (fun K hK => ?_) (AllReadyH.cons rfl (fun K hK => ?_) AllReadyH.nil)
    · go_simp
      refine hK.out _ _ (HSA.out _ (((Kept.refl _ w5).alloc _).drew)) (fun hHeld => ?_)
      clear hK
      (try simp only [lit1]); (try simp only [lit2]); (try simp only [lit3]); (try simp only [Act.put]); (try simp only [lit4]); (try simp only [lit5]); (try simp only [lit6])
      refine wpAnyH_ready (rs := [3]) (by kernel_rfl) (by simp) ?_
      refine AllReadyH.cons rfl (fun K hK => ?_) AllReadyH.nil
      go_simp
      refine hK.out _ _ (HSA.out _ ((((Kept.refl _ w5).alloc _).alloc _).drew)) (fun hHeld => ?_)
      clear hK
      (try simp only [lit1]); (try simp only [lit2]); (try simp only [lit3]); (try simp only [Act.put]); (try simp only [lit4]); (try simp only [lit5]); (try simp only [lit6])
      refine wpAnyH_ready (rs := [4]) (by kernel_rfl) (by simp) ?_
      refine AllReadyH.cons rfl (fun K hK => ?_) AllReadyH.nil
      go_simp
      refine hK.out _ _ (HSA.out _ ((((Kept.refl _ w5).alloc _).alloc _).drew)) (fun hHeld => ?_)
      clear hK
      (try simp only [lit1]); (try simp only [lit2]); (try simp only [lit3]); (try simp only [Act.put]); (try simp only [lit4]); (try simp only [lit5]); (try simp only [lit6])
      refine wpAnyH_ready (rs := [5]) (by kernel_rfl) (by simp) ?_
      refine AllReadyH.cons rfl (fun K hK => ?_) AllReadyH.nil
      go_simp
      refine hK.out _ _ (HSA.out _ ((((Kept.refl _ w5).alloc _).alloc _).drew)) (fun hHeld => ?_)
      clear hK
      (try simp only [lit1]); (try simp only [lit2]); (try simp only [lit3]); (try simp only [Act.put]); (try simp only [lit4]); (try simp only [lit5]); (try simp only [lit6])
      refine wpAnyH_done (by kernel_rfl) ?_ _
      exact ⟨w5.heap.size, w5.heap.size + 1, Nat.le_refl _, by omega, by omega, (((Kept.refl _ w5).alloc _).alloc _).drew, heap_old (heap_new w5 _) _, heap_newAt (by simp) _, rfl⟩
    · go_simp
      refine hK.out _ _ (HSA.out _ (((Kept.refl _ w5).alloc _).drew)) (fun hHeld => ?_)
      clear hK
      (try simp only [lit1]); (try simp only [lit2]); (try simp only [lit3]); (try simp only [Act.put]); (try simp only [lit4]); (try simp only [lit5]); (try simp only [lit6])
      refine wpAnyH_ready (rs := [2]) (by kernel_rfl) (by simp) ?_
      refine AllReadyH.cons rfl (fun K hK => ?_) AllReadyH.nil
      go_simp
      refine hK.out _ _ (HSA.out _ ((((Kept.refl _ w5).alloc _).alloc _).drew)) (fun hHeld => ?_)
      clear hK
      (try simp only [lit1]); (try simp only [lit2]); (try simp only [lit3]); (try simp only [Act.put]); (try simp only [lit4]); (try simp only [lit5]); (try simp only [lit6])
      refine wpAnyH_ready (rs := [4]) (by kernel_rfl) (by simp) ?_
      refine AllReadyH.cons rfl (fun K hK => ?_) AllReadyH.nil
      go_simp
      refine hK.out _ _ (HSA.out _ ((((Kept.refl _ w5).alloc _).alloc _).drew)) (fun hHeld => ?_)
      clear hK
      (try simp only [lit1]); (try simp only [lit2]); (try simp only [lit3]); (try simp only [Act.put]); (try simp only [lit4]); (try simp only [lit5]); (try simp only [lit6])
      refine wpAnyH_ready (rs := [5]) (by kernel_rfl) (by simp) ?_
      refine AllReadyH.cons rfl (fun K hK => ?_) AllReadyH.nil
      go_simp
      refine hK.out _ _ (HSA.out _ ((((Kept.refl _ w5).alloc _).alloc _).drew)) (fun hHeld => ?_)
      clear hK
      (try simp only [lit1]); (try simp only [lit2]); (try simp only [lit3]); (try simp only [Act.put]); (try simp only [lit4]); (try simp only [lit5]); (try simp only [lit6])
      refine wpAnyH_done (by kernel_rfl) ?_ _
      exact ⟨w5.heap.size + 1, w5.heap.size, by omega, Nat.le_refl _, by omega, (((Kept.refl _ w5).alloc _).alloc _).drew, heap_newAt (by simp) _, heap_old (heap_new w5 _) _, rfl⟩
  case rest =>
    rintro e a' w' hq
    cases e with
    | normal =>
      obtain ⟨b14, b15, h14, h15, hne, k6, hb14, hb15, rfl⟩ := hq
      rw [HA0.out]
      simp only [Exit.then, Act.put, List.setIfInBounds_toArray, List.set_cons_succ, List.set_cons_zero]
      have kS : w3.heap[N]? = some (.cells #[.int .i64 (s.id : Int), .int .i64 ((0 : Nat) : Int), .bool l, .slice (some ⟨gk, 0, none⟩) n1 c1, .slice P2 n2 c2, .slice (some ⟨g, 0, none⟩) n3 c3] 157 (0, 0)) := K3.out.heap ((show Kept (fun _ => False) w1 w2 from K12.out).heap B0.out id) id
      have hst5 := (HK5.out.heap kS (by
        rintro (e | e)
        · subst e
          have h := WK3.out.blk
          rw [kS] at h
          injection h with h
          injection h with _ h _
          exact absurd h (by decide)
        · exact own_neH WK3.out.ro kS (by decide) _ e rfl))
      have HST5 := Lib.hid hst5
      have hst := k6.heap hst5 not_false
      clear hst5
      have HST := Lib.hid hst
      have x1 : w'.cell? ⟨N, 1, none⟩ = some (.int .i64 ((0 : Nat) : Int)) := (cell_heap hst 1).trans rfl
      have x2 : w'.cell? ⟨N, 2, none⟩ = some (.bool l) := (cell_heap hst 2).trans rfl
      have x3 : w'.cell? ⟨N, 3, none⟩ = some (.slice (some ⟨gk, 0, none⟩) n1 c1) := (cell_heap hst 3).trans rfl
      have x4 : w'.cell? ⟨N, 4, none⟩ = some (.slice P2 n2 c2) := (cell_heap hst 4).trans rfl
      have x5 : w'.cell? ⟨N, 5, none⟩ = some (.slice (some ⟨g, 0, none⟩) n3 c3) := (cell_heap hst 5).trans rfl
      have HSA : Hid (∀ w7, Kept (fun i => i = b14 ∨ i = b15) w' w7 → w7.cell? ⟨w2.heap.size, 0, none⟩ = some (.bool lb) ∧ w7.cell? ⟨w2.heap.size, 1, none⟩ = some (.slice X1 y1 z1) ∧ w7.cell? ⟨w2.heap.size, 2, none⟩ = some (.slice X2 y2 z2) ∧ w7.cell? ⟨w2.heap.size, 3, none⟩ = some (.slice X3 y3 z3) ∧ w7.cell? ⟨N + 1, 0, none⟩ = some (.bool lb) ∧ w7.cell? ⟨N + 1, 1, none⟩ = some (.slice A1 m1 d1) ∧ w7.cell? ⟨N + 1, 2, none⟩ = some (.slice A2 m2 d2) ∧ w7.cell? ⟨N + 1, 3, none⟩ = some (.slice A3 m3 d3)) := fun w7 kk => by
        have s5 := lt_heap HB5.out
        have s6 := lt_heap HK15.out
        obtain ⟨p0, p1, p2, p3⟩ := nd_cells (kk.heap (k6.heap HB5.out not_false) (by omega))
        obtain ⟨q0, q1, q2, q3⟩ := nd_cells (kk.heap (k6.heap HK15.out not_false) (by omega))
        exact ⟨p0, p1, p2, p3, q0, q1, q2, q3⟩
      have f14 : ∀ i, w'.frozen? ⟨b14, i, none⟩ = false := fun i => free_heap hb14 i
      have f15 : ∀ i, w'.frozen? ⟨b15, i, none⟩ = false := fun i => free_heap hb15 i
      have K6a := Lib.hid k6; have H14a := Lib.hid hb14; have H15a := Lib.hid hb15; have HNE := Lib.hid hne; have G14 := Lib.hid h14; have G15 := Lib.hid h15
      have HSTa := Lib.hid hst
      obtain ⟨r0, r1, r2, r3⟩ := nd_cells hb14
      obtain ⟨t0, t1, t2, t3⟩ := nd_cells hb15
      have l14 := lt_heap hb14
      have l15 := lt_heap hb15
      clear k6 hb14 hb15 hne h14 h15 hst kS ha0 HA0
      go_wp2_with fail
      clear x1 x2 x3 x4 x5
      have hS1 := HSA.out w'.drew (Kept.refl _ w').drew
      refine wp_region_held_drew (S := fun w7 => w7.cell? ⟨w2.heap.size, 0, none⟩ = some (.bool lb) ∧ w7.cell? ⟨w2.heap.size, 1, none⟩ = some (.slice X1 y1 z1) ∧ w7.cell? ⟨w2.heap.size, 2, none⟩ = some (.slice X2 y2 z2) ∧ w7.cell? ⟨w2.heap.size, 3, none⟩ = some (.slice X3 y3 z3) ∧ w7.cell? ⟨N + 1, 0, none⟩ = some (.bool lb) ∧ w7.cell? ⟨N + 1, 1, none⟩ = some (.slice A1 m1 d1) ∧ w7.cell? ⟨N + 1, 2, none⟩ = some (.slice A2 m2 d2) ∧ w7.cell? ⟨N + 1, 3, none⟩ = some (.slice A3 m3 d3)) (by kernel_rfl) hS1 (fun hHeld => ?_)
      clear hS1
      refine wpAnyH_take (i := 0) (v := ?_) rfl (by kernel_rfl) (by kernel_rfl) (by kernel_rfl) (fun _ _ _ h => h) (Or.inl ⟨by rfl, ?_⟩) (by assumption) ?_
      rotate_left
      · intro w' hSw; (try dsimp only at hSw); go_simp; (try with_reducible rfl)
      (try simp only [lit1]); (try simp only [lit2]); (try simp only [lit3]); (try simp only [Act.put]); (try simp only [lit4]); (try simp only [lit5]); (try simp only [lit6])
      refine wpAnyH_take (i := 1) (v := ?_) rfl (by kernel_rfl) (by kernel_rfl) (by kernel_rfl) (fun _ _ _ h => h) (Or.inl ⟨by rfl, ?_⟩) (by assumption) ?_
      rotate_left
      · intro w' hSw; (try dsimp only at hSw); go_simp; (try with_reducible rfl)
      (try simp only [lit1]); (try simp only [lit2]); (try simp only [lit3]); (try simp only [Act.put]); (try simp only [lit4]); (try simp only [lit5]); (try simp only [lit6])
      refine wpAnyH_ready (rs := [2]) (by kernel_rfl) (by simp) ?_
      refine AllReadyH.cons rfl (fun K hK => ?_) AllReadyH.nil
      go_simp
      have hA := set4_heap H14a.out (by simp) (.bool lb) (.slice A1 m1 d1) (.slice A2 m2 d2) (.slice A3 m3 d3)
      have kA := set4_kept w' b14 (.bool lb) (.slice A1 m1 d1) (.slice A2 m2 d2) (.slice A3 m3 d3)
      obtain ⟨wA, hwA⟩ : ∃ wA, wA = ((((w'.setCell ⟨b14, 0, none⟩ (.bool lb)).setCell ⟨b14, 1, none⟩ (.slice A1 m1 d1)).setCell ⟨b14, 2, none⟩ (.slice A2 m2 d2)).setCell ⟨b14, 3, none⟩ (.slice A3 m3 d3)).drew := ⟨_, rfl⟩
      rw [← hwA]
      have KA : Hid (Kept (fun i => i = b14 ∨ i = b15) w' wA) := by rw [hwA]; exact (kA.mono fun _ _ e => .inl e).drew
      have HA14 : Hid (wA.heap[b14]? = some (.cells #[.bool lb, .slice A1 m1 d1, .slice A2 m2 d2, .slice A3 m3 d3] 148 (0, 0))) := by rw [hwA]; exact hA
      have HA15 : Hid (wA.heap[b15]? = some (.cells #[.bool lb, .slice A1 m1 d1, .slice A2 m2 d2, .slice A3 m3 d3] 148 (0, 0))) := by rw [hwA]; exact kA.heap H15a.out (fun e => HNE.out e.symm)
      refine hK.out _ _ (HSA.out _ KA.out) (fun hHeld => ?_)
      clear hK hA kA hwA f14 r0 r1 r2 r3 t0 t1 t2 t3 f15 l14 l15
      (try simp only [lit1]); (try simp only [lit2]); (try simp only [lit3]); (try simp only [Act.put]); (try simp only [lit4]); (try simp only [lit5]); (try simp only [lit6])
      have f15 : ∀ i, wA.frozen? ⟨b15, i, none⟩ = false := fun i => free_heap HA15.out i
      obtain ⟨t0, t1, t2, t3⟩ := nd_cells HA15.out
      have l15 := lt_heap HA15.out
      refine wpAnyH_ready (rs := [3]) (by kernel_rfl) (by simp) ?_
      refine AllReadyH.cons rfl (fun K hK => ?_) AllReadyH.nil
      go_simp
      have hB := set4_heap HA15.out (by simp) (.bool lb) (.slice X1 y1 z1) (.slice X2 y2 z2) (.slice X3 y3 z3)
      have kB := set4_kept wA b15 (.bool lb) (.slice X1 y1 z1) (.slice X2 y2 z2) (.slice X3 y3 z3)
      obtain ⟨w0, hw0⟩ : ∃ w0, w0 = ((((wA.setCell ⟨b15, 0, none⟩ (.bool lb)).setCell ⟨b15, 1, none⟩ (.slice X1 y1 z1)).setCell ⟨b15, 2, none⟩ (.slice X2 y2 z2)).setCell ⟨b15, 3, none⟩ (.slice X3 y3 z3)) := ⟨_, rfl⟩
      rw [← hw0]
      have KB : Hid (Kept (fun i => i = b14 ∨ i = b15) w' w0) := by rw [hw0]; exact KA.out.trans (kB.mono fun _ _ e => .inr e)
      have H15 : Hid (w0.heap[b15]? = some (.cells #[.bool lb, .slice X1 y1 z1, .slice X2 y2 z2, .slice X3 y3 z3] 148 (0, 0))) := by rw [hw0]; exact hB
      have H14 : Hid (w0.heap[b14]? = some (.cells #[.bool lb, .slice A1 m1 d1, .slice A2 m2 d2, .slice A3 m3 d3] 148 (0, 0))) := by rw [hw0]; exact kB.heap HA14.out HNE.out
      refine hK.out _ _ (HSA.out _ KB.out) (fun hHeld => ?_)
      clear hK hB kB hw0 t0 t1 t2 t3 f15 l15
      (try simp only [lit1]); (try simp only [lit2]); (try simp only [lit3]); (try simp only [Act.put]); (try simp only [lit4]); (try simp only [lit5]); (try simp only [lit6])
      refine wpAnyH_done (by kernel_rfl) ?_ _
      have K6 : Hid (Kept (fun _ => False) w5 w0) := K6a.out.then KB.out fun i hi e => by have := G14.out; have := G15.out; omega
      have HST : Hid (w0.heap[N]? = some (.cells #[.int .i64 (s.id : Int), .int .i64 ((0 : Nat) : Int), .bool l, .slice (some ⟨gk, 0, none⟩) n1 c1, .slice P2 n2 c2, .slice (some ⟨g, 0, none⟩) n3 c3] 157 (0, 0))) := K6.out.heap HST5.out not_false
      go_wp2_with fail
      have K13 := Lib.hid (K2.out.trans K3.out)
      have SW : Hid (∀ g, wkS q wk vf (.slice A6 (lo + 1) c6) g → wkS q wk vf (.slice Ao (List.length UO) co) g ∨ w3.heap.size ≤ g) := by
        rintro g (e | e | e | e | e)
        · exact .inl (.inl e)
        · exact .inl (.inr (.inl e))
        · exact .inl (.inr (.inr (.inl e)))
        · exact .inl (.inr (.inr (.inr (.inl e))))
        · rcases HO5.out g e with e | e
          · exact .inl (.inr (.inr (.inr (.inr ((own_anylen _ _ _ _).trans e)))))
          · exact .inr e
      have ST : Hid (∀ g, (g = wk ∨ (Value.slice Ao lo co).ownBlock = some g) → wkS q wk vf (.slice Ao (List.length UO) co) g) := by
        rintro g (e | e)
        · exact .inr (.inr (.inl e))
        · exact .inr (.inr (.inr (.inr ((own_anylen _ _ _ _).trans e))))
      have TA0 : Hid (NdAp w0 (wkS q wk vf (.slice A6 (lo + 1) c6)) (.agg #[.bool lb, .slice X1 y1 z1, .slice X2 y2 z2, .slice X3 y3 z3]) (UX.load (ot : Int)).1) := by
        have hlt := H.out.lt
        have k12 := K12.out.size
        have k1s := K1.out.size
        have k3s := K3.out.size
        have k5s := HK5.out.size
        have k6s := K6.out.size
        have h5 := (HBS.out.kept K3.out).keptS HK5.out (by
          intro b hb
          have h0 := hlt b (ST.out b hb)
          omega)
        refine NdAp.between (h5.kept K6.out) HBS.out.lt fun g hg => ?_
        rcases SW.out g hg with e | e
        · have := hlt g e; exact .inl (by omega)
        · exact .inr (by omega)
      have TB0 : Hid (NdAp w0 (wkS q wk vf (.slice A6 (lo + 1) c6)) (.agg #[.bool lb, .slice A1 m1 d1, .slice A2 m2 d2, .slice A3 m3 d3]) kid) := ((HK.out.keptF K13.out).kept HK5.out (fun g hg => .inl (ST.out g hg)) SW.out).keptF K6.out
      have TS0 : Hid (NdAp w0 (wkS q wk vf (.slice A6 (lo + 1) c6)) (.agg #[.bool l, .slice (some ⟨gk, 0, none⟩) n1 c1, .slice P2 n2 c2, .slice (some ⟨g, 0, none⟩) n3 c3]) s.n) := ((HS.out.keptF K13.out).kept HK5.out (fun g hg => .inl (ST.out g hg)) SW.out).keptF K6.out
      have TW0 : Hid (WkW w0 q wk vf (.slice A6 (lo + 1) c6) ⟨UX, UF, UO ++ [ot]⟩ root Z) := HW.out.keptF K6.out
      have TK0 : Hid (Kept (wkS q wk vf (.slice Ao (List.length UO) co)) w w0) := ((K13.out.mono fun _ _ => False.elim).then HK5.out fun i _ e => ST.out i e).then K6.out fun _ _ => False.elim
      have TV0 : Hid (∀ g, wkS q wk vf (.slice A6 (lo + 1) c6) g → wkS q wk vf (.slice Ao (List.length UO) co) g ∨ w.heap.size ≤ g) := fun g hg => by
        rcases SW.out g hg with e | e
        · exact .inl e
        · exact .inr (by have := K13.out.size; omega)
      have HR0 : Hid (w0.heap[N + 1 + 1]? = some (.cells #[.bool false, .slice none 0 0, .slice none 0 0, .slice none 0 0] 148 (0, 0))) := K6.out.heap HR5.out id
      have TZ0 : Hid (Z ≤ w0.heap.size) := by have := HZ.out; have := TK0.out.size; show _ ≤ _; omega
      have HKC0 : Hid (∀ w7, Kept (fun _ => False) w0 w7 → w7.cell? ⟨gk, 0, none⟩ = some (.string kt)) := fun w7 kk => by
        have h3 := (K2.out.trans K3.out).heap HKH.out id
        have h5 := HK5.out.block gk (lt_heap h3) (by
          rintro (e | e)
          · subst e
            have h := WK3.out.blk
            rw [h3] at h
            injection h with h
            injection h with _ h _
            exact absurd h (by decide)
          · exact own_neH WK3.out.ro h3 (by decide) _ e rfl)
        have h6 := (K6.out.trans kk).block gk (by have := lt_heap h3; have := HK5.out.size; omega) id
        exact (World.cell?_of_block (h6.trans (h5.trans ((K2.out.trans K3.out).block gk HGK.out id)))).trans HKC.out
      have HLV : Hid (r = if (putAll ⟨UX, UF, UO ++ [ot]⟩ (nLevel kid (s.n.keys.getD 0 []) (UX.load (ot : Int)).1)).2.1 ≠ 0 then (nd0, (putAll ⟨UX, UF, UO ++ [ot]⟩ (nLevel kid (s.n.keys.getD 0 []) (UX.load (ot : Int)).1)).2.1, (putAll ⟨UX, UF, UO ++ [ot]⟩ (nLevel kid (s.n.keys.getD 0 []) (UX.load (ot : Int)).1)).2.2) else (s.n.repl 0 (0 + 2) (putAll ⟨UX, UF, UO ++ [ot]⟩ (nLevel kid (s.n.keys.getD 0 []) (UX.load (ot : Int)).1)).1 (if (nLevel kid (s.n.keys.getD 0 []) (UX.load (ot : Int)).1).length = 2 then nBetween kid (s.n.keys.getD 0 []) (UX.load (ot : Int)).1 else []), 0, (putAll ⟨UX, UF, UO ++ [ot]⟩ (nLevel kid (s.n.keys.getD 0 []) (UX.load (ot : Int)).1)).2.2)) := by
        show _ = _
        rw [HR.out]
        exact levelP_eq HU.out HOT.out.symm HLFT.out HE.out HKD.out (by rw [if_pos (by have := HM.out; omega)]) (by rw [if_pos (by have := HM.out; omega)]) rfl
      have FO : Hid ((UX.load (ot : Int)).1.Ok) := load_ok HE.out
      have FA : Hid (kid.Fit ∧ (UX.load (ot : Int)).1.Fit ∧ (UX.load (ot : Int)).1.leaf = kid.leaf ∧ kid.len + (UX.load (ot : Int)).1.len ≤ 20) := by
        have f1 := FO.out.fit
        have f2 := HF.out
        have f3 := HKD.out
        have f4 := HKL.out
        have f5 := not_over.1 FO.out.most
        refine ⟨f2, f1, f3, ?_⟩
        split at f5 <;> omega
      have FK : Hid ((s.n.keys.getD 0 []).length ≤ 24) := by
        have h1 : 0 < s.n.keys.length := by have := (HOK.out.inner HLF.out).2.1; have := HAT.out; have := (HOK.out.inner HLF.out).1; have := HM.out; omega
        rw [show s.n.keys.getD 0 [] = s.n.keys[0] by simp [List.getD, h1]]
        exact HOK.out.kl _ (List.getElem_mem h1)
      obtain ⟨na, hna⟩ : ∃ n, n = kid := ⟨_, rfl⟩
      obtain ⟨nb, hnb⟩ : ∃ n, n = (UX.load (ot : Int)).1 := ⟨_, rfl⟩
      obtain ⟨ky, hky⟩ : ∃ n, n = s.n.keys.getD 0 [] := ⟨_, rfl⟩
      have HKT2 : Hid (kt = ba ky) := by show _ = _; rw [hky]; exact HKT.out
      rw [← hna, ← hnb, ← hky] at HLV
      rw [← hna, ← hnb] at FA
      rw [← hnb] at TA0
      rw [← hna] at TB0
      rw [← hky] at FK
      have CLV := Lib.hid fun w7 (kk : Kept (fun _ => False) w0 w7) => NdLevel_calls (TB0.out.keptF kk).zero (TA0.out.keptF kk).zero (Nat.zero_le _) ky FK.out FA.out.1 FA.out.2.1 FA.out.2.2.1 FA.out.2.2.2
      have CBT := Lib.hid fun w7 (kk : Kept (fun _ => False) w0 w7) (ho : (nJoin na ky nb).over = true) => NdBetween_calls (TB0.out.keptF kk).zero (TA0.out.keptF kk).zero (Nat.zero_le _) ky FK.out FA.out.1 FA.out.2.1 FA.out.2.2.1 FA.out.2.2.2 ho
      rw [← HKT2.out] at CLV CBT
      obtain ⟨VO, hVO⟩ : ∃ v, v = Value.slice A6 (lo + 1) c6 := ⟨_, rfl⟩
      rw [← hVO] at TA0 TB0 TS0 TW0 TV0
      obtain ⟨WN, hWN⟩ : ∃ v : Wk, v = ⟨UX, UF, UO ++ [ot]⟩ := ⟨_, rfl⟩
      have HWF : Hid (WN.fresh.length ≤ 900) := by show _ ≤ _; rw [hWN]; exact HLL.out
      rw [← hWN] at TW0 HLV
      clear hna hnb hky hVO hWN
      have HSB : Hid (∀ w7, Kept (fun _ => False) w0 w7 → w7.cell? ⟨b14, 0, none⟩ = some (.bool lb) ∧ w7.cell? ⟨b14, 1, none⟩ = some (.slice A1 m1 d1) ∧ w7.cell? ⟨b14, 2, none⟩ = some (.slice A2 m2 d2) ∧ w7.cell? ⟨b14, 3, none⟩ = some (.slice A3 m3 d3) ∧ w7.cell? ⟨b15, 0, none⟩ = some (.bool lb) ∧ w7.cell? ⟨b15, 1, none⟩ = some (.slice X1 y1 z1) ∧ w7.cell? ⟨b15, 2, none⟩ = some (.slice X2 y2 z2) ∧ w7.cell? ⟨b15, 3, none⟩ = some (.slice X3 y3 z3) ∧ w7.cell? ⟨N, 3, none⟩ = some (.slice (some ⟨gk, 0, none⟩) n1 c1) ∧ w7.cell? ⟨gk, 0, none⟩ = some (.string kt)) := fun w7 kk => by
        obtain ⟨p0, p1, p2, p3⟩ := nd_cells (kk.heap H14.out not_false)
        obtain ⟨q0, q1, q2, q3⟩ := nd_cells (kk.heap H15.out not_false)
        exact ⟨p0, p1, p2, p3, q0, q1, q2, q3, (cell_heap (kk.heap HST.out not_false) 3).trans rfl, HKC0.out _ kk⟩
      obtain ⟨pN, hpN⟩ : ∃ n, n = w0.heap.size := ⟨_, rfl⟩
      obtain ⟨w8, hw8⟩ : ∃ w8, w8 = w0.alloc (.cells #[.slice none 0 0, .string ⟨#[]⟩] 169) := ⟨_, rfl⟩
      rw [← hw8, ← hpN]
      have HPN := Lib.hid hpN
      have K8 : Hid (Kept (fun _ => False) w0 w8) := by rw [hw8]; exact (Kept.refl _ _).alloc _
      have HP8 : Hid (w8.heap[pN]? = some (.cells #[.slice none 0 0, .string ⟨#[]⟩] 169 (0, 0))) := by show _ = _; rw [hw8, hpN]; exact heap_new w0 _
      have S8 : Hid (w8.heap.size = pN + 1) := by show _ = _; rw [hw8, hpN]; simp
      have hS1 := HSB.out w8.drew K8.out.drew
      clear hw8 hpN
      refine wp_region_held_drew (S := fun w7 => w7.cell? ⟨b14, 0, none⟩ = some (.bool lb) ∧ w7.cell? ⟨b14, 1, none⟩ = some (.slice A1 m1 d1) ∧ w7.cell? ⟨b14, 2, none⟩ = some (.slice A2 m2 d2) ∧ w7.cell? ⟨b14, 3, none⟩ = some (.slice A3 m3 d3) ∧ w7.cell? ⟨b15, 0, none⟩ = some (.bool lb) ∧ w7.cell? ⟨b15, 1, none⟩ = some (.slice X1 y1 z1) ∧ w7.cell? ⟨b15, 2, none⟩ = some (.slice X2 y2 z2) ∧ w7.cell? ⟨b15, 3, none⟩ = some (.slice X3 y3 z3) ∧ w7.cell? ⟨N, 3, none⟩ = some (.slice (some ⟨gk, 0, none⟩) n1 c1) ∧ w7.cell? ⟨gk, 0, none⟩ = some (.string kt)) (by kernel_rfl) hS1 (fun hHeld => ?_)
      clear hS1
      refine wpAnyH_take (i := 0) (v := ?_) rfl (by kernel_rfl) (by kernel_rfl) (by kernel_rfl) (fun _ _ _ h => h) (Or.inl ⟨by rfl, ?_⟩) (by assumption) ?_
      rotate_left
      · intro w' hSw; (try dsimp only at hSw); go_simp; (try with_reducible rfl)
      (try simp only [lit1]); (try simp only [lit2]); (try simp only [lit3]); (try simp only [Act.put]); (try simp only [lit4]); (try simp only [lit5]); (try simp only [lit6])
      refine wpAnyH_take (i := 1) (v := ?_) rfl (by kernel_rfl) (by kernel_rfl) (by kernel_rfl) (fun _ _ _ h => h) (Or.inl ⟨by rfl, ?_⟩) (by assumption) ?_
      rotate_left
      · intro w' hSw; (try dsimp only at hSw); go_simp; (try with_reducible rfl)
      (try simp only [lit1]); (try simp only [lit2]); (try simp only [lit3]); (try simp only [Act.put]); (try simp only [lit4]); (try simp only [lit5]); (try simp only [lit6])
      refine wpAnyH_take (i := 2) (v := ?_) rfl (by kernel_rfl) (by kernel_rfl) (by kernel_rfl) (fun _ _ _ h => h) (Or.inl ⟨by rfl, ?_⟩) (by assumption) ?_
      rotate_left
      · intro w' hSw; (try dsimp only at hSw); go_simp; (try with_reducible rfl)
      (try simp only [lit1]); (try simp only [lit2]); (try simp only [lit3]); (try simp only [Act.put]); (try simp only [lit4]); (try simp only [lit5]); (try simp only [lit6])
      refine wpAnyH_take (i := 3) (v := ?_) rfl (by kernel_rfl) (by kernel_rfl) (by kernel_rfl) (fun _ _ _ h => h) (Or.inl ⟨by rfl, ?_⟩) (by assumption) ?_
      rotate_left
      · intro w' hSw; (try dsimp only at hSw); go_simp; (try with_reducible rfl)
      (try simp only [lit1]); (try simp only [lit2]); (try simp only [lit3]); (try simp only [Act.put]); (try simp only [lit4]); (try simp only [lit5]); (try simp only [lit6])
      refine wpAnyH_take (i := 4) (v := ?_) rfl (by kernel_rfl) (by kernel_rfl) (by kernel_rfl) (fun _ _ _ h => h) (Or.inl ⟨by rfl, ?_⟩) (by assumption) ?_
      rotate_left
      · intro w' hSw; (try dsimp only at hSw); go_simp; (try with_reducible rfl)
      (try simp only [lit1]); (try simp only [lit2]); (try simp only [lit3]); (try simp only [Act.put]); (try simp only [lit4]); (try simp only [lit5]); (try simp only [lit6])
      refine wpAnyH_take (i := 5) (v := ?_) rfl (by kernel_rfl) (by kernel_rfl) (by kernel_rfl) (fun _ _ _ h => h) (Or.inl ⟨by rfl, ?_⟩) (by assumption) ?_
      rotate_left
      · intro w' hSw; (try dsimp only at hSw); go_simp; (try with_reducible rfl)
      (try simp only [lit1]); (try simp only [lit2]); (try simp only [lit3]); (try simp only [Act.put]); (try simp only [lit4]); (try simp only [lit5]); (try simp only [lit6])
      refine wpAnyH_take (i := 6) (v := ?_) rfl (by kernel_rfl) (by kernel_rfl) (by kernel_rfl) (fun _ _ _ h => h) (Or.inl ⟨by rfl, ?_⟩) (by assumption) ?_
      rotate_left
      · intro w' hSw; (try dsimp only at hSw); go_simp; (try with_reducible rfl)
      (try simp only [lit1]); (try simp only [lit2]); (try simp only [lit3]); (try simp only [Act.put]); (try simp only [lit4]); (try simp only [lit5]); (try simp only [lit6])
      refine wpAnyH_take (i := 7) (v := ?_) rfl (by kernel_rfl) (by kernel_rfl) (by kernel_rfl) (fun _ _ _ h => h) (Or.inl ⟨by rfl, ?_⟩) (by assumption) ?_
      rotate_left
      · intro w' hSw; (try dsimp only at hSw); go_simp; (try with_reducible rfl)
      (try simp only [lit1]); (try simp only [lit2]); (try simp only [lit3]); (try simp only [Act.put]); (try simp only [lit4]); (try simp only [lit5]); (try simp only [lit6])
      refine wpAnyH_ready (rs := [8]) (by kernel_rfl) (by simp) ?_
      refine AllReadyH.cons rfl (fun K hK => ?_) AllReadyH.nil
      go_simp
      refine (CLV.out _ K8.out.drew).mono ?_
      rintro e w9 ⟨vl, rfl, hnl, k9⟩
      have K9 : Hid (Kept (fun _ => False) w8 w9) := (Kept.refl (fun _ => False) w8).drew.trans k9
      refine hK.out _ _ (HSB.out _ (K8.out.trans K9.out)) (fun hHeld => ?_)
      clear hK
      (try simp only [lit1]); (try simp only [lit2]); (try simp only [lit3]); (try simp only [Act.put]); (try simp only [lit4]); (try simp only [lit5]); (try simp only [lit6])
      refine wpAnyH_take (i := 9) (v := ?_) rfl (by kernel_rfl) (by kernel_rfl) (by kernel_rfl) (fun _ _ _ h => h) (Or.inl ⟨by rfl, ?_⟩) (by assumption) ?_
      rotate_left
      · intro w' hSw; (try dsimp only at hSw); go_simp; (try with_reducible rfl)
      (try simp only [lit1]); (try simp only [lit2]); (try simp only [lit3]); (try simp only [Act.put]); (try simp only [lit4]); (try simp only [lit5]); (try simp only [lit6])
      refine wpAnyH_done (by kernel_rfl) ?_ _
      have HNL : Hid (IsNds w9 w8.heap.size vl (nLevel na ky nb)) := hnl.base (by simp)
      obtain ⟨ns, hns⟩ : ∃ l, l = nLevel na ky nb := ⟨_, rfl⟩
      rw [← hns] at HNL HLV
      obtain ⟨gl, cl, hvl, -⟩ := HNL.out
      subst hvl
      have FNS : Hid (∀ n ∈ ns, n.Fit) := by
        have hj := FA.out.1.join FA.out.2.1 FK.out FA.out.2.2.1 FA.out.2.2.2
        intro n hn
        rw [hns] at hn
        unfold nLevel at hn
        split at hn
        · next ho =>
          have hh := hj.1.halves ho
          simp only [List.mem_cons, List.not_mem_nil, or_false] at hn
          rcases hn with rfl | rfl
          · exact hh.1
          · exact hh.2.1
        · simp only [List.mem_singleton] at hn
          subst hn; exact hj.1
      have FBK : Hid (∀ w7, Kept (fun _ => False) w0 w7 → ns.length = 2 → Calls Tryz.prog 129 #[.agg #[.bool lb, .slice A1 m1 d1, .slice A2 m2 d2, .slice A3 m3 d3], .string kt, .agg #[.bool lb, .slice X1 y1 z1, .slice X2 y2 z2, .slice X3 y3 z3]] w7 fun e w' => e = .returned (Ss (nBetween na ky nb)) ∧ Kept (fun _ => False) w7 w') := fun w7 kk h2 => CBT.out w7 kk (by
        rw [hns] at h2
        unfold nLevel at h2
        split at h2
        · next ho => exact ho
        · simp at h2)
      have L12 : Hid (ns.length = 1 ∨ ns.length = 2) := by
        show _ ∨ _
        rw [hns]
        unfold nLevel
        split
        · exact .inr rfl
        · exact .inl rfl
      obtain ⟨bt, hbt⟩ : ∃ b, b = nBetween na ky nb := ⟨_, rfl⟩
      rw [← hbt] at FBK HLV
      obtain ⟨ln, hln⟩ : ∃ n, n = ns.length := ⟨_, rfl⟩
      rw [← hln] at L12 HNL HLV FBK ⊢
      have HLN := Lib.hid hln
      clear hnl k9 hns hln hHeld CBT CLV
      by_cases h2 : ln = 2
      · have g9 : ((ln : Int) == 2) = true := by rw [beq_iff_eq]; omega
        obtain ⟨kt2, hkt2⟩ : ∃ t, t = ba bt := ⟨_, rfl⟩
        have CB := Lib.hid fun w7 kk => FBK.out w7 kk h2
        rw [show Ss bt = .string kt2 by rw [hkt2]; rfl] at CB
        have HK2 := Lib.hid hkt2
        have HH2 := Lib.hid h2
        clear hkt2 hbt FBK h2
        go_wp2_with fail
        have hS1 := HSB.out w9.drew (K8.out.trans K9.out).drew
        refine wp_region_held_drew (S := fun w7 => w7.cell? ⟨b14, 0, none⟩ = some (.bool lb) ∧ w7.cell? ⟨b14, 1, none⟩ = some (.slice A1 m1 d1) ∧ w7.cell? ⟨b14, 2, none⟩ = some (.slice A2 m2 d2) ∧ w7.cell? ⟨b14, 3, none⟩ = some (.slice A3 m3 d3) ∧ w7.cell? ⟨b15, 0, none⟩ = some (.bool lb) ∧ w7.cell? ⟨b15, 1, none⟩ = some (.slice X1 y1 z1) ∧ w7.cell? ⟨b15, 2, none⟩ = some (.slice X2 y2 z2) ∧ w7.cell? ⟨b15, 3, none⟩ = some (.slice X3 y3 z3) ∧ w7.cell? ⟨N, 3, none⟩ = some (.slice (some ⟨gk, 0, none⟩) n1 c1) ∧ w7.cell? ⟨gk, 0, none⟩ = some (.string kt)) (by kernel_rfl) hS1 (fun hHeld => ?_)
        clear hS1
        refine wpAnyH_take (i := 0) (v := ?_) rfl (by kernel_rfl) (by kernel_rfl) (by kernel_rfl) (fun _ _ _ h => h) (Or.inl ⟨by rfl, ?_⟩) (by assumption) ?_
        rotate_left
        · intro w' hSw; (try dsimp only at hSw); go_simp; (try with_reducible rfl)
        (try simp only [lit1]); (try simp only [lit2]); (try simp only [lit3]); (try simp only [Act.put]); (try simp only [lit4]); (try simp only [lit5]); (try simp only [lit6])
        refine wpAnyH_take (i := 1) (v := ?_) rfl (by kernel_rfl) (by kernel_rfl) (by kernel_rfl) (fun _ _ _ h => h) (Or.inl ⟨by rfl, ?_⟩) (by assumption) ?_
        rotate_left
        · intro w' hSw; (try dsimp only at hSw); go_simp; (try with_reducible rfl)
        (try simp only [lit1]); (try simp only [lit2]); (try simp only [lit3]); (try simp only [Act.put]); (try simp only [lit4]); (try simp only [lit5]); (try simp only [lit6])
        refine wpAnyH_take (i := 2) (v := ?_) rfl (by kernel_rfl) (by kernel_rfl) (by kernel_rfl) (fun _ _ _ h => h) (Or.inl ⟨by rfl, ?_⟩) (by assumption) ?_
        rotate_left
        · intro w' hSw; (try dsimp only at hSw); go_simp; (try with_reducible rfl)
        (try simp only [lit1]); (try simp only [lit2]); (try simp only [lit3]); (try simp only [Act.put]); (try simp only [lit4]); (try simp only [lit5]); (try simp only [lit6])
        refine wpAnyH_take (i := 3) (v := ?_) rfl (by kernel_rfl) (by kernel_rfl) (by kernel_rfl) (fun _ _ _ h => h) (Or.inl ⟨by rfl, ?_⟩) (by assumption) ?_
        rotate_left
        · intro w' hSw; (try dsimp only at hSw); go_simp; (try with_reducible rfl)
        (try simp only [lit1]); (try simp only [lit2]); (try simp only [lit3]); (try simp only [Act.put]); (try simp only [lit4]); (try simp only [lit5]); (try simp only [lit6])
        refine wpAnyH_take (i := 4) (v := ?_) rfl (by kernel_rfl) (by kernel_rfl) (by kernel_rfl) (fun _ _ _ h => h) (Or.inl ⟨by rfl, ?_⟩) (by assumption) ?_
        rotate_left
        · intro w' hSw; (try dsimp only at hSw); go_simp; (try with_reducible rfl)
        (try simp only [lit1]); (try simp only [lit2]); (try simp only [lit3]); (try simp only [Act.put]); (try simp only [lit4]); (try simp only [lit5]); (try simp only [lit6])
        refine wpAnyH_take (i := 5) (v := ?_) rfl (by kernel_rfl) (by kernel_rfl) (by kernel_rfl) (fun _ _ _ h => h) (Or.inl ⟨by rfl, ?_⟩) (by assumption) ?_
        rotate_left
        · intro w' hSw; (try dsimp only at hSw); go_simp; (try with_reducible rfl)
        (try simp only [lit1]); (try simp only [lit2]); (try simp only [lit3]); (try simp only [Act.put]); (try simp only [lit4]); (try simp only [lit5]); (try simp only [lit6])
        refine wpAnyH_take (i := 6) (v := ?_) rfl (by kernel_rfl) (by kernel_rfl) (by kernel_rfl) (fun _ _ _ h => h) (Or.inl ⟨by rfl, ?_⟩) (by assumption) ?_
        rotate_left
        · intro w' hSw; (try dsimp only at hSw); go_simp; (try with_reducible rfl)
        (try simp only [lit1]); (try simp only [lit2]); (try simp only [lit3]); (try simp only [Act.put]); (try simp only [lit4]); (try simp only [lit5]); (try simp only [lit6])
        refine wpAnyH_take (i := 7) (v := ?_) rfl (by kernel_rfl) (by kernel_rfl) (by kernel_rfl) (fun _ _ _ h => h) (Or.inl ⟨by rfl, ?_⟩) (by assumption) ?_
        rotate_left
        · intro w' hSw; (try dsimp only at hSw); go_simp; (try with_reducible rfl)
        (try simp only [lit1]); (try simp only [lit2]); (try simp only [lit3]); (try simp only [Act.put]); (try simp only [lit4]); (try simp only [lit5]); (try simp only [lit6])
        refine wpAnyH_ready (rs := [8]) (by kernel_rfl) (by simp) ?_
        refine AllReadyH.cons rfl (fun K hK => ?_) AllReadyH.nil
        go_simp
        refine (CB.out _ (K8.out.trans K9.out).drew).mono ?_
        rintro e w10 ⟨rfl, k10⟩
        have K10 : Hid (Kept (fun _ => False) w9 w10) := (Kept.refl (fun _ => False) w9).drew.trans k10
        refine hK.out _ _ (HSB.out _ ((K8.out.trans K9.out).trans K10.out)) (fun hHeld => ?_)
        clear hK
        (try simp only [lit1]); (try simp only [lit2]); (try simp only [lit3]); (try simp only [Act.put]); (try simp only [lit4]); (try simp only [lit5]); (try simp only [lit6])
        refine wpAnyH_take (i := 9) (v := ?_) rfl (by kernel_rfl) (by kernel_rfl) (by kernel_rfl) (fun _ _ _ h => h) (Or.inl ⟨by rfl, ?_⟩) (by assumption) ?_
        rotate_left
        · intro w' hSw; (try dsimp only at hSw); go_simp; (try with_reducible rfl)
        (try simp only [lit1]); (try simp only [lit2]); (try simp only [lit3]); (try simp only [Act.put]); (try simp only [lit4]); (try simp only [lit5]); (try simp only [lit6])
        refine wpAnyH_ready (rs := [10]) (by kernel_rfl) (by simp) ?_
        refine AllReadyH.cons rfl (fun K hK => ?_) AllReadyH.nil
        have hP10 := (K9.out.trans K10.out).heap HP8.out id
        have HP10 := Lib.hid hP10
        have fz10 : w10.frozen? ⟨pN, 1, none⟩ = false := free_heap hP10 1
        have cz10 : w10.cell? ⟨pN, 1, none⟩ = some (.string ⟨#[]⟩) := (cell_heap hP10 1).trans rfl
        go_simp
        have KS : Hid (Kept (fun _ => False) w0 (w10.setCell ⟨pN, 1, none⟩ (.string kt2))) := ((K8.out.trans K9.out).trans K10.out).setCell (.inr (by rw [HPN.out]; exact Nat.le_refl _)) _
        refine hK.out _ _ (HSB.out _ KS.out) (fun hHeld => ?_)
        clear hK
        (try simp only [lit1]); (try simp only [lit2]); (try simp only [lit3]); (try simp only [Act.put]); (try simp only [lit4]); (try simp only [lit5]); (try simp only [lit6])
        refine wpAnyH_done (by kernel_rfl) ?_ _
        have KP10 : Hid (Kept (fun g => wkS q wk vf VO g ∨ g = pN) w9 (w10.setCell ⟨pN, 1, none⟩ (.string kt2))) := ((K10.out.mono fun _ _ => False.elim).setCell (.inl (.inr rfl)) _)
        have L0 : Hid (LvL w9 (w10.setCell ⟨pN, 1, none⟩ (.string kt2)) q wk vf VO root Z pN (.string kt2) WN vf (.slice none 0 0) []) :=
          ⟨(((TW0.out.keptF K8.out).keptF K9.out).keptF K10.out).asideOne HP10.out ((Kept.refl (· = pN) w10).set1 1 _) (by decide) (by decide) (by decide), KP10.out, fun g hg => .inl hg, heap_set HP10.out 1 _, IRow.nil _ _, fun _ h => by cases h⟩
        obtain ⟨wL, hwL⟩ : ∃ wL, wL = w10.setCell ⟨pN, 1, none⟩ (.string kt2) := ⟨_, rfl⟩
        rw [← hwL] at L0 ⊢
        have HKB : Hid (bt = if ln = 2 then bt else []) := (if_pos HH2.out).symm
        obtain ⟨kb, hkb⟩ : ∃ k, k = bt := ⟨_, rfl⟩
        rw [← hkb] at HK2
        have HKE : Hid (kb = if ln = 2 then bt else []) := by show _ = _; rw [hkb]; exact HKB.out
        clear hHeld CB hP10 fz10 cz10 k10 hwL KP10 hkb HKB
        go_wp2_with fail
        clear g9
        have HBL : Hid (∀ b, (wkS q wk vf VO b ∨ b = pN) → b < w8.heap.size) := by
          rintro b (e | e)
          · exact (TW0.out.keptF K8.out).lt b e
          · subst e; rw [S8.out]; exact Nat.lt_succ_self _
        have L9 : Hid (WkW w9 q wk vf VO WN root Z) := (TW0.out.keptF K8.out).keptF K9.out
        have TS9 : Hid (NdAp w9 (wkS q wk vf VO) (.agg #[.bool l, .slice (some ⟨gk, 0, none⟩) n1 c1, .slice P2 n2 c2, .slice (some ⟨g, 0, none⟩) n3 c3]) s.n) := (TS0.out.keptF K8.out).keptF K9.out
        have HST9 := Lib.hid ((K8.out.trans K9.out).heap HST.out id)
        have HR9 := Lib.hid ((K8.out.trans K9.out).heap HR0.out id)
        have TK9 : Hid (Kept (wkS q wk vf (.slice Ao (List.length UO) co)) w w9) := TK0.out.then (K8.out.trans K9.out) fun _ _ => False.elim
        have Z9 : Hid (Z ≤ w9.heap.size) := by have := TZ0.out; have := (K8.out.trans K9.out).size; show _ ≤ _; omega
        have VO9 : Hid (∀ b, VO.ownBlock = some b → b < w9.heap.size) := fun b hb => L9.out.lt b (.inr (.inr (.inr (.inr hb))))
        -- blocks of the call's own that no round turns
        have OFF : Hid (∀ {i : Nat} {cs : Array Value} {T : TypeId} {f : Nat × Nat}, w9.heap[i]? = some (.cells cs T f) → T = 157 ∨ T = 148 → ¬ (wkS q wk vf VO i ∨ i = pN)) := by
          rintro i cs T f hh hT ((e | e | e | e | e) | e)
          · subst e
            have h := L9.out.tw.sto.sp.row
            rw [h] at hh
            injection hh with hh
            injection hh with _ e _
            rcases hT with hT | hT <;> (rw [hT] at e; exact absurd e (by decide))
          · obtain ⟨es, clock, hm⟩ := L9.out.tw.sto.put.heap
            exact map_ne hm hh e
          · subst e
            have h := L9.out.blk
            rw [h] at hh
            injection hh with hh
            injection hh with _ e _
            rcases hT with hT | hT <;> (rw [hT] at e; exact absurd e (by decide))
          · exact own_neH L9.out.rf hh (by rcases hT with hT | hT <;> (rw [hT]; decide)) _ e rfl
          · exact own_neH L9.out.ro hh (by rcases hT with hT | hT <;> (rw [hT]; decide)) _ e rfl
          · subst e
            have h := K9.out.heap HP8.out id
            rw [h] at hh
            injection hh with hh
            injection hh with _ e _
            rcases hT with hT | hT <;> (rw [hT] at e; exact absurd e (by decide))
        have LNB : ln ≤ 2 := by have := L12.out; omega
        go_loopw [19, 20, 21, 126] (fun _ _ _ i wr => ∃ (k : Nat) (U : Wk) (vfk : Value) (Ap : Option Addr) (cp : Nat) (ids : List Nat), k ≤ ln ∧ i = .int .i64 k ∧ Hid (LvL w9 wr q wk vf VO root Z pN (.string kt2) U vfk (.slice Ap k cp) ids) ∧ Hid (ids.length = k ∧ putAll WN ns = (ids ++ (putAll U (ns.drop k)).1, (putAll U (ns.drop k)).2) ∧ U.fresh.length ≤ WN.fresh.length + k)) (fun _ _ _ i _ => ln - (RowKit.intOf i).toNat)
        case atStart => exact ⟨0, WN, vf, none, 0, [], Nat.zero_le _, rfl, L0.out, rfl, by simp, by simp⟩
        case round =>
          obtain ⟨k, U, vfk, Ap, cp, ids, hk, rfl, LL, LP⟩ := hrel
          by_cases hlt : k < ln
          · have hki : k < ns.length := by have := HLN.out; omega
            obtain ⟨x0, Y1, p1, o1, Y2, p2, o2, Y3, p3, o3, cc0, cc1, cc2, cc3, hnd, hgl⟩ := nds_at HNL.out LL.out.kp HBL.out rfl hki
            obtain ⟨nk, hnk⟩ : ∃ n, n = ns[k] := ⟨_, rfl⟩
            rw [← hnk] at hnd
            have HND := Lib.hid hnd
            have FN : Hid nk.Fit := FNS.out nk (by rw [hnk]; exact List.getElem_mem hki)
            have HDR : Hid (ns.drop k = nk :: ns.drop (k + 1)) := by show _ = _; rw [hnk]; exact List.drop_eq_getElem_cons hki
            have CP := Lib.hid (fun w' (kk : Kept (fun _ => False) wr w') => TWput_calls (LL.out.keptF kk).hw (HND.out.kept kk) FN.out (Nat.le_trans Z9.out (Nat.le_trans LL.out.kp.size kk.size)) (by have := LP.out.2.2; have := HWF.out; omega))
            obtain ⟨⟨⟨ti, te⟩, U'⟩, hpu⟩ : ∃ x, x = putP U nk := ⟨_, rfl⟩
            rw [← hpu] at CP
            have HPU := Lib.hid hpu
            clear hnd hpu hnk hki
            go_wp2_with fail
            refine (CP.out _ ((Kept.refl _ wr).alloc _)).mono ?_
            intro e w5 hp
            obtain ⟨rfl, vfk', LL5⟩ := (LL.out.keptF ((Kept.refl _ wr).alloc _)).put hp
            have L5 := Lib.hid LL5
            clear hp LL5 CP cc0 cc1 cc2 cc3 hgl
            dsimp only at L5 ⊢
            by_cases hz : te = 0
            · subst hz
              have hcp : w5.cell? ⟨pN, 0, none⟩ = some (.slice Ap k cp) := (cell_heap L5.out.pb 0).trans rfl
              have OWN : Hid ((w5.alloc (.cells #[.int .i64 (ti : Nat)] 3)).ownsRow 0 3 1 (.slice Ap k cp) k (ids.map I)) := by
                have h := L5.out.ip.keptF ((Kept.refl _ w5).alloc (.cells #[.int .i64 (ti : Nat)] 3))
                unfold IRow at h
                rw [LP.out.1] at h
                exact own_base h fun _ _ => Nat.zero_le _
              have M1' : Hid (k + 1 ≤ maxLen) := by show _ ≤ _; unfold maxLen; omega
              have M2' : Hid ((k + 1) * 8 ≤ 140737488355328) := by show _ ≤ _; omega
              have RD5 := Lib.hid (reads_one w5 (.int .i64 (ti : Nat)) 3)
              have fw5 : w5.frozen? ⟨pN, 0, none⟩ = false := free_heap L5.out.pb 0
              have lpN := lt_heap L5.out.pb
              go_wp2_with (at_builtin; (refine app_one (v := .slice Ap k cp) rfl (.tmp 141) (.tmp 143) rfl Tryz.underlying28 info_int rfl rfl OWN.out _ rfl RD5.out (ints_one [ti]) M1'.out M2'.out ?_; intro v' w6 hv' hg' hob; obtain ⟨A7, c7, rfl, hb6, hL6⟩ := L5.out.app VO9.out ((Kept.refl _ w5).alloc _) LP.out.1.symm hv' hg' hob; have HL6 := Lib.hid hL6; have e0 := (cell_heap hb6 0).trans rfl; have fw6 : w6.frozen? ⟨pN, 0, none⟩ = false := free_heap hb6 0; clear hv' hg' hob hL6 hb6 hcp fw5 lpN))
              go_roundw
              case rel =>
                refine ⟨k + 1, U', vfk', A7, c7, ids ++ [ti], by omega, by go_num, HL6.out, ?_⟩
                obtain ⟨a1, a2, a3⟩ := LP.out
                obtain ⟨b1, b2⟩ := putAll_step HPU.out.symm (ns.drop (k + 1))
                refine ⟨by rw [List.length_append, a1]; rfl, ?_, by omega⟩
                rw [a2, HDR.out, b1]
                simp
              case measure => simp [RowKit.intOf]; omega
            · have g10 : (te == 0) = false := by rw [beq_eq_false_iff_ne]; exact hz
              have g11 : (te != 0) = true := by rw [bne_iff_ne]; exact hz
              have hR5 := L5.out.kp.heap HR9.out (OFF.out HR9.out (.inr rfl))
              have HR5' := Lib.hid hR5
              obtain ⟨d0', d1', d2', d3'⟩ := nd_cells hR5
              have fz : ∀ i, w5.frozen? ⟨N + 1 + 1, i, none⟩ = false := fun i => free_heap hR5 i
              have HZE := Lib.hid hz
              have lR5 := lt_heap hR5
              clear hR5 hz
              go_wp2_with fail
              have hb4 := set4_heap HR5'.out (by simp) (.bool false) (.slice none 0 0) (.slice none 0 0) (.slice none 0 0)
              have k4 := set4_kept w5 (N + 1 + 1) (.bool false) (.slice none 0 0) (.slice none 0 0) (.slice none 0 0)
              obtain ⟨e0, e1, e2, e3⟩ := nd_cells hb4
              refine bodyPost_ret (v := .tuple #[.agg #[.bool false, .slice none 0 0, .slice none 0 0, .slice none 0 0], .int .i64 te]) (by simp [results, Tryz.f90, go_sem, e0, e1, e2, e3]) rfl ?_
              have hr : r = (nd0, te, U') := by
                have e : putAll WN ns = (ids, te, U') := by
                  rw [LP.out.2.1, HDR.out, putAll_bad HPU.out.symm HZE.out, List.append_nil]
                rw [HLV.out, e, if_pos HZE.out]
              rw [hr]
              have hn := HN.out
              have hpn := HPN.out
              refine ⟨_, vfk', VO, rfl, NdAp.new L5.out.hw (nd0_is _ w5.heap.size) (Nat.le_refl _), L5.out.hw.asideOne HR5'.out k4 (by decide) (by decide) (by decide), ?_, fun g hg => ?_⟩
              · refine (TK9.out.then L5.out.kp fun i hi e => ?_).then k4 fun i hi e => by omega
                rcases e with e | e
                · exact (TV0.out i e).resolve_right (by omega)
                · have := TK0.out.size; omega
              · rcases hg with e | e | e | e | e
                · exact .inl (.inl e)
                · exact .inl (.inr (.inl e))
                · exact .inl (.inr (.inr (.inl e)))
                · rcases L5.out.fk g e with e | e
                  · exact .inl (.inr (.inr (.inr (.inl e))))
                  · exact .inr (Nat.le_trans TK9.out.size e)
                · exact TV0.out g (.inr (.inr (.inr (.inr e))))
          · obtain rfl : k = ln := by omega
            have hST := LL.out.kp.heap HST9.out (OFF.out HST9.out (.inl rfl))
            have hR5 := LL.out.kp.heap HR9.out (OFF.out HR9.out (.inr rfl))
            have HR5' := Lib.hid hR5
            have x2 : wr.cell? ⟨N, 2, none⟩ = some (.bool l) := (cell_heap hST 2).trans rfl
            have x3 : wr.cell? ⟨N, 3, none⟩ = some (.slice (some ⟨gk, 0, none⟩) n1 c1) := (cell_heap hST 3).trans rfl
            have x4 : wr.cell? ⟨N, 4, none⟩ = some (.slice P2 n2 c2) := (cell_heap hST 4).trans rfl
            have x5 : wr.cell? ⟨N, 5, none⟩ = some (.slice (some ⟨g, 0, none⟩) n3 c3) := (cell_heap hST 5).trans rfl
            have y0 : wr.cell? ⟨pN, 0, none⟩ = some (.slice Ap k cp) := (cell_heap LL.out.pb 0).trans rfl
            have y1 : wr.cell? ⟨pN, 1, none⟩ = some (.string kt2) := (cell_heap LL.out.pb 1).trans rfl
            have KW : Hid (Kept (fun g => wkS q wk vf VO g ∨ g = pN) w0 wr) := ((K8.out.trans K9.out).mono fun _ _ => False.elim).then LL.out.kp fun _ _ e => e
            have SL : Hid (∀ g, wkS q wk vfk VO g → wkS q wk vf VO g ∨ w9.heap.size ≤ g) := by
              rintro g (e | e | e | e | e)
              · exact .inl (.inl e)
              · exact .inl (.inr (.inl e))
              · exact .inl (.inr (.inr (.inl e)))
              · rcases LL.out.fk g e with e | e
                · exact .inl (.inr (.inr (.inr (.inl e))))
                · exact .inr e
              · exact .inl (.inr (.inr (.inr (.inr e))))
            have TSr : Hid (NdAp wr (wkS q wk vfk VO) (.agg #[.bool l, .slice (some ⟨gk, 0, none⟩) n1 c1, .slice P2 n2 c2, .slice (some ⟨g, 0, none⟩) n3 c3]) s.n) := TS0.out.kept KW.out (fun g e => by
              rcases e with e | e
              · exact .inl e
              · exact .inr (by rw [e, HPN.out]; exact Nat.le_refl _)) (fun g e => by
              rcases SL.out g e with e | e
              · exact .inl e
              · exact .inr (Nat.le_trans (K8.out.trans K9.out).size e))
            have CR := Lib.hid fun w' (kk : Kept (fun _ => False) wr w') => TWrepl2_calls (TSr.out.keptF kk).zero (LL.out.ip.keptF kk) (by rw [LP.out.1]; exact L12.out) kb 0 (by have := HAT.out; have := HM.out; have := (HOK.out.inner HLF.out).1; omega) (HOK.out.inner HLF.out).2.1 (by have := HOK.out.len; omega)
            rw [← HK2.out] at CR
            clear hST hR5 hlt hk
            go_wp2_with fail
            refine (CR.out _ (Kept.refl _ wr)).mono ?_
            rintro e w6 ⟨vn, rfl, hn, k6⟩
            obtain ⟨lb', Z1, s1, t1, Z2, s2, t2, Z3, s3, t3, rfl⟩ := hn.agg
            have K6' := Lib.hid k6
            have NN := Lib.hid hn
            have hb3 := k6.heap HR5'.out not_false
            have HB3 := Lib.hid hb3
            obtain ⟨d0', d1', d2', d3'⟩ := nd_cells hb3
            have fz : ∀ i, w6.frozen? ⟨N + 1 + 1, i, none⟩ = false := fun i => free_heap hb3 i
            clear hn k6 CR hb3 x2 x3 x4 x5 y0 y1
            go_wp2_with fail
            have hb4 := set4_heap HB3.out (by simp) (.bool lb') (.slice Z1 s1 t1) (.slice Z2 s2 t2) (.slice Z3 s3 t3)
            have k4 := set4_kept w6 (N + 1 + 1) (.bool lb') (.slice Z1 s1 t1) (.slice Z2 s2 t2) (.slice Z3 s3 t3)
            obtain ⟨e0, e1, e2, e3⟩ := nd_cells hb4
            refine bodyPost_ret (v := .tuple #[.agg #[.bool lb', .slice Z1 s1 t1, .slice Z2 s2 t2, .slice Z3 s3 t3], .int .i64 0]) (by simp [results, Tryz.f90, go_sem, e0, e1, e2, e3]) rfl ?_
            have hr : r = (s.n.repl 0 (0 + 2) ids kb, 0, U) := by
              have e : putAll WN ns = (ids, 0, U) := by
                rw [LP.out.2.1, HLN.out, List.drop_length]; simp [putAll]
              rw [HLV.out, e, if_neg (by simp), ← HKE.out]
            rw [hr]
            have hn := HN.out
            have hpn := HPN.out
            refine ⟨_, vfk, VO, rfl, NdAp.new LL.out.hw (NN.out.keptB HB3.out k4 fun _ e => e) (Nat.le_refl _), (LL.out.hw.keptF K6'.out).asideOne HB3.out k4 (by decide) (by decide) (by decide), ?_, fun g hg => ?_⟩
            · refine ((TK9.out.then LL.out.kp fun i hi e => ?_).then K6'.out fun i hi e => e.elim).then k4 fun i hi e => by omega
              rcases e with e | e
              · exact (TV0.out i e).resolve_right (by omega)
              · have := TK0.out.size; omega
            · rcases SL.out g hg with e | e
              · exact TV0.out g e
              · exact .inr (Nat.le_trans TK9.out.size e)
      · have g9 : ((ln : Int) == 2) = false := by rw [beq_eq_false_iff_ne]; omega
        have HK2 : Hid ((⟨#[]⟩ : ByteArray) = ba []) := rfl
        have L0 : Hid (LvL w9 w9 q wk vf VO root Z pN (.string ⟨#[]⟩) WN vf (.slice none 0 0) []) :=
          ⟨(TW0.out.keptF K8.out).keptF K9.out, Kept.refl _ _, fun g hg => .inl hg, K9.out.heap HP8.out id, IRow.nil _ _, fun _ h => by cases h⟩
        obtain ⟨kt2, hkt2⟩ : ∃ t : ByteArray, t = ⟨#[]⟩ := ⟨_, rfl⟩
        obtain ⟨kb, hkb⟩ : ∃ k : Bs, k = [] := ⟨_, rfl⟩
        have HKE : Hid (kb = if ln = 2 then bt else []) := by show _ = _; rw [if_neg h2]; exact hkb
        rw [← hkt2, ← hkb] at HK2
        rw [← hkt2] at L0
        clear FBK hkt2 h2 hkb
        go_wp2_with fail
        clear g9
        have HBL : Hid (∀ b, (wkS q wk vf VO b ∨ b = pN) → b < w8.heap.size) := by
          rintro b (e | e)
          · exact (TW0.out.keptF K8.out).lt b e
          · subst e; rw [S8.out]; exact Nat.lt_succ_self _
        have L9 : Hid (WkW w9 q wk vf VO WN root Z) := (TW0.out.keptF K8.out).keptF K9.out
        have TS9 : Hid (NdAp w9 (wkS q wk vf VO) (.agg #[.bool l, .slice (some ⟨gk, 0, none⟩) n1 c1, .slice P2 n2 c2, .slice (some ⟨g, 0, none⟩) n3 c3]) s.n) := (TS0.out.keptF K8.out).keptF K9.out
        have HST9 := Lib.hid ((K8.out.trans K9.out).heap HST.out id)
        have HR9 := Lib.hid ((K8.out.trans K9.out).heap HR0.out id)
        have TK9 : Hid (Kept (wkS q wk vf (.slice Ao (List.length UO) co)) w w9) := TK0.out.then (K8.out.trans K9.out) fun _ _ => False.elim
        have Z9 : Hid (Z ≤ w9.heap.size) := by have := TZ0.out; have := (K8.out.trans K9.out).size; show _ ≤ _; omega
        have VO9 : Hid (∀ b, VO.ownBlock = some b → b < w9.heap.size) := fun b hb => L9.out.lt b (.inr (.inr (.inr (.inr hb))))
        -- blocks of the call's own that no round turns
        have OFF : Hid (∀ {i : Nat} {cs : Array Value} {T : TypeId} {f : Nat × Nat}, w9.heap[i]? = some (.cells cs T f) → T = 157 ∨ T = 148 → ¬ (wkS q wk vf VO i ∨ i = pN)) := by
          rintro i cs T f hh hT ((e | e | e | e | e) | e)
          · subst e
            have h := L9.out.tw.sto.sp.row
            rw [h] at hh
            injection hh with hh
            injection hh with _ e _
            rcases hT with hT | hT <;> (rw [hT] at e; exact absurd e (by decide))
          · obtain ⟨es, clock, hm⟩ := L9.out.tw.sto.put.heap
            exact map_ne hm hh e
          · subst e
            have h := L9.out.blk
            rw [h] at hh
            injection hh with hh
            injection hh with _ e _
            rcases hT with hT | hT <;> (rw [hT] at e; exact absurd e (by decide))
          · exact own_neH L9.out.rf hh (by rcases hT with hT | hT <;> (rw [hT]; decide)) _ e rfl
          · exact own_neH L9.out.ro hh (by rcases hT with hT | hT <;> (rw [hT]; decide)) _ e rfl
          · subst e
            have h := K9.out.heap HP8.out id
            rw [h] at hh
            injection hh with hh
            injection hh with _ e _
            rcases hT with hT | hT <;> (rw [hT] at e; exact absurd e (by decide))
        have LNB : ln ≤ 2 := by have := L12.out; omega
        go_loopw [19, 20, 21, 126] (fun _ _ _ i wr => ∃ (k : Nat) (U : Wk) (vfk : Value) (Ap : Option Addr) (cp : Nat) (ids : List Nat), k ≤ ln ∧ i = .int .i64 k ∧ Hid (LvL w9 wr q wk vf VO root Z pN (.string kt2) U vfk (.slice Ap k cp) ids) ∧ Hid (ids.length = k ∧ putAll WN ns = (ids ++ (putAll U (ns.drop k)).1, (putAll U (ns.drop k)).2) ∧ U.fresh.length ≤ WN.fresh.length + k)) (fun _ _ _ i _ => ln - (RowKit.intOf i).toNat)
        case atStart => exact ⟨0, WN, vf, none, 0, [], Nat.zero_le _, rfl, L0.out, rfl, by simp, by simp⟩
        case round =>
          obtain ⟨k, U, vfk, Ap, cp, ids, hk, rfl, LL, LP⟩ := hrel
          by_cases hlt : k < ln
          · have hki : k < ns.length := by have := HLN.out; omega
            obtain ⟨x0, Y1, p1, o1, Y2, p2, o2, Y3, p3, o3, cc0, cc1, cc2, cc3, hnd, hgl⟩ := nds_at HNL.out LL.out.kp HBL.out rfl hki
            obtain ⟨nk, hnk⟩ : ∃ n, n = ns[k] := ⟨_, rfl⟩
            rw [← hnk] at hnd
            have HND := Lib.hid hnd
            have FN : Hid nk.Fit := FNS.out nk (by rw [hnk]; exact List.getElem_mem hki)
            have HDR : Hid (ns.drop k = nk :: ns.drop (k + 1)) := by show _ = _; rw [hnk]; exact List.drop_eq_getElem_cons hki
            have CP := Lib.hid (fun w' (kk : Kept (fun _ => False) wr w') => TWput_calls (LL.out.keptF kk).hw (HND.out.kept kk) FN.out (Nat.le_trans Z9.out (Nat.le_trans LL.out.kp.size kk.size)) (by have := LP.out.2.2; have := HWF.out; omega))
            obtain ⟨⟨⟨ti, te⟩, U'⟩, hpu⟩ : ∃ x, x = putP U nk := ⟨_, rfl⟩
            rw [← hpu] at CP
            have HPU := Lib.hid hpu
            clear hnd hpu hnk hki
            go_wp2_with fail
            refine (CP.out _ ((Kept.refl _ wr).alloc _)).mono ?_
            intro e w5 hp
            obtain ⟨rfl, vfk', LL5⟩ := (LL.out.keptF ((Kept.refl _ wr).alloc _)).put hp
            have L5 := Lib.hid LL5
            clear hp LL5 CP cc0 cc1 cc2 cc3 hgl
            dsimp only at L5 ⊢
            by_cases hz : te = 0
            · subst hz
              have hcp : w5.cell? ⟨pN, 0, none⟩ = some (.slice Ap k cp) := (cell_heap L5.out.pb 0).trans rfl
              have OWN : Hid ((w5.alloc (.cells #[.int .i64 (ti : Nat)] 3)).ownsRow 0 3 1 (.slice Ap k cp) k (ids.map I)) := by
                have h := L5.out.ip.keptF ((Kept.refl _ w5).alloc (.cells #[.int .i64 (ti : Nat)] 3))
                unfold IRow at h
                rw [LP.out.1] at h
                exact own_base h fun _ _ => Nat.zero_le _
              have M1' : Hid (k + 1 ≤ maxLen) := by show _ ≤ _; unfold maxLen; omega
              have M2' : Hid ((k + 1) * 8 ≤ 140737488355328) := by show _ ≤ _; omega
              have RD5 := Lib.hid (reads_one w5 (.int .i64 (ti : Nat)) 3)
              have fw5 : w5.frozen? ⟨pN, 0, none⟩ = false := free_heap L5.out.pb 0
              have lpN := lt_heap L5.out.pb
              go_wp2_with (at_builtin; (refine app_one (v := .slice Ap k cp) rfl (.tmp 141) (.tmp 143) rfl Tryz.underlying28 info_int rfl rfl OWN.out _ rfl RD5.out (ints_one [ti]) M1'.out M2'.out ?_; intro v' w6 hv' hg' hob; obtain ⟨A7, c7, rfl, hb6, hL6⟩ := L5.out.app VO9.out ((Kept.refl _ w5).alloc _) LP.out.1.symm hv' hg' hob; have HL6 := Lib.hid hL6; have e0 := (cell_heap hb6 0).trans rfl; have fw6 : w6.frozen? ⟨pN, 0, none⟩ = false := free_heap hb6 0; clear hv' hg' hob hL6 hb6 hcp fw5 lpN))
              go_roundw
              case rel =>
                refine ⟨k + 1, U', vfk', A7, c7, ids ++ [ti], by omega, by go_num, HL6.out, ?_⟩
                obtain ⟨a1, a2, a3⟩ := LP.out
                obtain ⟨b1, b2⟩ := putAll_step HPU.out.symm (ns.drop (k + 1))
                refine ⟨by rw [List.length_append, a1]; rfl, ?_, by omega⟩
                rw [a2, HDR.out, b1]
                simp
              case measure => simp [RowKit.intOf]; omega
            · have g10 : (te == 0) = false := by rw [beq_eq_false_iff_ne]; exact hz
              have g11 : (te != 0) = true := by rw [bne_iff_ne]; exact hz
              have hR5 := L5.out.kp.heap HR9.out (OFF.out HR9.out (.inr rfl))
              have HR5' := Lib.hid hR5
              obtain ⟨d0', d1', d2', d3'⟩ := nd_cells hR5
              have fz : ∀ i, w5.frozen? ⟨N + 1 + 1, i, none⟩ = false := fun i => free_heap hR5 i
              have HZE := Lib.hid hz
              have lR5 := lt_heap hR5
              clear hR5 hz
              go_wp2_with fail
              have hb4 := set4_heap HR5'.out (by simp) (.bool false) (.slice none 0 0) (.slice none 0 0) (.slice none 0 0)
              have k4 := set4_kept w5 (N + 1 + 1) (.bool false) (.slice none 0 0) (.slice none 0 0) (.slice none 0 0)
              obtain ⟨e0, e1, e2, e3⟩ := nd_cells hb4
              refine bodyPost_ret (v := .tuple #[.agg #[.bool false, .slice none 0 0, .slice none 0 0, .slice none 0 0], .int .i64 te]) (by simp [results, Tryz.f90, go_sem, e0, e1, e2, e3]) rfl ?_
              have hr : r = (nd0, te, U') := by
                have e : putAll WN ns = (ids, te, U') := by
                  rw [LP.out.2.1, HDR.out, putAll_bad HPU.out.symm HZE.out, List.append_nil]
                rw [HLV.out, e, if_pos HZE.out]
              rw [hr]
              have hn := HN.out
              have hpn := HPN.out
              refine ⟨_, vfk', VO, rfl, NdAp.new L5.out.hw (nd0_is _ w5.heap.size) (Nat.le_refl _), L5.out.hw.asideOne HR5'.out k4 (by decide) (by decide) (by decide), ?_, fun g hg => ?_⟩
              · refine (TK9.out.then L5.out.kp fun i hi e => ?_).then k4 fun i hi e => by omega
                rcases e with e | e
                · exact (TV0.out i e).resolve_right (by omega)
                · have := TK0.out.size; omega
              · rcases hg with e | e | e | e | e
                · exact .inl (.inl e)
                · exact .inl (.inr (.inl e))
                · exact .inl (.inr (.inr (.inl e)))
                · rcases L5.out.fk g e with e | e
                  · exact .inl (.inr (.inr (.inr (.inl e))))
                  · exact .inr (Nat.le_trans TK9.out.size e)
                · exact TV0.out g (.inr (.inr (.inr (.inr e))))
          · obtain rfl : k = ln := by omega
            have hST := LL.out.kp.heap HST9.out (OFF.out HST9.out (.inl rfl))
            have hR5 := LL.out.kp.heap HR9.out (OFF.out HR9.out (.inr rfl))
            have HR5' := Lib.hid hR5
            have x2 : wr.cell? ⟨N, 2, none⟩ = some (.bool l) := (cell_heap hST 2).trans rfl
            have x3 : wr.cell? ⟨N, 3, none⟩ = some (.slice (some ⟨gk, 0, none⟩) n1 c1) := (cell_heap hST 3).trans rfl
            have x4 : wr.cell? ⟨N, 4, none⟩ = some (.slice P2 n2 c2) := (cell_heap hST 4).trans rfl
            have x5 : wr.cell? ⟨N, 5, none⟩ = some (.slice (some ⟨g, 0, none⟩) n3 c3) := (cell_heap hST 5).trans rfl
            have y0 : wr.cell? ⟨pN, 0, none⟩ = some (.slice Ap k cp) := (cell_heap LL.out.pb 0).trans rfl
            have y1 : wr.cell? ⟨pN, 1, none⟩ = some (.string kt2) := (cell_heap LL.out.pb 1).trans rfl
            have KW : Hid (Kept (fun g => wkS q wk vf VO g ∨ g = pN) w0 wr) := ((K8.out.trans K9.out).mono fun _ _ => False.elim).then LL.out.kp fun _ _ e => e
            have SL : Hid (∀ g, wkS q wk vfk VO g → wkS q wk vf VO g ∨ w9.heap.size ≤ g) := by
              rintro g (e | e | e | e | e)
              · exact .inl (.inl e)
              · exact .inl (.inr (.inl e))
              · exact .inl (.inr (.inr (.inl e)))
              · rcases LL.out.fk g e with e | e
                · exact .inl (.inr (.inr (.inr (.inl e))))
                · exact .inr e
              · exact .inl (.inr (.inr (.inr (.inr e))))
            have TSr : Hid (NdAp wr (wkS q wk vfk VO) (.agg #[.bool l, .slice (some ⟨gk, 0, none⟩) n1 c1, .slice P2 n2 c2, .slice (some ⟨g, 0, none⟩) n3 c3]) s.n) := TS0.out.kept KW.out (fun g e => by
              rcases e with e | e
              · exact .inl e
              · exact .inr (by rw [e, HPN.out]; exact Nat.le_refl _)) (fun g e => by
              rcases SL.out g e with e | e
              · exact .inl e
              · exact .inr (Nat.le_trans (K8.out.trans K9.out).size e))
            have CR := Lib.hid fun w' (kk : Kept (fun _ => False) wr w') => TWrepl2_calls (TSr.out.keptF kk).zero (LL.out.ip.keptF kk) (by rw [LP.out.1]; exact L12.out) kb 0 (by have := HAT.out; have := HM.out; have := (HOK.out.inner HLF.out).1; omega) (HOK.out.inner HLF.out).2.1 (by have := HOK.out.len; omega)
            rw [← HK2.out] at CR
            clear hST hR5 hlt hk
            go_wp2_with fail
            refine (CR.out _ (Kept.refl _ wr)).mono ?_
            rintro e w6 ⟨vn, rfl, hn, k6⟩
            obtain ⟨lb', Z1, s1, t1, Z2, s2, t2, Z3, s3, t3, rfl⟩ := hn.agg
            have K6' := Lib.hid k6
            have NN := Lib.hid hn
            have hb3 := k6.heap HR5'.out not_false
            have HB3 := Lib.hid hb3
            obtain ⟨d0', d1', d2', d3'⟩ := nd_cells hb3
            have fz : ∀ i, w6.frozen? ⟨N + 1 + 1, i, none⟩ = false := fun i => free_heap hb3 i
            clear hn k6 CR hb3 x2 x3 x4 x5 y0 y1
            go_wp2_with fail
            have hb4 := set4_heap HB3.out (by simp) (.bool lb') (.slice Z1 s1 t1) (.slice Z2 s2 t2) (.slice Z3 s3 t3)
            have k4 := set4_kept w6 (N + 1 + 1) (.bool lb') (.slice Z1 s1 t1) (.slice Z2 s2 t2) (.slice Z3 s3 t3)
            obtain ⟨e0, e1, e2, e3⟩ := nd_cells hb4
            refine bodyPost_ret (v := .tuple #[.agg #[.bool lb', .slice Z1 s1 t1, .slice Z2 s2 t2, .slice Z3 s3 t3], .int .i64 0]) (by simp [results, Tryz.f90, go_sem, e0, e1, e2, e3]) rfl ?_
            have hr : r = (s.n.repl 0 (0 + 2) ids kb, 0, U) := by
              have e : putAll WN ns = (ids, 0, U) := by
                rw [LP.out.2.1, HLN.out, List.drop_length]; simp [putAll]
              rw [HLV.out, e, if_neg (by simp), ← HKE.out]
            rw [hr]
            have hn := HN.out
            have hpn := HPN.out
            refine ⟨_, vfk, VO, rfl, NdAp.new LL.out.hw (NN.out.keptB HB3.out k4 fun _ e => e) (Nat.le_refl _), (LL.out.hw.keptF K6'.out).asideOne HB3.out k4 (by decide) (by decide) (by decide), ?_, fun g hg => ?_⟩
            · refine ((TK9.out.then LL.out.kp fun i hi e => ?_).then K6'.out fun i hi e => e.elim).then k4 fun i hi e => by omega
              rcases e with e | e
              · exact (TV0.out i e).resolve_right (by omega)
              · have := TK0.out.size; omega
            · rcases SL.out g hg with e | e
              · exact TV0.out g e
              · exact .inr (Nat.le_trans TK9.out.size e)
    | _ => exact hq.elim
end Go.Proofs.YtfgjehecjgebdaaGreat
