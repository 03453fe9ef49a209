/- The tree: Delete of a key that is there. -/
import Derived.Test.YtfgjehecjgebdaaGreatMg49
namespace Go.Proofs.YtfgjehecjgebdaaGreat
open Go.RowKit Go.Maps Go.ChangeMaps
attribute [local go_sem] Oper.semAt_some
theorem getT_found {X : Sto} {root : Int} {k v : Bs} (h : getT X root k = ((v, true), 0)) : ∃ r : Nat, root = r ∧ (downT X k 12 r).2 = 0 := by
  unfold getT at h
  split at h
  · injection h with h _; injection h with _ h; cases h
  · next hr =>
    obtain ⟨r, rfl⟩ := Int.eq_ofNat_of_zero_le (a := root) (by omega)
    rw [Int.toNat_natCast] at h
    split at h
    · injection h with h _; injection h with _ h; cases h
    · next hd => exact ⟨r, rfl, Classical.not_not.1 hd⟩
/-- What stands in a call of Delete once its work is made. -/
structure DlB (w w2 : World) (q : TQ) (root : Int) (B E wkb b12 : Nat) (U : Wk) (vf vo : Value) (n : Nd) (vn : Array Value) (W : World) : Prop where
  kw : Kept (fun k => k = q.c ∨ k = q.m) w W
  kz : Kept (fun b => b < B ∨ E ≤ b) w2 W
  hw : WkW W q wkb vf vo U root E
  bn : W.heap[b12]? = some (.cells vn 148 (0, 0))
  nd : NdAp W (wkS q wkb vf vo) (.agg vn) n
theorem DlB.keptF {w w2 q root B E wkb b12 U vf vo n vn W W'} (h : DlB w w2 q root B E wkb b12 U vf vo n vn W) (k : Kept (fun _ => False) W W') : DlB w w2 q root B E wkb b12 U vf vo n vn W' :=
  ⟨h.kw.then k fun _ _ e => e.elim, h.kz.then k fun _ _ e => e.elim, h.hw.keptF k, k.heap h.bn id, h.nd.keptF k⟩
theorem WkW.off2 {w q wk vf vo W root Z} (h : WkW w q wk vf vo W root Z) {i : Nat} {cs : Array Value} {T : TypeId} {f : Nat × Nat} (hh : w.heap[i]? = some (.cells cs T f)) (hT : T = 157 ∨ T = 148) : ¬ wkS q wk vf vo i := by
  rintro (e | e | e | e | e)
  · subst e
    have h := h.tw.sto.sp.row
    rw [h] at hh
    injection hh with hh
    injection hh with _ e _
    rcases hT with hT | hT <;> (rw [hT] at e; exact absurd e (by decide))
  · obtain ⟨es, clock, hm⟩ := h.tw.sto.put.heap
    exact map_ne hm hh e
  · subst e
    have h := h.blk
    rw [h] at hh
    injection hh with hh
    injection hh with _ e _
    rcases hT with hT | hT <;> (rw [hT] at e; exact absurd e (by decide))
  · exact own_neH h.rf hh (by rcases hT with hT | hT <;> (rw [hT]; decide)) _ e rfl
  · exact own_neH h.ro hh (by rcases hT with hT | hT <;> (rw [hT]; decide)) _ e rfl
theorem IsWay.blk {w B E g n c L} (h : IsWay w B E (.slice (some ⟨g, 0, none⟩) n c) L) : B ≤ g ∧ g < E ∧ ∃ cs f, w.heap[g]? = some (.cells cs 157 f) := by
  obtain ⟨cs, ho, h2, -⟩ := h
  obtain ⟨cs', f, hh⟩ := own_type ho rfl
  exact ⟨own_ge ho rfl, h2 g rfl, cs', f, hh⟩
theorem IsWay.idAt {w B E g n c L} (h : IsWay w B E (.slice (some ⟨g, 0, none⟩) n c) L) {i : Nat} (hi : i < L.length) : w.cell? ⟨g, i * 6, none⟩ = some (.int .i64 L[i].id) ∧ g < w.heap.size := by
  obtain ⟨g', c', v0, v1, v2, v3, e, hg, h0, -⟩ := h.at hi
  injection e with e _ _
  injection e with e
  injection e with e _ _
  subst e
  exact ⟨h0, hg⟩
theorem NdAp.set {w w' S v n N cs f} {T : Nat → Prop} (h : NdAp w S v n) (hN : w.heap[N]? = some (.cells cs 148 f)) (k : Kept T w w') (hT : ∀ i, T i → i = N) : NdAp w' S v n := ⟨h.1.keptB hN k hT, h.2⟩
theorem sinkP_cons {U : Wk} {n : Nd} {st : Stp} {l : List Stp} {n5 : Nd} {e5 : Int} {U5 : Wk} (h : (n5, e5, U5) = levelP U st n) : (e5 ≠ 0 → sinkP U n (st :: l) = (n5, e5, U5)) ∧ (e5 = 0 → sinkP U n (st :: l) = sinkP (U5.add st.id) n5 l) := by
  simp only [sinkP]
  rw [← h]
  exact ⟨fun h => if_pos h, fun h => if_neg (fun h' => h' h)⟩
set_option maxRecDepth 100000 in
set_option maxHeartbeats 4000000 in
theorem TreeDelete_way {w q X} {root : Nat} {v : Bs} (h : TW w q X root) (k : Bs) (hg : getT X root k = ((v, true), 0)) (hd : (downT X k 12 root).2 = 0) :
    Calls Tryz.prog 35 #[.pointer (some ⟨q.t, 0, none⟩), .string (ba k)] w (DelTo (delT X root k) w q) := by
  have CG := Lib.hid (TreeGet_calls h k)
  have CD := Lib.hid fun w' (kk : Kept (fun _ => False) w w') => TreeDown_calls (h.keptF kk) k
  rw [hg] at CG
  unfold GetTo at CG
  dsimp only at CG
  obtain ⟨R, hR⟩ : ∃ R, R = downT X k 12 root := ⟨_, rfl⟩
  have HWO : Hid (WayOk 12 k R.1) := by show WayOk _ _ _; rw [hR]; exact downT_ok 12 root hd
  rw [← hR] at CD hd
  obtain ⟨L, er⟩ := R
  simp only at hd
  subst hd
  unfold DownTo at CD
  dsimp only at CD HWO
  have hlen : 0 < L.length := List.length_pos_iff.2 HWO.out.ne
  obtain ⟨m, hm⟩ : ∃ m, m = L.length - 1 := ⟨_, rfl⟩
  obtain ⟨s, hs⟩ : ∃ s, s = L[L.length - 1] := ⟨_, rfl⟩
  have hrev : L.reverse = s :: (L.take m).reverse := by
    have e : L = L.take m ++ [s] := by
      rw [hs, hm]
      have := List.take_append_drop (L.length - 1) L
      rw [List.drop_eq_getElem_cons (by omega), show L.length - 1 + 1 = L.length by omega, List.drop_length] at this
      exact this.symm
    conv => lhs; rw [e]
    simp
  obtain ⟨r, hr⟩ : ∃ r, r = delT X root k := ⟨_, rfl⟩
  have HD : Hid (r = if (sinkP ((wk0 X).add s.id) (s.n.cut k) (L.take m).reverse).2.1 ≠ 0 then (false, doneP (sinkP ((wk0 X).add s.id) (s.n.cut k) (L.take m).reverse).2.2 0 (sinkP ((wk0 X).add s.id) (s.n.cut k) (L.take m).reverse).2.1 root) else
    if (sinkP ((wk0 X).add s.id) (s.n.cut k) (L.take m).reverse).1.leaf = true ∧ (sinkP ((wk0 X).add s.id) (s.n.cut k) (L.take m).reverse).1.len = 0 then (true, doneP (sinkP ((wk0 X).add s.id) (s.n.cut k) (L.take m).reverse).2.2 (-1) 0 root) else
    if (sinkP ((wk0 X).add s.id) (s.n.cut k) (L.take m).reverse).1.leaf = false ∧ (sinkP ((wk0 X).add s.id) (s.n.cut k) (L.take m).reverse).1.len = 1 then (true, doneP (sinkP ((wk0 X).add s.id) (s.n.cut k) (L.take m).reverse).2.2 ((sinkP ((wk0 X).add s.id) (s.n.cut k) (L.take m).reverse).1.kids.getD 0 0) 0 root) else
    (decide ((putP (sinkP ((wk0 X).add s.id) (s.n.cut k) (L.take m).reverse).2.2 (sinkP ((wk0 X).add s.id) (s.n.cut k) (L.take m).reverse).1).1.2 = 0), doneP (putP (sinkP ((wk0 X).add s.id) (s.n.cut k) (L.take m).reverse).2.2 (sinkP ((wk0 X).add s.id) (s.n.cut k) (L.take m).reverse).1).2 (putP (sinkP ((wk0 X).add s.id) (s.n.cut k) (L.take m).reverse).2.2 (sinkP ((wk0 X).add s.id) (s.n.cut k) (L.take m).reverse).1).1.1 (putP (sinkP ((wk0 X).add s.id) (s.n.cut k) (L.take m).reverse).2.2 (sinkP ((wk0 X).add s.id) (s.n.cut k) (L.take m).reverse).1).1.2 root)) := by
    show _ = _
    rw [hr]
    unfold delT
    rw [hg, if_neg (by simp), Int.toNat_natCast, ← hR, hrev]
  obtain ⟨Y, hY⟩ : ∃ Y, Y = sinkP ((wk0 X).add s.id) (s.n.cut k) (L.take m).reverse := ⟨_, rfl⟩
  rw [← hY] at HD
  have HY := Lib.hid hY
  rw [← hr]
  obtain ⟨ks, hks⟩ : ∃ s, s = ba k := ⟨_, rfl⟩
  obtain ⟨vs, hvs⟩ : ∃ s, s = ba v := ⟨_, rfl⟩
  rw [← hks] at CG CD ⊢
  rw [← hvs] at CG
  have HKS := Lib.hid hks
  have H := Lib.hid h
  have hl12 := HWO.out.len
  have HLM : Hid (L.length = m + 1) := by show _ = _; omega
  have hlast : L.getLast? = some s := by rw [List.getLast?_eq_getElem?, List.getElem?_eq_getElem (by omega), hs]
  have HOK : Hid (s.n.Ok ∧ s.n.leaf = true) := ⟨(HWO.out.ok s (by rw [hs]; exact List.getElem_mem _)).1, HWO.out.last s hlast⟩
  have HSL : Hid (∀ hh : m < L.length, L[m] = s) := fun hh => by rw [hs]; congr
  have hm11 : m ≤ 11 := by omega
  clear h hg hR hrev hr hks hvs hlast hs hm hY hlen hl12
  go_enter Tryz.func35, Tryz.ntmps35
  go_wp2_with fail
  refine CG.out.mono ?_
  rintro e w1 ⟨rfl, k1⟩
  have K1 := Lib.hid k1
  clear k1 CG
  go_wp2_with fail
  refine (CD.out _ K1.out).mono ?_
  rintro e w2 ⟨k2, v1, rfl, hw1⟩
  have K2 := Lib.hid (K1.out.trans k2)
  have K12 := Lib.hid k2
  obtain ⟨g, cw, u0, u1, u2, u3, rfl, hgl, c0, c1, c2, c3, c4, c5, hn, hlt⟩ := hw1.at (i := m) (by have := HLM.out; omega)
  have hLm := HSL.out (by have := HLM.out; omega)
  rw [hLm] at c0 c1 hn
  have HW := Lib.hid hw1
  rw [HLM.out] at HW ⊢
  obtain ⟨l, A1, n1, d1, A2, n2, d2, A3, n3, d3, e, HE, N1, R1, R2, R3⟩ := hn.opened
  injection e with e
  injection e with e
  injection e with e0 e
  injection e with e1 e
  injection e with e2 e
  injection e with e3 e
  subst e0 e1 e2 e3
  have CC := Lib.hid fun w' (kk : Kept (fun _ => False) w2 w') => NdCut_calls ((N1.out.kept kk).base (Nat.zero_le _)) (Nat.zero_le _) HOK.out.1.sm HOK.out.1.up HOK.out.2 (HOK.out.1.leaf HOK.out.2).1 k
  rw [← HKS.out] at CC
  have HLT := Lib.hid hlt
  clear k2 CD hw1 hLm hn hlt e
  go_wp2_with fail
  refine (CC.out _ (((Kept.refl _ w2).alloc _).alloc _)).mono ?_
  rintro e w3 ⟨vc, rfl, hnc, k3⟩
  obtain ⟨cl, Z1, s1, t1, Z2, s2, t2, Z3, s3, t3, rfl⟩ := hnc.agg
  have HN3 := Lib.hid hnc
  have hw3 := k3.heap (heap_old (heap_new w2 (.cells #[.pointer (some ⟨q.t, 0, none⟩), .slice none 0 0, .slice none 0 0] 162)) _) id
  have hl3 : w3.heap[w2.heap.size + 1]? = some (.cells #[.int .i64 (s.id : Int), .int .i64 (s.at_ : Int), .bool l, .slice A1 n1 d1, .slice A2 n2 d2, .slice A3 n3 d3] 157 (0, 0)) := k3.heap (heap_newAt (by simp) _) id
  obtain ⟨E, hE⟩ : ∃ n, n = w2.heap.size := ⟨_, rfl⟩
  rw [← hE] at hw3 hl3 ⊢
  have HE2 := Lib.hid hE
  have K3 : Hid (Kept (fun _ => False) w2 w3) := (((Kept.refl _ w2).alloc _).alloc _).trans k3
  have HW3 := Lib.hid hw3; have HL3 := Lib.hid hl3
  have le1 := lt_heap hw3
  have le2 := lt_heap hl3
  obtain ⟨y0, y1, y2⟩ := wk_cells hw3
  have z0 : w3.cell? ⟨E + 1, 0, none⟩ = some (.int .i64 s.id) := (cell_heap hl3 0).trans rfl
  clear hnc k3 CC hw3 hl3 hE c0 c1 c2 c3 c4 c5
  go_wp2_with fail
  obtain ⟨b12, hb12⟩ : ∃ n, n = w3.heap.size := ⟨_, rfl⟩
  obtain ⟨w4, hw4⟩ : ∃ w4, w4 = w3.alloc (.cells #[.bool cl, .slice Z1 s1 t1, .slice Z2 s2 t2, .slice Z3 s3 t3] 148) := ⟨_, rfl⟩
  rw [← hw4, ← hb12]
  have K4 : Hid (Kept (fun _ => False) w3 w4) := by rw [hw4]; exact (Kept.refl _ _).alloc _
  have HB4 : Hid (w4.heap[b12]? = some (.cells #[.bool cl, .slice Z1 s1 t1, .slice Z2 s2 t2, .slice Z3 s3 t3] 148 (0, 0))) := by show _ = _; rw [hw4, hb12]; exact heap_new w3 _
  have T4 : Hid (TW w4 q X root) := H.out.keptF ((K2.out.trans K3.out).trans K4.out)
  have W4 : Hid (WkW w4 q E (.slice none 0 0) (.slice none 0 0) ⟨X, [], []⟩ root E) := WkW.new T4.out (K4.out.heap HW3.out id) E
  have HL4 := Lib.hid (K4.out.heap HL3.out id)
  have N4 : Hid (NdAp w4 (wkS q E (.slice none 0 0) (.slice none 0 0)) (.agg #[.bool cl, .slice Z1 s1 t1, .slice Z2 s2 t2, .slice Z3 s3 t3]) (s.n.cut k)) := NdAp.first W4.out (HN3.out.kept K4.out)
  have EB : Hid (E + 2 ≤ b12) := by show _ ≤ _; omega
  have CC : Hid (∀ w', Kept (· = E) w4 w' → w'.cell? ⟨E + 1, 0, none⟩ = some (.int .i64 s.id)) := fun w' kk => (cell_heap (kk.heap HL4.out (by omega)) 0).trans rfl
  have hC1 : w4.drew.cell? ⟨E, 2, none⟩ = some (.slice none 0 0) := (wk_cells W4.out.blk).2.2
  have hC2 := CC.out w4.drew (Kept.refl _ w4).drew
  clear hw4 hb12 y0 y1 y2 z0 le1 le2
  refine wp_region_z 11 (fun w' => w'.cell? ⟨E, 2, none⟩ = some (.slice none 0 0) ∧ w'.cell? ⟨E + 1, 0, none⟩ = some (.int .i64 s.id)) (by kernel_rfl) ⟨hC1, hC2⟩ (fun hC => ?_)
  clear hC1 hC2
  refine wpAnyZ_take (i := 0) (v := ?_) rfl (by kernel_rfl) (by kernel_rfl) (by kernel_rfl) (fun _ _ _ h => h) (Or.inl ⟨by rfl, ?_⟩) (by assumption) (by kernel_rfl) ?_
  rotate_left
  · intro w' hSw; (try dsimp only at hSw); go_simp; (try with_reducible rfl)
  (try simp only [lit1]); (try simp only [lit2]); (try simp only [lit3]); (try simp only [Act.put]); (try simp only [lit4]); (try simp only [lit5]); (try simp only [lit6])
  refine wpAnyZ_take (i := 1) (v := ?_) rfl (by kernel_rfl) (by kernel_rfl) (by kernel_rfl) (fun _ _ _ h => h) (Or.inl ⟨by rfl, ?_⟩) (by assumption) (by kernel_rfl) ?_
  rotate_left
  · intro w' hSw; (try dsimp only at hSw); go_simp; (try with_reducible rfl)
  (try simp only [lit1]); (try simp only [lit2]); (try simp only [lit3]); (try simp only [Act.put]); (try simp only [lit4]); (try simp only [lit5]); (try simp only [lit6])
  refine wpAnyZ_take (i := 2) (v := ?_) rfl (by kernel_rfl) (by kernel_rfl) (by kernel_rfl) (fun _ _ _ h => h) (Or.inl ⟨by rfl, ?_⟩) (by assumption) (by kernel_rfl) ?_
  rotate_left
  · intro w' hSw; (try dsimp only at hSw); go_simp; (try with_reducible rfl)
  (try simp only [lit1]); (try simp only [lit2]); (try simp only [lit3]); (try simp only [Act.put]); (try simp only [lit4]); (try simp only [lit5]); (try simp only [lit6])
  refine wpAnyZ_take (i := 3) (v := ?_) rfl (by kernel_rfl) (by kernel_rfl) (by kernel_rfl) (fun _ _ _ h => h) (Or.inl ⟨by rfl, ?_⟩) (by assumption) (by kernel_rfl) ?_
  rotate_left
  · intro w' hSw; (try dsimp only at hSw); go_simp; (try with_reducible rfl)
  (try simp only [lit1]); (try simp only [lit2]); (try simp only [lit3]); (try simp only [Act.put]); (try simp only [lit4]); (try simp only [lit5]); (try simp only [lit6])
  refine wpAnyZ_take (i := 4) (v := ?_) rfl (by kernel_rfl) (by kernel_rfl) (by kernel_rfl) (fun _ _ _ h => h) (Or.inl ⟨by rfl, ?_⟩) (by assumption) (by kernel_rfl) ?_
  rotate_left
  · intro w' hSw; (try dsimp only at hSw); go_simp; (try with_reducible rfl)
  (try simp only [lit1]); (try simp only [lit2]); (try simp only [lit3]); (try simp only [Act.put]); (try simp only [lit4]); (try simp only [lit5]); (try simp only [lit6])
  refine wpAnyZ_take (i := 5) (v := ?_) rfl (by kernel_rfl) (by kernel_rfl) (by kernel_rfl) (fun _ _ _ h => h) (Or.inl ⟨by rfl, ?_⟩) (by assumption) (by kernel_rfl) ?_
  rotate_left
  · intro w' hSw; (try dsimp only at hSw); go_simp; (try with_reducible rfl)
  (try simp only [lit1]); (try simp only [lit2]); (try simp only [lit3]); (try simp only [Act.put]); (try simp only [lit4]); (try simp only [lit5]); (try simp only [lit6])
  refine wpAnyZ_take (i := 6) (v := ?_) rfl (by kernel_rfl) (by kernel_rfl) (by kernel_rfl) (fun _ _ _ h => h) (Or.inl ⟨by rfl, ?_⟩) (by assumption) (by kernel_rfl) ?_
  rotate_left
  · intro w' hSw; (try dsimp only at hSw); go_simp; (try with_reducible rfl)
  (try simp only [lit1]); (try simp only [lit2]); (try simp only [lit3]); (try simp only [Act.put]); (try simp only [lit4]); (try simp only [lit5]); (try simp only [lit6])
  refine wpAnyZ_one (i := 7) (by kernel_rfl) rfl (fun K hK => ?_)
  go_simp
  have K5 : Hid (Kept (fun _ => False) w4 ((w4.alloc (.cells #[.int .i64 (s.id : Nat)] 3)).drew)) := ((Kept.refl _ w4).alloc _).drew
  have OW : Hid (((w4.alloc (.cells #[.int .i64 (s.id : Nat)] 3)).drew).ownsRow 0 3 1 (.slice none 0 0) 0 (([] : List Nat).map I)) := World.ownsRow_nil _ _ _ _
  have W5 := Lib.hid (W4.out.keptF K5.out)
  refine hK.out _ _ (fun _ => ⟨(wk_cells W5.out.blk).2.2, CC.out _ (K5.out.mono fun _ _ => False.elim)⟩) ?_
  clear hK hC
  (try simp only [lit1]); (try simp only [lit2]); (try simp only [lit3]); (try simp only [Act.put]); (try simp only [lit4]); (try simp only [lit5]); (try simp only [lit6])
  refine wpAnyZ_one (i := 8) (by kernel_rfl) rfl (fun K hK => ?_)
  refine step_one (v := .slice none 0 0) rfl (.tmp 55) (.tmp 58) rfl Tryz.underlying28 info_int rfl rfl OW.out _ rfl (reads_one w4.drew (.int .i64 (s.id : Nat)) 3) (ints_one [s.id]) (by unfold maxLen; omega) (by omega) ?_
  intro v' z1 hv1 hg1 hob1
  obtain ⟨A6, c6, rfl, hb6, hw6, hk6, ho6⟩ := wk_appO (x := s.id) W4.out K5.out (by have := EB.out; have := lt_heap HB4.out; omega) rfl hv1 hg1 hob1
  have HW6 : Hid (WkW (z1.setCell ⟨E, 2, none⟩ (.slice A6 1 c6)) q E (.slice none 0 0) (.slice A6 1 c6) ((wk0 X).add s.id) root E) := hw6
  have HK6 : Hid (Kept (fun k => k = E ∨ (Value.slice none 0 0).ownBlock = some k) w4 (z1.setCell ⟨E, 2, none⟩ (.slice A6 1 c6))) := hk6
  have HO6 : Hid (∀ g, (Value.slice A6 1 c6).ownBlock = some g → (Value.slice none 0 0).ownBlock = some g ∨ w4.heap.size ≤ g) := ho6
  have HB6 := Lib.hid hb6
  have cwk6 : z1.cell? ⟨E, 2, none⟩ = some (.slice none 0 0) := (cell_heap hb6 2).trans rfl
  have fz6 : z1.frozen? ⟨E, 2, none⟩ = false := free_heap hb6 2
  have kz1 : Kept (· = E) w4 z1 := (K5.out.mono fun _ _ => False.elim).trans ⟨hg1.os, hg1.tape, hg1.output, hg1.size, fun k hk' hne => hg1.block k hk' fun e => by cases e⟩
  have cc1 := CC.out z1 kz1
  refine hK.out _ _ (fun _ => ⟨cwk6, cc1⟩) ?_
  clear hK hw6 hk6 ho6 hb6 kz1 hv1 hg1 hob1
  (try simp only [lit1]); (try simp only [lit2]); (try simp only [lit3]); (try simp only [Act.put]); (try simp only [lit4]); (try simp only [lit5]); (try simp only [lit6])
  refine wpAnyZ_one (i := 9) (by kernel_rfl) rfl (fun K hK => ?_)
  go_simp
  refine hK.out _ _ (fun _ => ⟨cwk6, cc1⟩) ?_
  clear hK
  (try simp only [lit1]); (try simp only [lit2]); (try simp only [lit3]); (try simp only [Act.put]); (try simp only [lit4]); (try simp only [lit5]); (try simp only [lit6])
  refine wpAnyZ_one (i := 10) (by kernel_rfl) rfl (fun K hK => ?_)
  go_simp
  refine hK.out _ _ (fun _ => ⟨cwk6, cc1⟩) ?_
  clear hK
  (try simp only [lit1]); (try simp only [lit2]); (try simp only [lit3]); (try simp only [Act.put]); (try simp only [lit4]); (try simp only [lit5]); (try simp only [lit6])
  refine wpAnyZ_one (i := 11) (by kernel_rfl) rfl (fun K hK => ?_)
  go_simp
  refine hK.out _ _ (fun h => by cases h) ?_
  clear hK
  (try simp only [lit1]); (try simp only [lit2]); (try simp only [lit3]); (try simp only [Act.put]); (try simp only [lit4]); (try simp only [lit5]); (try simp only [lit6])
  refine wpAnyZ_done (by kernel_rfl) ?_ _
  clear cc1 cwk6 fz6
  obtain ⟨w6, hw6⟩ : ∃ w6, w6 = z1.setCell ⟨E, 2, none⟩ (.slice A6 1 c6) := ⟨_, rfl⟩
  rw [← hw6] at HW6 HK6 ⊢
  clear hw6 HB6
  have NK : Hid (∀ g, (g = E ∨ (Value.slice none 0 0).ownBlock = some g) → wkS q E (.slice none 0 0) (.slice none 0 0) g) := fun g hg => by
    rcases hg with e | e
    · exact .inr (.inr (.inl e))
    · cases e
  have DB : Hid (DlB w w2 q root w1.heap.size E E b12 ((wk0 X).add s.id) (.slice none 0 0) (.slice A6 1 c6) (s.n.cut k) #[.bool cl, .slice Z1 s1 t1, .slice Z2 s2 t2, .slice Z3 s3 t3] w6) := by
    refine ⟨?_, ?_, HW6.out, ?_, ?_⟩
    · refine ((((K2.out.trans K3.out).trans K4.out).mono fun _ _ => False.elim).then HK6.out fun i hi e => ?_)
      have := K2.out.size; have := HE2.out
      rcases e with e | e
      · omega
      · cases e
    · refine ((K3.out.trans K4.out).mono fun _ _ => False.elim).then HK6.out fun i hi e => ?_
      rcases e with e | e
      · exact .inr (by omega)
      · cases e
    · exact HK6.out.heap HB4.out (by
        have := EB.out
        rintro (e | e)
        · omega
        · cases e)
    · refine N4.out.kept HK6.out (fun g hg => .inl (NK.out g hg)) fun g hg => ?_
      rcases hg with e | e | e | e | e
      · exact .inl (.inl e)
      · exact .inl (.inr (.inl e))
      · exact .inl (.inr (.inr (.inl e)))
      · cases e
      · rcases HO6.out g e with e | e
        · cases e
        · exact .inr e
  go_wp2_with fail
  have WAYK : Hid (∀ W, Kept (fun b => b < w1.heap.size ∨ E ≤ b) w2 W → IsWay W w1.heap.size w2.heap.size (.slice (some ⟨g, 0, none⟩) (m + 1) cw) L) := fun W kk => HW.out.kept kk (fun b hb => by
    have := HE2.out
    rcases hb with e | e
    · exact .inl e
    · exact .inr (by omega))
  have HQ : Hid (q.c < w.heap.size ∧ q.m < w.heap.size ∧ q.t < w.heap.size ∧ w.heap.size ≤ w1.heap.size ∧ w1.heap.size ≤ E ∧ E = w2.heap.size) := by
    have := H.out.small; have := K1.out.size; have := K12.out.size; have := HE2.out
    exact ⟨by omega, by omega, by omega, by omega, by omega, by omega⟩
  have HF0 : Hid ((s.n.cut k).Fit ∧ (s.n.cut k).len ≤ 8) := by
    obtain ⟨f1, -, f3⟩ := HOK.out.1.fit.cut HOK.out.2 k
    have := not_over.1 HOK.out.1.most
    refine ⟨f1, ?_⟩
    split at this <;> omega
  have XL : Hid (X.l.length ≤ 128) := T4.out.sto.sp.len
  have KM : Hid (((wk0 X).add s.id).fresh.length + 2 * m ≤ 50 ∧ ((wk0 X).add s.id).old.length + 2 * m ≤ 50) := by
    constructor <;> simp [wk0, Wk.add] <;> omega
  clear HLT HL3 HW3 HN3 HL4 HB4 W4 N4 CC W5 OW HK6 HO6 NK R1 R2 R3 N1
  obtain ⟨U0, hU0⟩ : ∃ U, U = (wk0 X).add s.id := ⟨_, rfl⟩
  have HX0 : Hid (U0.X = X) := by show _ = _; rw [hU0]; rfl
  rw [← hU0] at HY DB KM
  clear hU0
  go_loopw [8, 13] (fun _ i wr => ∃ (j : Nat) (U : Wk) (vf vo : Value) (n : Nd) (vl : Bool) (B1 : Option Addr) (x1 y1 : Nat) (B2 : Option Addr) (x2 y2 : Nat) (B3 : Option Addr) (x3 y3 : Nat), j ≤ m ∧ i = .int .i64 ((j : Int) - 1) ∧ Hid (DlB w w2 q root w1.heap.size E E b12 U vf vo n #[.bool vl, .slice B1 x1 y1, .slice B2 x2 y2, .slice B3 x3 y3] wr) ∧ Hid (Y = sinkP U n (L.take j).reverse ∧ n.Fit ∧ n.len ≤ 8 ∧ U.X.l.length ≤ 128 ∧ U.fresh.length + 2 * j ≤ 50 ∧ U.old.length + 2 * j ≤ 50)) (fun _ i _ => (RowKit.intOf i + 1).toNat)
  case atStart => exact ⟨m, U0, _, _, _, _, _, _, _, _, _, _, _, _, _, Nat.le_refl _, by go_num, DB.out, HY.out, HF0.out.1, HF0.out.2, by rw [HX0.out]; exact XL.out, KM.out.1, KM.out.2⟩
  case round =>
    obtain ⟨j, U, vf, vo, n, vl, B1, x1, y1, B2, x2, y2, B3, x3, y3, hj, rfl, D, F⟩ := hrel
    clear DB HY HX0 KM
    have SI : Hid (∀ b, wkS q E vf vo b → b = q.c ∨ b = q.m ∨ E ≤ b) := by
      rintro b (e | e | e | e | e)
      · exact .inl e
      · exact .inr (.inl e)
      · exact .inr (.inr (by omega))
      · exact .inr (.inr (own_ge D.out.hw.rf e))
      · exact .inr (.inr (own_ge D.out.hw.ro e))
    by_cases h0 : 0 < j
    · obtain ⟨i, rfl⟩ : ∃ i, j = i + 1 := ⟨j - 1, by omega⟩
      have hiL : i < L.length := by have := HLM.out; omega
      have hway := WAYK.out wr D.out.kz
      obtain ⟨gb1, gb2, gcs, gf, ghh⟩ := hway.blk
      obtain ⟨g', cw', u0, u1, u2, u3, ev, hgl', c0, c1, c2, c3, c4, c5, hn, hlt⟩ := hway.at (i := i) hiL
      injection ev with ev ev2 ev3
      injection ev with ev
      injection ev with ev _ _
      subst ev
      clear ev2 ev3
      obtain ⟨l', P1, p1, r1, P2, p2, r2, P3, p3, r3, e'⟩ := hn.agg
      injection e' with e'
      injection e' with e'
      injection e' with e0 e'
      injection e' with e1 e'
      injection e' with e2 e'
      injection e' with e3 _
      subst e0 e1 e2 e3
      obtain ⟨st, hst⟩ : ∃ st, st = L[i] := ⟨_, rfl⟩
      rw [← hst] at c0 c1 hn
      have HWK := HWO.out
      have hok := HWK.ok st (by rw [hst]; exact List.getElem_mem _)
      have hin := HWK.inner st (by
        rw [hst, List.dropLast_eq_take, List.mem_take_iff_getElem]
        exact ⟨i, by have := HLM.out; omega, rfl⟩)
      have hat : st.at_ + 1 ≤ st.n.kids.length := by
        have := find_le st.n k hok.1.up
        have := (hok.1.inner hin).2.1
        rw [hok.2]; omega
      have HTK : Hid ((L.take (i + 1)).reverse = st :: (L.take i).reverse) := by show _ = _; rw [hst]; exact take_rev L i hiL
      have hSN : NdAp wr (wkS q E vf vo) (.agg #[.bool l', .slice P1 p1 r1, .slice P2 p2 r2, .slice P3 p3 r3]) st.n := NdAp.between hn hlt fun b hb => by
        have := HQ.out
        rcases SI.out b hb with e | e | e <;> omega
      have CL := Lib.hid fun w' (kk : Kept (fun _ => False) wr w') => TWlevel_calls (D.out.hw.keptF kk) (hSN.keptF kk) (D.out.nd.keptF kk) hok.1 hin hat F.out.2.1 F.out.2.2.1 (Nat.le_trans (Nat.le_of_lt (lt_heap D.out.hw.blk)) kk.size) (by have := F.out; omega) (by have := F.out; omega)
      have LF : Hid ((levelP U st n).2.1 = 0 → (levelP U st n).1.Fit ∧ (levelP U st n).1.len ≤ 8) := levelP_fit hok.1 hin hat F.out.2.1 F.out.2.2.1 F.out.2.2.2.1
      have LC := Lib.hid (levelP_counts U st n)
      obtain ⟨⟨n5, e5, U5⟩, h5⟩ : ∃ x, x = levelP U st n := ⟨_, rfl⟩
      rw [← h5] at CL LF LC
      have H5 := Lib.hid h5
      unfold LevTo at CL
      dsimp only at CL LF LC
      have CW : Hid (∀ w', Kept (wkS q E vf vo) wr w' → (w'.cell? ⟨g, i * 6, none⟩ = some (.int .i64 st.id) ∧ w'.cell? ⟨g, i * 6 + 1, none⟩ = some (.int .i64 st.at_) ∧ w'.cell? ⟨g, i * 6 + 2, none⟩ = some (.bool l') ∧ w'.cell? ⟨g, i * 6 + 3, none⟩ = some (.slice P1 p1 r1) ∧ w'.cell? ⟨g, i * 6 + 4, none⟩ = some (.slice P2 p2 r2) ∧ w'.cell? ⟨g, i * 6 + 5, none⟩ = some (.slice P3 p3 r3)) ∧
          w'.cell? ⟨b12, 0, none⟩ = some (.bool vl) ∧ w'.cell? ⟨b12, 1, none⟩ = some (.slice B1 x1 y1) ∧ w'.cell? ⟨b12, 2, none⟩ = some (.slice B2 x2 y2) ∧ w'.cell? ⟨b12, 3, none⟩ = some (.slice B3 x3 y3)) := fun w' kk => by
        have ce : ∀ o, w'.cell? ⟨g, o, none⟩ = wr.cell? ⟨g, o, none⟩ := fun o => World.cell?_of_block (kk.block g hgl' (D.out.hw.off2 ghh (.inl rfl)))
        refine ⟨⟨(ce _).trans c0, (ce _).trans c1, (ce _).trans c2, (ce _).trans c3, (ce _).trans c4, (ce _).trans c5⟩, ?_⟩
        exact nd_cells (kk.heap D.out.bn (D.out.hw.off2 D.out.bn (.inr rfl)))
      have hC1 := CW.out wr.drew (Kept.refl _ wr).drew
      have hi11 : i ≤ 11 := by omega
      have him : (i : Int) < (m : Int) + 1 := by omega
      have GB : Hid (w1.heap.size ≤ g ∧ g < w2.heap.size) := ⟨gb1, gb2⟩
      clear hway hn hlt hst hok hin hat hSN h5 hiL c0 c1 c2 c3 c4 c5 HWK gb1 gb2 ghh
      go_wp2_with fail
      go_cut [8] from 65 to 97 (fun v wx => ∃ (vf' vo' : Value) (vl' : Bool) (Q1 : Option Addr) (a1 b1 : Nat) (Q2 : Option Addr) (a2 b2 : Nat) (Q3 : Option Addr) (a3 b3 : Nat), v = .int .i64 e5 ∧ Hid (DlB w w2 q root w1.heap.size E E b12 U5 vf' vo' n5 #[.bool vl', .slice Q1 a1 b1, .slice Q2 a2 b2, .slice Q3 a3 b3] wx))
      case first =>
        refine wp_region_z 10 (fun w' => (w'.cell? ⟨g, i * 6, none⟩ = some (.int .i64 st.id) ∧ w'.cell? ⟨g, i * 6 + 1, none⟩ = some (.int .i64 st.at_) ∧ w'.cell? ⟨g, i * 6 + 2, none⟩ = some (.bool l') ∧ w'.cell? ⟨g, i * 6 + 3, none⟩ = some (.slice P1 p1 r1) ∧ w'.cell? ⟨g, i * 6 + 4, none⟩ = some (.slice P2 p2 r2) ∧ w'.cell? ⟨g, i * 6 + 5, none⟩ = some (.slice P3 p3 r3)) ∧
          w'.cell? ⟨b12, 0, none⟩ = some (.bool vl) ∧ w'.cell? ⟨b12, 1, none⟩ = some (.slice B1 x1 y1) ∧ w'.cell? ⟨b12, 2, none⟩ = some (.slice B2 x2 y2) ∧ w'.cell? ⟨b12, 3, none⟩ = some (.slice B3 x3 y3)) (by kernel_rfl) hC1 (fun hC => ?_)
        clear hC1
        refine wpAnyZ_take (i := 0) (v := ?_) rfl (by kernel_rfl) (by kernel_rfl) (by kernel_rfl) (fun _ _ _ h => h) (Or.inl ⟨by rfl, ?_⟩) (by assumption) (by kernel_rfl) ?_
        rotate_left
        · intro w' hSw; (try dsimp only at hSw); go_simp; (try with_reducible rfl)
        (try simp only [lit1]); (try simp only [lit2]); (try simp only [lit3]); (try simp only [Act.put]); (try simp only [lit4]); (try simp only [lit5]); (try simp only [lit6])
        refine wpAnyZ_take (i := 1) (v := ?_) rfl (by kernel_rfl) (by kernel_rfl) (by kernel_rfl) (fun _ _ _ h => h) (Or.inl ⟨by rfl, ?_⟩) (by assumption) (by kernel_rfl) ?_
        rotate_left
        · intro w' hSw; (try dsimp only at hSw); go_simp; (try with_reducible rfl)
        (try simp only [lit1]); (try simp only [lit2]); (try simp only [lit3]); (try simp only [Act.put]); (try simp only [lit4]); (try simp only [lit5]); (try simp only [lit6])
        refine wpAnyZ_take (i := 2) (v := ?_) rfl (by kernel_rfl) (by kernel_rfl) (by kernel_rfl) (fun _ _ _ h => h) (Or.inl ⟨by rfl, ?_⟩) (by assumption) (by kernel_rfl) ?_
        rotate_left
        · intro w' hSw; (try dsimp only at hSw); go_simp; (try with_reducible rfl)
        (try simp only [lit1]); (try simp only [lit2]); (try simp only [lit3]); (try simp only [Act.put]); (try simp only [lit4]); (try simp only [lit5]); (try simp only [lit6])
        refine wpAnyZ_take (i := 3) (v := ?_) rfl (by kernel_rfl) (by kernel_rfl) (by kernel_rfl) (fun _ _ _ h => h) (Or.inl ⟨by rfl, ?_⟩) (by assumption) (by kernel_rfl) ?_
        rotate_left
        · intro w' hSw; (try dsimp only at hSw); go_simp; (try with_reducible rfl)
        (try simp only [lit1]); (try simp only [lit2]); (try simp only [lit3]); (try simp only [Act.put]); (try simp only [lit4]); (try simp only [lit5]); (try simp only [lit6])
        refine wpAnyZ_take (i := 4) (v := ?_) rfl (by kernel_rfl) (by kernel_rfl) (by kernel_rfl) (fun _ _ _ h => h) (Or.inl ⟨by rfl, ?_⟩) (by assumption) (by kernel_rfl) ?_
        rotate_left
        · intro w' hSw; (try dsimp only at hSw); go_simp; (try with_reducible rfl)
        (try simp only [lit1]); (try simp only [lit2]); (try simp only [lit3]); (try simp only [Act.put]); (try simp only [lit4]); (try simp only [lit5]); (try simp only [lit6])
        refine wpAnyZ_take (i := 5) (v := ?_) rfl (by kernel_rfl) (by kernel_rfl) (by kernel_rfl) (fun _ _ _ h => h) (Or.inl ⟨by rfl, ?_⟩) (by assumption) (by kernel_rfl) ?_
        rotate_left
        · intro w' hSw; (try dsimp only at hSw); go_simp; (try with_reducible rfl)
        (try simp only [lit1]); (try simp only [lit2]); (try simp only [lit3]); (try simp only [Act.put]); (try simp only [lit4]); (try simp only [lit5]); (try simp only [lit6])
        refine wpAnyZ_one (i := 6) (by kernel_rfl) rfl (fun K hK => ?_)
        go_simp
        refine (CL.out _ (Kept.refl _ wr).drew).mono ?_
        rintro e w5 ⟨v5, vf', vo', rfl, hnd5, hw5, hk5, hs5⟩
        obtain ⟨vl', Q1, a1, b1, Q2, a2, b2, Q3, a3, b3, rfl⟩ := hnd5.1.agg
        have hk5' : Kept (wkS q E vf vo) wr w5 := (Kept.refl (wkS q E vf vo) wr).drew.trans hk5
        have HN5 := Lib.hid hnd5; have HW5 := Lib.hid hw5; have HK5 := Lib.hid hk5'
        have hC5 := CW.out w5 hk5'
        have hb5 := hk5'.heap D.out.bn (D.out.hw.off2 D.out.bn (.inr rfl))
        have HB5 := Lib.hid hb5
        have fz5 : ∀ i, w5.frozen? ⟨b12, i, none⟩ = false := fun i => free_heap hb5 i
        have lb5 := lt_heap hb5
        refine hK.out _ _ (fun _ => hC5) ?_
        clear hK hC hnd5 hw5 hk5 hs5 hk5' hb5 CL
        (try simp only [lit1]); (try simp only [lit2]); (try simp only [lit3]); (try simp only [Act.put]); (try simp only [lit4]); (try simp only [lit5]); (try simp only [lit6])
        have hC := hC5
        refine wpAnyZ_take (i := 7) (v := ?_) rfl (by kernel_rfl) (by kernel_rfl) (by kernel_rfl) (fun _ _ _ h => h) (Or.inl ⟨by rfl, ?_⟩) (by assumption) (by kernel_rfl) ?_
        rotate_left
        · intro w' hSw; (try dsimp only at hSw); go_simp; (try with_reducible rfl)
        (try simp only [lit1]); (try simp only [lit2]); (try simp only [lit3]); (try simp only [Act.put]); (try simp only [lit4]); (try simp only [lit5]); (try simp only [lit6])
        refine wpAnyZ_take (i := 8) (v := ?_) rfl (by kernel_rfl) (by kernel_rfl) (by kernel_rfl) (fun _ _ _ h => h) (Or.inl ⟨by rfl, ?_⟩) (by assumption) (by kernel_rfl) ?_
        rotate_left
        · intro w' hSw; (try dsimp only at hSw); go_simp; (try with_reducible rfl)
        (try simp only [lit1]); (try simp only [lit2]); (try simp only [lit3]); (try simp only [Act.put]); (try simp only [lit4]); (try simp only [lit5]); (try simp only [lit6])
        have FIN : Hid (DlB w w2 q root w1.heap.size E E b12 U5 vf' vo' n5 #[.bool vl', .slice Q1 a1 b1, .slice Q2 a2 b2, .slice Q3 a3 b3] ((((w5.setCell ⟨b12, 0, none⟩ (.bool vl')).setCell ⟨b12, 1, none⟩ (.slice Q1 a1 b1)).setCell ⟨b12, 2, none⟩ (.slice Q2 a2 b2)).setCell ⟨b12, 3, none⟩ (.slice Q3 a3 b3))) := by
          have hb4 := set4_heap HB5.out (by simp) (.bool vl') (.slice Q1 a1 b1) (.slice Q2 a2 b2) (.slice Q3 a3 b3)
          have k4 := set4_kept w5 b12 (.bool vl') (.slice Q1 a1 b1) (.slice Q2 a2 b2) (.slice Q3 a3 b3)
          have hq := HQ.out
          have heb := EB.out
          refine ⟨(D.out.kw.then HK5.out fun i hi e => ?_).then k4 fun i hi e => by omega, (D.out.kz.then HK5.out fun i hi e => ?_).then k4 fun i hi e => .inr (by omega), HW5.out.asideOne HB5.out k4 (by decide) (by decide) (by decide), hb4, HN5.out.set HB5.out k4 fun _ e => e⟩
          · rcases SI.out i e with e | e | e
            · exact .inl e
            · exact .inr e
            · omega
          · rcases SI.out i e with e | e | e
            · exact .inl (by omega)
            · exact .inl (by omega)
            · exact .inr e
        refine wpAnyZ_two (i := 9) (j := 10) (by kernel_rfl) rfl rfl (fun K hK => ?_) (fun K hK => ?_)
        · go_simp
          refine hK.out _ _ (fun _ => hC5) ?_
          clear hK
          (try simp only [lit1]); (try simp only [lit2]); (try simp only [lit3]); (try simp only [Act.put]); (try simp only [lit4]); (try simp only [lit5]); (try simp only [lit6])
          refine wpAnyZ_one (i := 10) (by kernel_rfl) rfl (fun K hK => ?_)
          go_simp
          refine hK.out _ _ (fun h => by cases h) ?_
          clear hK
          (try simp only [lit1]); (try simp only [lit2]); (try simp only [lit3]); (try simp only [Act.put]); (try simp only [lit4]); (try simp only [lit5]); (try simp only [lit6])
          refine wpAnyZ_one (i := 11) (by kernel_rfl) rfl (fun K hK => ?_)
          go_simp
          refine hK.out _ _ (fun h => by cases h) ?_
          clear hK
          (try simp only [lit1]); (try simp only [lit2]); (try simp only [lit3]); (try simp only [Act.put]); (try simp only [lit4]); (try simp only [lit5]); (try simp only [lit6])
          refine wpAnyZ_done (by kernel_rfl) ?_ _
          go_wp2_with fail
          go_meet
          exact ⟨_, _, _, _, _, _, _, _, _, _, _, _, rfl, FIN.out⟩
        · go_simp
          refine hK.out _ _ (fun h => by cases h) ?_
          clear hK
          (try simp only [lit1]); (try simp only [lit2]); (try simp only [lit3]); (try simp only [Act.put]); (try simp only [lit4]); (try simp only [lit5]); (try simp only [lit6])
          refine wpAnyZ_one (i := 9) (by kernel_rfl) rfl (fun K hK => ?_)
          go_simp
          refine hK.out _ _ (fun h => by cases h) ?_
          clear hK
          (try simp only [lit1]); (try simp only [lit2]); (try simp only [lit3]); (try simp only [Act.put]); (try simp only [lit4]); (try simp only [lit5]); (try simp only [lit6])
          refine wpAnyZ_one (i := 11) (by kernel_rfl) rfl (fun K hK => ?_)
          go_simp
          refine hK.out _ _ (fun h => by cases h) ?_
          clear hK
          (try simp only [lit1]); (try simp only [lit2]); (try simp only [lit3]); (try simp only [Act.put]); (try simp only [lit4]); (try simp only [lit5]); (try simp only [lit6])
          refine wpAnyZ_done (by kernel_rfl) ?_ _
          go_wp2_with fail
          go_meet
          exact ⟨_, _, _, _, _, _, _, _, _, _, _, _, rfl, FIN.out⟩
      case rest =>
        obtain ⟨vf', vo', vl', Q1, a1, b1, Q2, a2, b2, Q3, a3, b3, rfl, D5⟩ := hcut
        have HSC := Lib.hid (sinkP_cons H5.out (l := (L.take i).reverse))
        have BND : Hid (U5.fresh.length ≤ U.fresh.length + 2 ∧ U5.old.length ≤ U.old.length + 1 ∧ U5.X.l.length = U.X.l.length) := LC.out
        clear CL hC1
        by_cases hz : e5 = 0
        · subst hz
          have hiL : i < L.length := by have := HLM.out; omega
          have hway5 := WAYK.out wc D5.out.kz
          obtain ⟨ci5, gl5⟩ := hway5.idAt hiL
          have hsid : L[i].id = st.id := by
            have h := HTK.out
            rw [take_rev L i hiL] at h
            injection h with h _
            rw [h]
          rw [hsid] at ci5
          obtain ⟨UX, UF, UO⟩ := U5
          obtain ⟨Ao, co, evo⟩ := own_slice D5.out.hw.ro
          subst evo
          obtain ⟨lo, hlo⟩ : ∃ n, n = UO.length := ⟨_, rfl⟩
          simp only at D5
          rw [← hlo] at D5
          have HLO := Lib.hid hlo
          have LB : Hid (lo ≤ 50) := by have := BND.out; have := F.out; simp only at *; show _ ≤ _; omega
          have ROW : Hid (∀ b, (Value.slice Ao lo co).ownBlock = some b → E ≤ b) := fun b hb => own_ge D5.out.hw.ro hb
          have CI : Hid (∀ w', Kept (fun k => k = E ∨ (Value.slice Ao lo co).ownBlock = some k) wc w' → w'.cell? ⟨g, i * 6, none⟩ = some (.int .i64 st.id)) := fun w' kk => (World.cell?_of_block (kk.block g gl5 (by
            have := GB.out; have := HQ.out
            rintro (e | e)
            · omega
            · have := ROW.out g e; omega))).trans ci5
          have hD1 : wc.drew.cell? ⟨E, 2, none⟩ = some (.slice Ao lo co) := (wk_cells D5.out.hw.blk).2.2
          have hD2 := CI.out wc.drew (Kept.refl _ wc).drew
          clear ci5 gl5 hway5 hiL hsid hlo
          go_wp2_with fail
          refine wp_region_z 14 (fun w' => w'.cell? ⟨E, 2, none⟩ = some (.slice Ao lo co) ∧ w'.cell? ⟨g, i * 6, none⟩ = some (.int .i64 st.id)) (by kernel_rfl) ⟨hD1, hD2⟩ (fun hC => ?_)
          clear hD1 hD2
          refine wpAnyZ_take (i := 0) (v := ?_) rfl (by kernel_rfl) (by kernel_rfl) (by kernel_rfl) (fun _ _ _ h => h) (Or.inl ⟨by rfl, ?_⟩) (by assumption) (by kernel_rfl) ?_
          rotate_left
          · intro w' hSw; (try dsimp only at hSw); go_simp; (try with_reducible rfl)
          (try simp only [lit1]); (try simp only [lit2]); (try simp only [lit3]); (try simp only [Act.put]); (try simp only [lit4]); (try simp only [lit5]); (try simp only [lit6])
          refine wpAnyZ_take (i := 1) (v := ?_) rfl (by kernel_rfl) (by kernel_rfl) (by kernel_rfl) (fun _ _ _ h => h) (Or.inl ⟨by rfl, ?_⟩) (by assumption) (by kernel_rfl) ?_
          rotate_left
          · intro w' hSw; (try dsimp only at hSw); go_simp; (try with_reducible rfl)
          (try simp only [lit1]); (try simp only [lit2]); (try simp only [lit3]); (try simp only [Act.put]); (try simp only [lit4]); (try simp only [lit5]); (try simp only [lit6])
          refine wpAnyZ_take (i := 2) (v := ?_) rfl (by kernel_rfl) (by kernel_rfl) (by kernel_rfl) (fun _ _ _ h => h) (Or.inl ⟨by rfl, ?_⟩) (by assumption) (by kernel_rfl) ?_
          rotate_left
          · intro w' hSw; (try dsimp only at hSw); go_simp; (try with_reducible rfl)
          (try simp only [lit1]); (try simp only [lit2]); (try simp only [lit3]); (try simp only [Act.put]); (try simp only [lit4]); (try simp only [lit5]); (try simp only [lit6])
          refine wpAnyZ_take (i := 3) (v := ?_) rfl (by kernel_rfl) (by kernel_rfl) (by kernel_rfl) (fun _ _ _ h => h) (Or.inl ⟨by rfl, ?_⟩) (by assumption) (by kernel_rfl) ?_
          rotate_left
          · intro w' hSw; (try dsimp only at hSw); go_simp; (try with_reducible rfl)
          (try simp only [lit1]); (try simp only [lit2]); (try simp only [lit3]); (try simp only [Act.put]); (try simp only [lit4]); (try simp only [lit5]); (try simp only [lit6])
          refine wpAnyZ_take (i := 4) (v := ?_) rfl (by kernel_rfl) (by kernel_rfl) (by kernel_rfl) (fun _ _ _ h => h) (Or.inl ⟨by rfl, ?_⟩) (by assumption) (by kernel_rfl) ?_
          rotate_left
          · intro w' hSw; (try dsimp only at hSw); go_simp; (try with_reducible rfl)
          (try simp only [lit1]); (try simp only [lit2]); (try simp only [lit3]); (try simp only [Act.put]); (try simp only [lit4]); (try simp only [lit5]); (try simp only [lit6])
          refine wpAnyZ_take (i := 5) (v := ?_) rfl (by kernel_rfl) (by kernel_rfl) (by kernel_rfl) (fun _ _ _ h => h) (Or.inl ⟨by rfl, ?_⟩) (by assumption) (by kernel_rfl) ?_
          rotate_left
          · intro w' hSw; (try dsimp only at hSw); go_simp; (try with_reducible rfl)
          (try simp only [lit1]); (try simp only [lit2]); (try simp only [lit3]); (try simp only [Act.put]); (try simp only [lit4]); (try simp only [lit5]); (try simp only [lit6])
          refine wpAnyZ_take (i := 6) (v := ?_) rfl (by kernel_rfl) (by kernel_rfl) (by kernel_rfl) (fun _ _ _ h => h) (Or.inl ⟨by rfl, ?_⟩) (by assumption) (by kernel_rfl) ?_
          rotate_left
          · intro w' hSw; (try dsimp only at hSw); go_simp; (try with_reducible rfl)
          (try simp only [lit1]); (try simp only [lit2]); (try simp only [lit3]); (try simp only [Act.put]); (try simp only [lit4]); (try simp only [lit5]); (try simp only [lit6])
          refine wpAnyZ_take (i := 7) (v := ?_) rfl (by kernel_rfl) (by kernel_rfl) (by kernel_rfl) (fun _ _ _ h => h) (Or.inl ⟨by rfl, ?_⟩) (by assumption) (by kernel_rfl) ?_
          rotate_left
          · intro w' hSw; (try dsimp only at hSw); go_simp; (try with_reducible rfl)
          (try simp only [lit1]); (try simp only [lit2]); (try simp only [lit3]); (try simp only [Act.put]); (try simp only [lit4]); (try simp only [lit5]); (try simp only [lit6])
          refine wpAnyZ_take (i := 8) (v := ?_) rfl (by kernel_rfl) (by kernel_rfl) (by kernel_rfl) (fun _ _ _ h => h) (Or.inl ⟨by rfl, ?_⟩) (by assumption) (by kernel_rfl) ?_
          rotate_left
          · intro w' hSw; (try dsimp only at hSw); go_simp; (try with_reducible rfl)
          (try simp only [lit1]); (try simp only [lit2]); (try simp only [lit3]); (try simp only [Act.put]); (try simp only [lit4]); (try simp only [lit5]); (try simp only [lit6])
          refine wpAnyZ_take (i := 9) (v := ?_) rfl (by kernel_rfl) (by kernel_rfl) (by kernel_rfl) (fun _ _ _ h => h) (Or.inl ⟨by rfl, ?_⟩) (by assumption) (by kernel_rfl) ?_
          rotate_left
          · intro w' hSw; (try dsimp only at hSw); go_simp; (try with_reducible rfl)
          (try simp only [lit1]); (try simp only [lit2]); (try simp only [lit3]); (try simp only [Act.put]); (try simp only [lit4]); (try simp only [lit5]); (try simp only [lit6])
          refine wpAnyZ_one (i := 10) (by kernel_rfl) rfl (fun K hK => ?_)
          go_simp
          have K5 : Hid (Kept (fun _ => False) wc ((wc.alloc (.cells #[.int .i64 (st.id : Nat)] 3)).drew)) := ((Kept.refl _ wc).alloc _).drew
          have D6 := Lib.hid (D5.out.keptF K5.out)
          have OW : Hid (((wc.alloc (.cells #[.int .i64 (st.id : Nat)] 3)).drew).ownsRow 0 3 1 (.slice Ao lo co) lo (UO.map I)) := by
            have h := D6.out.hw.ro
            unfold IRow at h
            dsimp only at h
            rw [← HLO.out] at h
            exact own_base h fun _ _ => Nat.zero_le _
          refine hK.out _ _ (fun _ => ⟨(wk_cells D6.out.hw.blk).2.2, CI.out _ (K5.out.mono fun _ _ => False.elim)⟩) ?_
          clear hK hC
          (try simp only [lit1]); (try simp only [lit2]); (try simp only [lit3]); (try simp only [Act.put]); (try simp only [lit4]); (try simp only [lit5]); (try simp only [lit6])
          refine wpAnyZ_one (i := 11) (by kernel_rfl) rfl (fun K hK => ?_)
          refine step_one (v := .slice Ao lo co) rfl (.tmp 88) (.tmp 94) rfl Tryz.underlying28 info_int rfl rfl OW.out _ rfl (reads_one wc.drew (.int .i64 (st.id : Nat)) 3) (ints_one [st.id]) (by have := LB.out; unfold maxLen; omega) (by have := LB.out; omega) ?_
          intro v' z1 hv1 hg1 hob1
          obtain ⟨A7, c7, rfl, hb7, hw7, hk7, ho7⟩ := wk_appO (x := st.id) D5.out.hw K5.out (Nat.le_of_lt (lt_heap D5.out.hw.blk)) HLO.out hv1 hg1 hob1
          have HW7 := Lib.hid hw7; have HK7 := Lib.hid hk7; have HO7 := Lib.hid ho7
          have HB7 := Lib.hid hb7
          have cwk7 : z1.cell? ⟨E, 2, none⟩ = some (.slice Ao lo co) := (cell_heap hb7 2).trans rfl
          have fz7 : z1.frozen? ⟨E, 2, none⟩ = false := free_heap hb7 2
          have kz1 : Kept (fun k => k = E ∨ (Value.slice Ao lo co).ownBlock = some k) wc z1 := (K5.out.mono fun _ _ => False.elim).trans ⟨hg1.os, hg1.tape, hg1.output, hg1.size, fun k hk' hne => hg1.block k hk' fun e => hne (.inr e.symm)⟩
          have cc1 := CI.out z1 kz1
          refine hK.out _ _ (fun _ => ⟨cwk7, cc1⟩) ?_
          clear hK hw7 hk7 ho7 hb7 kz1 hv1 hg1 hob1
          (try simp only [lit1]); (try simp only [lit2]); (try simp only [lit3]); (try simp only [Act.put]); (try simp only [lit4]); (try simp only [lit5]); (try simp only [lit6])
          refine wpAnyZ_one (i := 12) (by kernel_rfl) rfl (fun K hK => ?_)
          go_simp
          refine hK.out _ _ (fun _ => ⟨cwk7, cc1⟩) ?_
          clear hK
          (try simp only [lit1]); (try simp only [lit2]); (try simp only [lit3]); (try simp only [Act.put]); (try simp only [lit4]); (try simp only [lit5]); (try simp only [lit6])
          refine wpAnyZ_one (i := 13) (by kernel_rfl) rfl (fun K hK => ?_)
          go_simp
          refine hK.out _ _ (fun _ => ⟨cwk7, cc1⟩) ?_
          clear hK
          (try simp only [lit1]); (try simp only [lit2]); (try simp only [lit3]); (try simp only [Act.put]); (try simp only [lit4]); (try simp only [lit5]); (try simp only [lit6])
          refine wpAnyZ_one (i := 14) (by kernel_rfl) rfl (fun K hK => ?_)
          go_simp
          refine hK.out _ _ (fun h => by cases h) ?_
          clear hK
          (try simp only [lit1]); (try simp only [lit2]); (try simp only [lit3]); (try simp only [Act.put]); (try simp only [lit4]); (try simp only [lit5]); (try simp only [lit6])
          refine wpAnyZ_done (by kernel_rfl) ?_ _
          clear cc1 cwk7 fz7
          obtain ⟨w7, hw7⟩ : ∃ w7, w7 = z1.setCell ⟨E, 2, none⟩ (.slice A7 (lo + 1) c7) := ⟨_, rfl⟩
          rw [← hw7] at HW7 HK7 ⊢
          clear hw7 HB7
          have ST : ∀ g, (g = E ∨ (Value.slice Ao lo co).ownBlock = some g) → wkS q E vf' (.slice Ao lo co) g := by
            rintro g (e | e)
            · exact .inr (.inr (.inl e))
            · exact .inr (.inr (.inr (.inr e)))
          have DN : Hid (DlB w w2 q root w1.heap.size E E b12 ⟨UX, UF, UO ++ [st.id]⟩ vf' (.slice A7 (lo + 1) c7) n5 #[.bool vl', .slice Q1 a1 b1, .slice Q2 a2 b2, .slice Q3 a3 b3] w7) := by
            refine ⟨D5.out.kw.then HK7.out fun i hi e => ?_, D5.out.kz.then HK7.out fun i hi e => .inr ?_, HW7.out, HK7.out.heap D5.out.bn fun e => D5.out.hw.off2 D5.out.bn (.inr rfl) (ST _ e), D5.out.nd.kept HK7.out (fun g hg => .inl (ST g hg)) fun g hg => ?_⟩
            · have := HQ.out
              rcases e with e | e
              · omega
              · have := ROW.out i e; omega
            · rcases e with e | e
              · omega
              · exact ROW.out i e
            · rcases hg with e | e | e | e | e
              · exact .inl (.inl e)
              · exact .inl (.inr (.inl e))
              · exact .inl (.inr (.inr (.inl e)))
              · exact .inl (.inr (.inr (.inr (.inl e))))
              · rcases HO7.out g e with e | e
                · exact .inl (.inr (.inr (.inr (.inr e))))
                · exact .inr e
          go_wp2_with fail
          go_roundw
          case rel =>
            refine ⟨i, ⟨UX, UF, UO ++ [st.id]⟩, vf', .slice A7 (lo + 1) c7, n5, vl', Q1, a1, b1, Q2, a2, b2, Q3, a3, b3, by omega, by go_num, DN.out, ?_⟩
            have hb : UF.length ≤ U.fresh.length + 2 ∧ UO.length ≤ U.old.length + 1 ∧ UX.l.length = U.X.l.length := BND.out
            have hf := F.out
            have hl := LF.out trivial
            refine ⟨by rw [hf.1, HTK.out, HSC.out.2 trivial]; rfl, hl.1, hl.2, by show UX.l.length ≤ 128; omega, by show UF.length + 2 * i ≤ 50; omega, by show (UO ++ [st.id]).length + 2 * i ≤ 50; rw [List.length_append, List.length_singleton]; omega⟩
          case measure => simp [RowKit.intOf]
        · have g1 : (e5 == 0) = false := by rw [beq_eq_false_iff_ne]; exact hz
          have g2 : (e5 != 0) = true := by rw [bne_iff_ne]; exact hz
          have CD := Lib.hid (TWdone_calls D5.out.hw ⟨by have := BND.out; have := F.out; omega, by have := BND.out; have := F.out; omega⟩ 0 e5)
          unfold DoneTo at CD
          have hr : Hid (r = (false, doneP U5 0 e5 root)) := by
            have e : Y = (n5, e5, U5) := by rw [F.out.1, HTK.out, HSC.out.1 hz]
            show _ = _
            rw [HD.out, e, if_pos hz]
          obtain ⟨⟨f1, f2, f3⟩, hf⟩ : ∃ x, x = doneP U5 0 e5 root := ⟨_, rfl⟩
          rw [← hf] at CD hr
          dsimp only at CD
          clear hz hf
          go_wp2_with fail
          refine CD.out.mono ?_
          rintro e w6 ⟨rfl, tw6, k6⟩
          have T6 := Lib.hid tw6; have K6 := Lib.hid k6
          clear tw6 k6 CD
          go_wp2_with fail
          refine bodyPost_ret (v := .tuple #[.bool false, .int .i64 f1]) (by simp [results, Tryz.f35, go_sem]) rfl ?_
          rw [hr.out]
          exact ⟨rfl, T6.out, (D5.out.kw.mono fun i _ e => by rcases e with e | e; exact .inl e; exact .inr (.inl e)).trans K6.out⟩
    · obtain rfl : j = 0 := by omega
      have hY0 : Hid (Y = (n, 0, U)) := by show _ = _; rw [F.out.1]; rfl
      have HDn : Hid (r = if n.leaf = true ∧ n.len = 0 then (true, doneP U (-1) 0 root) else if n.leaf = false ∧ n.len = 1 then (true, doneP U (n.kids.getD 0 0) 0 root) else (decide ((putP U n).1.2 = 0), doneP (putP U n).2 (putP U n).1.1 (putP U n).1.2 root)) := by
        show _ = _
        rw [HD.out, hY0.out, if_neg (by simp)]
      have HB := Lib.hid D.out.bn
      obtain ⟨b0, b1, b2, b3⟩ := nd_cells D.out.bn
      obtain ⟨l'', C1, i1, o1, C2, i2, o2, C3, i3, o3, e, HEn, -, -, -, R3⟩ := D.out.nd.1.opened
      injection e with e
      injection e with e
      injection e with e0 e
      injection e with e1 e
      injection e with e2 e
      injection e with e3 _
      injection e0 with e0
      subst e0
      injection e3 with e3 e4 e5
      subst e3 e4 e5
      clear e1 e2
      have CLn := Lib.hid fun w' (kk : Kept (fun _ => False) wr w') => NdLen_calls (D.out.nd.1.kept kk)
      have CPt := Lib.hid fun w' (kk : Kept (fun _ => False) wr w') => TWput_calls (D.out.hw.keptF kk) (D.out.nd.keptF kk).zero F.out.2.1 (Nat.le_trans (Nat.le_of_lt (lt_heap D.out.hw.blk)) kk.size) (by have := F.out; omega)
      have PB : Hid ((putP U n).2.fresh.length ≤ 1000 ∧ (putP U n).2.old.length ≤ 1000) := by
        have h1 := putP_fresh U n
        have h2 := putP_old U n
        have := F.out
        exact ⟨by omega, by rw [h2]; omega⟩
      obtain ⟨⟨⟨ti, te⟩, U7⟩, hpu⟩ : ∃ x, x = putP U n := ⟨_, rfl⟩
      rw [← hpu] at CPt PB
      have HPU := Lib.hid hpu
      unfold PutTo at CPt
      obtain ⟨ll, hll⟩ : ∃ x, x = n.len := ⟨_, rfl⟩
      rw [← hll] at CLn
      have HLL := Lib.hid hll
      have HLe := Lib.hid HEn.out.1
      have HLk := Lib.hid HEn.out.2.2.2
      clear hpu hll hj h0
      cases vl
      · by_cases hz : ll = 1
        · have hk1 : n.kids.length = 1 := by
            have := HLL.out
            have e : n.leaf = false := HLe.out.symm
            simp [Nd.len, e] at this; omega
          obtain ⟨g3, c3', ev3⟩ := own_form R3.out (by omega)
          injection ev3 with ev3 ev4 ev5
          subst ev3
          clear ev4 ev5
          have q3 : wr.cell? ⟨g3, 0, none⟩ = some (.int .i64 (n.kids.getD 0 0 : Nat)) := by
            rw [IRow.at_ R3.out (by omega)]
            simp [List.getD, hk1]
          have lg3 : g3 < wr.heap.size := own_lt R3.out rfl
          have hi3 : x3 = 1 := by have := HLk.out; omega
          obtain ⟨kd, hkd⟩ : ∃ x, x = n.kids.getD 0 0 := ⟨_, rfl⟩
          rw [← hkd] at q3
          have CD := Lib.hid fun w' (kk : Kept (fun _ => False) wr w') => TWdone_calls (D.out.hw.keptF kk) (by have := F.out; exact ⟨by omega, by omega⟩) (kd : Nat) 0
          unfold DoneTo at CD
          obtain ⟨⟨f1, f2, f3⟩, hf⟩ : ∃ x, x = doneP U (kd : Nat) 0 root := ⟨_, rfl⟩
          rw [← hf] at CD
          dsimp only at CD
          have hr : Hid (r = (true, f1, f2, f3)) := by
            show _ = _
            rw [HDn.out, if_neg (by rw [← HLe.out]; simp), if_pos ⟨HLe.out.symm, by rw [← HLL.out]; exact hz⟩, ← hkd, hf]
          have g1 : ((ll : Int) == 1) = true := by rw [beq_iff_eq]; omega
          subst hi3
          clear hf hkd hk1 hz
          go_wp2_with fail
          refine (CLn.out _ (Kept.refl _ _)).mono ?_
          rintro e w6 ⟨rfl, k6⟩
          have K6 := Lib.hid k6
          obtain ⟨b0', b1', b2', b3'⟩ := nd_cells (k6.heap HB.out id)
          have q3' : w6.cell? ⟨g3, 0, none⟩ = some (.int .i64 kd) := (World.cell?_of_block (k6.block g3 lg3 id)).trans q3
          clear b0 b1 b2 b3 q3 lg3 CLn
          go_wp2_with fail
          refine (CD.out _ k6).mono ?_
          rintro e w8 ⟨rfl, tw8, k8⟩
          have T8 := Lib.hid tw8; have K8 := Lib.hid k8
          clear tw8 k8 CD
          go_wp2_with fail
          refine bodyPost_ret (v := .tuple #[.bool true, .int .i64 f1]) (by simp [results, Tryz.f35, go_sem]) rfl ?_
          rw [hr.out]
          exact ⟨rfl, T8.out, ((D.out.kw.then K6.out fun _ _ => False.elim).mono fun i _ e => by rcases e with e | e; exact .inl e; exact .inr (.inl e)).trans K8.out⟩
        · have g1 : ((ll : Int) == 1) = false := by rw [beq_eq_false_iff_ne]; omega
          have HZ1 := Lib.hid hz
          clear hz
          go_wp2_with fail
          refine (CLn.out _ (Kept.refl _ _)).mono ?_
          rintro e w6 ⟨rfl, k6⟩
          have K6 := Lib.hid k6
          obtain ⟨b0', b1', b2', b3'⟩ := nd_cells (k6.heap HB.out id)
          clear b0 b1 b2 b3 CLn
          go_wp2_with fail
          refine (CPt.out _ k6).mono ?_
          rintro e w7 ⟨rfl, vf7, hw7, hk7, hv7⟩
          dsimp only at hw7 hk7 hv7 ⊢
          have HW7 := Lib.hid hw7; have HK7 := Lib.hid hk7
          have CD := Lib.hid (TWdone_calls HW7.out PB.out ti te)
          unfold DoneTo at CD
          obtain ⟨⟨f1, f2, f3⟩, hf⟩ : ∃ x, x = doneP U7 ti te root := ⟨_, rfl⟩
          rw [← hf] at CD
          dsimp only at CD
          have hr : Hid (r = (decide (te = 0), f1, f2, f3)) := by
            show _ = _
            rw [HDn.out, if_neg (by rw [← HLe.out]; simp), if_neg (fun h => HZ1.out (HLL.out.trans h.2)), hf, ← HPU.out]
          clear hf hw7 hk7 hv7 CPt
          by_cases hz : te = 0
          · subst hz
            go_wp2_with fail
            refine CD.out.mono ?_
            rintro e w8 ⟨rfl, tw8, k8⟩
            have T8 := Lib.hid tw8; have K8 := Lib.hid k8
            clear tw8 k8 CD
            go_wp2_with fail
            refine bodyPost_ret (v := .tuple #[.bool true, .int .i64 f1]) (by simp [results, Tryz.f35, go_sem]) rfl ?_
            rw [hr.out]
            refine ⟨by simp, T8.out, ((D.out.kw.then ((K6.out.mono fun _ _ => False.elim).trans HK7.out) fun i hi e => ?_).mono fun i _ e => by rcases e with e | e; exact .inl e; exact .inr (.inl e)).trans K8.out⟩
            have := HQ.out
            rcases e with e | e | e | e
            · exact .inl e
            · exact .inr e
            · omega
            · have := own_ge D.out.hw.rf e; omega
          · have g1 : (te == 0) = false := by rw [beq_eq_false_iff_ne]; exact hz
            have HZ := Lib.hid hz
            clear hz
            go_wp2_with fail
            refine CD.out.mono ?_
            rintro e w8 ⟨rfl, tw8, k8⟩
            have T8 := Lib.hid tw8; have K8 := Lib.hid k8
            clear tw8 k8 CD
            go_wp2_with fail
            refine bodyPost_ret (v := .tuple #[.bool false, .int .i64 f1]) (by simp [results, Tryz.f35, go_sem]) rfl ?_
            rw [hr.out]
            refine ⟨by rw [decide_eq_false HZ.out], T8.out, ((D.out.kw.then ((K6.out.mono fun _ _ => False.elim).trans HK7.out) fun i hi e => ?_).mono fun i _ e => by rcases e with e | e; exact .inl e; exact .inr (.inl e)).trans K8.out⟩
            have := HQ.out
            rcases e with e | e | e | e
            · exact .inl e
            · exact .inr e
            · omega
            · have := own_ge D.out.hw.rf e; omega
      · by_cases hz : ll = 0
        · have CD := Lib.hid fun w' (kk : Kept (fun _ => False) wr w') => TWdone_calls (D.out.hw.keptF kk) (by have := F.out; exact ⟨by omega, by omega⟩) (-1) 0
          unfold DoneTo at CD
          obtain ⟨⟨f1, f2, f3⟩, hf⟩ : ∃ x, x = doneP U (-1) 0 root := ⟨_, rfl⟩
          rw [← hf] at CD
          dsimp only at CD
          have hr : Hid (r = (true, f1, f2, f3)) := by
            show _ = _
            rw [HDn.out, if_pos ⟨HLe.out.symm, by rw [← HLL.out]; exact hz⟩, hf]
          have g1 : ((ll : Int) == 0) = true := by rw [beq_iff_eq]; omega
          clear hf hz
          go_wp2_with fail
          refine (CLn.out _ (Kept.refl _ _)).mono ?_
          rintro e w6 ⟨rfl, k6⟩
          have K6 := Lib.hid k6
          obtain ⟨b0', b1', b2', b3'⟩ := nd_cells (k6.heap HB.out id)
          clear b0 b1 b2 b3 CLn
          go_wp2_with fail
          refine (CD.out _ k6).mono ?_
          rintro e w8 ⟨rfl, tw8, k8⟩
          have T8 := Lib.hid tw8; have K8 := Lib.hid k8
          clear tw8 k8 CD
          go_wp2_with fail
          refine bodyPost_ret (v := .tuple #[.bool true, .int .i64 f1]) (by simp [results, Tryz.f35, go_sem]) rfl ?_
          rw [hr.out]
          exact ⟨rfl, T8.out, ((D.out.kw.then K6.out fun _ _ => False.elim).mono fun i _ e => by rcases e with e | e; exact .inl e; exact .inr (.inl e)).trans K8.out⟩
        · have g1 : ((ll : Int) == 0) = false := by rw [beq_eq_false_iff_ne]; omega
          have HZ1 := Lib.hid hz
          clear hz
          go_wp2_with fail
          refine (CLn.out _ (Kept.refl _ _)).mono ?_
          rintro e w6 ⟨rfl, k6⟩
          have K6 := Lib.hid k6
          obtain ⟨b0', b1', b2', b3'⟩ := nd_cells (k6.heap HB.out id)
          clear b0 b1 b2 b3 CLn
          go_wp2_with fail
          refine (CPt.out _ k6).mono ?_
          rintro e w7 ⟨rfl, vf7, hw7, hk7, hv7⟩
          dsimp only at hw7 hk7 hv7 ⊢
          have HW7 := Lib.hid hw7; have HK7 := Lib.hid hk7
          have CD := Lib.hid (TWdone_calls HW7.out PB.out ti te)
          unfold DoneTo at CD
          obtain ⟨⟨f1, f2, f3⟩, hf⟩ : ∃ x, x = doneP U7 ti te root := ⟨_, rfl⟩
          rw [← hf] at CD
          dsimp only at CD
          have hr : Hid (r = (decide (te = 0), f1, f2, f3)) := by
            show _ = _
            rw [HDn.out, if_neg (fun h => HZ1.out (HLL.out.trans h.2)), if_neg (fun h => by have := h.1; rw [← HLe.out] at this; cases this), hf, ← HPU.out]
          clear hf hw7 hk7 hv7 CPt
          by_cases hz : te = 0
          · subst hz
            go_wp2_with fail
            refine CD.out.mono ?_
            rintro e w8 ⟨rfl, tw8, k8⟩
            have T8 := Lib.hid tw8; have K8 := Lib.hid k8
            clear tw8 k8 CD
            go_wp2_with fail
            refine bodyPost_ret (v := .tuple #[.bool true, .int .i64 f1]) (by simp [results, Tryz.f35, go_sem]) rfl ?_
            rw [hr.out]
            refine ⟨by simp, T8.out, ((D.out.kw.then ((K6.out.mono fun _ _ => False.elim).trans HK7.out) fun i hi e => ?_).mono fun i _ e => by rcases e with e | e; exact .inl e; exact .inr (.inl e)).trans K8.out⟩
            have := HQ.out
            rcases e with e | e | e | e
            · exact .inl e
            · exact .inr e
            · omega
            · have := own_ge D.out.hw.rf e; omega
          · have g1 : (te == 0) = false := by rw [beq_eq_false_iff_ne]; exact hz
            have HZ := Lib.hid hz
            clear hz
            go_wp2_with fail
            refine CD.out.mono ?_
            rintro e w8 ⟨rfl, tw8, k8⟩
            have T8 := Lib.hid tw8; have K8 := Lib.hid k8
            clear tw8 k8 CD
            go_wp2_with fail
            refine bodyPost_ret (v := .tuple #[.bool false, .int .i64 f1]) (by simp [results, Tryz.f35, go_sem]) rfl ?_
            rw [hr.out]
            refine ⟨by rw [decide_eq_false HZ.out], T8.out, ((D.out.kw.then ((K6.out.mono fun _ _ => False.elim).trans HK7.out) fun i hi e => ?_).mono fun i _ e => by rcases e with e | e; exact .inl e; exact .inr (.inl e)).trans K8.out⟩
            have := HQ.out
            rcases e with e | e | e | e
            · exact .inl e
            · exact .inr e
            · omega
            · have := own_ge D.out.hw.rf e; omega
theorem TreeDelete_calls {w q X root} (h : TW w q X root) (k : Bs) : Calls Tryz.prog 35 #[.pointer (some ⟨q.t, 0, none⟩), .string (ba k)] w (DelTo (delT X root k) w q) := by
  by_cases hg : (getT X root k).2 ≠ 0 ∨ (getT X root k).1.2 = false
  · exact TreeDelete_none h k hg
  · obtain ⟨v, hv⟩ : ∃ v, getT X root k = ((v, true), 0) := ⟨(getT X root k).1.1, Prod.ext (Prod.ext rfl (by simpa using fun h => hg (.inr h))) (Classical.not_not.1 fun h => hg (.inl h))⟩
    obtain ⟨r, rfl, hd⟩ := getT_found hv
    exact TreeDelete_way h k hv hd
end Go.Proofs.YtfgjehecjgebdaaGreat
