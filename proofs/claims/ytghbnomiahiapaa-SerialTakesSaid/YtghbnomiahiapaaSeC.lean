/- serial: Orders' closure: the walk. -/
import Derived.Test.YtghbnomiahiapaaSeB
namespace Go.Proofs.Ytghbnomiahiapaa
open Go.RowKit
attribute [local go_sem] Oper.semAt_some
theorem und_ints : Try.prog.underlying 22 = some (.slice 3) := by kernel_rfl
theorem und_intss : Try.prog.underlying 30 = some (.slice 22) := by kernel_rfl
theorem info_int : (Try.prog.info? 3).map (fun i => (i.zero, i.size, i.bytes)) = some (some (.int .i64 0), 1, 8) := by kernel_rfl
theorem info_ints : (Try.prog.info? 22).map (fun i => (i.zero, i.size, i.bytes)) = some (some (.slice none 0 0), 1, 24) := by kernel_rfl
theorem nu_one (l : List Nat) : ∀ u ∈ l.map Nu, u.oneCell' = true := by
  intro u hu
  obtain ⟨x, _, rfl⟩ := List.mem_map.1 hu
  rfl
/-- What Clone leaves. -/
theorem cln_calls {w B s ws} (h : NRow w B s ws) (hl : ws.length ≤ 1000) : Calls Try.prog 10 #[s] w fun e w' => ∃ A c, e = .returned (.slice A ws.length c) ∧ NRow w' w.heap.size (.slice A ws.length c) ws ∧ Kept (fun _ => False) w w' := by
  rcases h.2 with ⟨rfl, hn⟩ | ⟨g, cap, cur, rfl, _, hh, hnc, hcm, hcs, htk⟩
  · have : ws = [] := List.length_eq_zero_iff.1 hn
    subst this
    refine (Any.slices_Clone_int_nil Try.cloneI 0 0 w).mono ?_
    rintro e w' ⟨rfl, rfl⟩
    exact ⟨_, _, rfl, World.ownsRow_nil _ _ _ _, Kept.refl _ _⟩
  · refine (Any.slices_Clone_int Try.cloneI g 0 ws.length cap (ws.map fun n : Nat => (n : Int)) w (by simp) (by omega) (fun j hj => ?_)).mono ?_
    · have hj' : j < ws.length := by simpa using hj
      have e := World.ownsRow.cellAt h j (by omega)
      rw [Nat.zero_add, e]; simp [List.getD, hj', Nu]
    · rintro e w' ⟨v', rfl, h1, _, h2⟩
      have e : ((ws.map fun n : Nat => (n : Int)).take ws.length).map (Value.int .i64) = ws.map Nu := by
        rw [List.take_of_length_le (by simp), List.map_map]; rfl
      rw [e] at h1
      rcases h1.2 with ⟨rfl, e⟩ | ⟨_, _, _, rfl, _⟩
      · have : ws = [] := List.length_eq_zero_iff.1 e
        subst this
        exact ⟨_, _, rfl, h1, Kept.of_below h2⟩
      · exact ⟨_, _, rfl, h1, Kept.of_below h2⟩
set_option maxHeartbeats 4000000 in
theorem grow_last {w B W L O G v af vw ws vo vs outs} (h : Gr w B W L O G v af vw ws vo vs outs) (hB : B ≤ w.heap.size) (hn : ws.length = af.length) (h6 : af.length ≤ 6) (hlen : outs.length ≤ 1000) :
    Calls Try.prog 9 #[.pointer (some ⟨W, 0, none⟩), .pointer (some ⟨L, 0, none⟩), .pointer (some ⟨O, 0, none⟩), .pointer (some ⟨G, 0, none⟩)] w fun e w' => e = .returned (.tuple #[]) ∧ ∃ vw' vo' vs', Gr w' B W L O G v af vw' ws vo' vs' (outs ++ [ws]) ∧ Kept (B ≤ ·) w w' := by
  have H := Lib.hid h; have HB := Lib.hid hB
  have HLN := Lib.hid (And.intro hn (And.intro h6 hlen))
  obtain ⟨b, off, c, rfl, -⟩ := h.tx
  obtain ⟨gw, cw, hvw⟩ : ∃ A c, vw = .slice A ws.length c := by
    rcases h.wy.2 with ⟨rfl, e⟩ | ⟨g, cap, cur, rfl, _⟩
    · exact ⟨none, 0, by rw [e]⟩
    · exact ⟨_, _, rfl⟩
  subst hvw
  have cL : w.cell? ⟨L, 0, none⟩ = some (.slice (some ⟨b, off, none⟩) af.length c) := (cell_heap h.hL 0).trans rfl
  have cW : w.cell? ⟨W, 0, none⟩ = some (.slice gw ws.length cw) := (cell_heap h.hW 0).trans rfl
  have cO : w.cell? ⟨O, 0, none⟩ = some vo := (cell_heap h.hO 0).trans rfl
  obtain ⟨n, hN⟩ : ∃ n, n = af.length := ⟨_, rfl⟩
  rw [hn, ← hN] at cW
  rw [← hN] at cL
  have CC := Lib.hid fun w' (k : Kept (fun _ => False) w w') => cln_calls (k.own h.wy fun _ _ => id) (by omega)
  rw [hn, ← hN] at CC
  have HN := Lib.hid hN
  rw [← hN]
  clear h hB hn h6 hlen hN
  go_enter Try.func9, Try.ntmps9
  go_wp2_with fail
  refine wp_region_z 5 (fun w' => w'.cell? ⟨O, 0, none⟩ = some vo ∧ w'.cell? ⟨W, 0, none⟩ = some (.slice gw n cw)) (by kernel_rfl) ⟨cO, cW⟩ (fun hC => ?_)
  refine tz 0 (h := ?_)
  (try simp only [lits])
  refine tz 1 (h := ?_)
  (try simp only [lits])
  refine wpAnyZ_one (i := 2) (by kernel_rfl) rfl (fun K hK => ?_)
  go_simp
  refine (CC.out _ ((Kept.refl _ _).drew)).mono ?_
  rintro e w1 ⟨As, cs, rfl, hs, k1'⟩
  have k1 : Kept (fun _ => False) w w1 := ((Kept.refl _ _).drew).trans k1'
  have HS := Lib.hid hs; have K1 := Lib.hid k1
  refine hK.out _ _ (fun _ => ⟨(World.cell?_of_block (k1.block O (lt_heap H.out.hO) not_false)).trans cO, (World.cell?_of_block (k1.block W (lt_heap H.out.hW) not_false)).trans cW⟩) ?_
  clear hK hC hs k1 k1'
  (try simp only [lits])
  refine wpAnyZ_one (i := 3) (by kernel_rfl) rfl (fun K hK => ?_)
  go_simp
  have k2 : Kept (fun _ => False) w (w1.alloc (.cells #[.slice As n cs] 22)) := K1.out.alloc _
  refine hK.out _ _ (fun _ => ⟨(World.cell?_of_block (k2.block O (lt_heap H.out.hO) not_false)).trans cO, (World.cell?_of_block (k2.block W (lt_heap H.out.hW) not_false)).trans cW⟩) ?_
  clear hK
  (try simp only [lits])
  refine wpAnyZ_one (i := 4) (by kernel_rfl) rfl (fun K hK => ?_)
  have OW : Hid ((w1.alloc (.cells #[.slice As n cs] 22)).ownsRow 0 22 1 vo vs.length vs) := own_base (k2.own H.out.ro fun _ _ => id) fun _ _ => Nat.zero_le _
  clear k2
  refine step_one (v := vo) rfl (.tmp 10) (.tmp 13) rfl und_intss info_ints rfl rfl OW.out _ rfl (reads_one w1 (.slice As n cs) 22) (by intro u hu; rw [List.mem_singleton.1 hu]; rfl) (by have := HLN.out; have := H.out.ou.1; unfold maxLen; omega) (by have := HLN.out; have := H.out.ou.1; omega) ?_
  intro v' w2 hv' hg' hob'
  obtain ⟨gv, cv, rfl⟩ := own_form hv' (by omega)
  have R := Lib.hid (H.out.out HB.out K1.out HS.out rfl hv' hg' hob')
  have hcO : w2.cell? ⟨O, 0, none⟩ = some vo ∧ w2.cell? ⟨W, 0, none⟩ = some (.slice gw n cw) ∧ ∀ i, w2.frozen? ⟨O, i, none⟩ = false := by
    have k2 : Kept (fun g => vo.ownBlock = some g) w w2 := (K1.out.mono fun _ _ e => e.elim).trans (((Kept.refl _ _).alloc _).grown hg' fun k e => .inl e)
    have hO := k2.heap H.out.hO (own_neH H.out.ro H.out.hO (by decide))
    exact ⟨(cell_heap hO 0).trans rfl, (World.cell?_of_block (k2.block W (lt_heap H.out.hW) H.out.oW)).trans cW, fun i => free_heap hO i⟩
  obtain ⟨cO2, cW2, fO⟩ := hcO
  refine hK.out _ _ (fun _ => ⟨cO2, cW2⟩) ?_
  clear hK hv' hg' hob' OW K1
  (try simp only [lits])
  refine wpAnyZ_one (i := 5) (by kernel_rfl) rfl (fun K hK => ?_)
  go_simp
  refine hK.out _ _ (fun h => by cases h) ?_
  clear hK
  (try simp only [lits])
  refine wpAnyZ_done (by kernel_rfl) ?_ _
  go_wp2_with fail
  refine bodyPost_ret (v := .tuple #[]) (by simp [results, Try.f9, go_sem]) rfl ?_
  rw [HN.out]
  exact ⟨rfl, _, _, _, R.out.1, R.out.2⟩
theorem Gr.way {w B W L O G v af vw ws vo vs outs} (h : Gr w B W L O G v af vw ws vo vs outs) : ∃ A c, vw = .slice A ws.length c := by
  rcases h.wy.2 with ⟨rfl, e⟩ | ⟨g, cap, cur, rfl, _⟩
  · exact ⟨none, 0, by rw [e]⟩
  · exact ⟨_, _, rfl⟩
theorem Gr.add' {w w2 B W L O G v af gk ck ws vo vs outs} (h : Gr w B W L O G v af (.slice gk ws.length ck) ws vo vs outs) {d : Nat} (hd : d = ws.length) (hB : B ≤ w.heap.size) {a : Obj} {k : Nat} {v' : Value} (hv : w2.ownsRow 0 3 1 v' (d + 1) (ws.map Nu ++ [Nu k]))
    (hg : (w.alloc a).grownBy w2 (Value.slice gk d ck).ownBlock) (hob : v'.ownBlock = (Value.slice gk d ck).ownBlock ∨ v'.ownBlock = some (w.alloc a).heap.size) :
    w2.cell? ⟨W, 0, none⟩ = some (.slice gk d ck) ∧ (∀ i, w2.frozen? ⟨W, i, none⟩ = false) ∧ (Gr (w2.setCell ⟨W, 0, none⟩ v') B W L O G v af v' (ws ++ [k]) vo vs outs ∧ Kept (B ≤ ·) w (w2.setCell ⟨W, 0, none⟩ v')) ∧
      (w2.setCell ⟨W, 0, none⟩ v').cell? ⟨G, 0, none⟩ = some (.func (.func 9) #[] #[.pointer (some ⟨W, 0, none⟩), .pointer (some ⟨L, 0, none⟩), .pointer (some ⟨O, 0, none⟩), .pointer (some ⟨G, 0, none⟩)]) := by
  subst hd
  have R := h.add hB hv hg hob
  have k2 : Kept (fun g => (Value.slice gk ws.length ck).ownBlock = some g) w w2 := ((Kept.refl _ _).alloc a).grown hg fun k e => .inl e
  have hW := k2.heap h.hW (own_neH h.wy h.hW (by decide))
  exact ⟨(cell_heap hW 0).trans rfl, fun i => free_heap hW i, R, (cell_heap R.1.hG 0).trans rfl⟩
theorem Gr.less' {w B W L O G v af vw ws k vo vs outs} (h : Gr w B W L O G v af vw (ws ++ [k]) vo vs outs) {d : Nat} (hd : d = ws.length) : ∃ g c, vw = .slice (some ⟨g, 0, none⟩) (d + 1) c ∧ d + 1 ≤ c ∧ w.cell? ⟨W, 0, none⟩ = some (.slice (some ⟨g, 0, none⟩) (d + 1) c) ∧ (∀ i, w.frozen? ⟨W, i, none⟩ = false) ∧
    Gr (w.setCell ⟨W, 0, none⟩ (.slice (some ⟨g, 0, none⟩) d c)) B W L O G v af (.slice (some ⟨g, 0, none⟩) d c) ws vo vs outs ∧ Kept (B ≤ ·) w (w.setCell ⟨W, 0, none⟩ (.slice (some ⟨g, 0, none⟩) d c)) := by
  subst hd
  have h1 := h.wy
  unfold NRow at h1
  rw [List.length_append, List.map_append] at h1
  obtain ⟨g, c, rfl, hc, -⟩ := own_less h1
  exact ⟨g, c, rfl, hc, (cell_heap h.hW 0).trans rfl, fun i => free_heap h.hW i, h.less⟩
def GrowOk (n : Nat) : Prop := ∀ (w : World) (B W L O G : Nat) (v : Value) (af : List Int) (vw : Value) (ws : List Nat) (vo : Value) (vs : List Value) (outs : List (List Nat)), Gr w B W L O G v af vw ws vo vs outs → B ≤ w.heap.size → ws.length + n = af.length → af.length ≤ 6 → outs.length + (growL af n ws).length ≤ 1000 →
    Calls Try.prog 9 #[.pointer (some ⟨W, 0, none⟩), .pointer (some ⟨L, 0, none⟩), .pointer (some ⟨O, 0, none⟩), .pointer (some ⟨G, 0, none⟩)] w fun e w' => e = .returned (.tuple #[]) ∧ ∃ vw' vo' vs', Gr w' B W L O G v af vw' ws vo' vs' (outs ++ growL af n ws) ∧ Kept (B ≤ ·) w w'
set_option maxHeartbeats 8000000 in
theorem ord_step {n : Nat} (ih : GrowOk n) : GrowOk (n + 1) := by
  intro w B W L O G v af vw ws vo vs outs h hB hn h6 hl
  have IH := Lib.hid ih
  have H := Lib.hid h; have HB := Lib.hid hB
  have hl' : outs.length + (gpart af n ws af.length).length ≤ 1000 := hl
  have HL := Lib.hid hl'
  obtain ⟨b, off, c, rfl, -⟩ := h.tx
  obtain ⟨gw, cw, rfl⟩ := h.way
  have cL : w.cell? ⟨L, 0, none⟩ = some (.slice (some ⟨b, off, none⟩) af.length c) := (cell_heap h.hL 0).trans rfl
  have cW : w.cell? ⟨W, 0, none⟩ = some (.slice gw ws.length cw) := (cell_heap h.hW 0).trans rfl
  obtain ⟨m, hM⟩ : ∃ m, m = af.length := ⟨_, rfl⟩
  obtain ⟨d, hD⟩ : ∃ d, d = ws.length := ⟨_, rfl⟩
  rw [← hM] at cL
  rw [← hD] at cW
  have hm6 : m ≤ 6 := by omega
  have hdm : d < m := by omega
  have hdm2 : ((d : Int) == (m : Int)) = false := by rw [beq_eq_false_iff_ne]; omega
  have HMD := Lib.hid (And.intro hM (And.intro hD hn))
  clear h hB hl hl' hM hD hn h6 ih
  go_enter Try.func9, Try.ntmps9
  go_wp2_with fail
  clear cL cW
  go_loopw [17] (fun i wr => ∃ (k : Nat) (vw' vo' : Value) (vs' : List Value), k ≤ m ∧ i = .int .i64 k ∧ Hid (Gr wr B W L O G (.slice (some ⟨b, off, none⟩) af.length c) af vw' ws vo' vs' (outs ++ gpart af n ws k)) ∧ Hid (Kept (B ≤ ·) w wr)) (fun i _ => m - (RowKit.intOf i).toNat)
  case atStart => exact ⟨0, _, _, _, Nat.zero_le _, rfl, (show outs ++ gpart af n ws 0 = outs by simp [gpart]) ▸ H, Kept.refl _ _⟩
  case round =>
    obtain ⟨k, vw', vo', vs', hk, rfl, HG, HK⟩ := hrel
    have hcL : wr.cell? ⟨L, 0, none⟩ = some (.slice (some ⟨b, off, none⟩) m c) := by rw [HMD.out.1]; exact (cell_heap HG.out.hL 0).trans rfl
    obtain ⟨gk, ck, hvk⟩ := HG.out.way
    subst hvk
    have hcW : wr.cell? ⟨W, 0, none⟩ = some (.slice gk d ck) := by rw [HMD.out.2.1]; exact (cell_heap HG.out.hW 0).trans rfl
    by_cases hkm : k < m
    · have CM := Lib.hid (may_calls (k := k) HG.out.txs HG.out.wy (by have := HMD.out; omega) (by have := HMD.out; omega) (by have := HMD.out; omega))
      rw [← HMD.out.1, ← HMD.out.2.1] at CM
      go_wp2_with fail
      refine CM.out.mono ?_
      rintro e w' ⟨rfl, rfl⟩
      obtain ⟨mb, hmb⟩ : ∃ x, x = mayB af ws k := ⟨_, rfl⟩
      rw [← hmb]
      have HMB := Lib.hid hmb
      clear CM hmb
      cases mb with
      | false =>
        go_wp2_with fail
        go_roundw
        case rel => exact ⟨k + 1, _, _, _, by omega, by go_num, (show outs ++ gpart af n ws (k + 1) = outs ++ gpart af n ws k by rw [gpart_succ, ← HMB.out]; simp) ▸ HG, HK.out⟩
        case measure => simp [RowKit.intOf]; omega
      | true =>
        have OWN : Hid ((wr.alloc (.cells #[.int .i64 (k : Int)] 3)).ownsRow 0 3 1 (.slice gk d ck) d (ws.map Nu)) := by
          rw [HMD.out.2.1]
          exact own_base (((Kept.refl (fun _ => False) wr).alloc _).own HG.out.wy fun _ _ => id) fun _ _ => Nat.zero_le _
        have hwB : Hid (B ≤ wr.heap.size) := Nat.le_trans HB.out HK.out.size
        go_wp2_with (at_builtin; (refine app_one (v := .slice gk d ck) rfl (.tmp 24) (.tmp 26) rfl und_ints info_int rfl rfl OWN.out _ rfl (reads_one wr (.int .i64 (k : Int)) _) (nu_one [k]) (by unfold maxLen; omega) (by omega) ?_; intro v' w6 hv' hg' hob'; obtain ⟨g6, c6, rfl⟩ := own_form hv' (by omega); obtain ⟨cW6, fz, R, cG⟩ := HG.out.add' HMD.out.2.1 hwB.out hv' hg' hob'; have RR := Lib.hid R; clear hv' hg' hob' R))
        have hIH := Lib.hid (IH.out _ B W L O G _ af _ _ _ _ _ RR.out.1 (Nat.le_trans HB.out (HK.out.trans RR.out.2).size) (by have := HMD.out; simp; omega) (by have := HMD.out; omega) (by
          have h1 := HL.out
          have h2 := gpart_le af n ws (k := k + 1) (m := af.length) (by have := HMD.out; omega)
          rw [gpart_succ, ← HMB.out] at h2
          simp only [if_true, List.length_append] at h2 ⊢
          omega))
        refine hIH.out.mono ?_
        rintro e w7 ⟨rfl, vw7, vo7, vs7, g7, k7⟩
        obtain ⟨g8, c8, rfl, hc8, cW7, fz7, g9, k9⟩ := g7.less' HMD.out.2.1
        have R9 := Lib.hid g9; have K9 := Lib.hid (((HK.out.trans RR.out.2).trans k7).trans k9)
        clear g7 k7 g9 k9 RR hIH
        go_wp2_with fail
        go_roundw
        case rel => exact ⟨k + 1, _, _, _, by omega, by go_num, (show (outs ++ gpart af n ws k) ++ growL af n (ws ++ [k]) = outs ++ gpart af n ws (k + 1) by rw [gpart_succ, ← HMB.out]; simp) ▸ R9, K9.out⟩
        case measure => simp [RowKit.intOf]; omega
    · go_wp2_with fail
      go_end0
      obtain rfl : k = m := by omega
      exact ⟨rfl, _, _, _, (show gpart af n ws k = growL af (n + 1) ws by rw [HMD.out.1]; rfl) ▸ HG.out, HK.out⟩
theorem grow_calls : ∀ n, GrowOk n
  | 0 => fun _ _ _ _ _ _ _ _ _ _ _ _ _ h hB hn h6 hl => grow_last h hB hn h6 (by simp [growL] at hl; omega)
  | n + 1 => ord_step (grow_calls n)
end Go.Proofs.Ytghbnomiahiapaa
