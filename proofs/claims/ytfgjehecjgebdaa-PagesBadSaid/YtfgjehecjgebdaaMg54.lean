/- PagesBad: the walk. -/
import Derived.Test.YtfgjehecjgebdaaMg53
import Derived.Test.YtfgjehecjgebdaaMg49
import Derived.Test.YtfgjehecjgebdaaMg06
import Derived.Test.YtfgjehecjgebdaaMg07
import Derived.Test.YtfgjehecjgebdaaMg52
import Derived.StillTailTactics
namespace Go.Proofs.Ytfgjehecjgebdaa
open Go.RowKit Go.Maps Go.ChangeMaps

def page4 : List UInt8 := [112, 97, 103, 101]
def badR : RSto := (rCheck (rPut (rNew 8) page4).1 0 1 1).1
theorem badR_l : badR.l.getD 0 0 = 1 := by decide
theorem badR_K : badR.K.getD 0 [] = page4 := by decide

set_option maxHeartbeats 30000000 in
set_option maxRecDepth 100000 in
theorem bad_walk (sa : Int) (ma : Nat) (da : ByteArray) (sb : Int) (mb : Nat) (db : ByteArray) (a4 b4 : Int) (w : World) (hsa : -9223372036854775808 ≤ sa ∧ sa ≤ 9223372036854775807) (hsb : -9223372036854775808 ≤ sb ∧ sb ≤ 9223372036854775807)
    (hma : ma < 256) (hmb : mb < 256) (hda : da.size ≤ maxLen) (hdb : db.size ≤ maxLen) (_ha4 : -9223372036854775808 ≤ a4 ∧ a4 ≤ 9223372036854775807) (_hb4 : -9223372036854775808 ≤ b4 ∧ b4 ≤ 9223372036854775807) :
    Calls Try.prog 8 #[.agg #[.int .i64 sa, .int .u8 ma, .string da], .agg #[.int .i64 sb, .int .u8 mb, .string db], .int .i64 a4, .int .i64 b4] w fun e w' => e = .returned (.bool true) ∧ Kept (fun _ => False) w w' := by
  obtain ⟨am, ham⟩ : ∃ x, x = a4 % 65536 := ⟨_, rfl⟩
  obtain ⟨bm, hbm⟩ : ∃ x, x = b4 % 128 := ⟨_, rfl⟩
  have and1 : bits BinOp.and IntKind.i64 a4 65535 = am := by rw [ham]; exact and_mask a4 16 (by omega)
  have and2 : bits BinOp.and IntKind.i64 b4 127 = bm := by rw [hbm]; exact and_mask b4 7 (by omega)
  obtain ⟨p, hp⟩ : ∃ p : Nat, (p : Int) = am % 256 := ⟨(am % 256).toNat, by omega⟩
  obtain ⟨dl, hdl⟩ : ∃ n : Nat, (n : Int) = 1 + bm := ⟨(1 + bm).toNat, by omega⟩
  have hp256 : p < 256 := by omega
  have hdl1 : 1 ≤ dl := by omega
  have hdl2 : dl ≤ 128 := by omega
  have ham1 : 0 ≤ am := by omega
  have ham2 : am < 65536 := by omega
  have hbm1 : 0 ≤ bm := by omega
  have hbm2 : bm < 128 := by omega
  have e1 : am % 256 = (p : Int) := hp.symm
  have e2 : 1 + bm = (dl : Int) := hdl.symm
  obtain ⟨sk, hsk⟩ : ∃ n : Nat, n = 2 + p / 64 := ⟨_, rfl⟩
  obtain ⟨r, hr⟩ : ∃ n : Nat, n = p % 64 := ⟨_, rfl⟩
  have e3 : (128 + (p : Int)) / 64 = (sk : Int) := by omega
  have e4 : (128 + (p : Int)) % 64 = (r : Int) := by omega
  have hr64 : r < 64 := by omega
  have hsk40 : sk < 40 := by omega
  have HSK := Lib.hid hsk
  have HRR := Lib.hid hr
  have HDA := Lib.hid hda
  have HDB := Lib.hid hdb
  have HSA := Lib.hid hsa
  have HSB := Lib.hid hsb
  clear ham hbm hp hdl hsk hr hda hdb hsa hsb
  go_enter Try.func8, Try.ntmps8
  go_wp2_with fail
  obtain ⟨W0, hW0⟩ : ∃ W, W = (w.alloc (.cells #[.int .i64 sa, .int .u8 ma, .string da] 64)).alloc (.cells #[.int .i64 sb, .int .u8 mb, .string db] 64) := ⟨_, rfl⟩
  rw [← hW0]
  have K0 : Hid (Kept (fun _ => False) w W0) := by rw [hW0]; exact ((Kept.refl _ _).alloc _).alloc _
  have hbA : W0.heap[w.heap.size]? = some (.cells #[.int .i64 sa, .int .u8 ma, .string da] 64 (0, 0)) := by rw [hW0]; exact heap_old (heap_new w _) _
  have hbB : W0.heap[w.heap.size + 1]? = some (.cells #[.int .i64 sb, .int .u8 mb, .string db] 64 (0, 0)) := by rw [hW0]; exact heap_newAt (by simp) _
  have HBA := Lib.hid hbA
  have HBB := Lib.hid hbB
  obtain ⟨NA, hNA⟩ : ∃ n, n = w.heap.size := ⟨_, rfl⟩
  rw [← hNA] at HBA HBB
  rw [← hNA]
  have HNA := Lib.hid hNA
  clear hW0 hbA hbB hNA
  refine (awake_calls W0).mono ?_
  rintro e w1 ⟨rfl, k1⟩
  have K1 := Lib.hid (K0.out.trans k1)
  have HA1 := Lib.hid (k1.heap HBA.out id)
  have HB1 := Lib.hid (k1.heap HBB.out id)
  clear k1
  go_wp2_with fail
  refine (begin_calls w1).mono ?_
  rintro e w2 ⟨d, st, b, c, m, vs, vc, X, rfl, hs, k2, hX, hfr⟩
  have HS2 := Lib.hid hs
  have K2 := Lib.hid (K1.out.trans k2)
  have HA2 := Lib.hid (k2.heap HA1.out id)
  have HB2 := Lib.hid (k2.heap HB1.out id)
  have HNEW : Hid (∀ k, StoB st c m d vs vc k → w1.heap.size ≤ k) := hfr
  have HINV : Hid (Inv X (rNew 8)) := by rw [Hid, hX]; exact inv_begin
  have HGEN : Hid (X.sup.gen ≤ 1) := by rw [Hid, hX, begin_disk.2.2.2.2.2]; simp
  have CP := Lib.hid (put_step hs HINV.out page4)
  have hpg : (ba page4) = { data := #[112, 97, 103, 101] } := rfl
  rw [hpg] at CP
  clear hs k2 hX hfr hpg
  go_wp2_with fail
  refine CP.out.mono ?_
  rintro e w3 ⟨rfl, k3, X3, h3, hi3, hs3⟩
  have HS3 := Lib.hid h3
  have K3 : Hid (Kept (StoB st c m d vs vc) w2 w3) := k3.mono fun _ _ e => e.elim (fun e => .inr (.inl e)) (fun e => .inr (.inr (.inl e)))
  have HI3 := Lib.hid hi3
  have CC := Lib.hid (ck_step h3 hi3 (by rw [hs3]; have := HGEN.out; omega) 0 1 1)
  clear k3 h3 hi3 hs3
  go_wp2_with fail
  refine CC.out.mono ?_
  rintro e w4 ⟨rfl, vc4, X4, hto, hi4, -⟩
  have HI4 : Hid (Inv X4 badR) := hi4
  have HS4 := Lib.hid hto.sto
  have K4 : Hid (Kept (StoB st c m d vs vc) w2 w4) := K3.out.trans hto.kept
  have HNW4 : Hid (∀ k, StoB st c m d vs vc4 k → w1.heap.size ≤ k) := by
    intro k hk
    rcases hk with e | e | e | e | e | e
    · exact HNEW.out k (.inl e)
    · exact HNEW.out k (.inr (.inl e))
    · exact HNEW.out k (.inr (.inr (.inl e)))
    · exact HNEW.out k (.inr (.inr (.inr (.inl e))))
    · exact HNEW.out k (.inr (.inr (.inr (.inr (.inl e)))))
    · rcases hto.own k e with e | e
      · exact HNEW.out k (.inr (.inr (.inr (.inr (.inr e)))))
      · have h1 := K3.out.size
        have h2 := lt_heap HA2.out
        have h3 := HS2.out.below (.inl rfl)
        have h4 := HNEW.out st (.inl rfl)
        omega
  clear hto hi4
  go_wp2_with fail
  obtain ⟨F, hF⟩ : ∃ F, F = fullB page4 := ⟨_, rfl⟩
  have hF256 : F.length = 256 := by rw [hF]; exact fullB_len _ (by decide)
  have hodk := HI4.out.disk
  have hl1 : (ud X4.l).getD 0 0 = 1 := by rw [ud_map HI4.out.lt4, getD_map0 ud1 rfl, HI4.out.l, badR_l]; rfl
  have HPG : Hid (∀ k, k < 4 → X4.D.secs.getD (2 + k) [] = (F.drop (64 * k)).take 64) := fun k hk => by
    have h := (hodk.page 0 hl1).2 k hk
    rw [badR_K, ← hF] at h
    exact h
  obtain ⟨sec, hsec⟩ : ∃ s, s = (F.drop (64 * (p / 64))).take 64 := ⟨_, rfl⟩
  have hsecl : sec.length = 64 := by rw [hsec, List.length_take, List.length_drop]; omega
  have htx : X4.D.text sk = sec := by
    rw [HI4.out.hale.text, hsec, HSK.out]
    exact HPG.out (p / 64) (by omega)
  have HF := Lib.hid hF
  have HF2 := Lib.hid hF256
  have HSEC := Lib.hid hsec
  have C5 : Hid (Calls Try.prog 36 #[.pointer (some ⟨d, 0, none⟩), .int .i64 sk] w4 (DReadPost (sec, 0) w4)) := by
    have h := DevRead_calls HS4.out.dev (sk : Int) (by rw [HI4.out.hale.cache]; simp)
    have e : X4.D.read (sk : Int) = (sec, 0) := by
      simp only [Dev.read, HI4.out.hale.down]
      rw [if_neg (by have := HI4.out.n; omega), Int.toNat_natCast, htx]; rfl
    rw [e] at h
    exact h
  clear hF hF256 hodk hl1 hsec htx
  refine C5.out.mono ?_
  rintro e w5 ⟨rfl, k5⟩
  have K5 : Hid (Kept (fun _ => False) w4 w5) := Kept.of_below k5
  clear k5
  have hsz := ba_size sec
  obtain ⟨rs, hrs⟩ : ∃ x, x = ba sec := ⟨_, rfl⟩
  rw [← hrs] at hsz
  simp only
  rw [← hrs]
  obtain ⟨cp, O, hcv0, hcap, hcl0, hback⟩ := run_turn (P := Try.prog) (src := 9) (dst := 72) (e := 5) (by kernel_rfl) und_bytes2 (by kernel_rfl) sec
  have hcv := hcv0 w5
  have hrl : r < sec.length := by omega
  obtain ⟨hcl, hfr⟩ := hcl0 w5 r hrl
  have hcp := hcap w5
  have hgd : sec[r]'hrl = sec.getD r 0 := by simp [List.getD, hrl]
  rw [hgd] at hcl
  obtain ⟨xb, hxb⟩ : ∃ n : Nat, n = (sec.getD r 0).toNat := ⟨_, rfl⟩
  have hxb2 : xb < 256 := by rw [hxb]; exact UInt8.toNat_lt _
  rw [← hxb] at hcl
  obtain ⟨hxor, hy256⟩ := u8_xor xb dl hxb2 (by omega)
  obtain ⟨y, hy⟩ : ∃ y, y = xb ^^^ dl := ⟨_, rfl⟩
  rw [← hy] at hxor hy256
  have HYN : Hid (y ≠ xb) := by
    intro e
    rw [hy] at e
    have h0 : xb ^^^ dl = xb ^^^ 0 := by rw [e, Nat.xor_zero]
    have := xor_canc_l h0
    omega
  have hbk := hback w5 r y (cp w5) hy256
  obtain ⟨bent, hbent⟩ : ∃ x, x = sec.set r (UInt8.ofNat y) := ⟨_, rfl⟩
  rw [← hbent] at hbk
  rw [hsecl] at hcv hcp hbk
  rw [← hrs] at hcv
  obtain ⟨bs, hbs⟩ : ∃ x, x = ba bent := ⟨_, rfl⟩
  rw [← hbs] at hbk
  have HBS := Lib.hid hbs
  have HBENT := Lib.hid hbent
  have HXB := Lib.hid hxb
  have HY := Lib.hid hy
  have HRL := Lib.hid hrl
  have HRS := Lib.hid hrs
  have hbl : bent.length = 64 := by rw [hbent, List.length_set]; exact hsecl
  have HBL := Lib.hid hbl
  have hcp2 : (64 : Int) ≤ (cp w5 : Int) := by omega
  have HSL := Lib.hid hsecl
  have hr64i : (r : Int) < 64 := by omega
  clear hcv0 hcap hcl0 hback hxb hy hbent hrl hrs hbs hbl hsz hsecl hgd
  obtain ⟨W6, hW6⟩ : ∃ W, W = (((w5.alloc (O w5)).setCell ⟨w5.heap.size, r, none⟩ (.int .u8 y)).drew) := ⟨_, rfl⟩
  have K6 : Hid (Kept (fun _ => False) w4 W6) := by rw [hW6]; exact K5.out.trans ((((Kept.refl _ _).alloc _).setCell (.inr (Nat.le_refl _)) _).drew)
  have HW6 := Lib.hid hW6
  have hs6 := HS4.out.keptF K6.out
  obtain ⟨X6, hX6⟩ : ∃ X : Sto, X = { X4 with D := { X4.D with secs := X4.D.secs.set sk bent } } := ⟨_, rfl⟩
  have C6 : Hid (Calls Try.prog 38 #[.pointer (some ⟨d, 0, none⟩), .int .i64 sk, .string bs] W6 fun e w' => e = .returned (.tuple #[]) ∧ DevTo W6 d vs vc4 w' vc4 X6.D) := by
    have h := DevSpoil_calls hs6.dev sk (by have := HI4.out.n; omega) bent (by have := HBL.out; omega)
    rw [List.take_append_of_le_length (by have := HBL.out; omega), List.take_of_length_le (by have := HBL.out; omega), ← HBS.out] at h
    rw [hX6]
    exact h
  have HX6 := Lib.hid hX6
  clear hW6 hs6 hX6
  go_wp2_with fail
  rw [← HW6.out]
  refine C6.out.mono ?_
  rintro e w7 ⟨rfl, hdt⟩
  have HS7 : Hid (IsStore w7 st b c m d vs vc4 8 6 X6) := by
    have h := (HS4.out.keptF K6.out).devStep hdt
    have e : { X4 with D := X6.D } = X6 := by rw [HX6.out]
    rw [e] at h
    exact h
  have K7 : Hid (Kept (StoB st c m d vs vc4) w4 w7) := (K6.out.mono fun _ _ f => f.elim).trans (hdt.kept.mono fun _ _ e => by rcases e with e | e | e; exact .inr (.inr (.inr (.inl e))); exact .inr (.inr (.inr (.inr (.inl e)))); exact .inr (.inr (.inr (.inr (.inr e)))))
  have HH6 : Hid (Hale X6.D) := by rw [HX6.out]; exact ⟨HI4.out.hale.cache, HI4.out.hale.left, HI4.out.hale.down⟩
  have HN6 : Hid (X6.D.secs.length = 40) := by rw [HX6.out]; simpa [Hid] using HI4.out.n
  have C7 : Hid (Calls Try.prog 39 #[.pointer (some ⟨st, 0, none⟩), .int .i64 0] w7 (StoReadPost ([], 17) w7)) := by
    have h := StoRead_calls HS7.out 0 HH6.out.down (by have := HN6.out; omega) (by rw [HH6.out.cache]; simp)
    have hl6 : X6.l = badR.l := by rw [HX6.out]; exact HI4.out.l
    have hst : stAt X6.l 0 = 1 := by rw [hl6]; decide
    have hraw : rawTo X6.D 0 4 = F.set p (UInt8.ofNat y) := by
      rw [← raw_bent HI4.out.hale HI4.out.n HF2.out HPG.out hp256 (UInt8.ofNat y), HX6.out, HSK.out, HBENT.out, HSEC.out, HRR.out]
    have hread : X6.read 0 = ([], 17) := by
      simp only [Sto.read, hst]
      have hb2 : pgOf (F.set p (UInt8.ofNat y)) = ([], 17) := by
        rw [HF.out]
        refine pgOf_bent (by decide) hp256 ?_
        rw [← HF.out]
        intro e
        have h2 : sec.getD r 0 = F.getD p 0 := by
          rw [HSEC.out, HRR.out]
          simp only [List.getD_eq_getElem?_getD, List.getElem?_take, List.getElem?_drop]
          rw [if_pos (by omega), show 64 * (p / 64) + p % 64 = p by omega]
        have h3 : F.getD p 0 = UInt8.ofNat y := by rw [List.getD_eq_getElem?_getD, e]; rfl
        apply HYN.out
        rw [HXB.out, h2, h3, UInt8.toNat_ofNat']
        omega
      rw [if_neg (by decide), if_pos (.inl trivial)]
      exact (congrArg pgOf hraw).trans hb2
    rw [hread] at h
    exact h
  clear hdt
  go_wp2_with fail
  refine C7.out.mono ?_
  rintro e w8 ⟨rfl, k8⟩
  have K8 := Lib.hid k8
  clear k8
  simp only
  go_wp2_with fail
  obtain ⟨ta, hta⟩ : ∃ t, cutTo da 44 = ba t := ⟨(cutTo da 44).data.toList, rfl⟩
  obtain ⟨tb, htb⟩ : ∃ t, cutTo db 44 = ba t := ⟨(cutTo db 44).data.toList, rfl⟩
  have HTA : Hid (ta.length ≤ 44) := by have := cutTo_size da 44; rw [hta, ba_size] at this; exact this
  have HTB : Hid (tb.length ≤ 44) := by have := cutTo_size db 44; rw [htb, ba_size] at this; exact this
  obtain ⟨qa, hqa⟩ : ∃ s, s = ba ta := ⟨_, rfl⟩
  obtain ⟨qb, hqb⟩ : ∃ s, s = ba tb := ⟨_, rfl⟩
  have CUA : Hid (∀ W, Calls Try.prog 23 #[.string da, .int .i64 44] W fun e w' => e = .returned (.string qa) ∧ w' = W) := fun W => by
    have h := Cut_calls da 44 W HDA.out (by omega)
    rw [hta, ← hqa] at h
    exact h.mono fun _ _ h => ⟨h.1, h.2.symm⟩
  have CUB : Hid (∀ W, Calls Try.prog 23 #[.string db, .int .i64 44] W fun e w' => e = .returned (.string qb) ∧ w' = W) := fun W => by
    have h := Cut_calls db 44 W HDB.out (by omega)
    rw [htb, ← hqb] at h
    exact h.mono fun _ _ h => ⟨h.1, h.2.symm⟩
  have HQA := Lib.hid hqa
  have HQB := Lib.hid hqb
  have hsafe : ∀ {n : Nat} {cs : Array Value} {f : Nat × Nat}, w4.heap[n]? = some (.cells cs 64 f) → ¬ StoB st c m d vs vc4 n := sec_safe HS4.out
  have HA4 := Lib.hid (K4.out.heap HA2.out (sec_safe HS2.out HA2.out))
  have HB4 := Lib.hid (K4.out.heap HB2.out (sec_safe HS2.out HB2.out))
  have K48 : Hid (Kept (StoB st c m d vs vc4) w4 w8) := K7.out.trans (K8.out.mono fun _ _ f => f.elim)
  have HA8 := Lib.hid (K48.out.heap HA4.out (sec_safe HS4.out HA4.out))
  have HB8 := Lib.hid (K48.out.heap HB4.out (sec_safe HS4.out HB4.out))
  have a0 := (cell_heap HA8.out 0).trans rfl
  have a1 := (cell_heap HA8.out 1).trans rfl
  have a2 := (cell_heap HA8.out 2).trans rfl
  have b0 := (cell_heap HB8.out 0).trans rfl
  have b1 := (cell_heap HB8.out 1).trans rfl
  have b2 := (cell_heap HB8.out 2).trans rfl
  have f2 := free_heap HA8.out 2
  have g2 := free_heap HB8.out 2
  have hnab := lt_heap HA8.out
  have hnbb := lt_heap HB8.out
  clear hta htb hqa hqb hsafe
  refine wp_region_still_tail 7 (by kernel_rfl) (by kernel_rfl) ?_
  simp only [List.take_succ_cons, List.take_zero, List.drop_succ_cons, List.drop_zero]
  still_step
  still_step
  refine wpStill_step (fun K hK => ?_)
  go_simp
  refine ⟨_, CUA.out _, hK _ ?_⟩
  clear hK K
  still_step
  still_step
  refine wpStill_step (fun K hK => ?_)
  go_simp
  refine ⟨_, CUB.out _, hK _ ?_⟩
  clear hK K
  still_step
  refine wpStill_nil ?_
  obtain ⟨w9, hw9⟩ : ∃ x, x = w8.drew := ⟨_, rfl⟩
  have K9 : Hid (Kept (fun _ => False) w8 w9) := by rw [hw9]; exact (Kept.refl _ _).drew
  have HA9 := Lib.hid (K9.out.heap HA8.out id)
  have HB9 := Lib.hid (K9.out.heap HB8.out id)
  change wpList _ _ _ _ _ w8.drew
  rw [← hw9]
  clear a0 a1 a2 b0 b1 b2 f2 g2 hnab hnbb hw9
  have a0 := (cell_heap HA9.out 0).trans rfl
  have a1 := (cell_heap HA9.out 1).trans rfl
  have a2 := (cell_heap HA9.out 2).trans rfl
  have b0 := (cell_heap HB9.out 0).trans rfl
  have b1 := (cell_heap HB9.out 1).trans rfl
  have b2 := (cell_heap HB9.out 2).trans rfl
  have f2 := free_heap HA9.out 2
  have g2 := free_heap HB9.out 2
  have hnab := lt_heap HA9.out
  have hnbb := lt_heap HB9.out
  go_wp2_with fail
  obtain ⟨W9, hW9⟩ : ∃ W, W = (w9.setCell ⟨NA, 2, none⟩ (.string qa)).setCell ⟨NA + 1, 2, none⟩ (.string qb) := ⟨_, rfl⟩
  have hkab : Kept (fun k => k = NA ∨ k = NA + 1) w9 W9 := by rw [hW9]; exact ((Kept.refl _ _).setCell (.inl (.inl rfl)) _).setCell (.inl (.inr rfl)) _
  have hsz9 : W9.heap.size = w9.heap.size := by rw [hW9]; simp [World.setCell]
  have hA9 : W9.heap[NA]? = some (.cells #[.int .i64 sa, .int .u8 ma, .string qa] 64 (0, 0)) := by
    rw [hW9]
    exact heap_set_other (heap_set HA9.out 2 _) (by simp)
  have hB9 : W9.heap[NA + 1]? = some (.cells #[.int .i64 sb, .int .u8 mb, .string qb] 64 (0, 0)) := by
    rw [hW9]
    exact heap_set (heap_set_other HB9.out (by simp)) 2 _
  have HSW9 : Hid (IsStore W9 st b c m d vs vc4 8 6 X6) := by
    have h9 := HS7.out.keptF (K8.out.trans K9.out)
    have na : ∀ i, StoB st c m d vs vc4 i → ¬ (i = NA ∨ i = NA + 1) := by
      rintro i hi (rfl | rfl)
      · exact sec_safe h9 HA9.out hi
      · exact sec_safe h9 HB9.out hi
    exact h9.keptS hkab na (by rintro (e | e); exact ne_type h9.sp.head HA9.out (by decide) e; exact ne_type h9.sp.head HB9.out (by decide) e)
  have KW9 : Hid (Kept (fun _ => False) w W9) := by
    have h1 := K1.out.trans (Kept.refl _ w1)
    have h2 := K2.out.then K4.out (fun i hi e => by have := HNEW.out i e; have := K1.out.size; omega)
    have h3 := h2.then K48.out (fun i hi e => by have := HNW4.out i e; have := K1.out.size; omega)
    have h4 := h3.trans K9.out
    exact h4.then hkab (fun i hi e => by have := HNA.out; omega)
  obtain ⟨W10, hW10⟩ : ∃ W, W = W9.alloc (.cells #[.int .i64 sa, .int .u8 ma, .string qa, .int .i64 sb, .int .u8 mb, .string qb] 64) := ⟨_, rfl⟩
  have KA10 : Hid (Kept (fun _ => False) W9 W10) := by rw [hW10]; exact (Kept.refl _ _).alloc _
  have HL10 : Hid (W10.heap[w9.heap.size]? = some (.cells #[.int .i64 sa, .int .u8 ma, .string qa, .int .i64 sb, .int .u8 mb, .string qb] 64 (0, 0))) := by rw [hW10, ← hsz9]; exact heap_new _ _
  have HA10 := Lib.hid (KA10.out.heap hA9 id)
  have HB10 := Lib.hid (KA10.out.heap hB9 id)
  have HS10 := Lib.hid (HSW9.out.keptF KA10.out)
  obtain ⟨NL, hNL⟩ : ∃ n, n = w9.heap.size := ⟨_, rfl⟩
  rw [← hW9, ← hW10]
  rw [← hNL] at HL10
  rw [← hNL]
  clear hW9 hkab hsz9 hA9 hB9 hW10 hNL a0 a1 a2 b0 b1 b2 f2 g2 hnab hnbb
  have hto0 : Hid (¬ (NL = d ∨ vs.ownBlock = some NL ∨ vc4.ownBlock = some NL)) := fun e => sec_safe HS10.out HL10.out (by rcases e with e | e | e; exact .inr (.inr (.inr (.inl e))); exact .inr (.inr (.inr (.inr (.inl e)))); exact .inr (.inr (.inr (.inr (.inr e)))))
  go_loopw [87] (fun i wr => ∃ k : Nat, k ≤ 2 ∧ i = .int .i64 k ∧ DevTo W10 d vs vc4 wr vc4 (badD X6.D (laidT sa ma ta) (laidT sb mb tb) k)) (fun i _ => 2 - (intOf i).toNat)
  case atStart => exact ⟨0, by omega, rfl, DevTo.refl HS10.out.dev⟩
  case round =>
    obtain ⟨k, hk, rfl, hto⟩ := hrel
    by_cases hkl : k < 2
    · by_cases hk0 : k = 0
      · obtain rfl : k = 0 := by omega
        have hdv := hto.dev
        have HDV := Lib.hid hdv
        have HTO := Lib.hid hto
        have hl6 := hto.kept.heap HL10.out (hto0.out)
        have r0 := (cell_heap hl6 0).trans rfl
        have r1 := (cell_heap hl6 1).trans rfl
        have r2 := (cell_heap hl6 2).trans rfl
        have hll := lt_heap hl6
        have CK : Hid (∀ W, Calls Try.prog 40 #[.agg #[.int .i64 sa, .int .i64 ma, .string qa]] W fun e w' => e = .returned (.int .i64 (secCheck sa ta)) ∧ Kept (fun _ => False) W w') := fun W => by rw [HQA.out]; exact refCheck4_calls sa ma ta HSA.out W
        have CX : Hid (secCheck sa ta = 0 → ∀ W, Calls Try.prog 41 #[.agg #[.int .i64 sa, .int .u8 ma, .string qa]] W fun e w' => e = .returned (.string (ba (laidT sa ma ta))) ∧ Kept (fun _ => False) W w') := fun h W => by rw [HQA.out]; exact laid_text h hma W
        have CSP : Hid (∀ W, Kept (fun _ => False) wr W → Calls Try.prog 38 #[.pointer (some ⟨d, 0, none⟩), .int .i64 0, .string (ba (laidT sa ma ta))] W fun e w' => e = .returned (.tuple #[]) ∧ DevTo W d vs vc4 w' vc4 (badD X6.D (laidT sa ma ta) (laidT sb mb tb) 1)) := fun W hW => by
          have h := DevSpoil_calls (HDV.out.keptF hW) 0 (by rw [badD_len]; have := HN6.out; omega) (laidT sa ma ta) (by have := laid_len sa hma ta; omega)
          exact h
        obtain ⟨lt, hlt⟩ : ∃ x, x = ba (laidT sa ma ta) := ⟨_, rfl⟩
        rw [← hlt] at CX CSP
        have hnone : Hid (secCheck sa ta ≠ 0 → lt = { data := #[110, 111, 110, 101] }) := fun h => by rw [hlt, laidT, if_neg h]; rfl
        obtain ⟨cx, hcx⟩ : ∃ x, x = secCheck sa ta := ⟨_, rfl⟩
        rw [← hcx] at CK CX hnone
        clear hto hdv hl6 hlt hcx hkl
        go_wp2_with fail
        refine (CK.out _).mono ?_
        rintro e w11 ⟨rfl, k11⟩
        have K11 : Hid (Kept (fun _ => False) wr w11) := Kept.trans (by repeat (first | exact Kept.refl _ _ | refine Kept.drew ?_ | refine Kept.alloc ?_ _)) k11
        have hbx := k11.heap (w := _) (heap_new _ _) id
        have s0 := (cell_heap hbx 0).trans rfl
        have s1 := (cell_heap hbx 1).trans rfl
        have s2 := (cell_heap hbx 2).trans rfl
        have hbl := lt_heap hbx
        clear k11 hbx r0 r1 r2 hll
        by_cases hc0 : cx = 0
        · have CX2 := Lib.hid (CX.out hc0)
          subst hc0
          go_wp2_with fail
          refine (CX2.out _).mono ?_
          rintro e w12 ⟨rfl, k12⟩
          have K12 : Hid (Kept (fun _ => False) wr w12) := K11.out.trans k12
          clear k12 s0 s1 s2 hbl
          go_wp2_with fail
          refine (CSP.out _ K12.out).mono ?_
          rintro e w13 ⟨rfl, hd13⟩
          have HT13 := Lib.hid (HTO.out.trans (DevTo.behind HDV.out K12.out hd13))
          clear hd13
          go_wp2_with fail
          go_roundw
          case rel => exact ⟨1, by omega, by go_num, HT13.out⟩
          case measure => simp [intOf]
        · have t0 : (cx == 0) = false := by rw [beq_eq_false_iff_ne]; exact hc0
          have hnn := hnone.out hc0
          rw [hnn] at CSP
          clear hc0 hnn
          go_wp2_with fail
          refine (CSP.out _ K11.out).mono ?_
          rintro e w13 ⟨rfl, hd13⟩
          have HT13 := Lib.hid (HTO.out.trans (DevTo.behind HDV.out K11.out hd13))
          clear hd13
          go_wp2_with fail
          go_roundw
          case rel => exact ⟨1, by omega, by go_num, HT13.out⟩
          case measure => simp [intOf]
      · obtain rfl : k = 1 := by omega
        have hdv := hto.dev
        have HDV := Lib.hid hdv
        have HTO := Lib.hid hto
        have hl6 := hto.kept.heap HL10.out (hto0.out)
        have r0 := (cell_heap hl6 3).trans rfl
        have r1 := (cell_heap hl6 4).trans rfl
        have r2 := (cell_heap hl6 5).trans rfl
        have hll := lt_heap hl6
        have CK : Hid (∀ W, Calls Try.prog 40 #[.agg #[.int .i64 sb, .int .i64 mb, .string qb]] W fun e w' => e = .returned (.int .i64 (secCheck sb tb)) ∧ Kept (fun _ => False) W w') := fun W => by rw [HQB.out]; exact refCheck4_calls sb mb tb HSB.out W
        have CX : Hid (secCheck sb tb = 0 → ∀ W, Calls Try.prog 41 #[.agg #[.int .i64 sb, .int .u8 mb, .string qb]] W fun e w' => e = .returned (.string (ba (laidT sb mb tb))) ∧ Kept (fun _ => False) W w') := fun h W => by rw [HQB.out]; exact laid_text h hmb W
        have CSP : Hid (∀ W, Kept (fun _ => False) wr W → Calls Try.prog 38 #[.pointer (some ⟨d, 0, none⟩), .int .i64 1, .string (ba (laidT sb mb tb))] W fun e w' => e = .returned (.tuple #[]) ∧ DevTo W d vs vc4 w' vc4 (badD X6.D (laidT sa ma ta) (laidT sb mb tb) 2)) := fun W hW => by
          have h := DevSpoil_calls (HDV.out.keptF hW) 1 (by rw [badD_len]; have := HN6.out; omega) (laidT sb mb tb) (by have := laid_len sb hmb tb; omega)
          exact h
        obtain ⟨lt, hlt⟩ : ∃ x, x = ba (laidT sb mb tb) := ⟨_, rfl⟩
        rw [← hlt] at CX CSP
        have hnone : Hid (secCheck sb tb ≠ 0 → lt = { data := #[110, 111, 110, 101] }) := fun h => by rw [hlt, laidT, if_neg h]; rfl
        obtain ⟨cx, hcx⟩ : ∃ x, x = secCheck sb tb := ⟨_, rfl⟩
        rw [← hcx] at CK CX hnone
        clear hto hdv hl6 hlt hcx hkl
        go_wp2_with fail
        refine (CK.out _).mono ?_
        rintro e w11 ⟨rfl, k11⟩
        have K11 : Hid (Kept (fun _ => False) wr w11) := Kept.trans (by repeat (first | exact Kept.refl _ _ | refine Kept.drew ?_ | refine Kept.alloc ?_ _)) k11
        have hbx := k11.heap (w := _) (heap_new _ _) id
        have s0 := (cell_heap hbx 0).trans rfl
        have s1 := (cell_heap hbx 1).trans rfl
        have s2 := (cell_heap hbx 2).trans rfl
        have hbl := lt_heap hbx
        clear k11 hbx r0 r1 r2 hll
        by_cases hc0 : cx = 0
        · have CX2 := Lib.hid (CX.out hc0)
          subst hc0
          go_wp2_with fail
          refine (CX2.out _).mono ?_
          rintro e w12 ⟨rfl, k12⟩
          have K12 : Hid (Kept (fun _ => False) wr w12) := K11.out.trans k12
          clear k12 s0 s1 s2 hbl
          go_wp2_with fail
          refine (CSP.out _ K12.out).mono ?_
          rintro e w13 ⟨rfl, hd13⟩
          have HT13 := Lib.hid (HTO.out.trans (DevTo.behind HDV.out K12.out hd13))
          clear hd13
          go_wp2_with fail
          go_roundw
          case rel => exact ⟨2, by omega, by go_num, HT13.out⟩
          case measure => simp [intOf]
        · have t0 : (cx == 0) = false := by rw [beq_eq_false_iff_ne]; exact hc0
          have hnn := hnone.out hc0
          rw [hnn] at CSP
          clear hc0 hnn
          go_wp2_with fail
          refine (CSP.out _ K11.out).mono ?_
          rintro e w13 ⟨rfl, hd13⟩
          have HT13 := Lib.hid (HTO.out.trans (DevTo.behind HDV.out K11.out hd13))
          clear hd13
          go_wp2_with fail
          go_roundw
          case rel => exact ⟨2, by omega, by go_num, HT13.out⟩
          case measure => simp [intOf]
    · obtain rfl : k = 2 := by omega
      have HTO := Lib.hid hto
      have ndev : ∀ {n : Nat} {cs : Array Value} {f : Nat × Nat}, W10.heap[n]? = some (.cells cs 64 f) → ¬ (n = d ∨ vs.ownBlock = some n ∨ vc4.ownBlock = some n) := fun hn e => sec_safe HS10.out hn (by rcases e with e | e | e; exact .inr (.inr (.inr (.inl e))); exact .inr (.inr (.inr (.inr (.inl e)))); exact .inr (.inr (.inr (.inr (.inr e)))))
      have HA11 := Lib.hid (hto.kept.heap HA10.out (ndev HA10.out))
      have HB11 := Lib.hid (hto.kept.heap HB10.out (ndev HB10.out))
      have KW11 : Hid (Kept (fun _ => False) w wr) := (KW9.out.trans KA10.out).then hto.kept (fun i hi e => by
        have h1 := K1.out.size
        have h2 : StoB st c m d vs vc4 i := by rcases e with e | e | e; exact .inr (.inr (.inr (.inl e))); exact .inr (.inr (.inr (.inr (.inl e)))); exact .inr (.inr (.inr (.inr (.inr e))))
        have h3 := HNW4.out i h2
        omega)
      have HLY : Hid (∀ W, Calls Try.prog 43 #[] W fun e w' => e = .returned (.agg #[.int .i64 8, .int .i64 6]) ∧ Kept (fun _ => False) W w') := Layout_calls
      have h2len : 2 ≤ X6.D.secs.length := by have := HN6.out; omega
      have HOP : Hid (∀ W, Kept (fun _ => False) wr W → Calls Try.prog 42 #[.pointer (some ⟨d, 0, none⟩), .agg #[.int .i64 8, .int .i64 6]] W (BadPost W d vs vc4 (badD X6.D (laidT sa ma ta) (laidT sb mb tb) 2) sa sb)) := fun W hW =>
        open_bad (HTO.out.dev.keptF hW) (badD_hale HH6.out _ _ 2) (by rw [badD_len]; exact HN6.out)
          (fun y hy => by rw [badD_0 h2len] at hy; exact laid_says hma hy) (fun y hy => by rw [badD_1 h2len] at hy; exact laid_says hmb hy)
      clear hto ndev h2len
      go_wp2_with fail
      refine (HLY.out _).mono ?_
      rintro e w14 ⟨rfl, k14⟩
      have K14 := Lib.hid k14
      have HO := Lib.hid (HOP.out w14 k14)
      clear k14
      go_wp2_with fail
      refine HO.out.mono ?_
      rintro e w15 ⟨k15, he⟩
      have K15 : Hid (Kept (fun _ => False) wr w15) := K14.out.trans k15
      have KW15 : Hid (Kept (fun _ => False) w w15) := KW11.out.trans K15.out
      clear k15
      rcases he with rfl | ⟨st2, su, l2, rfl, ⟨b2, c2, m2, vc2, g1, g2, g3, g4, hs15, -, -⟩, hroot, hl8, hpar⟩
      · go_wp2_with fail
        go_ret
        exact ⟨rfl, KW15.out⟩
      · have HS15 := Lib.hid hs15
        have HROOT := Lib.hid hroot
        have HL8 := Lib.hid hl8
        have HPAR := Lib.hid hpar
        have CSU : Hid (∀ W, Kept (fun _ => False) w15 W → Calls Try.prog 44 #[.pointer (some ⟨st2, 0, none⟩)] W fun e w' => e = .returned (.agg #[.int .i64 su.gen, .int .i64 su.root, .int .i64 su.log, .int .i64 su.next]) ∧ Kept (fun _ => False) W w') := fun W hW => StoSuper_calls (HS15.out.keptF hW)
        have hf0 := run_sup_gen (su.gen : Int) su.root (su.log : Int) (su.next : Int)
        have hf1 := run_sup_root (su.gen : Int) su.root (su.log : Int) (su.next : Int)
        clear g1 g2 g3 g4 hs15 hroot hl8 hpar
        go_wp2_with fail
        refine (CSU.out w15 (Kept.refl _ _)).mono ?_
        rintro e w16 ⟨rfl, k16⟩
        have K16 := Lib.hid k16
        have HA16 := Lib.hid ((K15.out.trans k16).heap HA11.out id)
        have HB16 := Lib.hid ((K15.out.trans k16).heap HB11.out id)
        have a0 := (cell_heap HA16.out 0).trans rfl
        have a1 := (cell_heap HA16.out 1).trans rfl
        have a2 := (cell_heap HA16.out 2).trans rfl
        have b0 := (cell_heap HB16.out 0).trans rfl
        have b1 := (cell_heap HB16.out 1).trans rfl
        have b3 := (cell_heap HB16.out 2).trans rfl
        have hna := lt_heap HA16.out
        have hnb := lt_heap HB16.out
        clear k16
        rcases HPAR.out with hpar | hpar
        · have hpe := hpar.2
          have hp1 := hpar.1
          subst hpe
          have t1 : ((su.gen : Int) % 2 == 1) = false := by rw [beq_eq_false_iff_ne]; omega
          clear hpar hp1
          go_wp2_with fail
          obtain ⟨WB, hWB⟩ : ∃ W, W = w16.alloc (.cells #[.int .i64 su.gen, .int .u8 ma, .string qa] 64) := ⟨_, rfl⟩
          have KB16 : Kept (fun _ => False) w16 WB := by rw [hWB]; exact (Kept.refl _ _).alloc _
          have hbx : WB.heap[w16.heap.size]? = some (.cells #[.int .i64 su.gen, .int .u8 ma, .string qa] 64 (0, 0)) := by rw [hWB]; exact heap_new _ _
          rw [← hWB]
          obtain ⟨NB2, hNB2⟩ : ∃ n, n = w16.heap.size := ⟨_, rfl⟩
          rw [← hNB2] at hbx
          rw [← hNB2]
          have HBX := Lib.hid hbx
          have KBX : Hid (Kept (fun _ => False) w15 WB) := K16.out.trans KB16
          have KFIN : Hid (Kept (fun _ => False) w WB) := KW15.out.trans KBX.out
          have u0 : WB.cell? ⟨NB2, 0, none⟩ = some (.int .i64 su.gen) := (cell_heap hbx 0).trans rfl
          have u1 : WB.cell? ⟨st2, 0, none⟩ = some (.pointer (some ⟨b2, 0, none⟩)) := (cell_heap (HS15.out.keptF KBX.out).head 0).trans rfl
          have hnb2 := lt_heap hbx
          have CL : Hid (∀ W, Kept (fun _ => False) WB W → Calls Try.prog 26 #[.pointer (some ⟨b2, 0, none⟩)] W fun e w' => e = .returned (.int .i64 8) ∧ W = w') := fun W hW => by
            have h := Len_calls (HS15.out.keptF (KBX.out.trans hW)).sp
            have e8 : ((l2.length : Nat) : Int) = 8 := by rw [HL8.out]; rfl
            rw [e8] at h
            exact h
          have CST : Hid (∀ W, Kept (fun _ => False) w15 W → Calls Try.prog 17 #[.pointer (some ⟨b2, 0, none⟩), .int .i64 su.root] W fun e w' => e = .returned (.int .i64 (stAt l2 su.root)) ∧ W = w') := fun W hW => State_calls (HS15.out.keptF hW).sp su.root
          clear hWB KB16 hbx hNB2
          by_cases hr0 : su.root < 0
          · have t2 : decide (su.root < 0) = true := by simpa using hr0
            clear hr0
            refine wp_region_held_drew (S := (fun w' => w'.cell? ⟨NB2, 0, none⟩ = some (.int .i64 su.gen) ∧ w'.cell? ⟨st2, 0, none⟩ = some (.pointer (some ⟨b2, 0, none⟩)))) (by kernel_rfl) (by go_keep) (fun hHeld => ?_)
            refine wpAnyH_take (i := 0) (v := ?_) rfl (by kernel_rfl) (by kernel_rfl) (by kernel_rfl) (fun _ _ _ h => h) (Or.inl ⟨by rfl, ?_⟩) (by assumption) ?_
            rotate_left
            · intro w' hSw; (try dsimp only at hSw); go_simp; (try with_reducible rfl)
            (try simp only [List.getElem_toArray]); (try simp only [List.getElem_cons_succ]); (try simp only [List.getElem_cons_zero]); (try simp only [Act.put]); (try simp only [List.setIfInBounds_toArray]); (try simp only [List.set_cons_succ]); (try simp only [List.set_cons_zero])
            refine wpAnyH_take (i := 1) (v := ?_) rfl (by kernel_rfl) (by kernel_rfl) (by kernel_rfl) (fun _ _ _ h => h) (Or.inl ⟨by rfl, ?_⟩) (by assumption) ?_
            rotate_left
            · intro w' hSw; (try dsimp only at hSw); go_simp; (try with_reducible rfl)
            (try simp only [List.getElem_toArray]); (try simp only [List.getElem_cons_succ]); (try simp only [List.getElem_cons_zero]); (try simp only [Act.put]); (try simp only [List.setIfInBounds_toArray]); (try simp only [List.set_cons_succ]); (try simp only [List.set_cons_zero])
            refine wpAnyH_take (i := 2) (v := ?_) rfl (by kernel_rfl) (by kernel_rfl) (by kernel_rfl) (fun _ _ _ h => h) (Or.inl ⟨by rfl, ?_⟩) (by assumption) ?_
            rotate_left
            · intro w' hSw; (try dsimp only at hSw); go_simp; (try with_reducible rfl)
            (try simp only [List.getElem_toArray]); (try simp only [List.getElem_cons_succ]); (try simp only [List.getElem_cons_zero]); (try simp only [Act.put]); (try simp only [List.setIfInBounds_toArray]); (try simp only [List.set_cons_succ]); (try simp only [List.set_cons_zero])
            refine wpAnyH_take (i := 3) (v := ?_) rfl (by kernel_rfl) (by kernel_rfl) (by kernel_rfl) (fun _ _ _ h => h) (Or.inl ⟨by rfl, ?_⟩) (by assumption) ?_
            rotate_left
            · intro w' hSw; (try dsimp only at hSw); go_simp; (try with_reducible rfl)
            (try simp only [List.getElem_toArray]); (try simp only [List.getElem_cons_succ]); (try simp only [List.getElem_cons_zero]); (try simp only [Act.put]); (try simp only [List.setIfInBounds_toArray]); (try simp only [List.set_cons_succ]); (try simp only [List.set_cons_zero])
            refine wpAnyH_take (i := 4) (v := ?_) rfl (by kernel_rfl) (by kernel_rfl) (by kernel_rfl) (fun _ _ _ h => h) (Or.inl ⟨by rfl, ?_⟩) (by assumption) ?_
            rotate_left
            · intro w' hSw; (try dsimp only at hSw); go_simp; (try with_reducible rfl)
            (try simp only [List.getElem_toArray]); (try simp only [List.getElem_cons_succ]); (try simp only [List.getElem_cons_zero]); (try simp only [Act.put]); (try simp only [List.setIfInBounds_toArray]); (try simp only [List.set_cons_succ]); (try simp only [List.set_cons_zero])
            refine wpAnyH_take (i := 5) (v := ?_) rfl (by kernel_rfl) (by kernel_rfl) (by kernel_rfl) (fun _ _ _ h => h) (Or.inl ⟨by rfl, ?_⟩) (by assumption) ?_
            rotate_left
            · intro w' hSw; (try dsimp only at hSw); go_simp; (try with_reducible rfl)
            (try simp only [List.getElem_toArray]); (try simp only [List.getElem_cons_succ]); (try simp only [List.getElem_cons_zero]); (try simp only [Act.put]); (try simp only [List.setIfInBounds_toArray]); (try simp only [List.set_cons_succ]); (try simp only [List.set_cons_zero])
            refine wpAnyH_take (i := 6) (v := ?_) rfl (by kernel_rfl) (by kernel_rfl) (by kernel_rfl) (fun _ _ _ h => h) (Or.inl ⟨by rfl, ?_⟩) (by assumption) ?_
            rotate_left
            · intro w' hSw; (try dsimp only at hSw); go_simp; (try with_reducible rfl)
            (try simp only [List.getElem_toArray]); (try simp only [List.getElem_cons_succ]); (try simp only [List.getElem_cons_zero]); (try simp only [Act.put]); (try simp only [List.setIfInBounds_toArray]); (try simp only [List.set_cons_succ]); (try simp only [List.set_cons_zero])
            refine wpAnyH_take (i := 7) (v := ?_) rfl (by kernel_rfl) (by kernel_rfl) (by kernel_rfl) (fun _ _ _ h => h) (Or.inl ⟨by rfl, ?_⟩) (by assumption) ?_
            rotate_left
            · intro w' hSw; (try dsimp only at hSw); go_simp; (try with_reducible rfl)
            (try simp only [List.getElem_toArray]); (try simp only [List.getElem_cons_succ]); (try simp only [List.getElem_cons_zero]); (try simp only [Act.put]); (try simp only [List.setIfInBounds_toArray]); (try simp only [List.set_cons_succ]); (try simp only [List.set_cons_zero])
            refine wpAnyH_take (i := 8) (v := ?_) rfl (by kernel_rfl) (by kernel_rfl) (by kernel_rfl) (fun _ _ _ h => h) (Or.inl ⟨by rfl, ?_⟩) (by assumption) ?_
            rotate_left
            · intro w' hSw; (try dsimp only at hSw); go_simp; (try with_reducible rfl)
            (try simp only [List.getElem_toArray]); (try simp only [List.getElem_cons_succ]); (try simp only [List.getElem_cons_zero]); (try simp only [Act.put]); (try simp only [List.setIfInBounds_toArray]); (try simp only [List.set_cons_succ]); (try simp only [List.set_cons_zero])
            refine wpAnyH_ready (rs := [9]) (by kernel_rfl) (by simp) ?_
            refine AllReadyH.cons rfl (fun Kk hK => ?_) AllReadyH.nil
            go_simp
            go_at_call 26
            refine (CL.out _ (by repeat (first | exact Kept.refl _ _ | refine Kept.drew ?_))).mono ?_
            rintro e w18 ⟨rfl, rfl⟩
            go_simp
            refine hK.out _ _ ?_ (fun hHeld2 => ?_)
            · exact hHeld
            clear hK Kk hHeld
            have hHeld := hHeld2
            clear hHeld2
            (try simp only [List.getElem_toArray]); (try simp only [List.getElem_cons_succ]); (try simp only [List.getElem_cons_zero]); (try simp only [Act.put]); (try simp only [List.setIfInBounds_toArray]); (try simp only [List.set_cons_succ]); (try simp only [List.set_cons_zero])
            refine wpAnyH_take (i := 10) (v := ?_) rfl (by kernel_rfl) (by kernel_rfl) (by kernel_rfl) (fun _ _ _ h => h) (Or.inl ⟨by rfl, ?_⟩) (by assumption) ?_
            rotate_left
            · intro w' hSw; (try dsimp only at hSw); go_simp; (try with_reducible rfl)
            (try simp only [List.getElem_toArray]); (try simp only [List.getElem_cons_succ]); (try simp only [List.getElem_cons_zero]); (try simp only [Act.put]); (try simp only [List.setIfInBounds_toArray]); (try simp only [List.set_cons_succ]); (try simp only [List.set_cons_zero])
            refine wpAnyH_take (i := 11) (v := ?_) rfl (by kernel_rfl) (by kernel_rfl) (by kernel_rfl) (fun _ _ _ h => h) (Or.inl ⟨by rfl, ?_⟩) (by assumption) ?_
            rotate_left
            · intro w' hSw; (try dsimp only at hSw); go_simp; (try with_reducible rfl)
            (try simp only [List.getElem_toArray]); (try simp only [List.getElem_cons_succ]); (try simp only [List.getElem_cons_zero]); (try simp only [Act.put]); (try simp only [List.setIfInBounds_toArray]); (try simp only [List.set_cons_succ]); (try simp only [List.set_cons_zero])
            refine wpAnyH_take (i := 12) (v := ?_) rfl (by kernel_rfl) (by kernel_rfl) (by kernel_rfl) (fun _ _ _ h => h) (Or.inl ⟨by rfl, ?_⟩) (by assumption) ?_
            rotate_left
            · intro w' hSw; (try dsimp only at hSw); go_simp; (try with_reducible rfl)
            (try simp only [List.getElem_toArray]); (try simp only [List.getElem_cons_succ]); (try simp only [List.getElem_cons_zero]); (try simp only [Act.put]); (try simp only [List.setIfInBounds_toArray]); (try simp only [List.set_cons_succ]); (try simp only [List.set_cons_zero])
            refine wpAnyH_take (i := 13) (v := ?_) rfl (by kernel_rfl) (by kernel_rfl) (by kernel_rfl) (fun _ _ _ h => h) (Or.inl ⟨by rfl, ?_⟩) (by assumption) ?_
            rotate_left
            · intro w' hSw; (try dsimp only at hSw); go_simp; (try with_reducible rfl)
            (try simp only [List.getElem_toArray]); (try simp only [List.getElem_cons_succ]); (try simp only [List.getElem_cons_zero]); (try simp only [Act.put]); (try simp only [List.setIfInBounds_toArray]); (try simp only [List.set_cons_succ]); (try simp only [List.set_cons_zero])
            refine wpAnyH_ready (rs := [14]) (by kernel_rfl) (by simp) ?_
            refine AllReadyH.cons rfl (fun Kk hK => ?_) AllReadyH.nil
            go_simp
            go_at_call 44
            refine (CSU.out _ (KBX.out.trans (by repeat (first | exact Kept.refl _ _ | refine Kept.drew ?_)))).mono ?_
            rintro e w19 ⟨rfl, k19⟩
            have K19 : Hid (Kept (fun _ => False) WB w19) := Kept.trans (by repeat (first | exact Kept.refl _ _ | refine Kept.drew ?_)) k19
            have u0 : w19.cell? ⟨NB2, 0, none⟩ = some (.int .i64 su.gen) := (cell_heap (K19.out.heap HBX.out id) 0).trans rfl
            have u1 : w19.cell? ⟨st2, 0, none⟩ = some (.pointer (some ⟨b2, 0, none⟩)) := (cell_heap (HS15.out.keptF (KBX.out.trans K19.out)).head 0).trans rfl
            clear k19
            go_simp
            refine hK.out _ _ ?_ (fun hHeld2 => ?_)
            · exact ⟨u0, u1⟩
            clear hK Kk hHeld
            have hHeld := hHeld2
            clear hHeld2
            (try simp only [List.getElem_toArray]); (try simp only [List.getElem_cons_succ]); (try simp only [List.getElem_cons_zero]); (try simp only [Act.put]); (try simp only [List.setIfInBounds_toArray]); (try simp only [List.set_cons_succ]); (try simp only [List.set_cons_zero])
            refine wpAnyH_take (i := 15) (v := ?_) rfl (by kernel_rfl) (by kernel_rfl) (by kernel_rfl) (fun _ _ _ h => h) (Or.inl ⟨by rfl, ?_⟩) (by assumption) ?_
            rotate_left
            · intro w' hSw; (try dsimp only at hSw); go_simp; (try with_reducible rfl)
            (try simp only [List.getElem_toArray]); (try simp only [List.getElem_cons_succ]); (try simp only [List.getElem_cons_zero]); (try simp only [Act.put]); (try simp only [List.setIfInBounds_toArray]); (try simp only [List.set_cons_succ]); (try simp only [List.set_cons_zero])
            refine wpAnyH_take (i := 16) (v := ?_) rfl (by kernel_rfl) (by kernel_rfl) (by kernel_rfl) (fun _ _ _ h => h) (Or.inl ⟨by rfl, ?_⟩) (by assumption) ?_
            rotate_left
            · intro w' hSw; (try dsimp only at hSw); go_simp; (try with_reducible rfl)
            (try simp only [List.getElem_toArray]); (try simp only [List.getElem_cons_succ]); (try simp only [List.getElem_cons_zero]); (try simp only [Act.put]); (try simp only [List.setIfInBounds_toArray]); (try simp only [List.set_cons_succ]); (try simp only [List.set_cons_zero])
            refine wpAnyH_take (i := 17) (v := ?_) rfl (by kernel_rfl) (by kernel_rfl) (by kernel_rfl) (fun _ _ _ h => h) (Or.inl ⟨by rfl, ?_⟩) (by assumption) ?_
            rotate_left
            · intro w' hSw; (try dsimp only at hSw); go_simp; (try with_reducible rfl)
            (try simp only [List.getElem_toArray]); (try simp only [List.getElem_cons_succ]); (try simp only [List.getElem_cons_zero]); (try simp only [Act.put]); (try simp only [List.setIfInBounds_toArray]); (try simp only [List.set_cons_succ]); (try simp only [List.set_cons_zero])
            refine skipH (i := 18) (d := 149) (by kernel_rfl) (by kernel_rfl) (by kernel_rfl) (by kernel_rfl) (fun _ _ _ h => h) (by rfl) (by assumption) ?_
            (try simp only [Act.put]); (try simp only [List.setIfInBounds_toArray]); (try simp only [List.set_cons_succ]); (try simp only [List.set_cons_zero])
            refine skipH (i := 19) (d := 150) (by kernel_rfl) (by kernel_rfl) (by kernel_rfl) (by kernel_rfl) (fun _ _ _ h => h) (by rfl) (by assumption) ?_
            (try simp only [Act.put]); (try simp only [List.setIfInBounds_toArray]); (try simp only [List.set_cons_succ]); (try simp only [List.set_cons_zero])
            refine skipH (i := 20) (d := 151) (by kernel_rfl) (by kernel_rfl) (by kernel_rfl) (by kernel_rfl) (fun _ _ _ h => h) (by rfl) (by assumption) ?_
            (try simp only [Act.put]); (try simp only [List.setIfInBounds_toArray]); (try simp only [List.set_cons_succ]); (try simp only [List.set_cons_zero])
            refine skipH (i := 21) (d := 152) (by kernel_rfl) (by kernel_rfl) (by kernel_rfl) (by kernel_rfl) (fun _ _ _ h => h) (by rfl) (by assumption) ?_
            (try simp only [Act.put]); (try simp only [List.setIfInBounds_toArray]); (try simp only [List.set_cons_succ]); (try simp only [List.set_cons_zero])
            refine skipH (i := 22) (d := 153) (by kernel_rfl) (by kernel_rfl) (by kernel_rfl) (by kernel_rfl) (fun _ _ _ h => h) (by rfl) (by assumption) ?_
            (try simp only [Act.put]); (try simp only [List.setIfInBounds_toArray]); (try simp only [List.set_cons_succ]); (try simp only [List.set_cons_zero])
            refine skipH (i := 23) (d := 154) (by kernel_rfl) (by kernel_rfl) (by kernel_rfl) (by kernel_rfl) (fun _ _ _ h => h) (by rfl) (by assumption) ?_
            (try simp only [Act.put]); (try simp only [List.setIfInBounds_toArray]); (try simp only [List.set_cons_succ]); (try simp only [List.set_cons_zero])
            refine skipH (i := 24) (d := 155) (by kernel_rfl) (by kernel_rfl) (by kernel_rfl) (by kernel_rfl) (fun _ _ _ h => h) (by rfl) (by assumption) ?_
            (try simp only [Act.put]); (try simp only [List.setIfInBounds_toArray]); (try simp only [List.set_cons_succ]); (try simp only [List.set_cons_zero])
            refine skipH (i := 25) (d := 156) (by kernel_rfl) (by kernel_rfl) (by kernel_rfl) (by kernel_rfl) (fun _ _ _ h => h) (by rfl) (by assumption) ?_
            (try simp only [Act.put]); (try simp only [List.setIfInBounds_toArray]); (try simp only [List.set_cons_succ]); (try simp only [List.set_cons_zero])
            refine skipH (i := 26) (d := 157) (by kernel_rfl) (by kernel_rfl) (by kernel_rfl) (by kernel_rfl) (fun _ _ _ h => h) (by rfl) (by assumption) ?_
            (try simp only [Act.put]); (try simp only [List.setIfInBounds_toArray]); (try simp only [List.set_cons_succ]); (try simp only [List.set_cons_zero])
            refine wpAnyH_take (i := 27) (v := ?_) rfl (by kernel_rfl) (by kernel_rfl) (by kernel_rfl) (fun _ _ _ h => h) (Or.inl ⟨by rfl, ?_⟩) (by assumption) ?_
            rotate_left
            · intro w' hSw; (try dsimp only at hSw); go_simp; (try with_reducible rfl)
            (try simp only [List.getElem_toArray]); (try simp only [List.getElem_cons_succ]); (try simp only [List.getElem_cons_zero]); (try simp only [Act.put]); (try simp only [List.setIfInBounds_toArray]); (try simp only [List.set_cons_succ]); (try simp only [List.set_cons_zero])
            refine wpAnyH_take (i := 28) (v := ?_) rfl (by kernel_rfl) (by kernel_rfl) (by kernel_rfl) (fun _ _ _ h => h) (Or.inl ⟨by rfl, ?_⟩) (by assumption) ?_
            rotate_left
            · intro w' hSw; (try dsimp only at hSw); go_simp; (try with_reducible rfl)
            (try simp only [List.getElem_toArray]); (try simp only [List.getElem_cons_succ]); (try simp only [List.getElem_cons_zero]); (try simp only [Act.put]); (try simp only [List.setIfInBounds_toArray]); (try simp only [List.set_cons_succ]); (try simp only [List.set_cons_zero])
            refine wpAnyH_take (i := 29) (v := ?_) rfl (by kernel_rfl) (by kernel_rfl) (by kernel_rfl) (fun _ _ _ h => h) (Or.inl ⟨by rfl, ?_⟩) (by assumption) ?_
            rotate_left
            · intro w' hSw; (try dsimp only at hSw); go_simp; (try with_reducible rfl)
            (try simp only [List.getElem_toArray]); (try simp only [List.getElem_cons_succ]); (try simp only [List.getElem_cons_zero]); (try simp only [Act.put]); (try simp only [List.setIfInBounds_toArray]); (try simp only [List.set_cons_succ]); (try simp only [List.set_cons_zero])
            refine wpAnyH_done (by kernel_rfl) ?_ _
            go_wp2_with fail
            go_ret
            exact ⟨rfl, KFIN.out.trans (by repeat (first | exact K19.out | refine Kept.drew ?_))⟩
          · have t2 : decide (su.root < 0) = false := by simpa using hr0
            have hst : stAt l2 su.root = 1 := by rcases HROOT.out with h | h; exact absurd h hr0; exact h
            rw [hst] at CST
            clear hr0 hst
            have tok1 : True := trivial
            go_region_held3 (fun w' => w'.cell? ⟨NB2, 0, none⟩ = some (.int .i64 su.gen) ∧ w'.cell? ⟨st2, 0, none⟩ = some (.pointer (some ⟨b2, 0, none⟩))) (go_keep)
              (first
                | (go_at_call 26; refine (CL.out _ (by repeat (first | exact Kept.refl _ _ | refine Kept.drew ?_))).mono ?_; rintro e w18 ⟨rfl, rfl⟩)
                | (have _t := tok1; go_at_call 44; refine (CSU.out _ (KBX.out.trans (by repeat (first | exact Kept.refl _ _ | refine Kept.drew ?_)))).mono ?_; rintro e w19 ⟨rfl, k19⟩; have K19 : Hid (Kept (fun _ => False) WB w19) := Kept.trans (by repeat (first | exact Kept.refl _ _ | refine Kept.drew ?_)) k19; have u19 : w19.cell? ⟨NB2, 0, none⟩ = some (.int .i64 su.gen) := (cell_heap (K19.out.heap HBX.out id) 0).trans rfl; have v19 : w19.cell? ⟨st2, 0, none⟩ = some (.pointer (some ⟨b2, 0, none⟩)) := (cell_heap (HS15.out.keptF (KBX.out.trans K19.out)).head 0).trans rfl; clear k19 tok1 _t)
                | (go_at_call 44; refine (CSU.out _ (KBX.out.trans K19.out)).mono ?_; rintro e w20 ⟨rfl, k20⟩; have K20 : Hid (Kept (fun _ => False) WB w20) := K19.out.trans k20; have u20 : w20.cell? ⟨NB2, 0, none⟩ = some (.int .i64 su.gen) := (cell_heap (K20.out.heap HBX.out id) 0).trans rfl; have v20 : w20.cell? ⟨st2, 0, none⟩ = some (.pointer (some ⟨b2, 0, none⟩)) := (cell_heap (HS15.out.keptF (KBX.out.trans K20.out)).head 0).trans rfl; clear k20)
                | (go_at_call 17; refine (CST.out _ (KBX.out.trans K20.out)).mono ?_; rintro e w21 ⟨rfl, rfl⟩))
            go_wp2_with fail
            go_ret
            exact ⟨rfl, KFIN.out.trans (by repeat (first | exact K20.out | refine Kept.drew ?_))⟩
        · have hpe := hpar.2
          have hp1 := hpar.1
          subst hpe
          have t1 : ((su.gen : Int) % 2 == 1) = true := by rw [beq_iff_eq]; omega
          clear hpar hp1
          go_wp2_with fail
          obtain ⟨WB, hWB⟩ : ∃ W, W = w16.alloc (.cells #[.int .i64 su.gen, .int .u8 mb, .string qb] 64) := ⟨_, rfl⟩
          have KB16 : Kept (fun _ => False) w16 WB := by rw [hWB]; exact (Kept.refl _ _).alloc _
          have hbx : WB.heap[w16.heap.size]? = some (.cells #[.int .i64 su.gen, .int .u8 mb, .string qb] 64 (0, 0)) := by rw [hWB]; exact heap_new _ _
          rw [← hWB]
          obtain ⟨NB2, hNB2⟩ : ∃ n, n = w16.heap.size := ⟨_, rfl⟩
          rw [← hNB2] at hbx
          rw [← hNB2]
          have HBX := Lib.hid hbx
          have KBX : Hid (Kept (fun _ => False) w15 WB) := K16.out.trans KB16
          have KFIN : Hid (Kept (fun _ => False) w WB) := KW15.out.trans KBX.out
          have u0 : WB.cell? ⟨NB2, 0, none⟩ = some (.int .i64 su.gen) := (cell_heap hbx 0).trans rfl
          have u1 : WB.cell? ⟨st2, 0, none⟩ = some (.pointer (some ⟨b2, 0, none⟩)) := (cell_heap (HS15.out.keptF KBX.out).head 0).trans rfl
          have hnb2 := lt_heap hbx
          have CL : Hid (∀ W, Kept (fun _ => False) WB W → Calls Try.prog 26 #[.pointer (some ⟨b2, 0, none⟩)] W fun e w' => e = .returned (.int .i64 8) ∧ W = w') := fun W hW => by
            have h := Len_calls (HS15.out.keptF (KBX.out.trans hW)).sp
            have e8 : ((l2.length : Nat) : Int) = 8 := by rw [HL8.out]; rfl
            rw [e8] at h
            exact h
          have CST : Hid (∀ W, Kept (fun _ => False) w15 W → Calls Try.prog 17 #[.pointer (some ⟨b2, 0, none⟩), .int .i64 su.root] W fun e w' => e = .returned (.int .i64 (stAt l2 su.root)) ∧ W = w') := fun W hW => State_calls (HS15.out.keptF hW).sp su.root
          clear hWB KB16 hbx hNB2
          by_cases hr0 : su.root < 0
          · have t2 : decide (su.root < 0) = true := by simpa using hr0
            clear hr0
            refine wp_region_held_drew (S := (fun w' => w'.cell? ⟨NB2, 0, none⟩ = some (.int .i64 su.gen) ∧ w'.cell? ⟨st2, 0, none⟩ = some (.pointer (some ⟨b2, 0, none⟩)))) (by kernel_rfl) (by go_keep) (fun hHeld => ?_)
            refine wpAnyH_take (i := 0) (v := ?_) rfl (by kernel_rfl) (by kernel_rfl) (by kernel_rfl) (fun _ _ _ h => h) (Or.inl ⟨by rfl, ?_⟩) (by assumption) ?_
            rotate_left
            · intro w' hSw; (try dsimp only at hSw); go_simp; (try with_reducible rfl)
            (try simp only [List.getElem_toArray]); (try simp only [List.getElem_cons_succ]); (try simp only [List.getElem_cons_zero]); (try simp only [Act.put]); (try simp only [List.setIfInBounds_toArray]); (try simp only [List.set_cons_succ]); (try simp only [List.set_cons_zero])
            refine wpAnyH_take (i := 1) (v := ?_) rfl (by kernel_rfl) (by kernel_rfl) (by kernel_rfl) (fun _ _ _ h => h) (Or.inl ⟨by rfl, ?_⟩) (by assumption) ?_
            rotate_left
            · intro w' hSw; (try dsimp only at hSw); go_simp; (try with_reducible rfl)
            (try simp only [List.getElem_toArray]); (try simp only [List.getElem_cons_succ]); (try simp only [List.getElem_cons_zero]); (try simp only [Act.put]); (try simp only [List.setIfInBounds_toArray]); (try simp only [List.set_cons_succ]); (try simp only [List.set_cons_zero])
            refine wpAnyH_take (i := 2) (v := ?_) rfl (by kernel_rfl) (by kernel_rfl) (by kernel_rfl) (fun _ _ _ h => h) (Or.inl ⟨by rfl, ?_⟩) (by assumption) ?_
            rotate_left
            · intro w' hSw; (try dsimp only at hSw); go_simp; (try with_reducible rfl)
            (try simp only [List.getElem_toArray]); (try simp only [List.getElem_cons_succ]); (try simp only [List.getElem_cons_zero]); (try simp only [Act.put]); (try simp only [List.setIfInBounds_toArray]); (try simp only [List.set_cons_succ]); (try simp only [List.set_cons_zero])
            refine wpAnyH_take (i := 3) (v := ?_) rfl (by kernel_rfl) (by kernel_rfl) (by kernel_rfl) (fun _ _ _ h => h) (Or.inl ⟨by rfl, ?_⟩) (by assumption) ?_
            rotate_left
            · intro w' hSw; (try dsimp only at hSw); go_simp; (try with_reducible rfl)
            (try simp only [List.getElem_toArray]); (try simp only [List.getElem_cons_succ]); (try simp only [List.getElem_cons_zero]); (try simp only [Act.put]); (try simp only [List.setIfInBounds_toArray]); (try simp only [List.set_cons_succ]); (try simp only [List.set_cons_zero])
            refine wpAnyH_take (i := 4) (v := ?_) rfl (by kernel_rfl) (by kernel_rfl) (by kernel_rfl) (fun _ _ _ h => h) (Or.inl ⟨by rfl, ?_⟩) (by assumption) ?_
            rotate_left
            · intro w' hSw; (try dsimp only at hSw); go_simp; (try with_reducible rfl)
            (try simp only [List.getElem_toArray]); (try simp only [List.getElem_cons_succ]); (try simp only [List.getElem_cons_zero]); (try simp only [Act.put]); (try simp only [List.setIfInBounds_toArray]); (try simp only [List.set_cons_succ]); (try simp only [List.set_cons_zero])
            refine wpAnyH_take (i := 5) (v := ?_) rfl (by kernel_rfl) (by kernel_rfl) (by kernel_rfl) (fun _ _ _ h => h) (Or.inl ⟨by rfl, ?_⟩) (by assumption) ?_
            rotate_left
            · intro w' hSw; (try dsimp only at hSw); go_simp; (try with_reducible rfl)
            (try simp only [List.getElem_toArray]); (try simp only [List.getElem_cons_succ]); (try simp only [List.getElem_cons_zero]); (try simp only [Act.put]); (try simp only [List.setIfInBounds_toArray]); (try simp only [List.set_cons_succ]); (try simp only [List.set_cons_zero])
            refine wpAnyH_take (i := 6) (v := ?_) rfl (by kernel_rfl) (by kernel_rfl) (by kernel_rfl) (fun _ _ _ h => h) (Or.inl ⟨by rfl, ?_⟩) (by assumption) ?_
            rotate_left
            · intro w' hSw; (try dsimp only at hSw); go_simp; (try with_reducible rfl)
            (try simp only [List.getElem_toArray]); (try simp only [List.getElem_cons_succ]); (try simp only [List.getElem_cons_zero]); (try simp only [Act.put]); (try simp only [List.setIfInBounds_toArray]); (try simp only [List.set_cons_succ]); (try simp only [List.set_cons_zero])
            refine wpAnyH_take (i := 7) (v := ?_) rfl (by kernel_rfl) (by kernel_rfl) (by kernel_rfl) (fun _ _ _ h => h) (Or.inl ⟨by rfl, ?_⟩) (by assumption) ?_
            rotate_left
            · intro w' hSw; (try dsimp only at hSw); go_simp; (try with_reducible rfl)
            (try simp only [List.getElem_toArray]); (try simp only [List.getElem_cons_succ]); (try simp only [List.getElem_cons_zero]); (try simp only [Act.put]); (try simp only [List.setIfInBounds_toArray]); (try simp only [List.set_cons_succ]); (try simp only [List.set_cons_zero])
            refine wpAnyH_take (i := 8) (v := ?_) rfl (by kernel_rfl) (by kernel_rfl) (by kernel_rfl) (fun _ _ _ h => h) (Or.inl ⟨by rfl, ?_⟩) (by assumption) ?_
            rotate_left
            · intro w' hSw; (try dsimp only at hSw); go_simp; (try with_reducible rfl)
            (try simp only [List.getElem_toArray]); (try simp only [List.getElem_cons_succ]); (try simp only [List.getElem_cons_zero]); (try simp only [Act.put]); (try simp only [List.setIfInBounds_toArray]); (try simp only [List.set_cons_succ]); (try simp only [List.set_cons_zero])
            refine wpAnyH_ready (rs := [9]) (by kernel_rfl) (by simp) ?_
            refine AllReadyH.cons rfl (fun Kk hK => ?_) AllReadyH.nil
            go_simp
            go_at_call 26
            refine (CL.out _ (by repeat (first | exact Kept.refl _ _ | refine Kept.drew ?_))).mono ?_
            rintro e w18 ⟨rfl, rfl⟩
            go_simp
            refine hK.out _ _ ?_ (fun hHeld2 => ?_)
            · exact hHeld
            clear hK Kk hHeld
            have hHeld := hHeld2
            clear hHeld2
            (try simp only [List.getElem_toArray]); (try simp only [List.getElem_cons_succ]); (try simp only [List.getElem_cons_zero]); (try simp only [Act.put]); (try simp only [List.setIfInBounds_toArray]); (try simp only [List.set_cons_succ]); (try simp only [List.set_cons_zero])
            refine wpAnyH_take (i := 10) (v := ?_) rfl (by kernel_rfl) (by kernel_rfl) (by kernel_rfl) (fun _ _ _ h => h) (Or.inl ⟨by rfl, ?_⟩) (by assumption) ?_
            rotate_left
            · intro w' hSw; (try dsimp only at hSw); go_simp; (try with_reducible rfl)
            (try simp only [List.getElem_toArray]); (try simp only [List.getElem_cons_succ]); (try simp only [List.getElem_cons_zero]); (try simp only [Act.put]); (try simp only [List.setIfInBounds_toArray]); (try simp only [List.set_cons_succ]); (try simp only [List.set_cons_zero])
            refine wpAnyH_take (i := 11) (v := ?_) rfl (by kernel_rfl) (by kernel_rfl) (by kernel_rfl) (fun _ _ _ h => h) (Or.inl ⟨by rfl, ?_⟩) (by assumption) ?_
            rotate_left
            · intro w' hSw; (try dsimp only at hSw); go_simp; (try with_reducible rfl)
            (try simp only [List.getElem_toArray]); (try simp only [List.getElem_cons_succ]); (try simp only [List.getElem_cons_zero]); (try simp only [Act.put]); (try simp only [List.setIfInBounds_toArray]); (try simp only [List.set_cons_succ]); (try simp only [List.set_cons_zero])
            refine wpAnyH_take (i := 12) (v := ?_) rfl (by kernel_rfl) (by kernel_rfl) (by kernel_rfl) (fun _ _ _ h => h) (Or.inl ⟨by rfl, ?_⟩) (by assumption) ?_
            rotate_left
            · intro w' hSw; (try dsimp only at hSw); go_simp; (try with_reducible rfl)
            (try simp only [List.getElem_toArray]); (try simp only [List.getElem_cons_succ]); (try simp only [List.getElem_cons_zero]); (try simp only [Act.put]); (try simp only [List.setIfInBounds_toArray]); (try simp only [List.set_cons_succ]); (try simp only [List.set_cons_zero])
            refine wpAnyH_take (i := 13) (v := ?_) rfl (by kernel_rfl) (by kernel_rfl) (by kernel_rfl) (fun _ _ _ h => h) (Or.inl ⟨by rfl, ?_⟩) (by assumption) ?_
            rotate_left
            · intro w' hSw; (try dsimp only at hSw); go_simp; (try with_reducible rfl)
            (try simp only [List.getElem_toArray]); (try simp only [List.getElem_cons_succ]); (try simp only [List.getElem_cons_zero]); (try simp only [Act.put]); (try simp only [List.setIfInBounds_toArray]); (try simp only [List.set_cons_succ]); (try simp only [List.set_cons_zero])
            refine wpAnyH_ready (rs := [14]) (by kernel_rfl) (by simp) ?_
            refine AllReadyH.cons rfl (fun Kk hK => ?_) AllReadyH.nil
            go_simp
            go_at_call 44
            refine (CSU.out _ (KBX.out.trans (by repeat (first | exact Kept.refl _ _ | refine Kept.drew ?_)))).mono ?_
            rintro e w19 ⟨rfl, k19⟩
            have K19 : Hid (Kept (fun _ => False) WB w19) := Kept.trans (by repeat (first | exact Kept.refl _ _ | refine Kept.drew ?_)) k19
            have u0 : w19.cell? ⟨NB2, 0, none⟩ = some (.int .i64 su.gen) := (cell_heap (K19.out.heap HBX.out id) 0).trans rfl
            have u1 : w19.cell? ⟨st2, 0, none⟩ = some (.pointer (some ⟨b2, 0, none⟩)) := (cell_heap (HS15.out.keptF (KBX.out.trans K19.out)).head 0).trans rfl
            clear k19
            go_simp
            refine hK.out _ _ ?_ (fun hHeld2 => ?_)
            · exact ⟨u0, u1⟩
            clear hK Kk hHeld
            have hHeld := hHeld2
            clear hHeld2
            (try simp only [List.getElem_toArray]); (try simp only [List.getElem_cons_succ]); (try simp only [List.getElem_cons_zero]); (try simp only [Act.put]); (try simp only [List.setIfInBounds_toArray]); (try simp only [List.set_cons_succ]); (try simp only [List.set_cons_zero])
            refine wpAnyH_take (i := 15) (v := ?_) rfl (by kernel_rfl) (by kernel_rfl) (by kernel_rfl) (fun _ _ _ h => h) (Or.inl ⟨by rfl, ?_⟩) (by assumption) ?_
            rotate_left
            · intro w' hSw; (try dsimp only at hSw); go_simp; (try with_reducible rfl)
            (try simp only [List.getElem_toArray]); (try simp only [List.getElem_cons_succ]); (try simp only [List.getElem_cons_zero]); (try simp only [Act.put]); (try simp only [List.setIfInBounds_toArray]); (try simp only [List.set_cons_succ]); (try simp only [List.set_cons_zero])
            refine wpAnyH_take (i := 16) (v := ?_) rfl (by kernel_rfl) (by kernel_rfl) (by kernel_rfl) (fun _ _ _ h => h) (Or.inl ⟨by rfl, ?_⟩) (by assumption) ?_
            rotate_left
            · intro w' hSw; (try dsimp only at hSw); go_simp; (try with_reducible rfl)
            (try simp only [List.getElem_toArray]); (try simp only [List.getElem_cons_succ]); (try simp only [List.getElem_cons_zero]); (try simp only [Act.put]); (try simp only [List.setIfInBounds_toArray]); (try simp only [List.set_cons_succ]); (try simp only [List.set_cons_zero])
            refine wpAnyH_take (i := 17) (v := ?_) rfl (by kernel_rfl) (by kernel_rfl) (by kernel_rfl) (fun _ _ _ h => h) (Or.inl ⟨by rfl, ?_⟩) (by assumption) ?_
            rotate_left
            · intro w' hSw; (try dsimp only at hSw); go_simp; (try with_reducible rfl)
            (try simp only [List.getElem_toArray]); (try simp only [List.getElem_cons_succ]); (try simp only [List.getElem_cons_zero]); (try simp only [Act.put]); (try simp only [List.setIfInBounds_toArray]); (try simp only [List.set_cons_succ]); (try simp only [List.set_cons_zero])
            refine skipH (i := 18) (d := 149) (by kernel_rfl) (by kernel_rfl) (by kernel_rfl) (by kernel_rfl) (fun _ _ _ h => h) (by rfl) (by assumption) ?_
            (try simp only [Act.put]); (try simp only [List.setIfInBounds_toArray]); (try simp only [List.set_cons_succ]); (try simp only [List.set_cons_zero])
            refine skipH (i := 19) (d := 150) (by kernel_rfl) (by kernel_rfl) (by kernel_rfl) (by kernel_rfl) (fun _ _ _ h => h) (by rfl) (by assumption) ?_
            (try simp only [Act.put]); (try simp only [List.setIfInBounds_toArray]); (try simp only [List.set_cons_succ]); (try simp only [List.set_cons_zero])
            refine skipH (i := 20) (d := 151) (by kernel_rfl) (by kernel_rfl) (by kernel_rfl) (by kernel_rfl) (fun _ _ _ h => h) (by rfl) (by assumption) ?_
            (try simp only [Act.put]); (try simp only [List.setIfInBounds_toArray]); (try simp only [List.set_cons_succ]); (try simp only [List.set_cons_zero])
            refine skipH (i := 21) (d := 152) (by kernel_rfl) (by kernel_rfl) (by kernel_rfl) (by kernel_rfl) (fun _ _ _ h => h) (by rfl) (by assumption) ?_
            (try simp only [Act.put]); (try simp only [List.setIfInBounds_toArray]); (try simp only [List.set_cons_succ]); (try simp only [List.set_cons_zero])
            refine skipH (i := 22) (d := 153) (by kernel_rfl) (by kernel_rfl) (by kernel_rfl) (by kernel_rfl) (fun _ _ _ h => h) (by rfl) (by assumption) ?_
            (try simp only [Act.put]); (try simp only [List.setIfInBounds_toArray]); (try simp only [List.set_cons_succ]); (try simp only [List.set_cons_zero])
            refine skipH (i := 23) (d := 154) (by kernel_rfl) (by kernel_rfl) (by kernel_rfl) (by kernel_rfl) (fun _ _ _ h => h) (by rfl) (by assumption) ?_
            (try simp only [Act.put]); (try simp only [List.setIfInBounds_toArray]); (try simp only [List.set_cons_succ]); (try simp only [List.set_cons_zero])
            refine skipH (i := 24) (d := 155) (by kernel_rfl) (by kernel_rfl) (by kernel_rfl) (by kernel_rfl) (fun _ _ _ h => h) (by rfl) (by assumption) ?_
            (try simp only [Act.put]); (try simp only [List.setIfInBounds_toArray]); (try simp only [List.set_cons_succ]); (try simp only [List.set_cons_zero])
            refine skipH (i := 25) (d := 156) (by kernel_rfl) (by kernel_rfl) (by kernel_rfl) (by kernel_rfl) (fun _ _ _ h => h) (by rfl) (by assumption) ?_
            (try simp only [Act.put]); (try simp only [List.setIfInBounds_toArray]); (try simp only [List.set_cons_succ]); (try simp only [List.set_cons_zero])
            refine skipH (i := 26) (d := 157) (by kernel_rfl) (by kernel_rfl) (by kernel_rfl) (by kernel_rfl) (fun _ _ _ h => h) (by rfl) (by assumption) ?_
            (try simp only [Act.put]); (try simp only [List.setIfInBounds_toArray]); (try simp only [List.set_cons_succ]); (try simp only [List.set_cons_zero])
            refine wpAnyH_take (i := 27) (v := ?_) rfl (by kernel_rfl) (by kernel_rfl) (by kernel_rfl) (fun _ _ _ h => h) (Or.inl ⟨by rfl, ?_⟩) (by assumption) ?_
            rotate_left
            · intro w' hSw; (try dsimp only at hSw); go_simp; (try with_reducible rfl)
            (try simp only [List.getElem_toArray]); (try simp only [List.getElem_cons_succ]); (try simp only [List.getElem_cons_zero]); (try simp only [Act.put]); (try simp only [List.setIfInBounds_toArray]); (try simp only [List.set_cons_succ]); (try simp only [List.set_cons_zero])
            refine wpAnyH_take (i := 28) (v := ?_) rfl (by kernel_rfl) (by kernel_rfl) (by kernel_rfl) (fun _ _ _ h => h) (Or.inl ⟨by rfl, ?_⟩) (by assumption) ?_
            rotate_left
            · intro w' hSw; (try dsimp only at hSw); go_simp; (try with_reducible rfl)
            (try simp only [List.getElem_toArray]); (try simp only [List.getElem_cons_succ]); (try simp only [List.getElem_cons_zero]); (try simp only [Act.put]); (try simp only [List.setIfInBounds_toArray]); (try simp only [List.set_cons_succ]); (try simp only [List.set_cons_zero])
            refine wpAnyH_take (i := 29) (v := ?_) rfl (by kernel_rfl) (by kernel_rfl) (by kernel_rfl) (fun _ _ _ h => h) (Or.inl ⟨by rfl, ?_⟩) (by assumption) ?_
            rotate_left
            · intro w' hSw; (try dsimp only at hSw); go_simp; (try with_reducible rfl)
            (try simp only [List.getElem_toArray]); (try simp only [List.getElem_cons_succ]); (try simp only [List.getElem_cons_zero]); (try simp only [Act.put]); (try simp only [List.setIfInBounds_toArray]); (try simp only [List.set_cons_succ]); (try simp only [List.set_cons_zero])
            refine wpAnyH_done (by kernel_rfl) ?_ _
            go_wp2_with fail
            go_ret
            exact ⟨rfl, KFIN.out.trans (by repeat (first | exact K19.out | refine Kept.drew ?_))⟩
          · have t2 : decide (su.root < 0) = false := by simpa using hr0
            have hst : stAt l2 su.root = 1 := by rcases HROOT.out with h | h; exact absurd h hr0; exact h
            rw [hst] at CST
            clear hr0 hst
            have tok1 : True := trivial
            go_region_held3 (fun w' => w'.cell? ⟨NB2, 0, none⟩ = some (.int .i64 su.gen) ∧ w'.cell? ⟨st2, 0, none⟩ = some (.pointer (some ⟨b2, 0, none⟩))) (go_keep)
              (first
                | (go_at_call 26; refine (CL.out _ (by repeat (first | exact Kept.refl _ _ | refine Kept.drew ?_))).mono ?_; rintro e w18 ⟨rfl, rfl⟩)
                | (have _t := tok1; go_at_call 44; refine (CSU.out _ (KBX.out.trans (by repeat (first | exact Kept.refl _ _ | refine Kept.drew ?_)))).mono ?_; rintro e w19 ⟨rfl, k19⟩; have K19 : Hid (Kept (fun _ => False) WB w19) := Kept.trans (by repeat (first | exact Kept.refl _ _ | refine Kept.drew ?_)) k19; have u19 : w19.cell? ⟨NB2, 0, none⟩ = some (.int .i64 su.gen) := (cell_heap (K19.out.heap HBX.out id) 0).trans rfl; have v19 : w19.cell? ⟨st2, 0, none⟩ = some (.pointer (some ⟨b2, 0, none⟩)) := (cell_heap (HS15.out.keptF (KBX.out.trans K19.out)).head 0).trans rfl; clear k19 tok1 _t)
                | (go_at_call 44; refine (CSU.out _ (KBX.out.trans K19.out)).mono ?_; rintro e w20 ⟨rfl, k20⟩; have K20 : Hid (Kept (fun _ => False) WB w20) := K19.out.trans k20; have u20 : w20.cell? ⟨NB2, 0, none⟩ = some (.int .i64 su.gen) := (cell_heap (K20.out.heap HBX.out id) 0).trans rfl; have v20 : w20.cell? ⟨st2, 0, none⟩ = some (.pointer (some ⟨b2, 0, none⟩)) := (cell_heap (HS15.out.keptF (KBX.out.trans K20.out)).head 0).trans rfl; clear k20)
                | (go_at_call 17; refine (CST.out _ (KBX.out.trans K20.out)).mono ?_; rintro e w21 ⟨rfl, rfl⟩))
            go_wp2_with fail
            go_ret
            exact ⟨rfl, KFIN.out.trans (by repeat (first | exact K20.out | refine Kept.drew ?_))⟩

end Go.Proofs.Ytfgjehecjgebdaa
