/- The reference of 07: Full, Super. -/
import Derived.Test.YtfgjehecjgebdaaMg17
import Derived.Test.YtfgjehecjgebdaaMg16
import Derived.Test.YtfgjehecjgebdaaMg38
import Derived.Test.YtfgjehecjgebdaaMg23
import Derived.Test.YtfgjehecjgebdaaMg32
namespace Go.Proofs.Ytfgjehecjgebdaa
open Go.RowKit

set_option maxRecDepth 100000 in
theorem refFull_calls (t : List UInt8) (ht : t.length ≤ 248) (w : World) : Calls Try.prog 37 #[.string (ba t)] w fun e w' => e = .returned (.string (ba (fullB t))) ∧ Kept (fun _ => False) w w' := by
  have h250 := encS_len t (by omega)
  have C := Lib.hid (refS_calls t (by omega) w)
  obtain ⟨b, hb⟩ : ∃ b, b = ba (encS t) := ⟨_, rfl⟩
  have hbs : b.size ≤ 250 := by rw [hb, ba_size]; omega
  have HL : Hid (b.size = (encS t).length) := by rw [hb, Hid, ba_size]
  have HB := Lib.hid hb
  rw [← hb] at C
  obtain ⟨s, hs⟩ : ∃ s, s = ba t := ⟨_, rfl⟩
  rw [← hs] at C ⊢
  clear hb hs h250
  go_enter Try.func37, Try.ntmps37
  go_wp2_with fail
  refine C.out.mono ?_
  rintro e w1 ⟨rfl, k1⟩
  have K1 := Lib.hid k1
  clear k1
  go_wp2_with fail
  go_loop [3, 4] (fun v i => ∃ (k : Nat) (x : ByteArray), k + b.size ≤ 252 ∧ i = .int .i64 k ∧ v = .string x ∧ Hid (x.size = b.size + k) ∧ Hid (x = ba (encS t ++ List.replicate k 0))) (fun _ i => 252 - (intOf i).toNat)
  case atStart => exact ⟨0, b, by omega, rfl, rfl, rfl, by rw [Hid, HB.out]; simp⟩
  case round =>
    obtain ⟨k, x, hk, rfl, rfl, hx, hxe⟩ := hrel
    have hxz : x.size = b.size + k := hx.out
    obtain ⟨xs, hxs⟩ : ∃ n, n = x.size := ⟨_, rfl⟩
    by_cases hlt : k + b.size < 252
    · have hk2 : k < 252 := by omega
      have h2 : x.size < 252 := by omega
      obtain ⟨z, hz⟩ : ∃ z : ByteArray, z = { data := #[0] } := ⟨_, rfl⟩
      have hzs : z.size = 1 := by rw [hz]; rfl
      have hsum : x.size + ({ data := #[0] } : ByteArray).size ≤ 1000 := by
        have : ({ data := #[0] } : ByteArray).size = 1 := rfl
        omega
      have HX : Hid ((x ++ ({ data := #[0] } : ByteArray)).size = b.size + (k + 1)) := by
        have : ({ data := #[0] } : ByteArray).size = 1 := rfl
        rw [Hid, ByteArray.size_append, this]; omega
      have HE : Hid (x ++ ({ data := #[0] } : ByteArray) = ba (encS t ++ List.replicate (k + 1) 0)) := by
        have e : ({ data := #[0] } : ByteArray) = ba [0] := rfl
        rw [Hid, hxe.out, e, ← ba_append, List.append_assoc, ← List.replicate_succ']
      have HXZ := Lib.hid hxz
      clear hxz hxs hzs hz
      go_wp2_with fail
      go_round
      case rel => exact ⟨k + 1, _, by omega, by go_num, rfl, HX.out, HE.out⟩
      case measure => simp [intOf]; omega
    · have h2 : x.size = 252 := by omega
      obtain ⟨p, hp⟩ : ∃ p, p = padTo 252 (encS t) := ⟨_, rfl⟩
      have hxp : x = ba p := by
        rw [hp, padTo, hxe.out]
        congr 3
        have := HL.out; omega
      have hpl : p.length = 252 := by rw [← ba_size, ← hxp]; exact h2
      have C1 := Lib.hid (refOf_calls p (by omega) w1)
      have C2 := Lib.hid (refBytes_calls (crcOf p) (crcOf_lt p) w1)
      rw [← hxp] at C1
      have hl4 : (ba (le4 (crcOf p))).size = 4 := by rw [ba_size]; rfl
      obtain ⟨l4, hl⟩ : ∃ x, x = ba (le4 (crcOf p)) := ⟨_, rfl⟩
      have HE : Hid (l4 ++ x = ba (fullB t)) := by
        rw [Hid, hl, hxp, ← ba_append, fullB, summed, ← hp]
      rw [← hl] at C2 hl4
      have hsum : l4.size + x.size ≤ 1000 := by omega
      have h3 : ¬ ((x.size : Int) < 252) := by omega
      have h4 : x.size ≤ 252 := by omega
      have H2 := Lib.hid h2
      clear h2 hxz hxs hp hxp hpl hl hl4
      generalize crcOf p = cr at *
      go_wp2_with fail
      all_goals
        refine C1.out.mono ?_
        rintro e w2 ⟨rfl, rfl⟩
        go_wp2_with fail
        refine C2.out.mono ?_
        rintro e w3 ⟨rfl, k3⟩
        have K3 := Lib.hid (K1.out.trans k3)
        clear k3
        go_wp2_with fail
        go_ret
        exact ⟨by rw [HE.out]; rfl, K3.out⟩

set_option maxHeartbeats 2000000 in
set_option maxRecDepth 100000 in
theorem refSuper_calls {w B q R} (h : IsRef w B q R) (hs : R.s.Good) : Calls Try.prog 35 #[refV q R] w fun e w' => e = .returned (.string (ba (supB R.s R.l))) ∧ Kept (fun _ => False) w w' := by
  have H := Lib.hid h
  obtain ⟨l, T, ⟨gen, root, log, next⟩, K⟩ := R
  obtain ⟨gl, cl, gt, ct, gk, ck⟩ := q
  have hr1 := hs.r1
  have hr2 := hs.r2
  have hl1 := hs.l1
  have hl2 := hs.l2
  have hn2 := hs.n2
  simp only at hr1 hr2 hl1 hl2 hn2
  have hlen : l.length ≤ 128 := h.len
  have hy16 := byB_len l hlen
  obtain ⟨ra, hra⟩ : ∃ x, x = ba (encN (root + 1)) := ⟨_, rfl⟩
  obtain ⟨rb, hrb⟩ : ∃ x, x = ba (encN (log : Int)) := ⟨_, rfl⟩
  obtain ⟨rc, hrc⟩ : ∃ x, x = ba (encN (next : Int)) := ⟨_, rfl⟩
  obtain ⟨rd, hrd⟩ : ∃ x, x = ba (encS (byB l)) := ⟨_, rfl⟩
  obtain ⟨tx, htx⟩ : ∃ x, x = bstr (bys l) := ⟨_, rfl⟩
  have HE : Hid (ra ++ rb ++ rc ++ rd = ba (supB ⟨gen, root, log, next⟩ l)) := by
    rw [Hid, hra, hrb, hrc, hrd, ← ba_append, ← ba_append, ← ba_append]
    simp [supB, encNs, encSs]
  have hen : ∀ n : Int, -9223372036854775808 ≤ n → n ≤ 9223372036854775807 → (encN n).length ≤ 9 := fun n h1 h2 => by
    rw [encN, encU_len]; have := nb_le8 n.toNat (by omega); omega
  have hsa : ra.size ≤ 9 := by rw [hra, ba_size]; exact hen _ (by omega) (by omega)
  have hsb : rb.size ≤ 9 := by rw [hrb, ba_size]; exact hen _ (by omega) (by omega)
  have hsc : rc.size ≤ 9 := by rw [hrc, ba_size]; exact hen _ (by omega) (by omega)
  have hsd : rd.size ≤ 100 := by rw [hrd, ba_size]; have := encS_len (byB l) (by omega); omega
  have CA : Hid (∀ W, Calls Try.prog 62 #[.int .i64 (root + 1)] W fun e w' => e = .returned (.string ra) ∧ Kept (fun _ => False) W w') := fun W => by rw [hra]; exact refN_calls _ (by omega) W
  have CB : Hid (∀ W, Calls Try.prog 62 #[.int .i64 log] W fun e w' => e = .returned (.string rb) ∧ Kept (fun _ => False) W w') := fun W => by rw [hrb]; exact refN_calls _ (by omega) W
  have CC : Hid (∀ W, Calls Try.prog 62 #[.int .i64 next] W fun e w' => e = .returned (.string rc) ∧ Kept (fun _ => False) W w') := fun W => by rw [hrc]; exact refN_calls _ (by omega) W
  have CT : Hid (∀ W, Kept (fun _ => False) w W → Calls Try.prog 51 #[.slice (some ⟨gl, 0, none⟩) l.length cl] W fun e w' => e = .returned (.string tx) ∧ Kept (fun _ => False) W w') := fun W hW => by rw [htx]; exact refText_calls (H.out.keptF hW).ints hlen H.out.lt4
  have CD : Hid (∀ W, Calls Try.prog 63 #[.string tx] W fun e w' => e = .returned (.string rd) ∧ Kept (fun _ => False) W w') := fun W => by rw [hrd, htx, bstr_byB]; exact refS_calls _ (by omega) W
  have z1 : ¬ 9223372036854775807 < ra.size + rb.size := by omega
  have z2 : ¬ 9223372036854775807 < ra.size + rb.size + rc.size := by omega
  have z3 : ¬ 9223372036854775807 < ra.size + rb.size + rc.size + rd.size := by omega
  have hw : IntKind.i64.wrap (root + 1) = root + 1 := by rw [IntKind.wrap_i64]; omega
  clear h hs hra hrb hrc hrd htx hen
  unfold refV refCells
  simp only
  go_enter Try.func35, Try.ntmps35
  go_wp2_with fail
  obtain ⟨W, hW⟩ : ∃ W, W = w.alloc (.cells #[.slice (some ⟨gl, 0, none⟩) l.length cl, .slice (some ⟨gt, 0, none⟩) T.length ct, .int .i64 gen, .int .i64 root, .int .i64 log, .int .i64 next, .slice (some ⟨gk, 0, none⟩) K.length ck] 55) := ⟨_, rfl⟩
  rw [← hW]
  obtain ⟨N, hN⟩ : ∃ N, N = w.heap.size := ⟨_, rfl⟩
  have KW : Hid (Kept (fun _ => False) w W) := by rw [hW]; exact (Kept.refl _ _).alloc _
  have hb : W.heap[N]? = some (.cells #[.slice (some ⟨gl, 0, none⟩) l.length cl, .slice (some ⟨gt, 0, none⟩) T.length ct, .int .i64 gen, .int .i64 root, .int .i64 log, .int .i64 next, .slice (some ⟨gk, 0, none⟩) K.length ck] 55 (0, 0)) := by rw [hW, hN]; exact heap_new w _
  have HBX := Lib.hid hb
  rw [← hN]
  obtain ⟨a0, a1, a2, a3, a4, a5, a6⟩ := cells7 hb
  have hl1 := lt_heap hb
  clear hW hb hN
  go_region_held3 (fun w' => w'.cell? ⟨N, 0, none⟩ = some (.slice (some ⟨gl, 0, none⟩) l.length cl) ∧ w'.cell? ⟨N, 3, none⟩ = some (.int .i64 root) ∧ w'.cell? ⟨N, 4, none⟩ = some (.int .i64 log) ∧ w'.cell? ⟨N, 5, none⟩ = some (.int .i64 next)) (go_keep)
    (first
      | (go_at_call 62; ((with_reducible refine (CA.out _).mono ?_); rintro e w1 ⟨rfl, k1⟩; have K1 : Hid (Kept (fun _ => False) W w1) := Kept.trans (by repeat (first | exact Kept.refl _ _ | refine Kept.drew ?_)) k1; obtain ⟨b1, c1, d1, e1, f1, g1, h1⟩ := cells7 (K1.out.heap HBX.out id); clear k1))
      | (go_at_call 62; ((with_reducible refine (CB.out _).mono ?_); rintro e w2 ⟨rfl, k2⟩; have K2 : Hid (Kept (fun _ => False) W w2) := K1.out.trans k2; obtain ⟨b2, c2, d2, e2, f2, g2, h2⟩ := cells7 (K2.out.heap HBX.out id); clear k2))
      | (go_at_call 62; ((with_reducible refine (CC.out _).mono ?_); rintro e w3 ⟨rfl, k3⟩; have K3 : Hid (Kept (fun _ => False) W w3) := K2.out.trans k3; obtain ⟨b3, c3, d3, e3, f3, g3, h3⟩ := cells7 (K3.out.heap HBX.out id); clear k3))
      | (go_at_call 51; ((with_reducible refine (CT.out _ (KW.out.trans K3.out)).mono ?_); rintro e w4 ⟨rfl, k4⟩; have K4 : Hid (Kept (fun _ => False) W w4) := K3.out.trans k4; obtain ⟨b4, c4, d4, e4, f4, g4, h4⟩ := cells7 (K4.out.heap HBX.out id); clear k4))
      | (go_at_call 63; ((with_reducible refine (CD.out _).mono ?_); rintro e w5 ⟨rfl, k5⟩; have K5 : Hid (Kept (fun _ => False) W w5) := K4.out.trans k5; obtain ⟨b5, c5, d5, e5, f5, g5, h5⟩ := cells7 (K5.out.heap HBX.out id); clear k5)))
  all_goals (try go_wp2_with fail)
  all_goals go_ret
  all_goals exact ⟨by rw [HE.out]; rfl, KW.out.trans (by repeat (first | exact K5.out | refine Kept.drew ?_))⟩

end Go.Proofs.Ytfgjehecjgebdaa
