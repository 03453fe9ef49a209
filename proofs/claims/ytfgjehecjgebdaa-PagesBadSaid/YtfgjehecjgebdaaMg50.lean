/- The laws of 07: Is. -/
import Derived.Test.YtfgjehecjgebdaaMg47
namespace Go.Proofs.Ytfgjehecjgebdaa
open Go.RowKit Go.Maps Go.ChangeMaps

/-- How many pages below k were put. -/
def atOf (l : List Nat) (k : Nat) : Nat := ((List.range k).filter fun i => l.getD i 0 == 2).length
theorem atOf_len (l : List Nat) : atOf l l.length = (fresh l).length := rfl
theorem atOf_succ (l : List Nat) (k : Nat) : atOf l (k + 1) = atOf l k + if l.getD k 0 = 2 then 1 else 0 := by
  unfold atOf
  rw [List.range_succ, List.filter_append, List.length_append]
  congr 1
  by_cases h : l.getD k 0 = 2
  · rw [List.filter_cons_of_pos (by simpa using h), if_pos h]; rfl
  · rw [List.filter_cons_of_neg (by simpa using h), if_neg h]; rfl
theorem atOf_past (l : List Nat) : atOf l (l.length + 1) = (fresh l).length := by
  rw [atOf_succ, atOf_len, if_neg (by simp [List.getD])]
  rfl
theorem atOf_le (l : List Nat) (k : Nat) : atOf l k ≤ k := by
  have := List.length_filter_le (fun i => l.getD i 0 == 2) (List.range k)
  simpa [atOf] using this
theorem fresh_at (l : List Nat) (k : Nat) (hk : k < l.length) (h2 : l.getD k 0 = 2) : (fresh l)[atOf l k]? = some k := by
  have e : List.range l.length = List.range k ++ (k :: (List.range (l.length - k - 1)).map (fun j => k + 1 + j)) := by
    apply List.ext_getElem
    · simp; omega
    · intro i h1 h3
      simp only [List.getElem_range]
      by_cases hi : i < k
      · rw [List.getElem_append_left (by simpa using hi)]; simp
      · rw [List.getElem_append_right (by simp; omega)]
        by_cases hi2 : i = k
        · subst hi2; simp
        · obtain ⟨m, rfl⟩ : ∃ m, i = k + 1 + m := ⟨i - k - 1, by omega⟩
          have e2 : k + 1 + m - (List.range k).length = m + 1 := by simp; omega
          simp only [e2, List.getElem_cons_succ, List.getElem_map, List.getElem_range]
  unfold fresh atOf
  rw [e, List.filter_append, List.filter_cons_of_pos (by simpa using h2), List.getElem?_append_right (Nat.le_refl _)]
  simp

theorem atOf_lt (l : List Nat) (k : Nat) (hk : k < l.length) (h2 : l.getD k 0 = 2) : atOf l k < (fresh l).length := (List.getElem?_eq_some_iff.1 (fresh_at l k hk h2)).1

/-- A store is the reference's. -/
structure Same (X : Sto) (R : RSto) : Prop where
  l : X.l = R.l
  s : X.sup = R.s
  read : ∀ i : Int, X.read i = rRead R i

set_option maxHeartbeats 8000000 in
set_option maxRecDepth 100000 in
theorem Is_same {w st b c m d vs vc p g X B q R} (h : IsStore w st b c m d vs vc p g X) (hr : IsRef w B q R) (hs : Same X R) (hd : X.D.down = false) (hn : 2 + 4 * p ≤ X.D.secs.length) (hcl : X.D.cache.length ≤ 1000000) :
    Calls Try.prog 49 #[.pointer (some ⟨st, 0, none⟩), refV q R] w fun e w' => e = .returned (.int .i64 0) ∧ Kept (fun _ => False) w w' := by
  have H := Lib.hid h
  have HR := Lib.hid hr
  obtain ⟨l, T, ⟨gen, root, log, next⟩, K⟩ := R
  obtain ⟨gl, cl, gt, ct, gk, ck⟩ := q
  have hlen := hr.len
  have hl := hs.l
  have hsup := hs.s
  have hlX := h.sp.len
  simp only at hlen hl hsup
  have HSU : Hid (∀ W, Kept (fun _ => False) w W → Calls Try.prog 44 #[.pointer (some ⟨st, 0, none⟩)] W fun e w' => e = .returned (.agg #[.int .i64 gen, .int .i64 root, .int .i64 log, .int .i64 next]) ∧ Kept (fun _ => False) W w') := fun W hW => by
    have := StoSuper_calls (h.keptF hW); rw [hsup] at this; exact this
  have HLN : Hid (∀ W, Kept (fun _ => False) w W → Calls Try.prog 26 #[.pointer (some ⟨b, 0, none⟩)] W fun e w' => e = .returned (.int .i64 l.length) ∧ W = w') := fun W hW => by
    have := Len_calls (h.keptF hW).sp; rw [hl] at this; exact this
  have HTX : Hid (∀ W, Kept (fun _ => False) w W → Calls Try.prog 25 #[.pointer (some ⟨b, 0, none⟩)] W fun e w' => e = .returned (.string (bstr (bys l))) ∧ Kept (fun _ => False) W w') := fun W hW => by
    have := Text_calls (h.keptF hW).sp; rw [hl] at this; exact this
  have HRX : Hid (∀ W, Kept (fun _ => False) w W → Calls Try.prog 51 #[.slice (some ⟨gl, 0, none⟩) l.length cl] W fun e w' => e = .returned (.string (bstr (bys l))) ∧ Kept (fun _ => False) W w') := fun W hW => refText_calls ((HR.out.keptF hW).ints) hlen HR.out.lt4
  have HDY : Hid (∀ W, Kept (fun _ => False) w W → Calls Try.prog 55 #[.pointer (some ⟨st, 0, none⟩)] W (StoDirtyPost l W)) := fun W hW => by
    have := StoDirty_calls (h.keptF hW); rw [hl] at this; exact this
  have HRD : Hid (∀ W i, Kept (fun _ => False) w W → Calls Try.prog 39 #[.pointer (some ⟨st, 0, none⟩), .int .i64 i] W (StoReadPost (rRead ⟨l, T, ⟨gen, root, log, next⟩, K⟩ i) W)) := fun W i hW => by
    have := StoRead_calls (h.keptF hW) i hd hn hcl; rw [hs.read i] at this; exact this
  have HRR : Hid (∀ W i, Kept (fun _ => False) w W → Calls Try.prog 80 #[refV ⟨gl, cl, gt, ct, gk, ck⟩ ⟨l, T, ⟨gen, root, log, next⟩, K⟩, .int .i64 i] W fun e w' => e = .returned (.tuple #[.string (ba (rRead ⟨l, T, ⟨gen, root, log, next⟩, K⟩ i).1), .int .i64 (rRead ⟨l, T, ⟨gen, root, log, next⟩, K⟩ i).2]) ∧ Kept (fun _ => False) W w') := fun W i hW => refRead_calls (HR.out.keptF hW) i
  have HSTT : Hid (∀ W i, Kept (fun _ => False) w W → Calls Try.prog 17 #[.pointer (some ⟨b, 0, none⟩), .int .i64 i] W fun e w' => e = .returned (.int .i64 (stAt l i)) ∧ W = w') := fun W i hW => by
    have := State_calls (h.keptF hW).sp i; rw [hl] at this; exact this
  clear h hr hs hd hn hcl hl hsup hlX
  unfold refV refCells at HRR ⊢
  simp only at HRR ⊢
  generalize bstr (bys l) = bt at *
  go_enter Try.func49, Try.ntmps49
  go_wp2_with fail
  obtain ⟨W, hW⟩ : ∃ W, W = w.alloc (.cells #[.slice (some ⟨gl, 0, none⟩) l.length cl, .slice (some ⟨gt, 0, none⟩) T.length ct, .int .i64 gen, .int .i64 root, .int .i64 log, .int .i64 next, .slice (some ⟨gk, 0, none⟩) K.length ck] 55) := ⟨_, rfl⟩
  rw [← hW]
  obtain ⟨N, hN⟩ : ∃ N, N = w.heap.size := ⟨_, rfl⟩
  have KW : Hid (Kept (fun _ => False) w W) := by rw [hW]; exact (Kept.refl _ _).alloc _
  have hb : W.heap[N]? = some (.cells #[.slice (some ⟨gl, 0, none⟩) l.length cl, .slice (some ⟨gt, 0, none⟩) T.length ct, .int .i64 gen, .int .i64 root, .int .i64 log, .int .i64 next, .slice (some ⟨gk, 0, none⟩) K.length ck] 55 (0, 0)) := by rw [hW, hN]; exact heap_new w _
  have HBX := Lib.hid hb
  rw [← hN]
  have s0 : W.cell? ⟨st, 0, none⟩ = some (.pointer (some ⟨b, 0, none⟩)) := (cell_heap (H.out.keptF KW.out).head 0).trans rfl
  obtain ⟨a0, a1, a2, a3, a4, a5, a6⟩ := cells7 hb
  have hl1 := lt_heap hb
  clear hW hb hN
  go_cut [45] from 12 to 45 (fun v wx => v = .bool false ∧ Kept (fun _ => False) W wx)
  case first =>
    go_region_held3 (fun w' => w'.cell? ⟨st, 0, none⟩ = some (.pointer (some ⟨b, 0, none⟩)) ∧ w'.cell? ⟨N, 0, none⟩ = some (.slice (some ⟨gl, 0, none⟩) l.length cl) ∧ w'.cell? ⟨N, 2, none⟩ = some (.int .i64 gen) ∧ w'.cell? ⟨N, 3, none⟩ = some (.int .i64 root) ∧ w'.cell? ⟨N, 4, none⟩ = some (.int .i64 log) ∧ w'.cell? ⟨N, 5, none⟩ = some (.int .i64 next)) (go_keep)
      (first
        | (go_at_call 44; refine (HSU.out _ (KW.out.trans (by repeat (first | exact Kept.refl _ _ | refine Kept.drew ?_)))).mono ?_; rintro e w1 ⟨rfl, k1⟩; have K1 : Hid (Kept (fun _ => False) W w1) := Kept.trans (by repeat (first | exact Kept.refl _ _ | refine Kept.drew ?_)) k1; have x0 : w1.cell? ⟨st, 0, none⟩ = some (.pointer (some ⟨b, 0, none⟩)) := (cell_heap (H.out.keptF (KW.out.trans K1.out)).head 0).trans rfl; obtain ⟨b0, b1, b2, b3, b4, b5, b6⟩ := cells7 (K1.out.heap HBX.out id); clear k1)
        | (go_at_call 26; refine (HLN.out _ (KW.out.trans K1.out)).mono ?_; rintro e w2 ⟨rfl, rfl⟩)
        | (go_at_call 25; refine (HTX.out _ (KW.out.trans K1.out)).mono ?_; rintro e w3 ⟨rfl, k3⟩; have K3 : Hid (Kept (fun _ => False) W w3) := K1.out.trans k3; have y0 : w3.cell? ⟨st, 0, none⟩ = some (.pointer (some ⟨b, 0, none⟩)) := (cell_heap (H.out.keptF (KW.out.trans K3.out)).head 0).trans rfl; obtain ⟨c0, c1, c2, c3, c4, c5, c6⟩ := cells7 (K3.out.heap HBX.out id); clear k3)
        | (go_at_call 51; refine (HRX.out _ (KW.out.trans K3.out)).mono ?_; rintro e w4 ⟨rfl, k4⟩; have K4 : Hid (Kept (fun _ => False) W w4) := K3.out.trans k4; have z0 : w4.cell? ⟨st, 0, none⟩ = some (.pointer (some ⟨b, 0, none⟩)) := (cell_heap (H.out.keptF (KW.out.trans K4.out)).head 0).trans rfl; obtain ⟨d0, d1, d2, d3, d4, d5, d6⟩ := cells7 (K4.out.heap HBX.out id); clear k4))
    all_goals (try go_wp2_with fail)
    all_goals go_meet
    all_goals exact ⟨rfl, K4.out⟩
  case rest =>
    obtain ⟨rfl, k4⟩ := hcut
    have KC : Hid (Kept (fun _ => False) w wc) := KW.out.trans k4
    have HBC := Lib.hid (k4.heap HBX.out id)
    clear k4 s0 a0 a1 a2 a3 a4 a5 a6 hl1
    go_wp2_with fail
    refine (HDY.out wc KC.out).mono ?_
    rintro e w1 ⟨v, rfl, hrow, k1⟩
    obtain ⟨A, cap, rfl, hA⟩ := own_any hrow
    have KA : Hid (Kept (fun _ => False) w w1) := KC.out.trans k1
    have HB1 := Lib.hid (k1.heap HBC.out id)
    have HROW := Lib.hid hrow
    have HFL : Hid ((fresh l).length ≤ l.length) := fresh_len l
    clear hrow k1
    go_wp2_with fail
    go_loopw [5, 7] (fun a n wr => ∃ id : Int, -1 ≤ id ∧ id ≤ (l.length : Int) + 1 ∧ n = .int .i64 id ∧ a = .int .i64 (atOf l id.toNat : Nat) ∧ Kept (fun _ => False) w1 wr) (fun _ n _ => ((l.length : Int) + 1 - intOf n).toNat)
    case atStart => exact ⟨-1, by omega, by omega, rfl, rfl, Kept.refl _ _⟩
    case round =>
      obtain ⟨id, hi1, hi2, rfl, rfl, hkr⟩ := hrel
      obtain ⟨z0, z1, z2, z3, z4, z5, z6⟩ := cells7 (hkr.heap HB1.out (fun f => f))
      obtain ⟨an, han⟩ : ∃ an, an = atOf l id.toNat := ⟨_, rfl⟩
      have HAN := Lib.hid han
      rw [← han]
      have hanl : an ≤ 200 := by have := atOf_le l id.toNat; omega
      obtain ⟨id2, hid2⟩ : ∃ i2 : Int, i2 = id + 1 := ⟨_, rfl⟩
      have q1 : IntKind.i64.wrap (id + 1) = id2 := by rw [IntKind.wrap_i64]; omega
      have HID2 := Lib.hid hid2
      clear han hid2
      by_cases hend : id ≤ (l.length : Int)
      · have hle : decide (id ≤ (l.length : Int)) = true := by simpa using hend
        obtain ⟨⟨tx, er⟩, htx⟩ : ∃ r, rRead ⟨l, T, ⟨gen, root, log, next⟩, K⟩ id = r := ⟨_, rfl⟩
        have HE := Lib.hid htx
        clear htx
        by_cases hneg : id < 0
        · have hn1 : decide (id < 0) = true := by simpa using hneg
          go_wp2_with fail
          refine (HRD.out wr id (KA.out.trans hkr)).mono ?_
          rw [HE.out]
          rintro e w2 ⟨rfl, k2⟩
          have K2 : Hid (Kept (fun _ => False) w1 w2) := hkr.trans k2
          obtain ⟨x0, x1, x2, x3, x4, x5, x6⟩ := cells7 (K2.out.heap HB1.out (fun f => f))
          clear k2
          go_wp2_with fail
          refine (HRR.out w2 id (KA.out.trans K2.out)).mono ?_
          rw [HE.out]
          rintro e w3 ⟨rfl, k3⟩
          have K3 : Hid (Kept (fun _ => False) w1 w3) := K2.out.trans k3
          obtain ⟨y0, y1, y2, y3, y4, y5, y6⟩ := cells7 (K3.out.heap HB1.out (fun f => f))
          have s3 : w3.cell? ⟨st, 0, none⟩ = some (.pointer (some ⟨b, 0, none⟩)) := (cell_heap (H.out.keptF (KA.out.trans K3.out)).head 0).trans rfl
          clear k3
          simp only
          generalize ba tx = sx at *
          go_wp2_with fail
          go_roundw
          case rel => exact ⟨id2, by have := HID2.out; omega, by have := HID2.out; omega, rfl, by rw [HAN.out, HID2.out, show id = -1 by omega]; rfl, K3.out⟩
          case measure => simp [intOf]; have := HID2.out; omega
        · have hn1 : decide (id < 0) = false := by simpa using hneg
          by_cases hge : (l.length : Int) ≤ id
          · have hn2 : decide ((l.length : Int) ≤ id) = true := by simpa using hge
            have HAT : Hid (atOf l id2.toNat = an) := by
              have e1 : id = (l.length : Int) := by omega
              simp only [Hid]
              rw [HAN.out, HID2.out, e1, show ((l.length : Int) + 1).toNat = l.length + 1 by omega, atOf_past, ← atOf_len]; rfl
            go_wp2_with fail
            refine (HRD.out wr id (KA.out.trans hkr)).mono ?_
            rw [HE.out]
            rintro e w2 ⟨rfl, k2⟩
            have K2 : Hid (Kept (fun _ => False) w1 w2) := hkr.trans k2
            obtain ⟨x0, x1, x2, x3, x4, x5, x6⟩ := cells7 (K2.out.heap HB1.out (fun f => f))
            clear k2
            go_wp2_with fail
            refine (HRR.out w2 id (KA.out.trans K2.out)).mono ?_
            rw [HE.out]
            rintro e w3 ⟨rfl, k3⟩
            have K3 : Hid (Kept (fun _ => False) w1 w3) := K2.out.trans k3
            obtain ⟨y0, y1, y2, y3, y4, y5, y6⟩ := cells7 (K3.out.heap HB1.out (fun f => f))
            have s3 : w3.cell? ⟨st, 0, none⟩ = some (.pointer (some ⟨b, 0, none⟩)) := (cell_heap (H.out.keptF (KA.out.trans K3.out)).head 0).trans rfl
            clear k3
            simp only
            generalize ba tx = sx at *
            go_wp2_with fail
            go_roundw
            case rel => exact ⟨id2, by have := HID2.out; omega, by have := HID2.out; omega, rfl, by rw [HAT.out], K3.out⟩
            case measure => simp [intOf]; have := HID2.out; omega
          · have hn2 : decide ((l.length : Int) ≤ id) = false := by simpa using hge
            obtain ⟨j, rfl⟩ : ∃ j : Nat, id = j := ⟨id.toNat, by omega⟩
            have hj : j < l.length := by omega
            have hn3 : decide (l.length ≤ j) = false := by simpa using hj
            obtain ⟨vj, hvj⟩ : ∃ v, v = l[j] := ⟨_, rfl⟩
            have hv4 : vj < 4 := by rw [hvj]; exact HR.out.lt4 l[j] (List.getElem_mem _)
            have HST1 : Hid (∀ W, Kept (fun _ => False) w W → Calls Try.prog 17 #[.pointer (some ⟨b, 0, none⟩), .int .i64 j] W fun e w' => e = .returned (.int .i64 vj) ∧ W = w') := fun W hW => by
              have h1 := HSTT.out W j hW
              have h2 : stAt l (j : Int) = (vj : Int) := by rw [stAt_getD hj, hvj]; simp [List.getD, hj]
              rw [h2] at h1
              exact h1
            have HV : Hid (l.getD j 0 = vj) := by show l.getD j 0 = vj; rw [hvj]; simp [List.getD, hj]
            have HRC : Hid (∀ W, Kept (fun _ => False) w W → W.cell? ⟨gl, j, none⟩ = some (.int .i64 vj)) := fun W hW => by
              rw [hvj]; exact (HR.out.keptF hW).ints.cell j hj
            have HIDN : Hid (id2.toNat = j + 1) := by have := HID2.out; simp only [Hid]; omega
            clear hvj
            go_wp2_with fail
            refine (HRD.out wr j (KA.out.trans hkr)).mono ?_
            rw [HE.out]
            rintro e w2 ⟨rfl, k2⟩
            have K2 : Hid (Kept (fun _ => False) w1 w2) := hkr.trans k2
            obtain ⟨x0, x1, x2, x3, x4, x5, x6⟩ := cells7 (K2.out.heap HB1.out (fun f => f))
            clear k2
            go_wp2_with fail
            refine (HRR.out w2 j (KA.out.trans K2.out)).mono ?_
            rw [HE.out]
            rintro e w3 ⟨rfl, k3⟩
            have K3 : Hid (Kept (fun _ => False) w1 w3) := K2.out.trans k3
            obtain ⟨y0, y1, y2, y3, y4, y5, y6⟩ := cells7 (K3.out.heap HB1.out (fun f => f))
            have s3 : w3.cell? ⟨st, 0, none⟩ = some (.pointer (some ⟨b, 0, none⟩)) := (cell_heap (H.out.keptF (KA.out.trans K3.out)).head 0).trans rfl
            clear k3
            simp only
            generalize ba tx = sx at *
            have hck := HRC.out w3 (KA.out.trans K3.out)
            have hgl := ((HR.out.keptF (KA.out.trans K3.out)).ints).lt
            simp only at hgl
            have hlN := lt_heap (K3.out.heap HB1.out (fun f => f))
            by_cases h2 : vj = 2
            · have ht2 : ((vj : Int) == 2) = true := by rw [h2]; rfl
              have hlt := atOf_lt l j hj (by rw [HV.out, h2])
              have hfa := fresh_at l j hj (by rw [HV.out, h2])
              have hanj : an = atOf l j := by have := HAN.out; simpa using this
              rw [← hanj] at hlt hfa
              obtain ⟨gk', rfl⟩ := hA (by omega)
              have hdc : w3.cell? ⟨gk', an, none⟩ = some (.int .i64 j) := ((RowIs.of_own HROW.out).kept K3.out (fun f => f)).cell (by rw [List.getElem?_map, hfa]; rfl)
              have hge2 : decide (((fresh l).length : Int) ≤ (an : Int)) = false := by simp; omega
              have hge3 : decide ((fresh l).length ≤ an) = false := by simp; omega
              have HAS : Hid (atOf l id2.toNat = an + 1) := by simp only [Hid]; rw [HIDN.out, atOf_succ, if_pos (by rw [HV.out, h2]), hanj]
              clear hfa hanj h2
              go_wp2_with fail
              go_region_held3 (fun w' => w'.cell? ⟨st, 0, none⟩ = some (.pointer (some ⟨b, 0, none⟩)) ∧ w'.cell? ⟨N, 0, none⟩ = some (.slice (some ⟨gl, 0, none⟩) l.length cl) ∧ w'.cell? ⟨gl, j, none⟩ = some (.int .i64 vj)) (go_keep)
                (first
                  | (go_at_call 17; refine (HST1.out _ ((KA.out.trans K3.out).trans (by repeat (first | exact Kept.refl _ _ | refine Kept.drew ?_)))).mono ?_; rintro e w5 ⟨rfl, rfl⟩))
              go_wp2_with fail
              go_roundw
              case rel => exact ⟨id2, by have := HID2.out; omega, by have := HID2.out; omega, rfl, by rw [HAS.out]; go_num, by repeat (first | exact K3.out | refine Kept.drew ?_)⟩
              case measure => simp [intOf]; have := HID2.out; omega
            · have ht2 : ((vj : Int) == 2) = false := by rw [beq_eq_false_iff_ne]; omega
              have HAS : Hid (atOf l id2.toNat = an) := by
                have := HAN.out
                simp only [Hid]; rw [HIDN.out, atOf_succ, if_neg (by rw [HV.out]; exact h2), this]; rfl
              clear h2
              go_wp2_with fail
              go_region_held3 (fun w' => w'.cell? ⟨st, 0, none⟩ = some (.pointer (some ⟨b, 0, none⟩)) ∧ w'.cell? ⟨N, 0, none⟩ = some (.slice (some ⟨gl, 0, none⟩) l.length cl) ∧ w'.cell? ⟨gl, j, none⟩ = some (.int .i64 vj)) (go_keep)
                (first
                  | (go_at_call 17; refine (HST1.out _ ((KA.out.trans K3.out).trans (by repeat (first | exact Kept.refl _ _ | refine Kept.drew ?_)))).mono ?_; rintro e w5 ⟨rfl, rfl⟩))
              go_wp2_with fail
              go_roundw
              case rel => exact ⟨id2, by have := HID2.out; omega, by have := HID2.out; omega, rfl, by rw [HAS.out], by repeat (first | exact K3.out | refine Kept.drew ?_)⟩
              case measure => simp [intOf]; have := HID2.out; omega
      · have hle : decide (id ≤ (l.length : Int)) = false := by simpa using hend
        have hq : an = (fresh l).length := by
          have e1 : id = (l.length : Int) + 1 := by omega
          have := HAN.out
          rw [this, e1, show ((l.length : Int) + 1).toNat = l.length + 1 by omega, atOf_past]
        rw [hq]
        go_wp2_with fail
        go_ret
        exact ⟨rfl, KA.out.trans hkr⟩

end Go.Proofs.Ytfgjehecjgebdaa
