/- Pages: Read. -/
import Derived.Test.YtfgjehecjgebdaaMg33
import Derived.Test.YtfgjehecjgebdaaMg26
import Derived.Test.YtfgjehecjgebdaaMg12
namespace Go.Proofs.Ytfgjehecjgebdaa
open Go.RowKit Go.Maps Go.ChangeMaps

/-- A page's bytes on the device, as far as k sectors. -/
def rawTo (D : Dev) (i k : Nat) : List UInt8 := (List.range k).flatMap fun j => D.text (2 + 4 * i + j)
/-- A page's text, of its bytes. -/
def pgOf (raw : List UInt8) : List UInt8 × Int := match iS 248 (raw.drop 4, 0) with | (t, s) => if s.2 ≠ 0 ∨ raw ≠ fullB t then ([], 17) else (t, 0)
/-- A page's text. -/
def Sto.read (X : Sto) (i : Int) : List UInt8 × Int :=
  if stAt X.l i = 2 then (X.T i.toNat, 0) else if stAt X.l i = 1 ∨ stAt X.l i = 3 then pgOf (rawTo X.D i.toNat 4) else ([], 8)

theorem rawTo_succ (D : Dev) (i k : Nat) : rawTo D i (k + 1) = rawTo D i k ++ D.text (2 + 4 * i + k) := by simp [rawTo, List.range_succ]
theorem text_len {D : Dev} (h : D.Good) {i : Nat} (hi : i < D.secs.length) : (D.text i).length = 64 := by
  unfold Dev.text
  cases hf : D.cache.reverse.find? (fun p => p.1 == i) with
  | some p => exact (h.cache p (List.mem_reverse.1 (List.mem_of_find?_eq_some hf))).2
  | none => simp only [List.getD, List.getElem?_eq_getElem hi, Option.getD_some]; exact h.secs _ (by simp)
theorem rawTo_len {D : Dev} (h : D.Good) {i : Nat} (k : Nat) (hi : 2 + 4 * i + k ≤ D.secs.length) : (rawTo D i k).length = 64 * k := by
  induction k with
  | zero => simp [rawTo]
  | succ k ih => rw [rawTo_succ, List.length_append, ih (by omega), text_len h (by omega)]; omega
theorem iS_len248 (s : InSt) : (iS 248 s).1.length ≤ 248 := by
  have h := (iN_le 248 s).1
  have h2 := (iTake_len (iN 248 s).1 (iN 248 s).2).1
  show (iTake (iN 248 s).1 (iN 248 s).2).1.length ≤ 248
  omega

/-- What Read leaves. -/
def StoReadPost (r : List UInt8 × Int) (w : World) (e : Ending) (w' : World) : Prop := e = .returned (.tuple #[.string (ba r.1), .int .i64 r.2]) ∧ Kept (fun _ => False) w w'

theorem stAt_cases (l : List Nat) (h : ∀ x ∈ l, x < 4) (i : Int) : stAt l i = -1 ∨ stAt l i = 0 ∨ stAt l i = 1 ∨ stAt l i = 2 ∨ stAt l i = 3 := by
  unfold stAt
  split
  · exact .inl rfl
  · cases hx : l[i.toNat]? with
    | none => exact .inl rfl
    | some x => have := h x (List.mem_of_getElem? hx); simp only; omega

theorem run_page_text (s : ByteArray) (w : World) : (Instr.field 106 (.agg #[.string s]) 0).run Try.prog w = .ok (.string s) w := by kernel_rfl

set_option maxRecDepth 100000 in
theorem StoRead_none {w st b c m d vs vc p g X} (h : IsStore w st b c m d vs vc p g X) (i : Int) (h0 : stAt X.l i = -1 ∨ stAt X.l i = 0) :
    Calls Try.prog 39 #[.pointer (some ⟨st, 0, none⟩), .int .i64 i] w (StoReadPost ([], 8) w) := by
  have hc0 : w.cell? ⟨st, 0, none⟩ = some (.pointer (some ⟨b, 0, none⟩)) := (cell_heap h.head 0).trans rfl
  have HSP := Lib.hid (State_calls h.sp i)
  clear h
  rcases h0 with e | e
  · rw [e] at HSP
    clear e
    go_enter Try.func39, Try.ntmps39
    go_wp2_with fail
    refine HSP.out.mono ?_
    rintro e w1 ⟨rfl, rfl⟩
    go_wp2_with fail
    go_ret2
    exact ⟨rfl, Kept.refl _ _⟩
  · rw [e] at HSP
    clear e
    go_enter Try.func39, Try.ntmps39
    go_wp2_with fail
    refine HSP.out.mono ?_
    rintro e w1 ⟨rfl, rfl⟩
    go_wp2_with fail
    go_ret2
    exact ⟨rfl, Kept.refl _ _⟩

set_option maxRecDepth 100000 in
theorem StoRead_put {w st b c m d vs vc p g X} (h : IsStore w st b c m d vs vc p g X) (k : Nat) (hk : k < X.l.length) (h2 : X.l[k] = 2) :
    Calls Try.prog 39 #[.pointer (some ⟨st, 0, none⟩), .int .i64 k] w (StoReadPost (X.T k, 0) w) := by
  have hc0 : w.cell? ⟨st, 0, none⟩ = some (.pointer (some ⟨b, 0, none⟩)) := (cell_heap h.head 0).trans rfl
  have hc8 : w.cell? ⟨st, 8, none⟩ = some (.map (some m)) := (cell_heap h.head 8).trans rfl
  have h128 := h.lay.p2
  have hlp := h.len
  have HSP := Lib.hid (State_calls h.sp k)
  have e : stAt X.l k = 2 := by simp [stAt, hk, h2]
  rw [e] at HSP
  have hlook := World.ownsMap.lookup h.put (int_keyed und_int) und_dirty (z := .agg #[.string ⟨#[]⟩]) (Try.zeroValue106 w) (zd := .lit (.string [])) (zp := []) (by simp [pgR]) (key_int k (by omega))
  obtain ⟨v, ps, hrun, hv⟩ := hlook
  rw [at_prs hk (by simp [List.getD, hk, h2])] at hv
  have hv := pgR_inv hv
  subst hv
  have hfd := run_page_text (ba (X.T k))
  clear e h h2 hk hlp h128
  go_enter Try.func39, Try.ntmps39
  go_wp2_with fail
  refine HSP.out.mono ?_
  rintro e w1 ⟨rfl, rfl⟩
  go_wp2_with fail
  go_ret2
  exact ⟨rfl, Kept.refl _ _⟩

set_option maxRecDepth 100000 in
theorem StoRead_dev1 {w st b c m d vs vc p g X} (h : IsStore w st b c m d vs vc p g X) (i : Nat) (hi : i < X.l.length) (hs : stAt X.l i = 1) (hd : X.D.down = false) (hn : 2 + 4 * p ≤ X.D.secs.length) (hcl : X.D.cache.length ≤ 1000000) :
    Calls Try.prog 39 #[.pointer (some ⟨st, 0, none⟩), .int .i64 i] w (StoReadPost (pgOf (rawTo X.D i 4)) w) := by
  have hc0 : w.cell? ⟨st, 0, none⟩ = some (.pointer (some ⟨b, 0, none⟩)) := (cell_heap h.head 0).trans rfl
  have h128 := h.lay.p2
  have hlp := h.len
  have HSP := Lib.hid (State_calls h.sp i)
  rw [hs] at HSP
  have HH := Lib.hid h.head
  have HD : Hid (∀ (W : World) (k : Nat), k < 4 → Kept (fun _ => False) w W → Calls Try.prog 36 #[.pointer (some ⟨d, 0, none⟩), .int .i64 (2 + (i : Int) * 4 + (k : Int))] W (DReadPost (X.D.text (2 + 4 * i + k), 0) W)) := fun W k hk hW => by
    have e := DevRead_calls (h.dev.keptF hW) (2 + (i : Int) * 4 + (k : Int)) hcl
    have e2 : X.D.read (2 + (i : Int) * 4 + (k : Int)) = (X.D.text (2 + 4 * i + k), 0) := by
      simp only [Dev.read, hd]
      rw [if_neg (by omega)]
      have : (2 + (i : Int) * 4 + (k : Int)).toNat = 2 + 4 * i + k := by omega
      simp [this]
    rw [e2] at e
    exact e
  have HTL : Hid (∀ k, k < 4 → (X.D.text (2 + 4 * i + k)).length = 64) := fun k hk => text_len h.dev.good (by omega)
  have HRL : Hid (∀ k, k ≤ 4 → (rawTo X.D i k).length = 64 * k) := fun k hk => rawTo_len h.dev.good k (by omega)
  have hi128 : i < 128 := by omega
  clear h hs hd hn hcl hi hlp h128
  go_enter Try.func39, Try.ntmps39
  go_wp2_with fail
  refine HSP.out.mono ?_
  rintro e w1 ⟨rfl, rfl⟩
  go_wp2_with fail
  go_loopw [6, 30] (fun s n wr => ∃ k : Nat, k ≤ 4 ∧ n = .int .i64 k ∧ s = .string (ba (rawTo X.D i k)) ∧ Kept (fun _ => False) w wr) (fun _ n _ => 4 - (intOf n).toNat)
  case atStart => exact ⟨0, by omega, rfl, by simp [rawTo, ba], Kept.refl _ _⟩
  case round =>
    obtain ⟨k, hk, rfl, rfl, hkp⟩ := hrel
    have hhd := hkp.heap HH.out id
    have hc1 : wr.cell? ⟨st, 1, none⟩ = some (.pointer (some ⟨d, 0, none⟩)) := (cell_heap hhd 1).trans rfl
    have HK := Lib.hid hkp
    clear hkp hhd
    obtain ⟨r, hr⟩ : ∃ r, r = ba (rawTo X.D i k) := ⟨_, rfl⟩
    have hrs : r.size = 64 * k := by rw [hr, ba_size]; exact HRL.out k hk
    rw [← hr]
    have HR := Lib.hid hr
    clear hr
    by_cases hlt : k < 4
    · have C := Lib.hid (HD.out wr k hlt HK.out)
      obtain ⟨x, hx⟩ : ∃ x, x = X.D.text (2 + 4 * i + k) := ⟨_, rfl⟩
      have hxl : (ba x).size = 64 := by rw [ba_size, hx]; exact HTL.out k hlt
      have HN : Hid (r ++ ba x = ba (rawTo X.D i (k + 1))) := by simp only [Hid]; rw [rawTo_succ, ba_append, ← hx, HR.out]
      rw [← hx] at C
      have hsum : r.size + (ba x).size ≤ 1000 := by omega
      have HRS0 := Lib.hid hrs
      clear hx hxl hrs
      go_wp2_with fail
      refine C.out.mono ?_
      rintro e w2 ⟨rfl, k2⟩
      have HK2 := Lib.hid (HK.out.trans (Kept.of_below k2))
      clear k2
      go_wp2_with fail
      go_roundw
      case rel => exact ⟨k + 1, by omega, by go_num, by rw [HN.out], HK2.out⟩
      case measure => simp [intOf]; omega
    · obtain rfl : k = 4 := by omega
      have hrs4 : r.size = 256 := by omega
      clear hrs
      obtain ⟨raw, hraw⟩ : ∃ raw, raw = rawTo X.D i 4 := ⟨_, rfl⟩
      rw [← hraw] at HR
      have HRAW := Lib.hid hraw
      have HLR : Hid (raw.length = 256) := by rw [hraw]; exact HRL.out 4 (by omega)
      have HE : Hid (r.extract 4 256 = ba (raw.drop 4)) := by
        have := ba_extractn raw 4
        rw [ba_size, HLR.out] at this
        simp only [Hid]; rw [HR.out]; exact this
      obtain ⟨q, hq⟩ : ∃ q, q = iS 248 (raw.drop 4, 0) := ⟨_, rfl⟩
      have C3 : Hid (∀ (W : World) (j : Nat), IsIn W j (raw.drop 4, 0) → Calls Try.prog 69 #[.pointer (some ⟨j, 0, none⟩), .int .i64 248] W (InPost j (.string (ba q.1)) q.2 W)) := fun W j h => by
        rw [hq]; exact inS_calls h (by simp [HLR.out]) 248 (by omega)
      have HP : Hid (pgOf raw = if q.2.2 ≠ 0 ∨ raw ≠ fullB q.1 then ([], 17) else (q.1, 0)) := by simp only [Hid, pgOf, ← hq]
      have hql := iS_len248 (raw.drop 4, 0)
      rw [← hq] at hql
      obtain ⟨t, rest, ee⟩ := q
      simp only at C3 HP hql
      have CF := Lib.hid (fun W => full_calls t hql W)
      clear hq hraw hql hlt hk
      go_wp2_with fail
      rw [HE.out]
      refine (Read_calls (raw.drop 4) wr).mono ?_
      rintro e w4 ⟨j, hj, rfl, hin, k4⟩
      have HI4 := Lib.hid hin
      have K4 : Hid (Kept (fun i => i = j) wr w4) := k4.mono fun _ _ f => f.elim
      clear hin k4
      go_wp2_with fail
      refine (C3.out w4 j HI4.out).mono ?_
      rintro e w5 ⟨rfl, hin, k5⟩
      have HI5 := Lib.hid hin
      have K5 : Hid (Kept (fun _ => False) w w5) := by
        have hsz := HK.out.size
        exact HK.out.then (K4.out.trans k5) (by intro x hx e; omega)
      have CE := Lib.hid (Err_calls hin)
      clear hin k5 hj
      go_wp2_with fail
      refine CE.out.mono ?_
      rintro e w6 ⟨rfl, rfl⟩
      simp only
      by_cases he : ee = 0
      · subst he
        have hrl : r.toList = raw := by rw [HR.out, ba_empty]
        have HQ : Hid ((ba (fullB t)).toList = fullB t) := ba_empty _
        by_cases hq : raw = fullB t
        · have hcmp : (r.toList == (ba (fullB t)).toList) = true := by rw [HQ.out, hrl]; simpa using hq
          have HRS : Hid (pgOf raw = (t, 0)) := by rw [Hid, HP.out, if_neg (by simp [hq])]
          clear hq hrl HP
          generalize ba (fullB t) = ft at *
          go_wp2_with fail
          refine (CF.out _).mono ?_
          rintro e w7 ⟨rfl, k7⟩
          have K7 := Lib.hid (K5.out.trans k7)
          clear k7
          go_wp2_with fail
          go_ret2
          exact ⟨by rw [← HRAW.out, HRS.out]; rfl, K7.out⟩
        · have hcmp : (r.toList == (ba (fullB t)).toList) = false := by rw [HQ.out, hrl]; simpa using hq
          have HRS : Hid (pgOf raw = ([], 17)) := by rw [Hid, HP.out, if_pos (.inr hq)]
          clear hq hrl HP
          generalize ba (fullB t) = ft at *
          go_wp2_with fail
          refine (CF.out _).mono ?_
          rintro e w7 ⟨rfl, k7⟩
          have K7 := Lib.hid (K5.out.trans k7)
          clear k7
          go_wp2_with fail
          go_ret2
          exact ⟨by rw [← HRAW.out, HRS.out]; rfl, K7.out⟩
      · have ht : (ee != 0) = true := by simpa using he
        have HRS : Hid (pgOf raw = ([], 17)) := by rw [Hid, HP.out, if_pos (.inl he)]
        clear he HP
        go_wp2_with fail
        go_ret2
        exact ⟨by rw [← HRAW.out, HRS.out]; rfl, K5.out⟩

set_option maxRecDepth 100000 in
theorem StoRead_dev3 {w st b c m d vs vc p g X} (h : IsStore w st b c m d vs vc p g X) (i : Nat) (hi : i < X.l.length) (hs : stAt X.l i = 3) (hd : X.D.down = false) (hn : 2 + 4 * p ≤ X.D.secs.length) (hcl : X.D.cache.length ≤ 1000000) :
    Calls Try.prog 39 #[.pointer (some ⟨st, 0, none⟩), .int .i64 i] w (StoReadPost (pgOf (rawTo X.D i 4)) w) := by
  have hc0 : w.cell? ⟨st, 0, none⟩ = some (.pointer (some ⟨b, 0, none⟩)) := (cell_heap h.head 0).trans rfl
  have h128 := h.lay.p2
  have hlp := h.len
  have HSP := Lib.hid (State_calls h.sp i)
  rw [hs] at HSP
  have HH := Lib.hid h.head
  have HD : Hid (∀ (W : World) (k : Nat), k < 4 → Kept (fun _ => False) w W → Calls Try.prog 36 #[.pointer (some ⟨d, 0, none⟩), .int .i64 (2 + (i : Int) * 4 + (k : Int))] W (DReadPost (X.D.text (2 + 4 * i + k), 0) W)) := fun W k hk hW => by
    have e := DevRead_calls (h.dev.keptF hW) (2 + (i : Int) * 4 + (k : Int)) hcl
    have e2 : X.D.read (2 + (i : Int) * 4 + (k : Int)) = (X.D.text (2 + 4 * i + k), 0) := by
      simp only [Dev.read, hd]
      rw [if_neg (by omega)]
      have : (2 + (i : Int) * 4 + (k : Int)).toNat = 2 + 4 * i + k := by omega
      simp [this]
    rw [e2] at e
    exact e
  have HTL : Hid (∀ k, k < 4 → (X.D.text (2 + 4 * i + k)).length = 64) := fun k hk => text_len h.dev.good (by omega)
  have HRL : Hid (∀ k, k ≤ 4 → (rawTo X.D i k).length = 64 * k) := fun k hk => rawTo_len h.dev.good k (by omega)
  have hi128 : i < 128 := by omega
  clear h hs hd hn hcl hi hlp h128
  go_enter Try.func39, Try.ntmps39
  go_wp2_with fail
  refine HSP.out.mono ?_
  rintro e w1 ⟨rfl, rfl⟩
  go_wp2_with fail
  go_loopw [6, 30] (fun s n wr => ∃ k : Nat, k ≤ 4 ∧ n = .int .i64 k ∧ s = .string (ba (rawTo X.D i k)) ∧ Kept (fun _ => False) w wr) (fun _ n _ => 4 - (intOf n).toNat)
  case atStart => exact ⟨0, by omega, rfl, by simp [rawTo, ba], Kept.refl _ _⟩
  case round =>
    obtain ⟨k, hk, rfl, rfl, hkp⟩ := hrel
    have hhd := hkp.heap HH.out id
    have hc1 : wr.cell? ⟨st, 1, none⟩ = some (.pointer (some ⟨d, 0, none⟩)) := (cell_heap hhd 1).trans rfl
    have HK := Lib.hid hkp
    clear hkp hhd
    obtain ⟨r, hr⟩ : ∃ r, r = ba (rawTo X.D i k) := ⟨_, rfl⟩
    have hrs : r.size = 64 * k := by rw [hr, ba_size]; exact HRL.out k hk
    rw [← hr]
    have HR := Lib.hid hr
    clear hr
    by_cases hlt : k < 4
    · have C := Lib.hid (HD.out wr k hlt HK.out)
      obtain ⟨x, hx⟩ : ∃ x, x = X.D.text (2 + 4 * i + k) := ⟨_, rfl⟩
      have hxl : (ba x).size = 64 := by rw [ba_size, hx]; exact HTL.out k hlt
      have HN : Hid (r ++ ba x = ba (rawTo X.D i (k + 1))) := by simp only [Hid]; rw [rawTo_succ, ba_append, ← hx, HR.out]
      rw [← hx] at C
      have hsum : r.size + (ba x).size ≤ 1000 := by omega
      have HRS0 := Lib.hid hrs
      clear hx hxl hrs
      go_wp2_with fail
      refine C.out.mono ?_
      rintro e w2 ⟨rfl, k2⟩
      have HK2 := Lib.hid (HK.out.trans (Kept.of_below k2))
      clear k2
      go_wp2_with fail
      go_roundw
      case rel => exact ⟨k + 1, by omega, by go_num, by rw [HN.out], HK2.out⟩
      case measure => simp [intOf]; omega
    · obtain rfl : k = 4 := by omega
      have hrs4 : r.size = 256 := by omega
      clear hrs
      obtain ⟨raw, hraw⟩ : ∃ raw, raw = rawTo X.D i 4 := ⟨_, rfl⟩
      rw [← hraw] at HR
      have HRAW := Lib.hid hraw
      have HLR : Hid (raw.length = 256) := by rw [hraw]; exact HRL.out 4 (by omega)
      have HE : Hid (r.extract 4 256 = ba (raw.drop 4)) := by
        have := ba_extractn raw 4
        rw [ba_size, HLR.out] at this
        simp only [Hid]; rw [HR.out]; exact this
      obtain ⟨q, hq⟩ : ∃ q, q = iS 248 (raw.drop 4, 0) := ⟨_, rfl⟩
      have C3 : Hid (∀ (W : World) (j : Nat), IsIn W j (raw.drop 4, 0) → Calls Try.prog 69 #[.pointer (some ⟨j, 0, none⟩), .int .i64 248] W (InPost j (.string (ba q.1)) q.2 W)) := fun W j h => by
        rw [hq]; exact inS_calls h (by simp [HLR.out]) 248 (by omega)
      have HP : Hid (pgOf raw = if q.2.2 ≠ 0 ∨ raw ≠ fullB q.1 then ([], 17) else (q.1, 0)) := by simp only [Hid, pgOf, ← hq]
      have hql := iS_len248 (raw.drop 4, 0)
      rw [← hq] at hql
      obtain ⟨t, rest, ee⟩ := q
      simp only at C3 HP hql
      have CF := Lib.hid (fun W => full_calls t hql W)
      clear hq hraw hql hlt hk
      go_wp2_with fail
      rw [HE.out]
      refine (Read_calls (raw.drop 4) wr).mono ?_
      rintro e w4 ⟨j, hj, rfl, hin, k4⟩
      have HI4 := Lib.hid hin
      have K4 : Hid (Kept (fun i => i = j) wr w4) := k4.mono fun _ _ f => f.elim
      clear hin k4
      go_wp2_with fail
      refine (C3.out w4 j HI4.out).mono ?_
      rintro e w5 ⟨rfl, hin, k5⟩
      have HI5 := Lib.hid hin
      have K5 : Hid (Kept (fun _ => False) w w5) := by
        have hsz := HK.out.size
        exact HK.out.then (K4.out.trans k5) (by intro x hx e; omega)
      have CE := Lib.hid (Err_calls hin)
      clear hin k5 hj
      go_wp2_with fail
      refine CE.out.mono ?_
      rintro e w6 ⟨rfl, rfl⟩
      simp only
      by_cases he : ee = 0
      · subst he
        have hrl : r.toList = raw := by rw [HR.out, ba_empty]
        have HQ : Hid ((ba (fullB t)).toList = fullB t) := ba_empty _
        by_cases hq : raw = fullB t
        · have hcmp : (r.toList == (ba (fullB t)).toList) = true := by rw [HQ.out, hrl]; simpa using hq
          have HRS : Hid (pgOf raw = (t, 0)) := by rw [Hid, HP.out, if_neg (by simp [hq])]
          clear hq hrl HP
          generalize ba (fullB t) = ft at *
          go_wp2_with fail
          refine (CF.out _).mono ?_
          rintro e w7 ⟨rfl, k7⟩
          have K7 := Lib.hid (K5.out.trans k7)
          clear k7
          go_wp2_with fail
          go_ret2
          exact ⟨by rw [← HRAW.out, HRS.out]; rfl, K7.out⟩
        · have hcmp : (r.toList == (ba (fullB t)).toList) = false := by rw [HQ.out, hrl]; simpa using hq
          have HRS : Hid (pgOf raw = ([], 17)) := by rw [Hid, HP.out, if_pos (.inr hq)]
          clear hq hrl HP
          generalize ba (fullB t) = ft at *
          go_wp2_with fail
          refine (CF.out _).mono ?_
          rintro e w7 ⟨rfl, k7⟩
          have K7 := Lib.hid (K5.out.trans k7)
          clear k7
          go_wp2_with fail
          go_ret2
          exact ⟨by rw [← HRAW.out, HRS.out]; rfl, K7.out⟩
      · have ht : (ee != 0) = true := by simpa using he
        have HRS : Hid (pgOf raw = ([], 17)) := by rw [Hid, HP.out, if_pos (.inl he)]
        clear he HP
        go_wp2_with fail
        go_ret2
        exact ⟨by rw [← HRAW.out, HRS.out]; rfl, K5.out⟩

end Go.Proofs.Ytfgjehecjgebdaa
