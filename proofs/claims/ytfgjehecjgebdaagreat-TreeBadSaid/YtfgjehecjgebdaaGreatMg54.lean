/- TreeBad: the walk. -/
import Derived.Test.YtfgjehecjgebdaaGreatMg53
import Derived.Test.YtfgjehecjgebdaaGreatMg19
namespace Go.Proofs.YtfgjehecjgebdaaGreat
open Go.RowKit Go.Maps Go.ChangeMaps
attribute [local go_sem] Oper.semAt_some
/-- A store of which nothing is on the device. -/
structure Raw (X : Sto) : Prop where
  st : ∀ j, X.s j = 0 ∨ X.s j = 2
  up : X.D.down = false
  secs : 2 + 4 * 8 ≤ X.D.secs.length
  cache : X.D.cache.length ≤ 900000
  txt : ∀ i, X.l.getD i 0 = 2 → (X.T i).length ≤ 248
theorem raw_blank : Raw (blankX 8) := by
  obtain ⟨h1, h2, h3, h4, h5, h6⟩ := blank_disk (p := 8) (by omega) (by omega)
  have hs : ∀ j, (blankX 8).s j = 0 := fun j => by
    unfold Sto.s
    rw [h4]
    simp only [List.getD_eq_getElem?_getD, List.getElem?_replicate]
    split <;> rfl
  exact ⟨fun j => .inl (hs j), h2.down, by rw [h5]; omega, by rw [h2.cache]; simp, fun i hi => by have := hs i; unfold Sto.s at this; omega⟩
theorem raw_put {w st b c m d vs vc X} {t : Bs} {e : Ending} {w' : World} (h : Raw X) (hp : PutPost w st b c m d vs vc 8 4 X t e w') : (∃ v, e = .returned v) ∧ Kept (fun i => i = c ∨ i = m) w w' ∧ ∃ X', IsStore w' st b c m d vs vc 8 4 X' ∧ Raw X' := by
  obtain ⟨hk, hp⟩ := hp
  split at hp
  · exact ⟨⟨_, hp.1⟩, hk, X, hp.2, h⟩
  · next hl =>
    split at hp
    · exact ⟨⟨_, hp.1⟩, hk, X, hp.2, h⟩
    · next i hi =>
      obtain ⟨h1, h2⟩ := tk_some hi
      refine ⟨⟨_, hp.1⟩, hk, _, hp.2, ⟨fun j => ?_, h.up, h.secs, h.cache, fun j hj => ?_⟩⟩
      · unfold Sto.s
        simp only
        rw [getD_set h1]
        split
        · exact .inr rfl
        · exact h.st j
      · simp only at hj ⊢
        by_cases hji : j = i
        · subst hji; simp [upd]; omega
        · rw [getD_set h1, if_neg hji] at hj
          simpa [upd, hji] using h.txt j hj
theorem raw_load {X : Sto} (h : Raw X) (j : Nat) : (X.load j).2 = 0 ∨ (X.load j).2 = 17 ∨ (X.load j).2 = 8 := by
  have hr : (X.read j).2 = 0 ∨ (X.read j).2 = 8 := by
    unfold Sto.read
    rw [stAt_cast]
    by_cases hj : j < X.l.length
    · have e : X.l.getD j 0 = X.l[j] := by simp [List.getD, hj]
      have hs := h.st j
      unfold Sto.s at hs
      rw [e] at hs
      rw [List.getElem?_eq_getElem hj]
      simp only
      rcases hs with hs | hs
      · rw [if_neg (by omega), if_neg (by omega)]; exact .inr rfl
      · rw [if_pos (by omega)]; exact .inl rfl
    · rw [List.getElem?_eq_none (by omega)]
      simp
  unfold Sto.load
  split
  · rcases hr with hr | hr
    · exact absurd hr ‹_›
    · exact .inr (.inr hr)
  · split
    · exact .inl rfl
    · exact .inr (.inl rfl)
theorem raw_down {X : Sto} (h : Raw X) (k : Bs) : ∀ f id : Nat, (downT X k f id).2 = 0 ∨ (downT X k f id).2 = 17 ∨ (downT X k f id).2 = 8
  | 0, _ => .inr (.inl rfl)
  | f + 1, id => by
    rw [downT]
    split
    · exact raw_load h id
    · split
      · exact .inl rfl
      · split
        · exact raw_down h k f _
        · exact .inl rfl
theorem raw_get {X : Sto} (h : Raw X) (r : Nat) (k : Bs) : (getT X r k).2 = 0 ∨ (((getT X r k).2 = 17 ∨ (getT X r k).2 = 8) ∧ getT X r k = (([], false), (getT X r k).2) ∧ (downT X k 12 r).2 = (getT X r k).2) := by
  have hd := raw_down h k 12 r
  by_cases h0 : (downT X k 12 r).2 = 0
  · left
    unfold getT
    rw [if_neg (by omega), Int.toNat_natCast, if_neg (fun h => h h0)]
  · right
    have e : getT X r k = (([], false), (downT X k 12 r).2) := by
      unfold getT
      rw [if_neg (by omega), Int.toNat_natCast, if_pos h0]
    rw [e]
    exact ⟨hd.resolve_left h0, rfl, rfl⟩
theorem raw_del {X : Sto} {r : Nat} {k : Bs} (he : (getT X r k).2 ≠ 0) : delT X r k = (false, (getT X r k).2, (r : Int), X) := by
  unfold delT
  rw [if_pos (.inl he)]
theorem raw_putT {X : Sto} {r : Nat} {k v : Bs} (hk : k.length ≤ 24) (hv : v.length ≤ 32) (he : (downT X k 12 r).2 ≠ 0) : putT X r k v = ((downT X k 12 r).2, (r : Int), X) := by
  unfold putT
  rw [if_neg (by omega), if_neg (by omega), Int.toNat_natCast, if_pos he]
set_option maxRecDepth 100000 in
set_option maxHeartbeats 4000000 in
theorem treeBad_walk {A : Option Addr} {len cap b0 off : Nat} {S : Nat → ByteArray} {w : World} (hm : len ≤ maxLen) (hA : Strs w A len b0 off S) (root : Int) (ks : ByteArray) (hks : ks.size ≤ maxLen) :
    Calls Tryz.prog 4 #[.slice A len cap, .int .i64 root, .string ks] w fun e w' => e = .returned (.bool true) ∧ Kept (fun _ => False) w w' := by
  unfold maxLen at hm
  have HA := Lib.hid hA
  obtain ⟨rr, hrr⟩ : ∃ x : Nat, (x : Int) = root % 8 := ⟨(root % 8).toNat, by omega⟩
  have and1 : bits BinOp.and IntKind.i64 root 7 = rr := by rw [hrr]; exact and_mask root 3 (by omega)
  have HCK := Lib.hid (fun w => Cut_calls ks 5 w hks (by omega))
  obtain ⟨kb, hkb⟩ : ∃ t, cutTo ks 5 = ba t := ⟨(cutTo ks 5).data.toList, rfl⟩
  have HKB : Hid (kb.length ≤ 24) := by
    have h := cutTo_size ks 5
    rw [hkb, ba_size] at h
    show _ ≤ _; omega
  rw [hkb] at HCK
  obtain ⟨kk, hkk⟩ : ∃ s, s = ba kb := ⟨_, rfl⟩
  rw [← hkk] at HCK
  have HKK := Lib.hid hkk
  clear hA hrr hks hkb hkk
  go_enter Tryz.func4, Tryz.ntmps4
  go_wp2_with fail
  refine (awake9_calls w).mono ?_
  rintro e w0 ⟨rfl, k0⟩
  have K0 := Lib.hid k0
  clear k0
  go_wp2_with fail
  refine (Blank_calls (p := 8) (by omega) (by omega) w0).mono ?_
  rintro e w1 ⟨st, b, c, m, d, vs, vc, rfl, hs, k1, h1, h2, h3, h4, h5⟩
  have HS := Lib.hid hs; have K1 := Lib.hid (K0.out.trans k1); have HCM : Hid (w.heap.size ≤ c ∧ w.heap.size ≤ m) := by have := K0.out.size; exact ⟨by omega, by omega⟩
  clear hs k1 h1 h2 h3 h4 h5
  go_wp2_with fail
  go_loopw [9] (fun i wr => ∃ (j : Nat) (X : Sto), j ≤ 6 ∧ i = .int .i64 j ∧ Hid (IsStore wr st b c m d vs vc 8 4 X) ∧ Hid (Raw X) ∧ Hid (Kept (fun _ => False) w wr)) (fun i _ => 6 - (RowKit.intOf i).toNat)
  case atStart => exact ⟨0, _, by omega, rfl, HS.out, raw_blank, K1.out⟩
  case round =>
    obtain ⟨j, X, hj, rfl, IS, RW, KW⟩ := hrel
    by_cases hin : j < len ∧ j < 6
    · obtain ⟨hjl, hj6⟩ := hin
      have hA2 := HA.out.kept KW.out
      have hK := hA2.cell j hjl
      have hAd := hA2.at_ (by omega)
      have hb0 := hA2.lt (by omega)
      have CC := Lib.hid (fun w => Cut_calls (S j) 100 w (hA2.sz j hjl) (by omega))
      clear hA2
      subst hAd
      generalize S j = sj at *
      obtain ⟨t, ht⟩ : ∃ t, cutTo sj 100 = ba t := ⟨(cutTo sj 100).data.toList, rfl⟩
      rw [ht] at CC
      have CP := Lib.hid (Put_calls IS.out t)
      obtain ⟨s, hs⟩ : ∃ s, s = ba t := ⟨_, rfl⟩
      rw [← hs] at CC CP
      clear hs ht
      go_wp2_with fail
      refine (CC.out _).mono ?_
      rintro e w5 ⟨rfl, rfl⟩
      clear CC
      go_wp2_with fail
      refine CP.out.mono ?_
      intro e w6 hp
      obtain ⟨⟨v, rfl⟩, k6, X', hs6, hr6⟩ := raw_put RW.out hp
      have IS6 := Lib.hid hs6; have RW6 := Lib.hid hr6
      have KW6 : Hid (Kept (fun _ => False) w w6) := KW.out.then k6 fun i hi e => by have := HCM.out; omega
      clear hp k6 hs6 hr6 CP hK hb0
      go_wp2_with fail
      go_roundw
      case rel => exact ⟨j + 1, X', by omega, by go_num, IS6.out, RW6.out, KW6.out⟩
      case measure => simp [RowKit.intOf]; omega
    · have hcase : ¬ j < len ∨ (j < len ∧ ¬ j < 6) := by omega
      clear hin
      rcases hcase with hjl | ⟨hjl, hj6⟩
      all_goals
        go_wp2_with fail
        refine (TreeOpen_calls st rr wr).mono ?_
        rintro e w2 ⟨t, ht, rfl, htr, k2⟩
        obtain ⟨q, hq⟩ : ∃ q : TQ, q = ⟨t, st, b, c, m, d, vs, vc, 8, 4⟩ := ⟨_, rfl⟩
        have T2 : Hid (TW w2 q X rr) := by
          show TW _ _ _ _
          rw [hq]
          exact ⟨IS.out.keptF k2, htr, RW.out.up, RW.out.secs, RW.out.cache, RW.out.txt⟩
        have hqt : q.t = t := by rw [hq]
        have HQ : Hid (w.heap.size ≤ q.t ∧ w.heap.size ≤ q.c ∧ w.heap.size ≤ q.m) := by
          rw [hq]; have := KW.out.size; have := HCM.out; exact ⟨by simp only; omega, by simp only; omega, by simp only; omega⟩
        have K2 := Lib.hid (KW.out.trans k2)
        rw [← hqt]
        clear ht htr k2 hq hqt
        go_wp2_with fail
        refine (HCK.out _).mono ?_
        rintro e w3 ⟨rfl, rfl⟩
        have CG := Lib.hid (TreeGet_calls T2.out kb)
        have CD := Lib.hid (fun w' (k : Kept (fun _ => False) w2 w') => TreeDelete_calls (T2.out.keptF k) kb)
        rw [← HKK.out] at CG CD
        unfold GetTo at CG
        have HG := Lib.hid (raw_get RW.out rr kb)
        obtain ⟨⟨⟨gv, gok⟩, ge⟩, hge⟩ : ∃ x, x = getT X rr kb := ⟨_, rfl⟩
        rw [← hge] at CG HG
        have HGE := Lib.hid hge
        dsimp only at CG HG
        obtain ⟨gs, hgs⟩ : ∃ s, s = ba gv := ⟨_, rfl⟩
        rw [← hgs] at CG
        clear hge hgs
        have CLOSE : Hid (∀ W : World, Kept (fun k => k = q.c ∨ k = q.m ∨ k = q.t) w2 W → Kept (fun _ => False) w W) := fun W kw => K2.out.then kw fun i hi e => by have := HQ.out; omega
        by_cases hz : ge = 0
        · subst hz
          have hgo : gok = true ∨ gok = false := by cases gok <;> simp
          obtain ⟨⟨d1, d2, d3, d4⟩, hdd⟩ : ∃ x, x = delT X rr kb := ⟨_, rfl⟩
          rw [← hdd] at CD
          unfold DelTo at CD
          dsimp only at CD
          clear hdd HG
          rcases hgo with rfl | rfl
          all_goals
            go_wp2_with fail
            refine CG.out.mono ?_
            rintro e w4 ⟨rfl, k4⟩
            have K4 := Lib.hid k4
            clear k4 CG
            go_wp2_with fail
            refine (CD.out _ K4.out).mono ?_
            rintro e w5 ⟨rfl, tw5, k5⟩
            have T5 := Lib.hid tw5
            have K5 : Hid (Kept (fun k => k = q.c ∨ k = q.m ∨ k = q.t) w2 w5) := (K4.out.mono fun _ _ => False.elim).trans k5
            have CP := Lib.hid (TreePut_calls T5.out kb [120])
            rw [← HKK.out, show ba [120] = ⟨#[120]⟩ from rfl] at CP
            unfold DoneTo at CP
            obtain ⟨⟨p1, p2, p3⟩, hpp⟩ : ∃ x, x = putT d4 d3 kb [120] := ⟨_, rfl⟩
            rw [← hpp] at CP
            dsimp only at CP
            clear tw5 k5 CD hpp
            by_cases hd2 : d2 = 0
            all_goals by_cases hp1 : p1 = 0
            all_goals
              have g1 : (d2 == 0) = decide (d2 = 0) := rfl
              have g2 : (p1 == 0) = decide (p1 = 0) := rfl
              go_wp2_with fail
              refine CP.out.mono ?_
              rintro e w6 ⟨rfl, tw6, k6⟩
              have K6 := Lib.hid (CLOSE.out _ (K5.out.trans k6))
              clear tw6 k6 CP
              go_wp2
              refine bodyPost_ret (v := .bool true) (by simp [results, Tryz.f4, go_sem]) rfl ?_
              exact ⟨rfl, K6.out⟩
        · obtain ⟨h1, h2, h3⟩ := HG.out.resolve_left hz
          have h4 : gok = false := by
            injection h2 with h2 _; injection h2 with _ h2
          subst h4
          have hd : delT X rr kb = (false, ge, (rr : Int), X) := by
            have := raw_del (X := X) (r := rr) (k := kb) (by rw [← HGE.out]; exact hz)
            rw [← HGE.out] at this
            exact this
          have hp : putT X rr kb [120] = (ge, (rr : Int), X) := by
            have := raw_putT (X := X) (r := rr) (k := kb) (v := [120]) HKB.out (by simp) (by rw [h3]; exact hz)
            rw [h3] at this
            exact this
          rw [hd] at CD
          unfold DelTo at CD
          dsimp only at CD
          have HP := Lib.hid hp
          clear hd hp h2 h3 hz HG HGE
          rcases h1 with rfl | rfl
          all_goals
            go_wp2_with fail
            refine CG.out.mono ?_
            rintro e w4 ⟨rfl, k4⟩
            have K4 := Lib.hid k4
            clear k4 CG
            go_wp2_with fail
            refine (CD.out _ K4.out).mono ?_
            rintro e w5 ⟨rfl, tw5, k5⟩
            have T5 := Lib.hid tw5
            have K5 : Hid (Kept (fun k => k = q.c ∨ k = q.m ∨ k = q.t) w2 w5) := (K4.out.mono fun _ _ => False.elim).trans k5
            have CP := Lib.hid (TreePut_calls T5.out kb [120])
            rw [← HKK.out, show ba [120] = ⟨#[120]⟩ from rfl, HP.out] at CP
            unfold DoneTo at CP
            dsimp only at CP
            clear tw5 k5 CD
            go_wp2_with fail
            refine CP.out.mono ?_
            rintro e w6 ⟨rfl, tw6, k6⟩
            have K6 := Lib.hid (CLOSE.out _ (K5.out.trans k6))
            clear tw6 k6 CP
            go_wp2
            refine bodyPost_ret (v := .bool true) (by simp [results, Tryz.f4, go_sem]) rfl ?_
            exact ⟨rfl, K6.out⟩
end Go.Proofs.YtfgjehecjgebdaaGreat
