/- SerialTakes: the walk. -/
import Derived.Test.YtghbnomiahiapaaSeG
import Derived.Test.YtghbnomiahiapaaSeH
namespace Go.Proofs.Ytghbnomiahiapaa
open Go.RowKit
attribute [local go_sem] Oper.semAt_some
theorem Nums.less {w A n b off N} (h : Nums w A n b off N) {m : Nat} (hm : m ≤ n) : Nums w A m b off N :=
  ⟨fun h1 => h.at_ (by omega), fun h1 => h.lt (by omega), fun i hi => h.cell i (by omega), fun i hi => h.bd i (by omega)⟩
def afs (N : Nat → Int) (k : Nat) : List Int := (List.range k).map N
theorem afs_len (N : Nat → Int) (k : Nat) : (afs N k).length = k := by simp [afs]
theorem afs_succ (N : Nat → Int) (k : Nat) : afs N (k + 1) = afs N k ++ [N k] := by unfold afs; rw [List.range_succ, List.map_append]; rfl
theorem afs_get (N : Nat → Int) {j k : Nat} (h : j < k) : (afs N k).getD j 0 = N j := by simp [afs, h]
set_option maxHeartbeats 8000000 in
theorem takes_walk {A : Option Addr} {len cap b off : Nat} {N : Nat → Int} {A2 : Option Addr} {len2 cap2 b2 off2 : Nat} {M : Nat → Int} {w : World} (hm : len ≤ maxLen) (hc : len ≤ cap) (hN : Nums w A len b off N) (hm2 : len2 ≤ maxLen) (hc2 : len2 ≤ cap2) (hM : Nums w A2 len2 b2 off2 M) :
    Calls Try.prog 3 #[.slice A len cap, .slice A2 len2 cap2] w fun e w' => e = .returned (.bool true) ∧ Kept (fun _ => False) w w' := by
  unfold maxLen at hm hm2
  have HN := Lib.hid hN; have HM := Lib.hid hM
  clear hN hM
  go_enter Try.func3, Try.ntmps3
  go_wp2_with fail
  refine (awake26_calls w).mono ?_
  rintro e w1 ⟨rfl, k1⟩
  have K1 := Lib.hid k1
  clear k1
  go_upto_if 16 with (fail)
  go_cut [0] from 17 to 76 (fun v wx => ∃ n, v = .slice A n cap ∧ wx = w1 ∧ n ≤ 10 ∧ n ≤ len)
  case first =>
    by_cases h : 10 < len
    · go_wp2_with fail
      go_meet
      exact ⟨10, rfl, rfl, by omega, by omega⟩
    · go_wp2_with fail
      go_meet
      exact ⟨len, rfl, rfl, by omega, by omega⟩
  case rest =>
  obtain ⟨n, rfl, rfl, hn, hnl⟩ := hcut
  go_upto_if 21 with (fail)
  go_cut [1] from 22 to 76 (fun v wx => ∃ n, v = .slice A2 n cap2 ∧ wx = wc ∧ n ≤ 20 ∧ n ≤ len2)
  case first =>
    by_cases h : 20 < len2
    · go_wp2_with fail
      go_meet
      exact ⟨20, rfl, rfl, by omega, by omega⟩
    · go_wp2_with fail
      go_meet
      exact ⟨len2, rfl, rfl, by omega, by omega⟩
  case rest =>
  obtain ⟨n2, rfl, rfl, hn2, hnl2⟩ := hcut
  have N1 := Lib.hid (HN.out.less hnl); have M1 := Lib.hid (HM.out.less hnl2)
  clear HN HM
  go_wp2_with fail
  go_loopw [5, 26] (fun o i wr => ∃ (k : Nat) (Ao : Option Addr) (lo co : Nat), k ≤ n ∧ i = .int .i64 k ∧ o = .slice Ao lo co ∧ lo = k ∧ Hid (TRow wr w.heap.size (.slice Ao lo co) (afs N k)) ∧ Hid (Kept (fun _ => False) w wr)) (fun _ i _ => n - (RowKit.intOf i).toNat)
  case atStart => exact ⟨0, none, 0, 0, Nat.zero_le _, rfl, rfl, rfl, World.ownsRow_nil _ _ _ _, K1.out⟩
  case round =>
    obtain ⟨k, Ao, lo, co, hk, rfl, rfl, rfl, HT, HK⟩ := hrel
    by_cases hkn : lo < n
    · have x0 := (N1.out.kept HK.out).cell lo hkn
      have xA := N1.out.at_ (by omega)
      subst xA
      have xb := (N1.out.kept HK.out).lt (by omega)
      obtain ⟨a, ha⟩ : ∃ z, z = N lo := ⟨_, rfl⟩
      rw [← ha] at x0
      have HA := Lib.hid ha
      clear ha
      have OWN : Hid (TRow (wr.alloc (.cells #[.slice none 0 0, .int .i64 a] 27)) w.heap.size (.slice Ao lo co) (afs N lo)) := HT.out.keptF ((Kept.refl _ _).alloc _)
      go_wp2_with (at_builtin; go_loud (refine app_tx (v := .slice Ao lo co) rfl (.tmp 30) (.tmp 33) rfl rfl OWN.out _ rfl (reads_tx wr a _) (by rw [afs_len]; omega) ?_; intro v' w6 hv' hg' hob'; have ST := Lib.hid (tx_step HT.out ((Kept.refl _ _).alloc _) HK.out.size hv' hg' hob'); obtain ⟨A6, c6, l6, e6, HL6⟩ := ST.out.1.slice'; clear hv' hg' hob'; subst e6))
      go_roundw
      case rel => exact ⟨lo + 1, A6, l6, c6, by omega, by go_num, rfl, by rw [HL6.out]; simp [afs_len], (show afs N (lo + 1) = afs N lo ++ [a] by rw [afs_succ, HA.out]) ▸ ST.out.1, HK.out.then ST.out.2 fun i hi e => by omega⟩
      case measure => simp [RowKit.intOf]; omega
    · obtain rfl : lo = n := by omega
      have CT := Lib.hid (Take_calls (c := cap2) HT.out (M1.out.kept HK.out) (by rw [afs_len]; omega) (by omega))
      go_wp2_with fail
      refine CT.out.mono ?_
      rintro e w2 ⟨v2, rfl, ht2, k2⟩
      obtain ⟨A3, c3, m3, rfl, HM3⟩ := ht2.slice'
      have T2 := Lib.hid ht2; have K2 := Lib.hid (HK.out.trans k2)
      clear ht2 k2 CT HT HK
      have hm3 : m3 ≤ 20 := by have := takeF_len (afs N lo) M n2; have := HM3.out; omega
      go_wp2_with fail
      go_loopw [9, 41] (fun o i wr => ∃ k q : Nat, k ≤ n2 ∧ i = .int .i64 k ∧ o = .int .i64 q ∧ q ≤ 20 ∧ Hid (q = (takeF (afs N lo) M k).length) ∧ Hid (Kept (fun _ => False) w2 wr)) (fun _ i _ => n2 - (RowKit.intOf i).toNat)
      case atStart => exact ⟨0, 0, Nat.zero_le _, rfl, rfl, by omega, rfl, Kept.refl _ _⟩
      case round =>
        obtain ⟨k, q, hk2, rfl, rfl, hq, HQ, HK2⟩ := hrel
        by_cases hkn2 : k < n2
        · have KK := Lib.hid (K2.out.trans HK2.out)
          have x0 := (M1.out.kept KK.out).cell k hkn2
          have xA := M1.out.at_ (by omega)
          subst xA
          have xb := (M1.out.kept KK.out).lt (by omega)
          obtain ⟨z, hz⟩ : ∃ z, z = M k := ⟨_, rfl⟩
          rw [← hz] at x0
          have HZ := Lib.hid hz
          clear hz
          by_cases h1 : 0 ≤ z ∧ z < lo
          · obtain ⟨h1, h2⟩ := h1
            obtain ⟨zn, rfl⟩ := Int.eq_ofNat_of_zero_le h1
            have HA : Hid (takeF (afs N lo) M (k + 1) = takeF (afs N lo) M k ++ [N zn]) := by
              show _ = _
              have h3 : 0 ≤ M k ∧ M k < (afs N lo).length := by have := HZ.out; have := afs_len N lo; omega
              have := takeF_in h3
              rw [← HZ.out, Int.toNat_natCast, afs_get N (by omega)] at this
              exact this
            have hq3 : Hid (∃ h : q < (takeF (afs N lo) M n2).length, (takeF (afs N lo) M n2)[q] = N zn) := by
              obtain ⟨r, hr⟩ := takeF_pre (afs N lo) M (k := k + 1) (n := n2) (by omega)
              rw [HA.out] at hr
              have hql := HQ.out
              refine ⟨by rw [hr]; simp; omega, ?_⟩
              simp only [hr, hql]
              simp
            obtain ⟨hq1, hq2⟩ := hq3.out
            obtain ⟨g, c', e, -, y1⟩ := (T2.out.keptF HK2.out).at hq1
            simp only [Value.slice.injEq] at e
            obtain ⟨rfl, -, rfl⟩ := e
            have yA := N1.out.at_ (by omega)
            subst yA
            have y2 := (N1.out.kept KK.out).cell zn (by omega)
            have yb := (N1.out.kept KK.out).lt (by omega)
            rw [hq2] at y1
            obtain ⟨nz, hnz⟩ : ∃ x, x = N zn := ⟨_, rfl⟩
            rw [← hnz] at y1 y2
            have hqm : q < m3 := by have := HM3.out; omega
            have hzl : zn < lo := by omega
            clear hq1 hq2 hq3 hnz
            go_wp2_with fail
            go_quiet (fail)
            have HW : Hid (Kept (fun _ => False) w2 (wr.drewN nq)) := HK2.out.drewN nq
            go_wp2_with fail
            go_roundw
            case rel => exact ⟨k + 1, q + 1, by omega, by go_num, by go_num, by have := takeF_len (afs N lo) M k; have := HQ.out; omega, by rw [HA.out, List.length_append, ← HQ.out]; rfl, HW.out⟩
            case measure => simp [RowKit.intOf]; omega
          · have h2 : ¬ 0 ≤ z ∨ (0 ≤ z ∧ ¬ z < lo) := by omega
            have HA : Hid (takeF (afs N lo) M (k + 1) = takeF (afs N lo) M k) := takeF_out (by have := HZ.out; have := afs_len N lo; omega)
            rcases h2 with h2 | ⟨h2, h3⟩
            all_goals
              go_wp2_with fail
              go_roundw
              case rel => exact ⟨k + 1, q, by omega, by go_num, rfl, hq, by rw [HA.out]; exact HQ.out, HK2.out⟩
              case measure => simp [RowKit.intOf]; omega
        · obtain rfl : k = n2 := by omega
          have hqm : q = m3 := by have := HM3.out; have := HQ.out; omega
          subst hqm
          go_wp2_with fail
          go_ret
          exact ⟨rfl, K2.out.trans HK2.out⟩
end Go.Proofs.Ytghbnomiahiapaa
