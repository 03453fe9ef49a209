/- The laws of 07: Layout, begin. -/
import Derived.Test.YtfgjehecjgebdaaMg46
import Derived.Test.YtfgjehecjgebdaaMg37
import Derived.Test.YtfgjehecjgebdaaMg43
import Derived.Test.YtfgjehecjgebdaaMg16
namespace Go.Proofs.Ytfgjehecjgebdaa
open Go.RowKit Go.Maps Go.ChangeMaps

theorem lay86 : LayGood 8 6 := ⟨by omega, by omega, by omega, by omega⟩
theorem Layout_calls (w : World) : Calls Try.prog 43 #[] w fun e w' => e = .returned (layV 8 6) ∧ Kept (fun _ => False) w w' := by
  go_enter Try.func43, Try.ntmps43
  go_wp2
  refine bodyPost_ret (v := layV 8 6) ?_ rfl ⟨rfl, (Kept.refl _ _).alloc _⟩
  have hh := heap_new w (.cells #[.int .i64 8, .int .i64 6] 81)
  have g0 := (cell_heap hh 0).trans rfl
  have g1 := (cell_heap hh 1).trans rfl
  simp [results, Try.f43, go_sem, g0, g1, layV]

/-- The first store of a law: eight pages, none in use; checkpoint 1. -/
theorem begin_disk : ((sto0 8 (dev0 40)).check (-1) 1 1).1 = 0 ∧ Hale ((sto0 8 (dev0 40)).check (-1) 1 1).2.D ∧ OnDisk 8 ((sto0 8 (dev0 40)).check (-1) 1 1).2.D.secs (List.replicate 8 0) ⟨1, -1, 1, 1⟩ (fun _ => []) ∧ ((sto0 8 (dev0 40)).check (-1) 1 1).2.l = List.replicate 8 0 ∧
    ((sto0 8 (dev0 40)).check (-1) 1 1).2.D.secs.length = 40 ∧ ((sto0 8 (dev0 40)).check (-1) 1 1).2.sup = ⟨1, -1, 1, 1⟩ := by
  have h := ck_disk (X := sto0 8 (dev0 40)) (p := 8) (K := fun _ => []) (root := -1) (log := 1) (next := 1) ⟨rfl, rfl, rfl⟩ ?_ ?_ ?_ ?_ (by omega) ?_ ?_ ?_ ?_
  · obtain ⟨h1, h2, h3, h4, h5, h6⟩ := h
    have e : kp (sto0 8 (dev0 40)).l = List.replicate 8 0 := rfl
    have e2 : ckK (sto0 8 (dev0 40)) (fun _ => []) = fun _ => [] := by funext i; simp [ckK, sto0]
    have e3 : (⟨(sto0 8 (dev0 40)).sup.gen + 1, -1, (1 : Int).toNat, (1 : Int).toNat⟩ : Sup) = ⟨1, -1, 1, 1⟩ := rfl
    rw [e3] at h6
    rw [e, e2, h6] at h3
    rw [e] at h4
    exact ⟨h1, h2, h3, h4, by rw [h5]; rfl, h6⟩
  · intro y hy
    have : (sto0 8 (dev0 40)).D.secs.getD ((sto0 8 (dev0 40)).sup.gen % 2) [] = zero64 := rfl
    rw [this] at hy
    exact absurd hy (zero_says y)
  · intro i hi
    have e : (sto0 8 (dev0 40)).l.getD i 0 = 0 := by
      simp only [sto0, List.getD_eq_getElem?_getD, List.getElem?_replicate]
      split <;> rfl
    omega
  · exact rep_lt4 8
  · simp [sto0]
  · intro i hi; rw [show fresh (sto0 8 (dev0 40)).l = [] from fresh_rep 8] at hi; simp at hi
  · simp [sto0, dev0]
  · rfl
  · simp [sto0]

/-- The blocks that a store's calls turn. -/
def StoB (st c m d : Nat) (vs vc : Value) (k : Nat) : Prop := k = st ∨ k = c ∨ k = m ∨ k = d ∨ vs.ownBlock = some k ∨ vc.ownBlock = some k
/-- What begin leaves. -/
def BeginPost (w : World) (e : Ending) (w' : World) : Prop :=
  ∃ d st b c m vs vc X, e = .returned (.tuple #[.pointer (some ⟨d, 0, none⟩), .pointer (some ⟨st, 0, none⟩), .bool true]) ∧ IsStore w' st b c m d vs vc 8 6 X ∧ Kept (fun _ => False) w w' ∧ X = ((sto0 8 (dev0 40)).check (-1) 1 1).2 ∧ ∀ k, StoB st c m d vs vc k → w.heap.size ≤ k

set_option maxHeartbeats 4000000 in
set_option maxRecDepth 100000 in
theorem begin_calls (w : World) : Calls Try.prog 27 #[] w (BeginPost w) := by
  have HL : Hid (∀ W, Calls Try.prog 43 #[] W fun e w' => e = .returned (.agg #[.int .i64 8, .int .i64 6]) ∧ Kept (fun _ => False) W w') := Layout_calls
  have HT : Hid (∀ W, Calls Try.prog 53 #[.agg #[.int .i64 8, .int .i64 6]] W fun e w' => e = .returned (.int .i64 40) ∧ Kept (fun _ => False) W w') := fun W => LayTotal_calls lay86 W
  have HN : Hid (∀ W, Calls Try.prog 52 #[.int .i64 40] W (NewPost 40 W)) := fun W => DevNew_calls 40 (by omega) (by omega) W
  go_enter Try.func27, Try.ntmps27
  go_wp2_with fail
  refine (HL.out w).mono ?_
  rintro e w1 ⟨rfl, k1⟩
  have K1 := Lib.hid k1
  clear k1
  go_wp2_with fail
  refine (HT.out w1).mono ?_
  rintro e w2 ⟨rfl, k2⟩
  have K2 : Hid (Kept (fun _ => False) w w2) := K1.out.trans k2
  clear k2
  go_wp2_with fail
  refine (HN.out w2).mono ?_
  rintro e w3 ⟨vs, rfl, hd, k3, hvs⟩
  have K3 : Hid (Kept (fun _ => False) w w3) := K2.out.trans k3
  have HD := Lib.hid hd
  have HVS := Lib.hid hvs
  obtain ⟨d, hdd⟩ : ∃ d, d = w2.heap.size := ⟨_, rfl⟩
  rw [← hdd] at HD HVS
  rw [← hdd]
  have HDD := Lib.hid hdd
  clear hd k3 hvs hdd
  go_wp2_with fail
  refine (HL.out w3).mono ?_
  rintro e w4 ⟨rfl, k4⟩
  have K4 : Hid (Kept (fun _ => False) w w4) := K3.out.trans k4
  have HD4 := Lib.hid (HD.out.keptF k4)
  clear k4
  have HF : Hid (Calls Try.prog 54 #[.pointer (some ⟨d, 0, none⟩), .agg #[.int .i64 8, .int .i64 6]] w4 fun e w' => ∃ st, e = .returned (.tuple #[.pointer (some ⟨st, 0, none⟩), .int .i64 0]) ∧ MadeAt w4 d vs (.slice none 0 0) 8 6 ((sto0 8 (dev0 40)).check (-1) 1 1).2 st w') :=
    Format_calls HD4.out lay86 (by simp [dev0]) (by simp [dev0]) begin_disk.1
  go_wp2_with fail
  refine HF.out.mono ?_
  rintro e w5 ⟨st, rfl, b, c, m, vc', hst, hb, hc, hm, hs, k5, hvc⟩
  have HS := Lib.hid hs
  have K5 : Hid (Kept (fun _ => False) w w5) := by
    refine K4.out.then k5 ?_
    have h2 := K2.out.size
    rintro i hi (e | e | e)
    · have := HDD.out; omega
    · have := HVS.out i e; have := HDD.out; omega
    · simp [Value.ownBlock] at e
  have c0 : w5.cell? ⟨st, 0, none⟩ = some (.pointer (some ⟨b, 0, none⟩)) := (cell_heap hs.head 0).trans rfl
  have HFR : Hid (∀ k, StoB st c m d vs vc' k → w.heap.size ≤ k) := by
    have h4 := K4.out.size
    have h2 := K2.out.size
    rintro k (e | e | e | e | e | e)
    · omega
    · omega
    · omega
    · have := HDD.out; omega
    · have := HVS.out k e; have := HDD.out; omega
    · rcases hvc k e with e | e
      · simp [Value.ownBlock] at e
      · omega
  clear hst hb hc hm hs k5 hvc
  go_wp2_with fail
  go_quiet (fail)
  go_wp2_with fail
  go_ret3
  exact ⟨d, st, b, c, m, vs, vc', _, rfl, HS.out.keptF ((Kept.refl _ _).drewN _), K5.out.drewN _, rfl, HFR.out⟩

theorem open_found {w : World} {d : Nat} {vs vc : Value} {p g : Nat} {D : Dev} {e : Ending} {w' : World} {l : List Nat} {s : Sup} {K : Nat → List UInt8} (hh : Hale D) (hod : OnDisk p D.secs l s K) (hp : p ≤ 128) {r : Option (Sec × Bool)}
    (hn : Newest (D.text 0) (D.text 1) r) (ho : OpenPost w d vs vc p g D r e w') :
    Kept (fun _ => False) w w' ∧ ∃ st, e = .returned (.tuple #[.pointer (some ⟨st, 0, none⟩), .int .i64 0]) ∧ MadeAt w d vs vc p g ⟨l, fun _ => [], s, D⟩ st w' := by
  rw [hh.text, hh.text] at hn
  obtain ⟨rfl, hs⟩ := hod.found hp hn
  obtain ⟨k, h⟩ := ho
  refine ⟨k, ?_⟩
  simp only at h
  rw [if_neg (by rcases Nat.mod_two_eq_zero_or_one s.gen with e | e <;> simp [e]), hs] at h
  exact h

end Go.Proofs.Ytfgjehecjgebdaa
