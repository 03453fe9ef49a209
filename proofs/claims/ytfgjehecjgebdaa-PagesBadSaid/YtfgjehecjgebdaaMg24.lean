/- Device: Spoil. The reference of 04: Check. -/
import Derived.Test.YtfgjehecjgebdaaMg21
import Derived.Test.YtfgjehecjgebdaaMg20
namespace Go.Proofs.Ytfgjehecjgebdaa
open Go.RowKit

theorem ba_head (l : List UInt8) (n : Nat) : (ba l).extract 0 n = ba (l.take n) := by
  apply ByteArray.ext
  rw [ByteArray.data_extract]
  apply Array.ext'
  simp [ba]

set_option maxRecDepth 100000 in
theorem DevSpoil_calls {w d vs vc D} (h : IsDev w d vs vc D) (a : Nat) (ha : a < D.secs.length) (t : List UInt8) (ht : t.length ≤ 1000) :
    Calls Try.prog 38 #[.pointer (some ⟨d, 0, none⟩), .int .i64 a, .string (ba t)] w fun e w' => e = .returned (.tuple #[]) ∧ DevTo w d vs vc w' vc { D with secs := D.secs.set a ((t ++ zero64).take 64) } := by
  obtain ⟨gs, caps, rfl⟩ := own_form h.secs h.good.one
  obtain ⟨O, hz⟩ := zeros_calls
  have HZ := Lib.hid hz
  clear hz
  obtain ⟨c, hh⟩ := h.head
  have hsc : w.cell? ⟨d, 0, none⟩ = some (.slice (some ⟨gs, 0, none⟩) D.secs.length caps) := (cell_heap hh 0).trans rfl
  have hdl := lt_heap hh
  have hgl : gs < w.heap.size := by obtain ⟨cs, f, hg⟩ := own_type h.secs (g := gs) rfl; exact lt_heap hg
  have hfz : w.frozen? ⟨gs, a, none⟩ = false := h.secs.frozenAt a
  obtain ⟨old, hold⟩ : ∃ x, w.cell? ⟨gs, a, none⟩ = some x := ⟨Ss (D.secs[a]), by rw [h.secs.cellAt a (by omega)]; simp [ha]⟩
  have hzl : zero64.length = 64 := by simp [zero64]
  have hts := ba_size t
  obtain ⟨s, hs⟩ : ∃ s, s = ba t := ⟨_, rfl⟩
  obtain ⟨z, hzz⟩ : ∃ z, z = ba zero64 := ⟨_, rfl⟩
  have hzs : z.size = 64 := by rw [hzz, ba_size, hzl]
  have HE : Hid ((s ++ z).extract 0 64 = ba ((t ++ zero64).take 64)) := by
    have e := ba_head (t ++ zero64) 64
    rw [Hid, hs, hzz, ← ba_append]
    exact e
  have HL : Hid (((t ++ zero64).take 64).length = 64) := by rw [Hid, List.length_take, List.length_append, hzl]; omega
  rw [← hs] at hts ⊢
  rw [← hzz] at HZ
  have hsum : ¬ 9223372036854775807 < s.size + z.size := by omega
  have hsz64 : 64 ≤ (s ++ z).size := by rw [ByteArray.size_append]; omega
  have hsz64' : (64 : Int) ≤ ((s ++ z).size : Int) := by omega
  have hsz3 : 64 ≤ s.size + z.size := by omega
  have hsz4 : (64 : Int) ≤ (s.size : Int) + (z.size : Int) := by omega
  have hgd : gs ≠ d := by obtain ⟨cs, f, hg⟩ := own_type h.secs (g := gs) rfl; exact ne_type hg hh (by decide)
  have hkeep : (((w.setCell ⟨gs, a, none⟩ (.string ((s ++ z).extract 0 64))).alloc O).drew).cell? ⟨d, 0, none⟩ = some (.slice (some ⟨gs, 0, none⟩) D.secs.length caps) := by
    have h1 := heap_old (heap_set_other (a := ⟨gs, a, none⟩) (v := .string ((s ++ z).extract 0 64)) hh (fun e => hgd e.symm)) O
    exact (cell_heap (w := ((w.setCell ⟨gs, a, none⟩ (.string ((s ++ z).extract 0 64))).alloc O).drew) h1 0).trans rfl
  have HK := Lib.hid hkeep
  have H := Lib.hid h
  have HZS := Lib.hid hzs
  clear h hh hzl hs hzz hzs hts hgd hkeep
  go_enter Try.func38, Try.ntmps38
  go_wp2_with fail
  go_region_held3 (fun w' => w'.cell? ⟨d, 0, none⟩ = some (.slice (some ⟨gs, 0, none⟩) D.secs.length caps)) (first | exact HK.out | (go_keep; done))
    (first
      | (go_at_call 67; refine (HZ.out _).mono ?_; rintro e w1 ⟨rfl, rfl⟩))
  go_end0
  rw [HE.out]
  exact ⟨rfl, (sec_step H.out a _ HL.out).after (((Kept.refl _ _).alloc _).drew)⟩

theorem refCheck4_calls (st : Int) (mk : Nat) (d : List UInt8) (hst : -9223372036854775808 ≤ st ∧ st ≤ 9223372036854775807) (w : World) : Calls Try.prog 40 #[.agg #[.int .i64 st, .int .i64 mk, .string (ba d)]] w fun e w' => e = .returned (.int .i64 (secCheck st d)) ∧ Kept (fun _ => False) w w' := by
  have hsz := ba_size d
  generalize ba d = s at *
  have HC := Lib.hid (show secCheck st d = if st < 1 ∨ 1099511627776 < st then 18 else if 44 < s.size then 3 else 0 by rw [hsz]; rfl)
  rw [HC.out]
  clear hsz
  by_cases h1 : st < 1
  · rw [if_pos (.inl h1)]
    go_enter Try.func40, Try.ntmps40
    go_wp2
    go_ret
    exact ⟨rfl, (Kept.refl _ _).alloc _⟩
  · by_cases h2 : 1099511627776 < st
    · rw [if_pos (.inr h2)]
      go_enter Try.func40, Try.ntmps40
      go_wp2
      go_ret
      exact ⟨rfl, (Kept.refl _ _).alloc _⟩
    · rw [if_neg (by omega)]
      by_cases h3 : 44 < s.size
      · rw [if_pos h3]
        go_enter Try.func40, Try.ntmps40
        go_wp2
        go_ret
        exact ⟨rfl, (Kept.refl _ _).alloc _⟩
      · rw [if_neg h3]
        go_enter Try.func40, Try.ntmps40
        go_wp2
        go_ret
        exact ⟨rfl, (Kept.refl _ _).alloc _⟩

end Go.Proofs.Ytfgjehecjgebdaa
