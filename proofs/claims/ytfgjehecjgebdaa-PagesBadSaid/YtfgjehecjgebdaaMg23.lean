/- Device: Crash (slices.Contains, Index of numbers). -/
import Derived.Test.YtfgjehecjgebdaaMg21
namespace Go.Proofs.Ytfgjehecjgebdaa
open Go.RowKit

/-- A slice of numbers that is only read. -/
def Ints (w : World) (A : Option Addr) (l : List Int) : Prop :=
  0 < l.length → ∃ b off, A = some ⟨b, off, none⟩ ∧ b < w.heap.size ∧ ∀ i (hi : i < l.length), w.cell? ⟨b, off + i, none⟩ = some (.int .i64 l[i])
theorem Ints.kept {w w' A l} {S : Nat → Prop} (h : Ints w A l) (k : Kept S w w') (hs : ∀ a, A = some a → ¬ S a.block) : Ints w' A l := by
  intro hp
  obtain ⟨b, off, rfl, hb, hx⟩ := h hp
  have hn := hs _ rfl
  refine ⟨b, off, rfl, Nat.lt_of_lt_of_le hb k.size, fun i hi => ?_⟩
  rw [← hx i hi]
  exact World.cell?_of_block (k.block b hb hn)
theorem Ints.ofKept {w w' A l} (h : Ints w A l) (k : Kept (fun _ => False) w w') : Ints w' A l := h.kept k (fun _ _ => id)

theorem Ints.keptS {w w' A l} {S : Nat → Prop} (h : Ints w A l) (k : Kept S w w') (hs : ∀ a, A = some a → 0 < l.length → ¬ S a.block) : Ints w' A l := by
  intro hp
  exact Ints.kept h k (fun a ha => hs a ha hp) hp
theorem Ints.take {w A l} (h : Ints w A l) (n : Nat) : Ints w A (l.take n) := by
  intro hp
  simp only [List.length_take] at hp
  obtain ⟨b, off, hA, hb, hc⟩ := h (by omega)
  refine ⟨b, off, hA, hb, fun i hi => ?_⟩
  simp only [List.length_take] at hi
  rw [hc i (by omega), List.getElem_take]

theorem mem_take_succ {l : List Int} {k : Nat} (hk : k < l.length) (x : Int) : x ∈ l.take (k + 1) ↔ x ∈ l.take k ∨ x = l[k] := by
  rw [List.take_succ_eq_append_getElem hk, List.mem_append, List.mem_singleton]

theorem Index_calls {w A l cap} (h : Ints w A l) (hl : l.length ≤ maxLen) (x : Int) : Calls Try.prog 94 #[.slice A l.length cap, .int .i64 x] w fun e w' => (∃ r : Int, e = .returned (.int .i64 r) ∧ (0 ≤ r ↔ x ∈ l)) ∧ w = w' := by
  unfold maxLen at hl
  have H := Lib.hid h; clear h
  go_enter Try.func94, Try.ntmps94
  go_wp2
  go_loop [8] (fun i => ∃ k : Nat, k ≤ l.length ∧ i = .int .i64 k ∧ Hid (x ∉ l.take k)) (fun i => l.length - (intOf i).toNat)
  case atStart => exact ⟨0, Nat.zero_le _, rfl, by simp [Hid]⟩
  case round =>
    obtain ⟨k, hk, rfl, hx⟩ := hrel
    by_cases hlt : k < l.length
    · obtain ⟨b, off, rfl, hb, hcs⟩ := H.out (by omega)
      have hc := hcs k hlt
      have HM := Lib.hid (mem_take_succ hlt x)
      have HI : Hid (l[k] ∈ l) := List.getElem_mem _
      clear hcs
      generalize l[k] = y at *
      by_cases he : x = y
      · subst he
        have ht : (x == x) = true := by simp
        go_wp2
        go_ret
        exact ⟨⟨_, rfl, by simpa using HI.out⟩, rfl⟩
      · have ht : (x == y) = false := by simpa using he
        have HE := Lib.hid he; clear he
        go_wp2
        go_round
        case rel => exact ⟨k + 1, by omega, by go_num, by simp only [Hid, HM.out]; exact fun h => h.elim hx.out HE.out⟩
        case measure => simp [intOf]; omega
    · go_wp2
      go_ret
      refine ⟨⟨_, rfl, ?_⟩, rfl⟩
      have := hx.out
      rw [List.take_of_length_le (by omega)] at this
      constructor
      · intro h; omega
      · intro h; exact absurd h this

theorem Contains_calls {w A l cap} (h : Ints w A l) (hl : l.length ≤ maxLen) (x : Int) : Calls Try.prog 79 #[.slice A l.length cap, .int .i64 x] w fun e w' => e = .returned (.bool (decide (x ∈ l))) ∧ w = w' := by
  have HI := Lib.hid (Index_calls (cap := cap) h hl x); clear h
  go_enter Try.func79, Try.ntmps79
  go_wp2_with fail
  refine HI.out.mono ?_
  rintro e w1 ⟨⟨r, rfl, hr⟩, rfl⟩
  have HE : Hid (decide (0 ≤ r) = decide (x ∈ l)) := by simp only [Hid]; exact decide_eq_decide.2 hr
  clear hr
  go_wp2_with fail
  go_ret
  exact ⟨by rw [← HE.out]; rfl, rfl⟩

theorem crash_end {w d vs A n cap D} (h : IsDev w d vs (.slice A n cap) D) : DevTo w d vs (.slice A n cap) (((w.setCell ⟨d, 1, none⟩ (.slice none 0 0)).setCell ⟨d, 3, none⟩ (.bool false)).setCell ⟨d, 2, none⟩ (.int .i64 (-1))) (.slice none 0 0) ⟨D.secs, [], -1, false⟩ := by
  obtain ⟨c, hh⟩ := h.head
  have hne1 : vs.ownBlock ≠ some d := fun e => by obtain ⟨cs, f, hg⟩ := own_type h.secs e; exact ne_type hg hh (by decide) rfl
  have hk : Kept (· = d) w (((w.setCell ⟨d, 1, none⟩ (.slice none 0 0)).setCell ⟨d, 3, none⟩ (.bool false)).setCell ⟨d, 2, none⟩ (.int .i64 (-1))) := (((Kept.refl _ _).set1 _ _).set1 _ _).set1 _ _
  have gd := h.good
  exact ⟨⟨⟨c, by rw [heap_set (heap_set (heap_set hh 1 _) 3 _)]; rfl⟩, hk.own h.secs (fun g hg e => hne1 (e ▸ hg)), World.ownsRow_nil _ _ _ _, ⟨gd.one, gd.most, gd.secs, by simp, by simp⟩⟩, hk.mono fun _ _ e => .inl e, by simp [Value.ownBlock]⟩

def CrashPost (w : World) (d : Nat) (vs vc : Value) (D : Dev) (e : Ending) (w' : World) : Prop := e = .returned (.tuple #[]) ∧ DevTo w d vs vc w' (.slice none 0 0) D

set_option maxRecDepth 100000 in
theorem DevCrash_calls {w d vs vc D A l cap} (h : IsDev w d vs vc D) (hcl : D.cache.length ≤ 1000000) (hi : Ints w A l) (hl : l.length ≤ maxLen)
    (hN : ∀ a, A = some a → 0 < l.length → ¬ (a.block = d ∨ vs.ownBlock = some a.block ∨ vc.ownBlock = some a.block)) :
    Calls Try.prog 47 #[.pointer (some ⟨d, 0, none⟩), .slice A l.length cap] w (CrashPost w d vs vc (D.crash l)) := by
  obtain ⟨gs, caps, rfl⟩ := own_form h.secs h.good.one
  obtain ⟨C, capc, rfl, _⟩ := own_any h.cache
  have HI := Lib.hid hi
  have HG := Lib.hid h.good
  have H := Lib.hid h
  have HLL := Lib.hid hl
  have HN := Lib.hid hN
  obtain ⟨c0, hh0⟩ := h.head
  have hcc : w.cell? ⟨d, 1, none⟩ = some (.slice C D.cache.length capc) := (cell_heap hh0 1).trans rfl
  clear h hi hh0 hl hN
  go_enter Try.func47, Try.ntmps47
  go_wp2
  go_loopw [11] (fun i wr => ∃ k : Nat, k ≤ D.cache.length ∧ i = .int .i64 k ∧ DevTo w d (.slice (some ⟨gs, 0, none⟩) D.secs.length caps) (.slice C D.cache.length capc) wr (.slice C D.cache.length capc) { D with secs := settle D.secs (kept l (D.cache.take k)) }) (fun i _ => D.cache.length - (intOf i).toNat)
  case atStart =>
    refine ⟨0, Nat.zero_le _, rfl, ?_⟩
    exact DevTo.refl H.out
  case round =>
    obtain ⟨k, hk, rfl, hD⟩ := hrel
    obtain ⟨c2, hh2⟩ := hD.dev.head
    by_cases hlt : k < D.cache.length
    · obtain ⟨g, rfl, hx1, hx2, hgl⟩ := cache_cells hD.dev (C := D.cache) rfl k hlt
      have hp := HG.out.cache D.cache[k] (List.getElem_mem _)
      have HST : Hid (settle D.secs (kept l (D.cache.take (k + 1))) = if (k : Int) ∈ l then (settle D.secs (kept l (D.cache.take k))).set D.cache[k].1 D.cache[k].2 else settle D.secs (kept l (D.cache.take k))) := by
        simp only [Hid]
        rw [kept_take l D.cache k hlt]
        split
        · rw [settle_snoc]
        · rw [List.append_nil]
      obtain ⟨i, hi⟩ : ∃ i, i = D.cache[k].1 := ⟨_, rfl⟩
      obtain ⟨t, ht⟩ : ∃ t, t = D.cache[k].2 := ⟨_, rfl⟩
      rw [← hi, ← ht] at HST hp
      rw [← hi] at hx1
      rw [← ht] at hx2
      have hil := hp.1
      have HT := Lib.hid hp.2
      clear hi ht hp
      obtain ⟨s, hs⟩ : ∃ s, s = ba t := ⟨_, rfl⟩
      rw [← hs] at hx2
      have HS := Lib.hid hs; clear hs
      have hsc : wr.cell? ⟨d, 0, none⟩ = some (.slice (some ⟨gs, 0, none⟩) D.secs.length caps) := (cell_heap hh2 0).trans rfl
      have hdl := lt_heap hh2
      have hgl2 : gs < wr.heap.size := by obtain ⟨cs, f, hg⟩ := own_type hD.dev.secs (g := gs) rfl; exact lt_heap hg
      have hsl : (settle D.secs (kept l (D.cache.take k))).length = D.secs.length := settle_len _ _
      have hsr : wr.ownsRow 0 9 1 (.slice (some ⟨gs, 0, none⟩) D.secs.length caps) D.secs.length ((settle D.secs (kept l (D.cache.take k))).map Ss) := by have := hD.dev.secs; simp only [hsl] at this; exact this
      have hfz : wr.frozen? ⟨gs, i, none⟩ = false := hsr.frozenAt i
      obtain ⟨old, hold⟩ : ∃ x, wr.cell? ⟨gs, i, none⟩ = some x := ⟨Ss ((settle D.secs (kept l (D.cache.take k)))[i]'(by omega)), by rw [hsr.cellAt i (by omega)]; simp [hsl, hil]⟩
      have HIw : Hid (Ints wr A l) := by
        by_cases hp0 : 0 < l.length
        · exact HI.out.kept hD.kept (fun a ha => HN.out a ha hp0)
        · exact fun h => absurd h hp0
      have HCT : Hid (∀ W, Kept (fun _ => False) wr W → Calls Try.prog 79 #[.slice A l.length cap, .int .i64 k] W fun e w' => e = .returned (.bool (decide ((k : Int) ∈ l))) ∧ W = w') := fun W hW => Contains_calls (HIw.out.ofKept hW) HLL.out k
      have HD := Lib.hid hD
      clear hD hh2 hsl hsr
      go_wp2_with fail
      refine (HCT.out _ ((Kept.refl _ _).alloc _)).mono ?_
      rintro e w2 ⟨rfl, rfl⟩
      by_cases hin : (k : Int) ∈ l
      · have hb1 : decide ((k : Int) ∈ l) = true := by simpa using hin
        have HST2 : Hid (settle D.secs (kept l (D.cache.take (k + 1))) = (settle D.secs (kept l (D.cache.take k))).set i t) := by rw [Hid, HST.out, if_pos hin]
        clear hin HST
        rw [hb1]
        go_wp2_with fail
        go_region
        go_wp2
        go_roundw
        case rel =>
          refine ⟨k + 1, by omega, by go_num, ?_⟩
          rw [HS.out, HST2.out]
          exact (HD.out.trans (sec_step HD.out.dev i t HT.out)).after ((((Kept.refl _ _).alloc _)).drew)
        case measure => simp [intOf]; omega
      · have hb1 : decide ((k : Int) ∈ l) = false := by simpa using hin
        have HST2 : Hid (settle D.secs (kept l (D.cache.take (k + 1))) = settle D.secs (kept l (D.cache.take k))) := by rw [Hid, HST.out, if_neg hin]
        clear hin HST
        rw [hb1]
        go_wp2_with fail
        go_roundw
        case rel =>
          refine ⟨k + 1, by omega, by go_num, ?_⟩
          rw [HST2.out]
          exact HD.out.after ((Kept.refl _ _).alloc _)
        case measure => simp [intOf]; omega
    · obtain rfl : k = D.cache.length := by omega
      have hdl := lt_heap hh2
      have f1 : wr.frozen? ⟨d, 1, none⟩ = false := free_heap hh2 1
      have f2 : wr.frozen? ⟨d, 2, none⟩ = false := free_heap hh2 2
      have f3 : wr.frozen? ⟨d, 3, none⟩ = false := free_heap hh2 3
      have g1 : wr.cell? ⟨d, 1, none⟩ = some (.slice C D.cache.length capc) := (cell_heap hh2 1).trans rfl
      have g2 : wr.cell? ⟨d, 2, none⟩ = some (.int .i64 D.left) := (cell_heap hh2 2).trans rfl
      have g3 : wr.cell? ⟨d, 3, none⟩ = some (.bool D.down) := (cell_heap hh2 3).trans rfl
      have HD := Lib.hid hD
      clear hD hh2
      go_wp2
      go_end0
      refine ⟨rfl, ?_⟩
      have h1 := HD.out
      rw [List.take_length] at h1
      exact h1.trans (crash_end h1.dev)

end Go.Proofs.Ytfgjehecjgebdaa
