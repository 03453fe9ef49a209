/- Device: Flush, Crash. -/
import Derived.Test.YtfgjehecjgebdaaMg19
namespace Go.Proofs.Ytfgjehecjgebdaa
open Go.RowKit

theorem own_any {w : World} {base : Nat} {e : TypeId} {size : Nat} {v : Value} {n : Nat} {xs : List Value} (h : w.ownsRow base e size v n xs) : ∃ A cap, v = .slice A n cap ∧ (0 < n → ∃ g, A = some ⟨g, 0, none⟩) := by
  rcases h.2 with ⟨rfl, rfl⟩ | ⟨g, cap, _, hv, _⟩
  · exact ⟨none, 0, rfl, by omega⟩
  · exact ⟨_, cap, hv, fun _ => ⟨g, rfl⟩⟩

theorem sec_step {w d vc D g cap n} (h : IsDev w d (.slice (some ⟨g, 0, none⟩) n cap) vc D) (i : Nat) (t : List UInt8) (ht : t.length = 64) :
    DevTo w d (.slice (some ⟨g, 0, none⟩) n cap) vc (w.setCell ⟨g, i, none⟩ (.string (ba t))) vc { D with secs := D.secs.set i t } := by
  obtain ⟨c, hh⟩ := h.head
  have hne1 : g ≠ d := by obtain ⟨cs, f, hg⟩ := own_type h.secs (g := g) rfl; exact ne_type hg hh (by decide)
  have hne3 : ¬ vc.ownBlock = some g := fun e2 => by
    obtain ⟨cs, f, hg⟩ := own_type h.secs (g := g) rfl
    obtain ⟨cs', f', hg'⟩ := own_type h.cache e2
    exact ne_type hg hg' (by decide) rfl
  have hk : Kept (· = g) w (w.setCell ⟨g, i, none⟩ (.string (ba t))) := (Kept.refl _ _).set1 _ _
  have hn : n = D.secs.length := by
    have := h.secs.form (by have := h.good.one; omega)
    obtain ⟨_, _, e, _⟩ := this
    injection e
  subst hn
  refine ⟨⟨⟨c, hk.heap hh (fun e => hne1 e.symm)⟩, ?_, hk.own h.cache (fun k hk' e => hne3 (e ▸ hk')), ?_⟩, hk.mono fun k _ e => .inr (.inl (by rw [e]; rfl)), fun k hk => .inl hk⟩
  · have := (h.secs.stored i (Ss t)).1
    simp only [List.length_set, List.map_set]
    exact this
  · have gd := h.good
    exact ⟨by simpa using gd.one, by simpa using gd.most, by
      intro x hx
      rcases List.mem_or_eq_of_mem_set hx with h' | h'
      · exact gd.secs x h'
      · rw [h']; exact ht, by simpa using gd.cache, gd.left⟩

/-- Where its loose writes lie. -/
theorem cache_cells {w d vs A n cap D} (h : IsDev w d vs (.slice A n cap) D) {C : List (Nat × List UInt8)} (hC : D.cache = C) (k : Nat) (hk : k < C.length) : ∃ g, A = some ⟨g, 0, none⟩ ∧ w.cell? ⟨g, k * 2, none⟩ = some (.int .i64 C[k].1) ∧ w.cell? ⟨g, k * 2 + 1, none⟩ = some (.string (ba C[k].2)) ∧ g < w.heap.size := by
  subst hC
  obtain ⟨g, cap', e, _, hlt⟩ := h.cache.form (by omega)
  injection e with e1 e2 e3
  subst e1
  have hw := wrs_at D.cache k hk
  have hc := h.cache.cells (g := g) rfl
  have c1 := hc _ _ hw.1
  have c2 := hc _ _ hw.2
  rw [Addr.add_lit, Nat.zero_add] at c1 c2
  exact ⟨g, rfl, c1, c2, hlt⟩

theorem cache_off {w d vs vc D} (h : IsDev w d vs vc D) : DevTo w d vs vc (w.setCell ⟨d, 1, none⟩ (.slice none 0 0)) (.slice none 0 0) { D with cache := [] } := by
  obtain ⟨c, hh⟩ := h.head
  have hne1 : vs.ownBlock ≠ some d := fun e => by obtain ⟨cs, f, hg⟩ := own_type h.secs e; exact ne_type hg hh (by decide) rfl
  have hk : Kept (· = d) w (w.setCell ⟨d, 1, none⟩ (.slice none 0 0)) := (Kept.refl _ _).set1 _ _
  have gd := h.good
  exact ⟨⟨⟨c, by rw [heap_set hh]; rfl⟩, hk.own h.secs (fun g hg e => hne1 (e ▸ hg)), World.ownsRow_nil _ _ _ _, ⟨gd.one, gd.most, gd.secs, by simp, gd.left⟩⟩, hk.mono fun _ _ e => .inl e, by simp [Value.ownBlock]⟩

set_option maxRecDepth 100000 in
theorem DevFlush_calls {w d vs vc D} (h : IsDev w d vs vc D) (hcl : D.cache.length ≤ 1000000) :
    Calls Try.prog 58 #[.pointer (some ⟨d, 0, none⟩)] w (WritePost w d vs vc D.flush) := by
  obtain ⟨gs, caps, rfl⟩ := own_form h.secs h.good.one
  obtain ⟨A, capc, rfl, _⟩ := own_any h.cache
  have HC := Lib.hid (DevCall_calls h)
  have HCA : Hid (D.call.2.cache = D.cache) := call_cache D
  have HSE : Hid (D.call.2.secs = D.secs) := call_secs D
  have HG := Lib.hid h.good
  clear h
  cases hcall : D.call.1 with
  | false =>
    have HR : Hid (D.flush = (16, D.call.2)) := by simp [Hid, Dev.flush, hcall]
    rw [hcall] at HC
    clear hcall
    go_enter Try.func58, Try.ntmps58
    go_wp2_with fail
    refine HC.out.mono ?_
    rintro e w1 ⟨rfl, hto, hsz1⟩
    have HTO := Lib.hid hto; clear hto hsz1
    go_wp2_with fail
    go_ret
    exact ⟨by rw [HR.out]; rfl, _, by rw [HR.out]; exact HTO.out⟩
  | true =>
    have HR : Hid (D.flush = (0, { D.call.2 with secs := settle D.secs D.cache, cache := [] })) := by simp [Hid, Dev.flush, hcall]
    rw [hcall] at HC
    clear hcall
    go_enter Try.func58, Try.ntmps58
    go_wp2_with fail
    refine HC.out.mono ?_
    rintro e w1 ⟨rfl, hto, hsz1⟩
    obtain ⟨c1, hh1⟩ := hto.dev.head
    have hcc : w1.cell? ⟨d, 1, none⟩ = some (.slice A D.cache.length capc) := (cell_heap hh1 1).trans rfl
    have HTO := Lib.hid hto; clear hto hsz1 hh1
    go_wp2_with fail
    go_loopw [13] (fun i wr => ∃ k : Nat, k ≤ D.cache.length ∧ i = .int .i64 k ∧ DevTo w d (.slice (some ⟨gs, 0, none⟩) D.secs.length caps) (.slice A D.cache.length capc) wr (.slice A D.cache.length capc) { D.call.2 with secs := settle D.secs (D.cache.take k) }) (fun i _ => D.cache.length - (intOf i).toNat)
    case atStart =>
      refine ⟨0, Nat.zero_le _, rfl, ?_⟩
      have e : ({ D.call.2 with secs := settle D.secs (D.cache.take 0) } : Dev) = D.call.2 := by
        have := HSE.out
        simp only [List.take_zero, settle, List.foldl_nil]
        rw [← this]
      rw [e]; exact HTO.out
    case round =>
      obtain ⟨k, hk, rfl, hD⟩ := hrel
      obtain ⟨c2, hh2⟩ := hD.dev.head
      by_cases hlt : k < D.cache.length
      · obtain ⟨g, rfl, hx1, hx2, hgl⟩ := cache_cells hD.dev (C := D.cache) HCA.out k hlt
        have hp := HG.out.cache D.cache[k] (List.getElem_mem _)
        have HST : Hid (settle D.secs (D.cache.take (k + 1)) = (settle D.secs (D.cache.take k)).set D.cache[k].1 D.cache[k].2) := by
          rw [List.take_succ_eq_append_getElem hlt, settle_snoc]; rfl
        obtain ⟨i, hi⟩ : ∃ i, i = D.cache[k].1 := ⟨_, rfl⟩
        obtain ⟨t, ht⟩ : ∃ t, t = D.cache[k].2 := ⟨_, rfl⟩
        rw [← hi, ← ht] at HST hp
        rw [← hi] at hx1
        rw [← ht] at hx2
        have hil := hp.1
        have HT := Lib.hid hp.2
        clear hi ht hp
        obtain ⟨s, hs⟩ : ∃ s, s = ba t := ⟨_, rfl⟩
        rw [← hs] at hx2
        have HS := Lib.hid hs; clear hs
        have hsc : wr.cell? ⟨d, 0, none⟩ = some (.slice (some ⟨gs, 0, none⟩) D.secs.length caps) := (cell_heap hh2 0).trans rfl
        have hdl := lt_heap hh2
        have hgl2 : gs < wr.heap.size := by obtain ⟨cs, f, hg⟩ := own_type hD.dev.secs (g := gs) rfl; exact lt_heap hg
        have hsl : (settle D.secs (D.cache.take k)).length = D.secs.length := settle_len _ _
        have hsr : wr.ownsRow 0 9 1 (.slice (some ⟨gs, 0, none⟩) D.secs.length caps) D.secs.length ((settle D.secs (D.cache.take k)).map Ss) := by have := hD.dev.secs; simp only [hsl] at this; exact this
        have hfz : wr.frozen? ⟨gs, i, none⟩ = false := hsr.frozenAt i
        obtain ⟨old, hold⟩ : ∃ x, wr.cell? ⟨gs, i, none⟩ = some x := ⟨Ss ((settle D.secs (D.cache.take k))[i]'(by omega)), by rw [hsr.cellAt i (by omega)]; simp [hsl, hil]⟩
        have HD := Lib.hid hD
        clear hD hh2 hsl hsr
        go_wp2
        go_region
        go_wp2
        go_roundw
        case rel =>
          refine ⟨k + 1, by omega, by go_num, ?_⟩
          rw [HS.out, HST.out]
          exact (HD.out.trans (sec_step HD.out.dev i t HT.out)).after ((((Kept.refl _ _).alloc _)).drew)
        case measure => simp [intOf]; omega
      · obtain rfl : k = D.cache.length := by omega
        have hdl := lt_heap hh2
        have hcc2 : wr.cell? ⟨d, 1, none⟩ = some (.slice A D.cache.length capc) := (cell_heap hh2 1).trans rfl
        have hf2 : wr.frozen? ⟨d, 1, none⟩ = false := free_heap hh2 1
        have HD := Lib.hid hD
        clear hD hh2
        go_wp2
        go_ret
        refine ⟨by rw [HR.out]; rfl, .slice none 0 0, ?_⟩
        rw [HR.out]
        have h1 := HD.out
        rw [List.take_length] at h1
        exact h1.trans (cache_off h1.dev)

end Go.Proofs.Ytfgjehecjgebdaa
