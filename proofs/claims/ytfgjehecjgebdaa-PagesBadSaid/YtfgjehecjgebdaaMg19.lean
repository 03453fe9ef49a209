/- Device: Write. -/
import Derived.Test.YtfgjehecjgebdaaMg16
import Derived.Test.YtfgjehecjgebdaaMg12
namespace Go.Proofs.Ytfgjehecjgebdaa
open Go.RowKit

theorem und_writes : Try.prog.underlying 115 = some (.slice 122) := by kernel_rfl
theorem info_write : (Try.prog.info? 122).map (fun i => (i.zero, i.size, i.bytes)) = some (some (.agg #[.int .i64 0, .string ⟨#[]⟩]), 2, 24) := by kernel_rfl
theorem pad64_ba (t : List UInt8) : ba t ++ (ba zero64).extract (ba t).size 64 = ba (pad64 t) := by
  have : (ba zero64).extract (ba t).size 64 = ba (List.replicate (64 - t.length) 0) := by
    have h := ba_extractn zero64 (ba t).size
    rw [ba_size zero64, show zero64.length = 64 from rfl] at h
    rw [h, ba_size]
    unfold zero64
    rw [List.drop_replicate]
  rw [this, ← ba_append]; rfl

def WritePost (w : World) (d : Nat) (vs vc : Value) (r : Int × Dev) (e : Ending) (w' : World) : Prop :=
  e = .returned (.int .i64 r.1) ∧ ∃ vc', DevTo w d vs vc w' vc' r.2

theorem write_step {w wr d vs vc D W w1 v1} {p : Nat × List UInt8} (h : DevTo w d vs vc wr vc D) (hp : p.1 < D.secs.length ∧ p.2.length = 64) (k0 : Kept (fun _ => False) wr W)
    (hown : w1.ownsRow 0 122 2 v1 (D.cache.length + 1) (wrs D.cache ++ Wr p)) (hg : W.grownBy w1 vc.ownBlock) (hat : v1.ownBlock = vc.ownBlock ∨ v1.ownBlock = some W.heap.size) :
    w1.cell? ⟨d, 1, none⟩ = some vc ∧ w1.frozen? ⟨d, 1, none⟩ = false ∧ DevTo w d vs vc (w1.setCell ⟨d, 1, none⟩ v1) v1 { D with cache := D.cache ++ [p] } := by
  obtain ⟨c, hh⟩ := h.dev.head
  have hne1 : vs.ownBlock ≠ some d := fun e => by obtain ⟨cs, f, hg⟩ := own_type h.dev.secs e; exact ne_type hg hh (by decide) rfl
  have hne2 : vc.ownBlock ≠ some d := fun e => by obtain ⟨cs, f, hg⟩ := own_type h.dev.cache e; exact ne_type hg hh (by decide) rfl
  have hne3 : ∀ g, vs.ownBlock = some g → ¬ vc.ownBlock = some g := fun g e1 e2 => by
    obtain ⟨cs, f, hg⟩ := own_type h.dev.secs e1
    obtain ⟨cs', f', hg'⟩ := own_type h.dev.cache e2
    exact ne_type hg hg' (by decide) rfl
  have h0 := k0.heap hh id
  have h1 := (hg.block _ (lt_heap h0) (fun e => hne2 e.symm)).trans h0
  have hk1 : Kept (fun k => k = d ∨ vc.ownBlock = some k) wr w1 := (k0.mono fun _ _ f => f.elim).grown hg fun k hk => .inl (.inr hk)
  have hk2 : Kept (fun k => k = d ∨ vc.ownBlock = some k) wr (w1.setCell ⟨d, 1, none⟩ v1) := hk1.setCell (.inl (.inl rfl)) _
  have hne : v1.ownBlock ≠ some (⟨d, 1, none⟩ : Addr).block := by
    rcases hat with e | e
    · rw [e]; exact hne2
    · rw [e]; intro e2; simp at e2
      have := lt_heap h0
      omega
  refine ⟨(cell_heap h1 1).trans rfl, free_heap h1 1, h.trans ⟨⟨⟨c, by rw [heap_set h1]; rfl⟩, ?_, ?_, ?_⟩, hk2.mono ?_, ?_⟩⟩
  · exact hk2.own h.dev.secs (fun g hg => by rintro (rfl | e); exact hne1 hg; exact hne3 g hg e)
  · have := ownsRow_setCell_other hown (a := ⟨d, 1, none⟩) hne v1
    simp only [List.length_append, List.length_cons, List.length_nil, wrs, List.flatMap_append, List.flatMap_cons, List.flatMap_nil, List.append_nil] at this ⊢
    exact this
  · have g := h.dev.good
    exact ⟨g.one, g.most, g.secs, by
      intro q hq
      simp only [List.mem_append, List.mem_singleton] at hq
      rcases hq with hq | rfl
      · exact g.cache q hq
      · exact hp, g.left⟩
  · rintro k _ (e | e)
    · exact .inl e
    · exact .inr (.inr e)
  · intro k hk
    rcases hat with e | e
    · rw [e] at hk; exact .inl hk
    · rw [e] at hk; simp at hk; subst hk; exact .inr k0.size

set_option maxRecDepth 100000 in
theorem DevWrite_calls {w d vs vc D} (h : IsDev w d vs vc D) (a : Int) (t : List UInt8) (hcl : D.cache.length ≤ 1000000) :
    Calls Try.prog 57 #[.pointer (some ⟨d, 0, none⟩), .int .i64 a, .string (ba t)] w (WritePost w d vs vc (D.write a t)) := by
  obtain ⟨c, hh⟩ := h.head
  have hc0 : w.cell? ⟨d, 0, none⟩ = some vs := (cell_heap hh 0).trans rfl
  obtain ⟨g, cap, rfl⟩ := own_form h.secs h.good.one
  have H := Lib.hid h
  obtain ⟨s, hs⟩ : ∃ s, s = ba t := ⟨_, rfl⟩
  have hsz : s.size = t.length := by rw [hs, ba_size]
  by_cases hbad : a < 0 ∨ (D.secs.length : Int) ≤ a ∨ 64 < t.length
  · have HR : Hid (D.write a t = (4, D)) := by simp [Hid, Dev.write, hbad]
    rw [← hs]
    clear h hh hs
    by_cases h1 : a < 0
    · go_enter Try.func57, Try.ntmps57
      go_wp2
      go_ret
      exact ⟨by rw [HR.out]; rfl, _, by rw [HR.out]; exact DevTo.refl H.out⟩
    · by_cases h2 : (D.secs.length : Int) ≤ a
      · have h1' : 0 ≤ a := by omega
        go_enter Try.func57, Try.ntmps57
        go_wp2
        go_ret
        exact ⟨by rw [HR.out]; rfl, _, by rw [HR.out]; exact DevTo.refl H.out⟩
      · have h3 : 64 < s.size := by omega
        have h1' : 0 ≤ a := by omega
        have h2' : a < D.secs.length := by omega
        clear h2 h1 hbad
        go_enter Try.func57, Try.ntmps57
        go_wp2
        go_ret
        exact ⟨by rw [HR.out]; rfl, _, by rw [HR.out]; exact DevTo.refl H.out⟩
  · obtain ⟨i, rfl⟩ := Int.eq_ofNat_of_zero_le (show 0 ≤ a by omega)
    have hi : i < D.secs.length := by omega
    have ht : s.size ≤ 64 := by omega
    have HC := Lib.hid (DevCall_calls h)
    have HR : Hid (D.write i t = if D.call.1 then (0, { D.call.2 with cache := D.cache ++ [(i, pad64 t)] }) else (16, D.call.2)) := by
      simp only [Hid, Dev.write, if_neg hbad]; simp
    have HP : Hid (s ++ (ba zero64).extract s.size 64 = ba (pad64 t)) := by rw [hs]; exact pad64_ba t
    have HT := Lib.hid (pad64_len t (by omega))
    obtain ⟨z, hz⟩ : ∃ z, z = ba zero64 := ⟨_, rfl⟩
    have hz64 : z.size = 64 := by rw [hz, ba_size]; rfl
    rw [← hz] at HP
    have HZ0 := Lib.hid hz
    rw [← hs]
    obtain ⟨O, Z⟩ := zeros_calls
    rw [← hz] at Z
    have HZ := Lib.hid Z
    have HS := Lib.hid hs
    clear h hh hs hsz hbad hz Z
    go_enter Try.func57, Try.ntmps57
    go_wp2_with fail
    refine HC.out.mono ?_
    rintro e w1 ⟨rfl, hto, hsz1⟩
    have HTO := Lib.hid hto; clear hto hsz1
    cases hcall : D.call.1 with
    | false =>
      rw [hcall] at HR
      have HCL := Lib.hid hcall; clear hcall
      go_wp2_with fail
      go_ret
      exact ⟨by rw [HR.out]; rfl, _, by rw [HR.out]; exact HTO.out⟩
    | true =>
      rw [hcall] at HR
      have HCL := Lib.hid hcall; clear hcall
      obtain ⟨c1, hh1⟩ := HTO.out.dev.head
      have hcc : w1.cell? ⟨d, 1, none⟩ = some vc := (cell_heap hh1 1).trans rfl
      have hdl := lt_heap hh1
      have HCA : Hid (D.call.2.cache = D.cache) := call_cache D
      have HSE : Hid (D.call.2.secs = D.secs) := call_secs D
      clear hh1
      have ho : w1.ownsRow 0 122 2 vc D.cache.length (wrs D.cache) := by have := HTO.out.dev.cache; rw [HCA.out] at this; exact this
      have HO := Lib.hid ho; clear ho
      go_wp2_with fail
      go_region_law (first
        | (refine step_call (args := #[]) rfl zeros_enters rfl (by simp) (HZ.out _) ?_; rintro e w' ⟨rfl, rfl⟩; refine ⟨_, rfl, ?_⟩)
        | (refine step_many (v := vc) rfl (.tmp 32) (.tmp 41) rfl und_writes info_write rfl (by omega) rfl ((HO.out.alloc _).alloc _).drew (w1.heap.size + 1 + 1) rfl (reads_new2 (w := w1.alloc O) (by simp) (.int .i64 i) (.string (s ++ z.extract s.size 64)) _).drew (by rw [HP.out]; exact wrs_one [(i, pad64 t)]) (by unfold maxLen; omega) (by omega) ?_; intro v2 w2 hown2 hg2 hat2; have R := write_step (p := (i, pad64 t)) HTO.out (by rw [HSE.out]; exact ⟨hi, HT.out⟩) (((Kept.refl _ w1).alloc O).alloc _).drew (by rw [HP.out] at hown2; rw [HCA.out]; exact hown2) hg2 hat2; obtain ⟨g2, cap2, rfl⟩ := own_form2 hown2 (by omega); have hc2 := R.1; have hf2 := R.2.1; have HR2 := Lib.hid R.2.2; clear R hown2 hg2 hat2))
      all_goals
        go_wp2
        go_ret
        exact ⟨by rw [HR.out]; rfl, _, by rw [HR.out]; rw [HCA.out] at HR2; exact HR2.out⟩

end Go.Proofs.Ytfgjehecjgebdaa
