/- Pages: Give, Undo, Super. -/
import Derived.Test.YtfgjehecjgebdaaMg32
namespace Go.Proofs.Ytfgjehecjgebdaa
open Go.RowKit Go.Maps Go.ChangeMaps

theorem turned_kept {w w' : World} {m : Nat} (h : w.mapTurned w' m) : Kept (· = m) w w' := by
  obtain ⟨es, clock, es', clock', hb, rfl⟩ := h
  exact setBlock_kept hb _

/-- What Give leaves. -/
def GivePost (w : World) (st b c m d : Nat) (vs vc : Value) (p g : Nat) (X : Sto) (i : Int) (e : Ending) (w' : World) : Prop :=
  e = .returned (.int .i64 (gvRes X.l i).1) ∧ Kept (fun i => i = c ∨ i = m) w w' ∧ IsStore w' st b c m d vs vc p g { X with l := (gvRes X.l i).2 }

theorem chg_len (x y : Nat) (l : List Nat) : (chg x y l).length = l.length := by simp [chg]
theorem ud_no2 (l : List Nat) : ∀ x ∈ ud l, x ≠ 2 := by
  intro x hx
  simp only [ud, chg, List.mem_map] at hx
  obtain ⟨a, ⟨b, _, rfl⟩, rfl⟩ := hx
  split <;> (try split) <;> omega
theorem kp_no2 (l : List Nat) : ∀ x ∈ kp l, x ≠ 2 := by
  intro x hx
  simp only [kp, chg, List.mem_map] at hx
  obtain ⟨a, ⟨b, _, rfl⟩, rfl⟩ := hx
  split <;> (try split) <;> omega

set_option maxRecDepth 100000 in
theorem StoGive_calls {w st b c m d vs vc p g X} (h : IsStore w st b c m d vs vc p g X) (i : Int) :
    Calls Try.prog 45 #[.pointer (some ⟨st, 0, none⟩), .int .i64 i] w (GivePost w st b c m d vs vc p g X i) := by
  have H := Lib.hid h
  have hc0 : w.cell? ⟨st, 0, none⟩ = some (.pointer (some ⟨b, 0, none⟩)) := (cell_heap h.head 0).trans rfl
  have HSP := Lib.hid (Give_calls h.sp i)
  have hcm : Hid (c ≠ m) := by obtain ⟨es, clock, hm⟩ := H.out.put.heap; exact map_ne hm H.out.sp.row
  have h128 := h.lay.p2
  have hlp := h.len
  clear h
  by_cases hok : stAt X.l i = 2 ∨ stAt X.l i = 1
  · obtain ⟨k, rfl, hk⟩ : ∃ k : Nat, i = k ∧ k < X.l.length := by
      rcases hok with e | e
      · obtain ⟨k, rfl, hk, _⟩ := stAt_nat (x := 2) e; exact ⟨k, rfl, hk⟩
      · obtain ⟨k, rfl, hk, _⟩ := stAt_nat (x := 1) e; exact ⟨k, rfl, hk⟩
    obtain ⟨x, hx2, hr⟩ : ∃ x : Nat, x ≠ 2 ∧ gvRes X.l k = (0, X.l.set k x) := by
      by_cases h2 : stAt X.l k = 2
      · exact ⟨0, by omega, by simp [gvRes, h2]⟩
      · have h1 : stAt X.l k = 1 := by rcases hok with e | e; exact absurd e h2; exact e
        exact ⟨3, by omega, by simp [gvRes, h1]⟩
    have HR := Lib.hid hr
    rw [hr] at HSP
    simp only at HSP
    have HKEY := Lib.hid (key_int k (by omega))
    have HX2 := Lib.hid hx2
    clear hok hr hx2
    go_enter Try.func45, Try.ntmps45
    go_wp2_with fail
    refine HSP.out.mono ?_
    rintro e w1 ⟨rfl, h1, k1⟩
    have H1 := Lib.hid h1
    have K1 := Lib.hid k1
    have P1 := Lib.hid (H.out.put.kept k1 (fun e => hcm.out e.symm))
    have hhd := k1.heap H.out.head (fun e => ne_type H.out.head H.out.sp.row (by decide) e)
    have hc8 : w1.cell? ⟨st, 8, none⟩ = some (.map (some m)) := (cell_heap hhd 8).trans rfl
    clear h1 k1 hhd
    go_wp2_with (at_delete; refine wpList_delete_own _ rfl _ _ 86 3 rfl 106 (int_keyed und_int) und_dirty pgR m 128 _ rfl P1.out _ _ rfl HKEY.out ?_; intro w2 hown2 hg2; have HO := Lib.hid hown2; have HG := Lib.hid (turned_kept hg2); clear hown2 hg2)
    go_ret
    have hk2 : Kept (fun i => i = c ∨ i = m) w w2 := (K1.out.mono fun _ _ e => .inl e).trans (HG.out.mono fun _ _ e => .inr e)
    refine ⟨by rw [HR.out]; rfl, hk2, ?_⟩
    rw [HR.out]
    have ho := HO.out
    rw [del_prs x HX2.out] at ho
    have hsp2 : IsSp w2 b c (X.l.set k x) := by
      have h1 := H1.out
      obtain ⟨es, clock, hm⟩ := P1.out.heap
      exact ⟨HG.out.heap h1.head (map_ne hm h1.head), HG.out.heap h1.row hcm.out, h1.le, h1.len⟩
    exact H.out.turned hk2 hsp2 ho (by simp)
  · have hr : gvRes X.l i = (8, X.l) := by
      simp only [not_or] at hok
      simp [gvRes, hok.1, hok.2]
    have HR := Lib.hid hr
    rw [hr] at HSP
    simp only at HSP
    clear hok hr
    go_enter Try.func45, Try.ntmps45
    go_wp2_with fail
    refine HSP.out.mono ?_
    rintro e w1 ⟨rfl, h1, k1⟩
    have H1 := Lib.hid h1
    have K1 := Lib.hid k1
    clear h1 k1
    go_wp2_with fail
    go_ret
    refine ⟨by rw [HR.out]; rfl, K1.out.mono fun _ _ e => .inl e, ?_⟩
    rw [HR.out]
    exact H.out.turned (K1.out.mono fun _ _ e => .inl e) H1.out (H.out.put.kept K1.out (fun e => hcm.out e.symm)) rfl

theorem StoSuper_calls {w st b c m d vs vc p g X} (h : IsStore w st b c m d vs vc p g X) :
    Calls Try.prog 44 #[.pointer (some ⟨st, 0, none⟩)] w fun e w' => e = .returned (supV X.sup) ∧ Kept (fun _ => False) w w' := by
  have hhd := h.head
  have c4 : w.cell? ⟨st, 4, none⟩ = some (.int .i64 X.sup.gen) := (cell_heap hhd 4).trans rfl
  have c5 : w.cell? ⟨st, 5, none⟩ = some (.int .i64 X.sup.root) := (cell_heap hhd 5).trans rfl
  have c6 : w.cell? ⟨st, 6, none⟩ = some (.int .i64 X.sup.log) := (cell_heap hhd 6).trans rfl
  have c7 : w.cell? ⟨st, 7, none⟩ = some (.int .i64 X.sup.next) := (cell_heap hhd 7).trans rfl
  have hl := lt_heap hhd
  clear h hhd
  go_enter Try.func44, Try.ntmps44
  go_wp2
  refine bodyPost_ret (v := supV X.sup) ?_ rfl ?_
  · have hh := heap_new w (.cells #[.int .i64 X.sup.gen, .int .i64 X.sup.root, .int .i64 X.sup.log, .int .i64 X.sup.next] 84)
    have g0 := (cell_heap hh 0).trans rfl
    have g1 := (cell_heap hh 1).trans rfl
    have g2 := (cell_heap hh 2).trans rfl
    have g3 := (cell_heap hh 3).trans rfl
    simp [results, Try.f44, go_sem, g0, g1, g2, g3, supV]
  · exact ⟨rfl, (Kept.refl _ _).alloc _⟩

end Go.Proofs.Ytfgjehecjgebdaa
