/- The laws of 07: a store's calls beside the reference's, one by one. -/
import Derived.Test.YtfgjehecjgebdaaMg47
import Derived.Test.YtfgjehecjgebdaaMg45
import Derived.Test.YtfgjehecjgebdaaMg23
namespace Go.Proofs.Ytfgjehecjgebdaa
open Go.RowKit Go.Maps Go.ChangeMaps

theorem put_step {w st b c m d vs vc X R} (h : IsStore w st b c m d vs vc 8 6 X) (hi : Inv X R) (t : List UInt8) :
    Calls Try.prog 30 #[.pointer (some ⟨st, 0, none⟩), .string (ba t)] w fun e w' =>
      e = .returned (.tuple #[.int .i64 (rPut R t).2.1, .int .i64 (rPut R t).2.2]) ∧ Kept (fun i => i = c ∨ i = m) w w' ∧ ∃ X', IsStore w' st b c m d vs vc 8 6 X' ∧ Inv X' (rPut R t).1 ∧ X'.sup = X.sup := by
  refine (Put_calls h t).mono ?_
  rintro e w' ⟨hk, hp⟩
  have hl := hi.l
  by_cases ht : 248 < t.length
  · rw [if_pos ht] at hp
    simp only [rPut, if_pos ht]
    exact ⟨hp.1, hk, X, hp.2, hi, rfl⟩
  · rw [if_neg ht] at hp
    simp only [rPut, if_neg ht]
    cases htk : tkAt X.l with
    | none =>
      rw [htk] at hp
      rw [hl] at htk
      rw [htk]
      exact ⟨hp.1, hk, X, hp.2, hi, rfl⟩
    | some i =>
      have hp' := hi.putted htk (t := t) (by omega)
      rw [htk] at hp
      rw [hl] at htk
      rw [htk]
      exact ⟨hp.1, hk, _, hp.2, hp', rfl⟩

theorem ck_step {w st b c m d vs vc X R} (h : IsStore w st b c m d vs vc 8 6 X) (hi : Inv X R) (hg : X.sup.gen ≤ 1000) (ro lo ne : Int) :
    Calls Try.prog 32 #[.pointer (some ⟨st, 0, none⟩), .int .i64 ro, .int .i64 lo, .int .i64 ne] w fun e w' =>
      e = .returned (.int .i64 (rCheck R ro lo ne).2) ∧ ∃ vc' X', StoTo w st b c m d vs vc 8 6 w' vc' X' ∧ Inv X' (rCheck R ro lo ne).1 ∧ X'.sup.gen ≤ X.sup.gen + 1 := by
  have hT : ∀ i ∈ fresh X.l, (X.T i).length ≤ 248 := fun i hf => (hi.put i (mem_fresh.1 hf).2).2
  obtain ⟨h1, h2⟩ := hi.checked ro lo ne (by omega)
  refine (Ck_calls h ro lo ne hT (by rw [hi.hale.cache]; simp) (by omega)).mono ?_
  rintro e w' ⟨he, vc', hto⟩
  refine ⟨by rw [← h1]; exact he, vc', _, hto, h2, ?_⟩
  rw [h2.s, hi.s]
  unfold rCheck
  split <;> simp

theorem refCheck_calls {w B q R} (h : IsRef w B q R) (ro lo ne : Int) (hg : R.s.gen ≤ 1099511627776) :
    Calls Try.prog 33 #[refV q R, .int .i64 ro, .int .i64 lo, .int .i64 ne] w (RefPost2 B (rCheck R ro lo ne) w) := by
  by_cases hb : rBad R ro lo ne = 0
  · exact refCheck_good h ro lo ne hb hg
  · exact refCheck_bad h ro lo ne hb

theorem rCheck_bd (R : RSto) (ro lo ne : Int) : 0 ≤ (rCheck R ro lo ne).2 ∧ (rCheck R ro lo ne).2 ≤ 100 := by
  have hb : 0 ≤ rBad R ro lo ne ∧ rBad R ro lo ne ≤ 100 := by
    unfold rBad
    split
    · simp
    · split <;> simp
  unfold rCheck
  split
  · exact hb
  · simp

/-- A box of six cells that a call doesn't turn. -/
theorem box6 {w w' : World} {S : Nat → Prop} {v0 v1 v2 v3 v4 v5 : Value} {T : TypeId} (k : Kept S (w.alloc (.cells #[v0, v1, v2, v3, v4, v5] T)) w') (hS : ∀ i, S i → i < w.heap.size) :
    w'.cell? ⟨w.heap.size, 1, none⟩ = some v1 ∧ w'.cell? ⟨w.heap.size, 2, none⟩ = some v2 ∧ w'.cell? ⟨w.heap.size, 3, none⟩ = some v3 ∧ w'.cell? ⟨w.heap.size, 4, none⟩ = some v4 ∧ w'.cell? ⟨w.heap.size, 5, none⟩ = some v5 ∧ w.heap.size < w'.heap.size := by
  have h := k.heap (heap_new w _) (fun h => Nat.lt_irrefl _ (hS _ h))
  exact ⟨(cell_heap h 1).trans rfl, (cell_heap h 2).trans rfl, (cell_heap h 3).trans rfl, (cell_heap h 4).trans rfl, (cell_heap h 5).trans rfl, lt_heap h⟩

/-- A store's blocks lie in its world. -/
theorem IsStore.below {w st b c m d vs vc p g X} (h : IsStore w st b c m d vs vc p g X) {k : Nat} (hk : StoB st c m d vs vc k) : k < w.heap.size := by
  obtain ⟨es, clock, hm⟩ := h.put.heap
  obtain ⟨c0, hd⟩ := h.dev.head
  rcases hk with rfl | rfl | rfl | rfl | e | e
  · exact lt_heap h.head
  · exact lt_heap h.sp.row
  · exact lt_heap hm
  · exact lt_heap hd
  · obtain ⟨cs, f, hg⟩ := own_type h.dev.secs e; exact lt_heap hg
  · obtain ⟨cs, f, hg⟩ := own_type h.dev.cache e; exact lt_heap hg

theorem crash_hale {D : Dev} (h : Hale D) (l : List Int) : D.crash l = D := by
  obtain ⟨s, c, lf, dn⟩ := D
  obtain ⟨h1, h2, h3⟩ := h
  simp only at h1 h2 h3
  subst h1 h2 h3
  simp [Dev.crash, kept, settle]

theorem open_step {w d vs vc X R} (hd : IsDev w d vs vc X.D) (hi : Inv X R) :
    Calls Try.prog 42 #[.pointer (some ⟨d, 0, none⟩), .agg #[.int .i64 8, .int .i64 6]] w fun e w' =>
      Kept (fun _ => False) w w' ∧ ∃ st, e = .returned (.tuple #[.pointer (some ⟨st, 0, none⟩), .int .i64 0]) ∧ MadeAt w d vs vc 8 6 ⟨ud X.l, fun _ => [], X.sup, X.D⟩ st w' := by
  refine (Open_calls hd lay86 (by have := hi.n; omega) (by rw [hi.hale.cache]; simp) hi.hale.down).mono ?_
  rintro e w' ⟨r, hn, ho⟩
  rw [hi.hale.text, hi.hale.text] at hn
  exact open_found hi.hale hi.disk (by omega) (by rw [hi.hale.text, hi.hale.text]; exact hn) ho

end Go.Proofs.Ytfgjehecjgebdaa
