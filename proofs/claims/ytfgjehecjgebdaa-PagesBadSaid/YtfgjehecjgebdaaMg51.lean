/- The laws of 07: what holds between two rounds; where the blocks lie. -/
import Derived.Test.YtfgjehecjgebdaaMg47
import Derived.Test.YtfgjehecjgebdaaMg45
import Derived.Test.YtfgjehecjgebdaaMg48
namespace Go.Proofs.Ytfgjehecjgebdaa
open Go.RowKit Go.Maps Go.ChangeMaps

/-- What holds between two rounds. -/
structure PlayAt (I : Sto → RSto → Prop) (w wr : World) (B NX d : Nat) (vs : Value) (st b c m : Nat) (vc : Value) (X : Sto) (R : RSto) (q : RP) (j : Nat) : Prop where
  sto : IsStore wr st b c m d vs vc 8 6 X
  ref : IsRef wr B q R
  box : wr.heap[NX]? = some (.cells (refCells q R) 55 (0, 0))
  inv : I X R
  gen : X.sup.gen ≤ j + 1
  kept : Kept (fun _ => False) w wr
  new : ∀ k, StoB st c m d vs vc k → w.heap.size ≤ k
  vsB : ∀ k, vs.ownBlock = some k → k < B
  nx : w.heap.size ≤ NX

/-- The store's blocks are none of the reference's, nor the box of the reference's store. -/
theorem ref_safe {w st b c m d vs vc p g X B q R} (h : IsStore w st b c m d vs vc p g X) (hr : IsRef w B q R) (hv : ∀ k, vs.ownBlock = some k → k < B) :
    ¬ StoB st c m d vs vc q.gl ∧ ¬ StoB st c m d vs vc q.gt ∧ ¬ StoB st c m d vs vc q.gk := by
  obtain ⟨es, clock, hm⟩ := h.put.heap
  obtain ⟨c0, hd⟩ := h.dev.head
  have key : ∀ {k : Nat} {cs : Array Value} {e : TypeId} {f : Nat × Nat}, w.heap[k]? = some (.cells cs e f) → e ≠ 88 → e ≠ 5 → e ≠ 117 → e ≠ 122 → (vs.ownBlock = some k → False) → ¬ StoB st c m d vs vc k := by
    intro k cs e f hk h1 h2 h3 h4 h5
    rintro (rfl | rfl | rfl | rfl | e1 | e1)
    · exact ne_type hk h.head h1 rfl
    · exact ne_type hk h.sp.row h2 rfl
    · exact map_ne hm hk rfl
    · exact ne_type hk hd h3 rfl
    · exact h5 e1
    · obtain ⟨cs', f', hg⟩ := own_type h.dev.cache e1; exact ne_type hk hg h4 rfl
  obtain ⟨cs1, f1, g1, _⟩ := RowIs.of_own hr.ints
  obtain ⟨cs2, f2, g2, _⟩ := RowIs.of_own hr.texts
  obtain ⟨cs3, f3, g3, _⟩ := RowIs.of_own hr.keeps
  refine ⟨key g1 (by decide) (by decide) (by decide) (by decide) ?_, key g2 (by decide) (by decide) (by decide) (by decide) ?_, key g3 (by decide) (by decide) (by decide) (by decide) ?_⟩
  · intro e
    obtain ⟨cs', f', hg⟩ := own_type h.dev.secs e
    exact ne_type g1 hg (by decide) rfl
  · intro e; have := hv _ e; have := hr.bt; omega
  · intro e; have := hv _ e; have := hr.bk; omega
theorem box_safe {w st b c m d vs vc p g X} (h : IsStore w st b c m d vs vc p g X) {n : Nat} {cs : Array Value} {f : Nat × Nat} (hb : w.heap[n]? = some (.cells cs 55 f)) : ¬ StoB st c m d vs vc n := by
  obtain ⟨es, clock, hm⟩ := h.put.heap
  obtain ⟨c0, hd⟩ := h.dev.head
  rintro (rfl | rfl | rfl | rfl | e1 | e1)
  · exact ne_type hb h.head (by decide) rfl
  · exact ne_type hb h.sp.row (by decide) rfl
  · exact map_ne hm hb rfl
  · exact ne_type hb hd (by decide) rfl
  · obtain ⟨cs', f', hg⟩ := own_type h.dev.secs e1; exact ne_type hb hg (by decide) rfl
  · obtain ⟨cs', f', hg⟩ := own_type h.dev.cache e1; exact ne_type hb hg (by decide) rfl
theorem IsStore.keptS {w w' st b c m d vs vc p g X} {S : Nat → Prop} (h : IsStore w st b c m d vs vc p g X) (k : Kept S w w') (hS : ∀ i, StoB st c m d vs vc i → ¬ S i) (hb : ¬ S b) : IsStore w' st b c m d vs vc p g X :=
  ⟨k.heap h.head (hS _ (.inl rfl)), ⟨k.heap h.sp.head hb, k.heap h.sp.row (hS _ (.inr (.inl rfl))), h.sp.le, h.sp.len⟩, h.put.kept k (hS _ (.inr (.inr (.inl rfl)))), h.dev.kept k (hS _ (.inr (.inr (.inr (.inl rfl))))) (fun _ e => hS _ (.inr (.inr (.inr (.inr (.inl e)))))) (fun _ e => hS _ (.inr (.inr (.inr (.inr (.inr e)))))), h.len, h.lay⟩
/-- The reference's store is laid into its box. -/
theorem PlayAt.boxed {I : Sto → RSto → Prop} {w w7 : World} {B NX d : Nat} {vs : Value} {st b c m : Nat} {vc : Value} {X : Sto} {R : RSto} {q : RP} {j : Nat} {z0 z1 z2 z3 z4 z5 z6 : Value} (hs : IsStore w7 st b c m d vs vc 8 6 X) (hr : IsRef w7 B q R)
    (hb : w7.heap[NX]? = some (.cells #[z0, z1, z2, z3, z4, z5, z6] 55 (0, 0))) (hi : I X R) (hg : X.sup.gen ≤ j + 1) (hk : Kept (fun _ => False) w w7) (hn : ∀ k, StoB st c m d vs vc k → w.heap.size ≤ k) (hv : ∀ k, vs.ownBlock = some k → k < B) (hx : w.heap.size ≤ NX) :
    PlayAt I w (((((((w7.setCell ⟨NX, 0, none⟩ (.slice (some ⟨q.gl, 0, none⟩) R.l.length q.cl)).setCell ⟨NX, 1, none⟩ (.slice (some ⟨q.gt, 0, none⟩) R.T.length q.ct)).setCell ⟨NX, 2, none⟩ (.int .i64 R.s.gen)).setCell ⟨NX, 3, none⟩ (.int .i64 R.s.root)).setCell ⟨NX, 4, none⟩ (.int .i64 R.s.log)).setCell ⟨NX, 5, none⟩ (.int .i64 R.s.next)).setCell ⟨NX, 6, none⟩ (.slice (some ⟨q.gk, 0, none⟩) R.K.length q.ck))
      B NX d vs st b c m vc X R q j := by
  have hsf := box_safe hs hb
  have k3 := keptS7 (S := fun k => k = NX) (n := NX) (Kept.refl _ w7) rfl (.slice (some ⟨q.gl, 0, none⟩) R.l.length q.cl) (.slice (some ⟨q.gt, 0, none⟩) R.T.length q.ct) (.int .i64 R.s.gen) (.int .i64 R.s.root) (.int .i64 R.s.log) (.int .i64 R.s.next) (.slice (some ⟨q.gk, 0, none⟩) R.K.length q.ck)
  have n1 : q.gl ≠ NX := hr.ints.ne hb (by decide)
  have n2 : q.gt ≠ NX := SR.ne hr.texts hb (by decide)
  have n3 : q.gk ≠ NX := SR.ne hr.keeps hb (by decide)
  exact ⟨hs.keptS k3 (fun i h e => hsf (e ▸ h)) (fun e => ne_type hs.sp.head hb (by decide) e), hr.kept k3 n1 n2 n3, set7 hb _ _ _ _ _ _ _, hi, hg, hk.then k3 (by intro i hi e; omega), hn, hv, hx⟩

theorem PlayAt.keptF {I w wr w' B NX d vs st b c m vc X R q j} (h : PlayAt I w wr B NX d vs st b c m vc X R q j) (k : Kept (fun _ => False) wr w') : PlayAt I w w' B NX d vs st b c m vc X R q j :=
  ⟨h.sto.keptF k, h.ref.keptF k, k.heap h.box (fun f => f), h.inv, h.gen, h.kept.trans k, h.new, h.vsB, h.nx⟩
/-- The reference's states are laid into its box. -/
theorem PlayAt.boxedL {I : Sto → RSto → Prop} {w w7 : World} {B NX d : Nat} {vs : Value} {st b c m : Nat} {vc : Value} {X : Sto} {R : RSto} {q : RP} {j g' cap' : Nat} {l' : List Nat} (hs : IsStore w7 st b c m d vs vc 8 6 X) (hr : IsRef w7 B q R) (hl : IR w7 g' cap' l') (hlen : l'.length = R.l.length) (h4 : ∀ x ∈ l', x < 4)
    (hb : w7.heap[NX]? = some (.cells (refCells q R) 55 (0, 0))) (hi : I X { R with l := l' }) (hg : X.sup.gen ≤ j + 1) (hk : Kept (fun _ => False) w w7) (hn : ∀ k, StoB st c m d vs vc k → w.heap.size ≤ k) (hv : ∀ k, vs.ownBlock = some k → k < B) (hx : w.heap.size ≤ NX) :
    PlayAt I w (w7.setCell ⟨NX, 0, none⟩ (.slice (some ⟨g', 0, none⟩) R.l.length cap')) B NX d vs st b c m vc X { R with l := l' } { q with gl := g', cl := cap' } j := by
  have hsf := box_safe hs hb
  have k3 : Kept (fun k => k = NX) w7 (w7.setCell ⟨NX, 0, none⟩ (.slice (some ⟨g', 0, none⟩) R.l.length cap')) := (Kept.refl _ _).set1 0 _
  have n1 : g' ≠ NX := hl.ne hb (by decide)
  have n2 : q.gt ≠ NX := SR.ne hr.texts hb (by decide)
  have n3 : q.gk ≠ NX := SR.ne hr.keeps hb (by decide)
  refine ⟨hs.keptS k3 (fun i h e => hsf (e ▸ h)) (fun e => ne_type hs.sp.head hb (by decide) e), ⟨hl.kept k3 n1, hr.texts.kept k3 n2, hr.keeps.kept k3 n3, hr.bt, hr.bk, by simp only; rw [hlen]; exact hr.lt, by simp only; rw [hlen]; exact hr.lk, by simp only; rw [hlen]; exact hr.pos, by simp only; rw [hlen]; exact hr.len, h4⟩, ?_, hi, hg, hk.then k3 (by intro i hi e; omega), hn, hv, hx⟩
  rw [heap_set hb, refCells, refCells]
  simp only
  rw [hlen]
  rfl

theorem inv_begin : Inv ((sto0 8 (dev0 40)).check (-1) 1 1).2 (rNew 8) := by
  obtain ⟨-, hh, hod, hl, hsl, hsu⟩ := begin_disk
  have hu : ud (List.replicate 8 0) = List.replicate 8 0 := rfl
  refine ⟨hl, hsu, hh, hsl, by rw [hl]; rfl, by rw [hl]; exact rep_lt4 8, ?_, ?_, ?_, rfl, rfl⟩
  · rw [hl, hu, hsu]
    refine ⟨hod.good, hod.gen, hod.one, hod.two, hod.len, hod.l01, hod.rp, hod.root, ?_⟩
    intro i hi
    exfalso
    rw [List.getD_eq_getElem?_getD, List.getElem?_replicate] at hi
    split at hi <;> simp at hi
  · intro i hi
    exfalso
    rw [hl, List.getD_eq_getElem?_getD, List.getElem?_replicate] at hi
    split at hi <;> simp at hi
  · intro i hi
    exfalso
    rw [hl, List.getD_eq_getElem?_getD, List.getElem?_replicate] at hi
    split at hi <;> simp at hi

end Go.Proofs.Ytfgjehecjgebdaa
