/- PagesPlays: the walk. -/
import Derived.Test.YtfgjehecjgebdaaGreatMg50
import Derived.LaidEqlPtr
import Derived.Test.YtfgjehecjgebdaaGreatMg51
import Derived.Test.YtfgjehecjgebdaaGreatMg47
import Derived.Test.YtfgjehecjgebdaaGreatMg52
import Derived.Test.YtfgjehecjgebdaaGreatMg28
import Derived.Test.YtfgjehecjgebdaaGreatMg26
import Derived.Test.YtfgjehecjgebdaaGreatMg07
namespace Go.Proofs.YtfgjehecjgebdaaGreat
open Go.RowKit Go.Maps Go.ChangeMaps

/-- What holds between two rounds. -/
structure PlayAt (w wr : World) (B NX d : Nat) (vs : Value) (st b c m : Nat) (vc : Value) (X : Sto) (R : RSto) (q : RP) (j : Nat) : Prop where
  sto : IsStore wr st b c m d vs vc 8 6 X
  ref : IsRef wr B q R
  box : wr.heap[NX]? = some (.cells (refCells q R) 31 (0, 0))
  inv : Inv X R
  gen : X.sup.gen ≤ j + 1
  kept : Kept (fun _ => False) w wr
  new : ∀ k, StoB st c m d vs vc k → w.heap.size ≤ k
  vsB : ∀ k, vs.ownBlock = some k → k < B
  nx : w.heap.size ≤ NX

theorem StoDevice_calls {w st b c m d vs vc p g X} (h : IsStore w st b c m d vs vc p g X) : Calls Tryz.prog 29 #[.pointer (some ⟨st, 0, none⟩)] w fun e w' => e = .returned (.pointer (some ⟨d, 0, none⟩)) ∧ w = w' := by
  have hc : w.cell? ⟨st, 1, none⟩ = some (.pointer (some ⟨d, 0, none⟩)) := (cell_heap h.head 1).trans rfl
  clear h
  go_enter Tryz.func29, Tryz.ntmps29
  go_wp2
  go_ret
  exact ⟨rfl, rfl⟩
theorem StoLay_calls {w st b c m d vs vc p g X} (h : IsStore w st b c m d vs vc p g X) : Calls Tryz.prog 30 #[.pointer (some ⟨st, 0, none⟩)] w fun e w' => e = .returned (.agg #[.int .i64 p, .int .i64 g]) ∧ Kept (fun _ => False) w w' := by
  have hhd := h.head
  have c2 : w.cell? ⟨st, 2, none⟩ = some (.int .i64 p) := (cell_heap hhd 2).trans rfl
  have c3 : w.cell? ⟨st, 3, none⟩ = some (.int .i64 g) := (cell_heap hhd 3).trans rfl
  have hl := lt_heap hhd
  clear h hhd
  go_enter Tryz.func30, Tryz.ntmps30
  go_wp2
  refine bodyPost_ret (v := .agg #[.int .i64 p, .int .i64 g]) ?_ rfl ⟨rfl, (Kept.refl _ _).alloc _⟩
  have hh := heap_new w (.cells #[.int .i64 p, .int .i64 g] 52)
  have g0 := (cell_heap hh 0).trans rfl
  have g1 := (cell_heap hh 1).trans rfl
  simp [results, Tryz.f30, go_sem, g0, g1]

/-- The store's blocks are none of the reference's, nor the box of the reference's store. -/
theorem ref_safe {w st b c m d vs vc p g X B q R} (h : IsStore w st b c m d vs vc p g X) (hr : IsRef w B q R) (hv : ∀ k, vs.ownBlock = some k → k < B) :
    ¬ StoB st c m d vs vc q.gl ∧ ¬ StoB st c m d vs vc q.gt ∧ ¬ StoB st c m d vs vc q.gk := by
  obtain ⟨es, clock, hm⟩ := h.put.heap
  obtain ⟨c0, hd⟩ := h.dev.head
  have key : ∀ {k : Nat} {cs : Array Value} {e : TypeId} {f : Nat × Nat}, w.heap[k]? = some (.cells cs e f) → e ≠ 81 → e ≠ 5 → e ≠ 136 → e ≠ 138 → (vs.ownBlock = some k → False) → ¬ StoB st c m d vs vc k := by
    intro k cs e f hk h1 h2 h3 h4 h5
    rintro (rfl | rfl | rfl | rfl | e1 | e1)
    · exact ne_type hk h.head h1 rfl
    · exact ne_type hk h.sp.row h2 rfl
    · exact map_ne hm hk rfl
    · exact ne_type hk hd h3 rfl
    · exact h5 e1
    · obtain ⟨cs', f', hg⟩ := own_type h.dev.cache e1; exact ne_type hk hg h4 rfl
  obtain ⟨cs1, f1, g1, _⟩ := RowIs.of_own hr.ints
  obtain ⟨cs2, f2, g2, _⟩ := RowIs.of_own hr.texts
  obtain ⟨cs3, f3, g3, _⟩ := RowIs.of_own hr.keeps
  refine ⟨key g1 (by decide) (by decide) (by decide) (by decide) ?_, key g2 (by decide) (by decide) (by decide) (by decide) ?_, key g3 (by decide) (by decide) (by decide) (by decide) ?_⟩
  · intro e
    obtain ⟨cs', f', hg⟩ := own_type h.dev.secs e
    exact ne_type g1 hg (by decide) rfl
  · intro e; have := hv _ e; have := hr.bt; omega
  · intro e; have := hv _ e; have := hr.bk; omega
theorem box_safe {w st b c m d vs vc p g X} (h : IsStore w st b c m d vs vc p g X) {n : Nat} {cs : Array Value} {f : Nat × Nat} (hb : w.heap[n]? = some (.cells cs 31 f)) : ¬ StoB st c m d vs vc n := by
  obtain ⟨es, clock, hm⟩ := h.put.heap
  obtain ⟨c0, hd⟩ := h.dev.head
  rintro (rfl | rfl | rfl | rfl | e1 | e1)
  · exact ne_type hb h.head (by decide) rfl
  · exact ne_type hb h.sp.row (by decide) rfl
  · exact map_ne hm hb rfl
  · exact ne_type hb hd (by decide) rfl
  · obtain ⟨cs', f', hg⟩ := own_type h.dev.secs e1; exact ne_type hb hg (by decide) rfl
  · obtain ⟨cs', f', hg⟩ := own_type h.dev.cache e1; exact ne_type hb hg (by decide) rfl
theorem run_same_dev (a : Addr) (w : World) : (binOp .eql 23 (.pointer (some a)) (.pointer (some a))).run Tryz.prog w = .ok (.bool true) w := by
  have hs : (Tryz.prog.info? 136).isSome = true := by kernel_rfl
  obtain ⟨j, hj⟩ := Option.isSome_iff_exists.1 hs
  have hp : Tryz.prog.underlying 23 = some (.pointer 136) := by kernel_rfl
  exact run_eql_ptr_same w a hp hj

theorem IsStore.keptS {w w' st b c m d vs vc p g X} {S : Nat → Prop} (h : IsStore w st b c m d vs vc p g X) (k : Kept S w w') (hS : ∀ i, StoB st c m d vs vc i → ¬ S i) (hb : ¬ S b) : IsStore w' st b c m d vs vc p g X :=
  ⟨k.heap h.head (hS _ (.inl rfl)), ⟨k.heap h.sp.head hb, k.heap h.sp.row (hS _ (.inr (.inl rfl))), h.sp.le, h.sp.len⟩, h.put.kept k (hS _ (.inr (.inr (.inl rfl)))), h.dev.kept k (hS _ (.inr (.inr (.inr (.inl rfl))))) (fun _ e => hS _ (.inr (.inr (.inr (.inr (.inl e)))))) (fun _ e => hS _ (.inr (.inr (.inr (.inr (.inr e)))))), h.len, h.lay⟩
/-- The reference's store is laid into its box. -/
theorem PlayAt.boxed {w w7 : World} {B NX d : Nat} {vs : Value} {st b c m : Nat} {vc : Value} {X : Sto} {R : RSto} {q : RP} {j : Nat} {z0 z1 z2 z3 z4 z5 z6 : Value} (hs : IsStore w7 st b c m d vs vc 8 6 X) (hr : IsRef w7 B q R)
    (hb : w7.heap[NX]? = some (.cells #[z0, z1, z2, z3, z4, z5, z6] 31 (0, 0))) (hi : Inv X R) (hg : X.sup.gen ≤ j + 1) (hk : Kept (fun _ => False) w w7) (hn : ∀ k, StoB st c m d vs vc k → w.heap.size ≤ k) (hv : ∀ k, vs.ownBlock = some k → k < B) (hx : w.heap.size ≤ NX) :
    PlayAt w (((((((w7.setCell ⟨NX, 0, none⟩ (.slice (some ⟨q.gl, 0, none⟩) R.l.length q.cl)).setCell ⟨NX, 1, none⟩ (.slice (some ⟨q.gt, 0, none⟩) R.T.length q.ct)).setCell ⟨NX, 2, none⟩ (.int .i64 R.s.gen)).setCell ⟨NX, 3, none⟩ (.int .i64 R.s.root)).setCell ⟨NX, 4, none⟩ (.int .i64 R.s.log)).setCell ⟨NX, 5, none⟩ (.int .i64 R.s.next)).setCell ⟨NX, 6, none⟩ (.slice (some ⟨q.gk, 0, none⟩) R.K.length q.ck))
      B NX d vs st b c m vc X R q j := by
  have hsf := box_safe hs hb
  have k3 := keptS7 (S := fun k => k = NX) (n := NX) (Kept.refl _ w7) rfl (.slice (some ⟨q.gl, 0, none⟩) R.l.length q.cl) (.slice (some ⟨q.gt, 0, none⟩) R.T.length q.ct) (.int .i64 R.s.gen) (.int .i64 R.s.root) (.int .i64 R.s.log) (.int .i64 R.s.next) (.slice (some ⟨q.gk, 0, none⟩) R.K.length q.ck)
  have n1 : q.gl ≠ NX := hr.ints.ne hb (by decide)
  have n2 : q.gt ≠ NX := SR.ne hr.texts hb (by decide)
  have n3 : q.gk ≠ NX := SR.ne hr.keeps hb (by decide)
  exact ⟨hs.keptS k3 (fun i h e => hsf (e ▸ h)) (fun e => ne_type hs.sp.head hb (by decide) e), hr.kept k3 n1 n2 n3, set7 hb _ _ _ _ _ _ _, hi, hg, hk.then k3 (by intro i hi e; omega), hn, hv, hx⟩

theorem PlayAt.keptF {w wr w' B NX d vs st b c m vc X R q j} (h : PlayAt w wr B NX d vs st b c m vc X R q j) (k : Kept (fun _ => False) wr w') : PlayAt w w' B NX d vs st b c m vc X R q j :=
  ⟨h.sto.keptF k, h.ref.keptF k, k.heap h.box (fun f => f), h.inv, h.gen, h.kept.trans k, h.new, h.vsB, h.nx⟩
/-- The reference's states are laid into its box. -/
theorem PlayAt.boxedL {w w7 : World} {B NX d : Nat} {vs : Value} {st b c m : Nat} {vc : Value} {X : Sto} {R : RSto} {q : RP} {j g' cap' : Nat} {l' : List Nat} (hs : IsStore w7 st b c m d vs vc 8 6 X) (hr : IsRef w7 B q R) (hl : IR w7 g' cap' l') (hlen : l'.length = R.l.length) (h4 : ∀ x ∈ l', x < 4)
    (hb : w7.heap[NX]? = some (.cells (refCells q R) 31 (0, 0))) (hi : Inv X { R with l := l' }) (hg : X.sup.gen ≤ j + 1) (hk : Kept (fun _ => False) w w7) (hn : ∀ k, StoB st c m d vs vc k → w.heap.size ≤ k) (hv : ∀ k, vs.ownBlock = some k → k < B) (hx : w.heap.size ≤ NX) :
    PlayAt w (w7.setCell ⟨NX, 0, none⟩ (.slice (some ⟨g', 0, none⟩) R.l.length cap')) B NX d vs st b c m vc X { R with l := l' } { q with gl := g', cl := cap' } j := by
  have hsf := box_safe hs hb
  have k3 : Kept (fun k => k = NX) w7 (w7.setCell ⟨NX, 0, none⟩ (.slice (some ⟨g', 0, none⟩) R.l.length cap')) := (Kept.refl _ _).set1 0 _
  have n1 : g' ≠ NX := hl.ne hb (by decide)
  have n2 : q.gt ≠ NX := SR.ne hr.texts hb (by decide)
  have n3 : q.gk ≠ NX := SR.ne hr.keeps hb (by decide)
  refine ⟨hs.keptS k3 (fun i h e => hsf (e ▸ h)) (fun e => ne_type hs.sp.head hb (by decide) e), ⟨hl.kept k3 n1, hr.texts.kept k3 n2, hr.keeps.kept k3 n3, hr.bt, hr.bk, by simp only; rw [hlen]; exact hr.lt, by simp only; rw [hlen]; exact hr.lk, by simp only; rw [hlen]; exact hr.pos, by simp only; rw [hlen]; exact hr.len, h4⟩, ?_, hi, hg, hk.then k3 (by intro i hi e; omega), hn, hv, hx⟩
  rw [heap_set hb, refCells, refCells]
  simp only
  rw [hlen]
  rfl

theorem inv_begin : Inv ((sto0 8 (dev0 40)).check (-1) 1 1).2 (rNew 8) := by
  obtain ⟨-, hh, hod, hl, hsl, hsu⟩ := begin_disk
  have hu : ud (List.replicate 8 0) = List.replicate 8 0 := rfl
  refine ⟨hl, hsu, hh, hsl, by rw [hl]; rfl, by rw [hl]; exact rep_lt4 8, ?_, ?_, ?_, rfl, rfl⟩
  · rw [hl, hu, hsu]
    refine ⟨hod.good, hod.gen, hod.one, hod.two, hod.len, hod.l01, hod.rp, hod.root, ?_⟩
    intro i hi
    exfalso
    rw [List.getD_eq_getElem?_getD, List.getElem?_replicate] at hi
    split at hi <;> simp at hi
  · intro i hi
    exfalso
    rw [hl, List.getD_eq_getElem?_getD, List.getElem?_replicate] at hi
    split at hi <;> simp at hi
  · intro i hi
    exfalso
    rw [hl, List.getD_eq_getElem?_getD, List.getElem?_replicate] at hi
    split at hi <;> simp at hi

set_option maxHeartbeats 30000000 in
set_option maxRecDepth 100000 in
theorem plays_walk {A : Option Addr} {len cap b0 off : Nat} {K N L M : Nat → Int} {S : Nat → ByteArray} {P : Nat → Option Addr} {Q : Nat → List Int} {C : Nat → Nat} {w : World} (hm : len ≤ maxLen) (hA : Acts6 w A len b0 off K N L M S P Q C) :
    Calls Tryz.prog 3 #[.slice A len cap] w fun e w' => e = .returned (.bool true) ∧ Kept (fun _ => False) w w' := by
  unfold maxLen at hm
  have HA := Lib.hid hA
  clear hA
  go_enter Tryz.func3, Tryz.ntmps3
  go_wp2_with fail
  refine (begin_calls w).mono ?_
  rintro e w1 ⟨d, st, b, c, m, vs, vc, X, rfl, hs, k1, hX, hfr⟩
  have HS := Lib.hid hs
  have K1 := Lib.hid k1
  have HFR := Lib.hid hfr
  have HX := Lib.hid hX
  have HVS : Hid (∀ k, vs.ownBlock = some k → k < w1.heap.size) := fun k hk => by
    obtain ⟨cs, f, hg⟩ := own_type hs.dev.secs hk
    exact lt_heap hg
  clear hs k1 hX hfr
  go_wp2_with (go_at_call 14; refine (awake_calls _).mono ?_; rintro e w2 ⟨rfl, k2⟩; have K2 := Lib.hid k2; clear k2)
  refine (refNew_calls 8 (by omega) (by omega) w2).mono ?_
  rintro e w3 ⟨q, rfl, hr, k3⟩
  have K3 : Hid (Kept (fun _ => False) w1 w3) := K2.out.trans k3
  have HR := Lib.hid hr
  have HB2 : Hid (w1.heap.size ≤ w2.heap.size) := K2.out.size
  clear hr k3
  have hrv : id (refV q (rNew 8)) = .agg #[.slice (some ⟨q.gl, 0, none⟩) 8 q.cl, .slice (some ⟨q.gt, 0, none⟩) 8 q.ct, .int .i64 1, .int .i64 (-1), .int .i64 1, .int .i64 1, .slice (some ⟨q.gk, 0, none⟩) 8 q.ck] := rfl
  rw [hrv]
  go_wp2_with fail
  obtain ⟨W, hW⟩ : ∃ W, W = w3.alloc (.cells (refCells q (rNew 8)) 31) := ⟨_, rfl⟩
  have HP : Hid (PlayAt w W w2.heap.size w3.heap.size d vs st b c m vc X (rNew 8) q 0) := by
    have k4 : Kept (fun _ => False) w3 W := by rw [hW]; exact (Kept.refl _ _).alloc _
    have k5 := K3.out.trans k4
    refine ⟨HS.out.keptF k5, HR.out.keptF k4, by rw [hW]; exact heap_new _ _, by rw [HX.out]; exact inv_begin, by rw [HX.out, begin_disk.2.2.2.2.2]; simp, K1.out.trans k5, HFR.out, fun k hk => ?_, ?_⟩
    · have := HVS.out k hk; have := HB2.out; omega
    · exact (K1.out.trans K3.out).size
  have hW2 : w3.alloc (.cells #[.slice (some ⟨q.gl, 0, none⟩) 8 q.cl, .slice (some ⟨q.gt, 0, none⟩) 8 q.ct, .int .i64 1, .int .i64 (-1), .int .i64 1, .int .i64 1, .slice (some ⟨q.gk, 0, none⟩) 8 q.ck] 31) = W := hW.symm
  rw [hW2]
  obtain ⟨NX, hNX⟩ : ∃ n, n = w3.heap.size := ⟨_, rfl⟩
  obtain ⟨B, hB⟩ : ∃ n, n = w2.heap.size := ⟨_, rfl⟩
  rw [← hNX, ← hB] at HP
  rw [← hNX]
  clear hrv hW hW2 hNX hB
  go_loopw [4, 7] (fun v i wr => ∃ (j st b c m : Nat) (vc : Value) (X : Sto) (R : RSto) (q : RP), j ≤ 60 ∧ i = .int .i64 j ∧ v = .pointer (some ⟨st, 0, none⟩) ∧ PlayAt w wr B NX d vs st b c m vc X R q j) (fun _ i _ => 60 - (intOf i).toNat)
  case atStart => exact ⟨0, st, b, c, m, vc, X, _, q, by omega, rfl, rfl, HP.out⟩
  case round =>
    obtain ⟨j, st, b, c, m, vc, X, R, q, hj, rfl, rfl, hp⟩ := hrel
    have HP := Lib.hid hp
    have HLY : Hid (∀ W, Calls Tryz.prog 27 #[] W fun e w' => e = .returned (.agg #[.int .i64 8, .int .i64 6]) ∧ Kept (fun _ => False) W w') := Layout_calls
    clear hp
    by_cases hin : j < len ∧ j < 60
    · obtain ⟨hjl, hj60⟩ := hin
      have hA2 := HA.out.kept HP.out.kept
      obtain ⟨hK, hN, hL, hM, hSt, hQ⟩ := hA2.cell j hjl
      obtain ⟨kb1, kb2⟩ := hA2.bd j hjl
      have hAd := hA2.at_ (by omega)
      have hb0 := hA2.lt (by omega)
      have HROW := Lib.hid (hA2.row j hjl)
      have HOLD := Lib.hid (HA.out.row j hjl).1
      clear hA2
      subst hAd
      generalize hKj : K j = kj at *
      generalize hNj : N j = nj at *
      generalize hLj : L j = lj at *
      generalize hMj : M j = mj at *
      generalize hSj : S j = sj at *
      generalize hPj : P j = pj at *
      generalize hQj : Q j = qj at *
      generalize hCj : C j = cj at *
      have HGEN : Hid (kj = K j ∧ nj = N j ∧ lj = L j ∧ mj = M j ∧ sj = S j ∧ pj = P j ∧ qj = Q j ∧ cj = C j) := ⟨hKj.symm, hNj.symm, hLj.symm, hMj.symm, hSj.symm, hPj.symm, hQj.symm, hCj.symm⟩
      clear hKj hNj hLj hMj hSj hPj hQj hCj
      obtain ⟨x0, x1, x2, x3, x4, x5, x6⟩ := cells7 HP.out.box
      have hnx := lt_heap HP.out.box
      have HIS : Hid (∀ W, Kept (fun _ => False) wr W → Calls Tryz.prog 28 #[.pointer (some ⟨st, 0, none⟩), refV q R] W fun e w' => e = .returned (.int .i64 0) ∧ Kept (fun _ => False) W w') := fun W hW =>
        Is_same (HP.out.sto.keptF hW) (HP.out.ref.keptF hW) ⟨HP.out.inv.l, HP.out.inv.s, HP.out.inv.read⟩ HP.out.inv.hale.down (by have := HP.out.inv.n; omega) (by rw [HP.out.inv.hale.cache]; simp)
      unfold refV refCells at HIS
      by_cases e1 : kj = 1
      · subst e1
        obtain ⟨t, ht⟩ : ∃ t, cutTo sj 260 = ba t := ⟨(cutTo sj 260).data.toList, rfl⟩
        obtain ⟨⟨R7, wi, er⟩, hr⟩ : ∃ r, rPut R t = r := ⟨_, rfl⟩
        have HRP := Lib.hid hr
        obtain ⟨s, hs⟩ : ∃ s, s = ba t := ⟨_, rfl⟩
        have HSS := Lib.hid hs
        have CC : Hid (∀ W, Calls Tryz.prog 16 #[.string sj, .int .i64 260] W fun e w' => e = .returned (.string s) ∧ W = w') := fun W => by
          have h := Cut_calls sj 260 W HROW.out.2.2 (by omega)
          rw [ht, ← hs] at h; exact h
        have CP : Hid (∀ W, Kept (fun _ => False) wr W → Calls Tryz.prog 17 #[.pointer (some ⟨st, 0, none⟩), .string s] W fun e w' => e = .returned (.tuple #[.int .i64 wi, .int .i64 er]) ∧ Kept (fun i => i = c ∨ i = m) W w' ∧ ∃ X', IsStore w' st b c m d vs vc 8 6 X' ∧ Inv X' R7 ∧ X'.sup = X.sup) := fun W hW => by
          have h := put_step (HP.out.sto.keptF hW) HP.out.inv t
          rw [hr, ← hs] at h; exact h
        have her : 0 ≤ er ∧ er ≤ 100 := by
          have : er = (rPut R t).2.2 := by rw [hr]
          rw [this]; unfold rPut; split
          · simp
          · split <;> simp
        obtain ⟨her1, her2⟩ := her
        clear hr hs ht
        go_wp2_with fail
        refine (CC.out _).mono ?_
        rintro e w5 ⟨rfl, rfl⟩
        go_wp2_with fail
        refine (CP.out _ ((Kept.refl _ _).alloc _)).mono ?_
        rintro e w6 ⟨rfl, k6, X', h6, hi6, hs6⟩
        have K6 : Hid (Kept (StoB st c m d vs vc) wr w6) := ((Kept.refl (StoB st c m d vs vc) wr).alloc _).trans (k6.mono fun _ _ e => e.elim (fun e => .inr (.inl e)) (fun e => .inr (.inr (.inl e))))
        have HS6 := Lib.hid h6
        have HI6 := Lib.hid hi6
        have HG6 := Lib.hid hs6
        have HSF := Lib.hid (ref_safe HP.out.sto HP.out.ref HP.out.vsB)
        have HR6 := Lib.hid (HP.out.ref.kept K6.out HSF.out.1 HSF.out.2.1 HSF.out.2.2)
        have HB6 := Lib.hid (K6.out.heap HP.out.box (box_safe HP.out.sto HP.out.box))
        have HBW : Hid (B ≤ w6.heap.size) := by
          have h1 := HR6.out.texts.lt
          have h2 := HR6.out.bt
          simp only [Hid]; omega
        clear k6 h6 hi6 hs6 x0 x1 x2 x3 x4 x5 x6
        obtain ⟨y0, y1, y2, y3, y4, y5, y6⟩ := cells7 HB6.out
        have hnx6 := lt_heap HB6.out
        have CR := refPut_calls HR6.out HBW.out t
        rw [HRP.out, ← HSS.out] at CR
        unfold refV refCells at CR
        have CR' := Lib.hid CR
        clear CR
        go_wp2_with fail
        refine CR'.out.mono ?_
        rintro e w7 ⟨q7, rfl, h7, k7⟩
        have HR7 := Lib.hid h7
        have HB7 := Lib.hid (k7.heap HB6.out (fun f => f))
        have K7 := Lib.hid k7
        obtain ⟨z0, z1, z2, z3, z4, z5, z6⟩ := cells7 HB7.out
        obtain ⟨g0, g1, g2, g3, g4, g5, g6⟩ := free7 HB7.out
        have hnx7 := lt_heap HB7.out
        clear h7 k7 y0 y1 y2 y3 y4 y5 y6 hnx6
        simp only [refV, refCells]
        go_wp2_with fail
        have KW7 : Kept (fun _ => False) w w7 := (HP.out.kept.then K6.out (fun i hi e => by have := HP.out.new i e; omega)).trans K7.out
        have P7 := PlayAt.boxed (j := j + 1) (HS6.out.keptF K7.out) HR7.out HB7.out HI6.out (by rw [HG6.out]; have := HP.out.gen; omega) KW7 HP.out.new HP.out.vsB HP.out.nx
        have P8 := P7.keptF ((Kept.refl _ _).alloc (.cells (refCells q7 R7) 31))
        have HP8 := Lib.hid P8
        have HI8 := Lib.hid (Is_same P8.sto P8.ref ⟨P8.inv.l, P8.inv.s, P8.inv.read⟩ P8.inv.hale.down (by have := P8.inv.n; omega) (by rw [P8.inv.hale.cache]; simp))
        clear P7 P8 KW7 z0 z1 z2 z3 z4 z5 z6 g0 g1 g2 g3 g4 g5 g6 hnx7
        refine HI8.out.mono ?_
        rintro e w9 ⟨rfl, k9⟩
        have HP9 := Lib.hid (HP8.out.keptF k9)
        clear k9
        go_wp2_with fail
        go_roundw
        case rel => exact ⟨j + 1, st, b, c, m, vc, _, _, q7, by omega, by go_num, rfl, HP9.out⟩
        case measure => simp [intOf]; omega
      · by_cases e2 : kj = 2
        · subst e2
          clear e1
          obtain ⟨⟨gc, l2⟩, hgr⟩ : ∃ r, gvRes X.l nj = r := ⟨_, rfl⟩
          have hcode : gc = 0 ∨ gc = 8 := by
            have : (gvRes X.l nj).1 = 0 ∨ (gvRes X.l nj).1 = 8 := by
              unfold gvRes; split
              · exact .inl rfl
              · split
                · exact .inl rfl
                · exact .inr rfl
            rw [hgr] at this; exact this
          have HGR := Lib.hid hgr
          have CG : Hid (∀ (W : World), Kept (fun _ => False) wr W → Calls Tryz.prog 19 #[.pointer (some ⟨st, 0, none⟩), .int .i64 nj] W fun e w' => e = .returned (.int .i64 gc) ∧ Kept (fun i => i = c ∨ i = m) W w' ∧ IsStore w' st b c m d vs vc 8 6 { X with l := l2 }) := fun W hW => by
            have h1 := StoGive_calls (HP.out.sto.keptF hW) nj
            unfold GivePost at h1
            rw [hgr] at h1
            exact h1
          clear hgr
          go_wp2_with fail
          refine (CG.out _ ((Kept.refl _ _).alloc _)).mono ?_
          rintro e w6 ⟨rfl, k6, h6⟩
          have K6 : Hid (Kept (StoB st c m d vs vc) wr w6) := ((Kept.refl (StoB st c m d vs vc) wr).alloc _).trans (k6.mono fun _ _ e => e.elim (fun e => .inr (.inl e)) (fun e => .inr (.inr (.inl e))))
          have HS6 := Lib.hid h6
          have HSF := Lib.hid (ref_safe HP.out.sto HP.out.ref HP.out.vsB)
          have HR6 := Lib.hid (HP.out.ref.kept K6.out HSF.out.1 HSF.out.2.1 HSF.out.2.2)
          have HB6 := Lib.hid (K6.out.heap HP.out.box (box_safe HP.out.sto HP.out.box))
          obtain ⟨y0, y1, y2, y3, y4, y5, y6⟩ := cells7 HB6.out
          have hnx6 := lt_heap HB6.out
          have CR := refGive_calls HR6.out.ints HR6.out.len nj
          rw [← HP.out.inv.l, HGR.out, HP.out.inv.l] at CR
          simp only at CR
          have CR' := Lib.hid CR
          have HL4 : Hid (∀ x ∈ l2, x < 4) := h6.sp.le
          obtain ⟨ba1, ba2, ba3, ba4, ba5, hba⟩ := box6 k6 (fun i e => HP.out.sto.below (e.elim (fun e => .inr (.inl e)) (fun e => .inr (.inr (.inl e)))))
          have HINV : Hid (Inv { X with l := l2 } { R with l := l2 }) := by have := HP.out.inv.given nj; rw [HGR.out] at this; exact this
          clear k6 h6 x0 x1 x2 x3 x4 x5 x6 CR
          rcases hcode with rfl | rfl
          all_goals
            go_wp2_with fail
            refine CR'.out.mono ?_
            rintro e w7 ⟨g', cap', rfl, h7, hlen, k7⟩
            have HL7 := Lib.hid h7
            have HLEN := Lib.hid hlen
            have HB7 := Lib.hid (k7.heap HB6.out (fun f => f))
            have K7 := Lib.hid k7
            obtain ⟨z0, z1, z2, z3, z4, z5, z6⟩ := cells7 HB7.out
            obtain ⟨g0, g1, g2, g3, g4, g5, g6⟩ := free7 HB7.out
            have hnx7 := lt_heap HB7.out
            clear h7 k7 hlen y0 y1 y2 y3 y4 y5 y6 hnx6
            go_wp2_with fail
            have KW7 : Kept (fun _ => False) w w7 := (HP.out.kept.then K6.out (fun i hi e => by have := HP.out.new i e; omega)).trans K7.out
            have P8 := PlayAt.boxedL (j := j + 1) (HS6.out.keptF K7.out) (HR6.out.keptF K7.out) HL7.out HLEN.out HL4.out HB7.out HINV.out (by have := HP.out.gen; simp only; omega) KW7 HP.out.new HP.out.vsB HP.out.nx
            have HP8 := Lib.hid P8
            have hi8 := Is_same P8.sto P8.ref ⟨P8.inv.l, P8.inv.s, P8.inv.read⟩ P8.inv.hale.down (by have := P8.inv.n; omega) (by rw [P8.inv.hale.cache]; simp)
            unfold refV refCells at hi8
            simp only at hi8
            rw [HLEN.out] at hi8
            have HI8 := Lib.hid hi8
            clear P8 hi8 KW7 z0 z1 z2 z3 z4 z5 z6 g0 g1 g2 g3 g4 g5 g6 hnx7
            refine HI8.out.mono ?_
            rintro e w9 ⟨rfl, k9⟩
            have HP9 := Lib.hid (HP8.out.keptF k9)
            clear k9
            go_wp2_with fail
            go_roundw
            case rel => exact ⟨j + 1, st, b, c, m, vc, _, _, _, by omega, by go_num, rfl, HP9.out⟩
            case measure => simp [intOf]; omega
        · by_cases e3 : kj = 3
          · subst e3
            clear e1 e2
            obtain ⟨⟨R7, er⟩, hr⟩ : ∃ r, rCheck R nj lj mj = r := ⟨_, rfl⟩
            have HRP := Lib.hid hr
            have hxg : X.sup.gen ≤ 100 := by have := HP.out.gen; omega
            have CP : Hid (∀ W, Kept (fun _ => False) wr W → Calls Tryz.prog 21 #[.pointer (some ⟨st, 0, none⟩), .int .i64 nj, .int .i64 lj, .int .i64 mj] W fun e w' => e = .returned (.int .i64 er) ∧ ∃ vc' X', StoTo W st b c m d vs vc 8 6 w' vc' X' ∧ Inv X' R7 ∧ X'.sup.gen ≤ X.sup.gen + 1) := fun W hW => by
              have h := ck_step (HP.out.sto.keptF hW) HP.out.inv (by omega) nj lj mj
              rw [hr] at h; exact h
            have her : 0 ≤ er ∧ er ≤ 100 := by have := rCheck_bd R nj lj mj; rw [hr] at this; exact this
            obtain ⟨her1, her2⟩ := her
            have HRG : Hid (R.s.gen ≤ 1099511627776) := by rw [Hid, ← HP.out.inv.s]; omega
            clear hr hxg
            go_wp2_with fail
            refine (CP.out _ ((Kept.refl _ _).alloc _)).mono ?_
            rintro e w6 ⟨rfl, vc', X', hto, hi6, hs6⟩
            have K6 : Hid (Kept (StoB st c m d vs vc) wr w6) := ((Kept.refl (StoB st c m d vs vc) wr).alloc _).trans hto.kept
            have HS6 := Lib.hid hto.sto
            have HI6 := Lib.hid hi6
            have HG6 := Lib.hid hs6
            have HNEW : Hid (∀ k, StoB st c m d vs vc' k → w.heap.size ≤ k) := by
              intro k hk
              rcases hk with e | e | e | e | e | e
              · exact HP.out.new k (.inl e)
              · exact HP.out.new k (.inr (.inl e))
              · exact HP.out.new k (.inr (.inr (.inl e)))
              · exact HP.out.new k (.inr (.inr (.inr (.inl e))))
              · exact HP.out.new k (.inr (.inr (.inr (.inr (.inl e)))))
              · rcases hto.own k e with e | e
                · exact HP.out.new k (.inr (.inr (.inr (.inr (.inr e)))))
                · have := HP.out.kept.size; simp at e; omega
            have HSF := Lib.hid (ref_safe HP.out.sto HP.out.ref HP.out.vsB)
            have HR6 := Lib.hid (HP.out.ref.kept K6.out HSF.out.1 HSF.out.2.1 HSF.out.2.2)
            have HB6 := Lib.hid (K6.out.heap HP.out.box (box_safe HP.out.sto HP.out.box))
            obtain ⟨ba1, ba2, ba3, ba4, ba5, hba⟩ := box6 hto.kept (fun i e => HP.out.sto.below e)
            clear hto hi6 hs6 x0 x1 x2 x3 x4 x5 x6
            obtain ⟨y0, y1, y2, y3, y4, y5, y6⟩ := cells7 HB6.out
            have hnx6 := lt_heap HB6.out
            have CR := refCheck_calls HR6.out nj lj mj HRG.out
            rw [HRP.out] at CR
            unfold refV refCells at CR
            have CR' := Lib.hid CR
            clear CR
            go_wp2_with fail
            refine CR'.out.mono ?_
            rintro e w7 ⟨q7, rfl, h7, k7⟩
            have HR7 := Lib.hid h7
            have HB7 := Lib.hid (k7.heap HB6.out (fun f => f))
            have K7 := Lib.hid k7
            obtain ⟨z0, z1, z2, z3, z4, z5, z6⟩ := cells7 HB7.out
            obtain ⟨g0, g1, g2, g3, g4, g5, g6⟩ := free7 HB7.out
            have hnx7 := lt_heap HB7.out
            clear h7 k7 y0 y1 y2 y3 y4 y5 y6 hnx6
            simp only [refV, refCells]
            go_wp2_with fail
            have KW7 : Kept (fun _ => False) w w7 := (HP.out.kept.then K6.out (fun i hi e => by have := HP.out.new i e; omega)).trans K7.out
            have P7 := PlayAt.boxed (j := j + 1) (HS6.out.keptF K7.out) HR7.out HB7.out HI6.out (by have := HG6.out; have := HP.out.gen; omega) KW7 HNEW.out HP.out.vsB HP.out.nx
            have P8 := P7.keptF ((Kept.refl _ _).alloc (.cells (refCells q7 R7) 31))
            have HP8 := Lib.hid P8
            have HI8 := Lib.hid (Is_same P8.sto P8.ref ⟨P8.inv.l, P8.inv.s, P8.inv.read⟩ P8.inv.hale.down (by have := P8.inv.n; omega) (by rw [P8.inv.hale.cache]; simp))
            clear P7 P8 KW7 z0 z1 z2 z3 z4 z5 z6 g0 g1 g2 g3 g4 g5 g6 hnx7
            refine HI8.out.mono ?_
            rintro e w9 ⟨rfl, k9⟩
            have HP9 := Lib.hid (HP8.out.keptF k9)
            clear k9
            go_wp2_with fail
            go_roundw
            case rel => exact ⟨j + 1, st, b, c, m, vc', _, _, q7, by omega, by go_num, rfl, HP9.out⟩
            case measure => simp [intOf]; omega
          · by_cases e4 : kj = 4
            · subst e4
              clear e1 e2 e3
              have CU := Lib.hid (fun (W : World) (hW : Kept (fun _ => False) wr W) => StoUndo_calls (HP.out.sto.keptF hW))
              go_wp2_with fail
              refine (CU.out _ ((Kept.refl _ _).alloc _)).mono ?_
              rintro e w6 ⟨rfl, k6, h6⟩
              have K6 : Hid (Kept (StoB st c m d vs vc) wr w6) := ((Kept.refl (StoB st c m d vs vc) wr).alloc _).trans (k6.mono fun _ _ e => e.elim (fun e => .inr (.inl e)) (fun e => .inr (.inr (.inl e))))
              have HS6 := Lib.hid h6
              have HSF := Lib.hid (ref_safe HP.out.sto HP.out.ref HP.out.vsB)
              have HR6 := Lib.hid (HP.out.ref.kept K6.out HSF.out.1 HSF.out.2.1 HSF.out.2.2)
              have HB6 := Lib.hid (K6.out.heap HP.out.box (box_safe HP.out.sto HP.out.box))
              have HBW : Hid (B ≤ w6.heap.size) := by
                have h1 := HR6.out.texts.lt
                have h2 := HR6.out.bt
                simp only [Hid]; omega
              clear k6 h6 x0 x1 x2 x3 x4 x5 x6
              obtain ⟨y0, y1, y2, y3, y4, y5, y6⟩ := cells7 HB6.out
              have hnx6 := lt_heap HB6.out
              have CR := refUndo7_calls HR6.out HBW.out
              unfold refV refCells at CR
              have CR' := Lib.hid CR
              clear CR
              go_wp2_with fail
              refine CR'.out.mono ?_
              rintro e w7 ⟨q7, rfl, h7, k7⟩
              have HR7 := Lib.hid h7
              have HB7 := Lib.hid (k7.heap HB6.out (fun f => f))
              have K7 := Lib.hid k7
              obtain ⟨z0, z1, z2, z3, z4, z5, z6⟩ := cells7 HB7.out
              obtain ⟨g0, g1, g2, g3, g4, g5, g6⟩ := free7 HB7.out
              have hnx7 := lt_heap HB7.out
              clear h7 k7 y0 y1 y2 y3 y4 y5 y6 hnx6
              simp only [id, refV, refCells]
              go_wp2_with fail
              have KW7 : Kept (fun _ => False) w w7 := (HP.out.kept.then K6.out (fun i hi e => by have := HP.out.new i e; omega)).trans K7.out
              have P8 := PlayAt.boxed (j := j + 1) (HS6.out.keptF K7.out) HR7.out HB7.out (HP.out.inv.undone X.T X.D HP.out.inv.hale rfl) (by have := HP.out.gen; simp only; omega) KW7 HP.out.new HP.out.vsB HP.out.nx
              have HP8 := Lib.hid P8
              have HI8 := Lib.hid (Is_same P8.sto P8.ref ⟨P8.inv.l, P8.inv.s, P8.inv.read⟩ P8.inv.hale.down (by have := P8.inv.n; omega) (by rw [P8.inv.hale.cache]; simp))
              clear P8 KW7 z0 z1 z2 z3 z4 z5 z6 g0 g1 g2 g3 g4 g5 g6 hnx7
              refine HI8.out.mono ?_
              rintro e w9 ⟨rfl, k9⟩
              have HP9 := Lib.hid (HP8.out.keptF k9)
              clear k9
              go_wp2_with fail
              go_roundw
              case rel => exact ⟨j + 1, st, b, c, m, vc, _, _, q7, by omega, by go_num, rfl, HP9.out⟩
              case measure => simp [intOf]; omega
            · by_cases e5 : kj = 5
              · subst e5
                clear e1 e2 e3 e4
                have CC : Hid (∀ W, Kept (fun _ => False) wr W → Calls Tryz.prog 25 #[.pointer (some ⟨d, 0, none⟩), .slice pj qj.length cj] W (CrashPost W d vs vc X.D)) := fun W hW => by
                  have h := DevCrash_calls (cap := cj) (HP.out.sto.keptF hW).dev (by rw [HP.out.inv.hale.cache]; simp) (HROW.out.1.ofKept hW) HROW.out.2.1 (by
                    intro a ha hp
                    obtain ⟨b1, o1, hb1, hlt1, _⟩ := HOLD.out hp
                    rw [hb1] at ha
                    injection ha with ha
                    subst ha
                    rintro (e | e | e)
                    · have := HP.out.new _ (.inr (.inr (.inr (.inl e)))); simp only at this; omega
                    · have := HP.out.new _ (.inr (.inr (.inr (.inr (.inl e))))); simp only at this; omega
                    · have := HP.out.new _ (.inr (.inr (.inr (.inr (.inr e))))); simp only at this; omega)
                  rw [crash_hale HP.out.inv.hale] at h; exact h
                go_wp2_with fail
                refine (CC.out _ ((Kept.refl _ _).alloc _)).mono ?_
                rintro e w5 ⟨rfl, hdt⟩
                have K5 : Hid (Kept (StoB st c m d vs vc) wr w5) := ((Kept.refl (StoB st c m d vs vc) wr).alloc _).trans (hdt.kept.mono fun _ _ e => by rcases e with e | e | e; exact .inr (.inr (.inr (.inl e))); exact .inr (.inr (.inr (.inr (.inl e)))); exact .inr (.inr (.inr (.inr (.inr e)))))
                have HD5 := Lib.hid hdt.dev
                have HSF := Lib.hid (ref_safe HP.out.sto HP.out.ref HP.out.vsB)
                have HR5 := Lib.hid (HP.out.ref.kept K5.out HSF.out.1 HSF.out.2.1 HSF.out.2.2)
                have HB5 := Lib.hid (K5.out.heap HP.out.box (box_safe HP.out.sto HP.out.box))
                clear hdt x0 x1 x2 x3 x4 x5 x6
                go_wp2_with fail
                refine (HLY.out _).mono ?_
                rintro e w6 ⟨rfl, k6⟩
                have K6 := Lib.hid k6
                have HO := Lib.hid (open_step (HD5.out.keptF k6) HP.out.inv)
                clear k6
                go_wp2_with fail
                refine HO.out.mono ?_
                rintro e w7 ⟨k7, st', rfl, b', c', m', vc', g1, g2, g3, g4, hs7, -, hown7⟩
                have K57 : Hid (Kept (fun _ => False) w5 w7) := K6.out.trans k7
                have HS7 := Lib.hid hs7
                have HR7 := Lib.hid (HR5.out.keptF K57.out)
                have HB7 := Lib.hid (K57.out.heap HB5.out id)
                have hsz : Hid (w.heap.size ≤ w6.heap.size) := by
                  have h1 := HP.out.kept.size
                  have h2 := K5.out.size
                  have h3 := K6.out.size
                  simp only [Hid]; omega
                have HNEW : Hid (∀ k, StoB st' c' m' d vs vc' k → w.heap.size ≤ k) := by
                  intro k hk
                  have h0 := hsz.out
                  rcases hk with e | e | e | e | e | e
                  · omega
                  · omega
                  · omega
                  · exact HP.out.new k (.inr (.inr (.inr (.inl e))))
                  · exact HP.out.new k (.inr (.inr (.inr (.inr (.inl e)))))
                  · rcases hown7 k e with e | e
                    · simp [Value.ownBlock] at e
                    · omega
                have HBW : Hid (B ≤ w7.heap.size) := by
                  have h1 := HR7.out.texts.lt
                  have h2 := HR7.out.bt
                  simp only [Hid]; omega
                clear k7 g1 g2 g3 g4 hs7 hown7
                obtain ⟨y0, y1, y2, y3, y4, y5, y6⟩ := cells7 HB7.out
                have hnx7 := lt_heap HB7.out
                have CR := refUndo7_calls HR7.out HBW.out
                unfold refV refCells at CR
                have CR' := Lib.hid CR
                clear CR
                go_wp2_with fail
                refine CR'.out.mono ?_
                rintro e w8 ⟨q8, rfl, h8, k8⟩
                have HR8 := Lib.hid h8
                have HB8 := Lib.hid (k8.heap HB7.out (fun f => f))
                have K8 := Lib.hid k8
                obtain ⟨z0, z1, z2, z3, z4, z5, z6⟩ := cells7 HB8.out
                obtain ⟨g0, g1, g2, g3, g4, g5, g6⟩ := free7 HB8.out
                have hnx8 := lt_heap HB8.out
                clear h8 k8 y0 y1 y2 y3 y4 y5 y6 hnx7
                simp only [id, refV, refCells]
                go_wp2_with fail
                have KW8 : Kept (fun _ => False) w w8 := ((HP.out.kept.then K5.out (fun i hi e => by have := HP.out.new i e; omega)).trans K57.out).trans K8.out
                have P9 := PlayAt.boxed (j := j + 1) (HS7.out.keptF K8.out) HR8.out HB8.out (HP.out.inv.undone (fun _ => []) X.D HP.out.inv.hale rfl) (by have := HP.out.gen; simp only; omega) KW8 HNEW.out HP.out.vsB HP.out.nx
                have HP9 := Lib.hid P9
                have HI9 := Lib.hid (Is_same P9.sto P9.ref ⟨P9.inv.l, P9.inv.s, P9.inv.read⟩ P9.inv.hale.down (by have := P9.inv.n; omega) (by rw [P9.inv.hale.cache]; simp))
                clear P9 KW8 z0 z1 z2 z3 z4 z5 z6 g0 g1 g2 g3 g4 g5 g6 hnx8
                refine HI9.out.mono ?_
                rintro e w10 ⟨rfl, k10⟩
                have HP10 := Lib.hid (HP9.out.keptF k10)
                clear k10
                go_wp2_with fail
                go_roundw
                case rel => exact ⟨j + 1, st', b', c', m', vc', _, _, q8, by omega, by go_num, rfl, HP10.out⟩
                case measure => simp [intOf]; omega
              · have t1 : (kj == 1) = false := by simpa using e1
                have t2 : (kj == 2) = false := by simpa using e2
                have t3 : (kj == 3) = false := by simpa using e3
                have t4 : (kj == 4) = false := by simpa using e4
                have t5 : (kj == 5) = false := by simpa using e5
                clear e1 e2 e3 e4 e5
                go_wp2_with fail
                refine (HIS.out _ ((Kept.refl _ _).alloc _)).mono ?_
                rintro e w6 ⟨rfl, k6⟩
                have K6 : Hid (Kept (fun _ => False) wr w6) := ((Kept.refl _ _).alloc _).trans k6
                clear k6
                go_wp2_with fail
                go_roundw
                case rel => exact ⟨j + 1, st, b, c, m, vc, X, R, q, by omega, by go_num, rfl, HP.out.sto.keptF K6.out, HP.out.ref.keptF K6.out, K6.out.heap HP.out.box (fun f => f), HP.out.inv, by have := HP.out.gen; omega, HP.out.kept.trans K6.out, HP.out.new, HP.out.vsB, HP.out.nx⟩
                case measure => simp [intOf]; omega
    · have HDV := Lib.hid (StoDevice_calls HP.out.sto)
      have HLS := Lib.hid (StoLay_calls HP.out.sto)
      have hsd := run_same_dev
      by_cases hjl : j < len
      · have hj60 : ¬ j < 60 := fun h => hin ⟨hjl, h⟩
        go_wp2_with (first
          | (go_at_call 29; refine HDV.out.mono ?_; rintro e w6 ⟨rfl, rfl⟩)
          | (go_at_call 30; refine HLS.out.mono ?_; rintro e w7 ⟨rfl, k7⟩; have K7 := Lib.hid k7; clear k7)
          | (go_at_call 27; refine (HLY.out _).mono ?_; rintro e w8 ⟨rfl, k8⟩; have K8 : Hid (Kept (fun _ => False) w w8) := (HP.out.kept.trans K7.out).trans k8; clear k8))
        go_ret
        exact ⟨rfl, K8.out⟩
      · go_wp2_with (first
          | (go_at_call 29; refine HDV.out.mono ?_; rintro e w6 ⟨rfl, rfl⟩)
          | (go_at_call 30; refine HLS.out.mono ?_; rintro e w7 ⟨rfl, k7⟩; have K7 := Lib.hid k7; clear k7)
          | (go_at_call 27; refine (HLY.out _).mono ?_; rintro e w8 ⟨rfl, k8⟩; have K8 : Hid (Kept (fun _ => False) w w8) := (HP.out.kept.trans K7.out).trans k8; clear k8))
        go_ret
        exact ⟨rfl, K8.out⟩

end Go.Proofs.YtfgjehecjgebdaaGreat
