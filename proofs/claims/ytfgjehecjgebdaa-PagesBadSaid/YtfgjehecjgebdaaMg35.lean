/- The reference's pages: New, Put, Read, Checkpoint, Undo, by their contracts. -/
import Derived.Test.YtfgjehecjgebdaaMg32
import Derived.Test.YtfgjehecjgebdaaMg18
namespace Go.Proofs.Ytfgjehecjgebdaa
open Go.RowKit

/-- The reference's store. -/
structure RSto where
  l : List Nat
  T : List (List UInt8)
  s : Sup
  K : List (List UInt8)
/-- Where its rows lie. -/
structure RP where
  gl : Nat
  cl : Nat
  gt : Nat
  ct : Nat
  gk : Nat
  ck : Nat
def refCells (q : RP) (R : RSto) : Array Value := #[.slice (some ⟨q.gl, 0, none⟩) R.l.length q.cl, .slice (some ⟨q.gt, 0, none⟩) R.T.length q.ct, .int .i64 R.s.gen, .int .i64 R.s.root, .int .i64 R.s.log, .int .i64 R.s.next, .slice (some ⟨q.gk, 0, none⟩) R.K.length q.ck]
def refV (q : RP) (R : RSto) : Value := .agg (refCells q R)
/-- A slice of texts of its own. -/
def SR (w : World) (g cap : Nat) (T : List (List UInt8)) : Prop := w.ownsRow 0 9 1 (.slice (some ⟨g, 0, none⟩) T.length cap) T.length (T.map Ss)
theorem SR.kept {w w' g cap T} {S : Nat → Prop} (h : SR w g cap T) (k : Kept S w w') (hs : ¬ S g) : SR w' g cap T :=
  k.own h (by intro g' hg'; simp [Value.ownBlock] at hg'; subst hg'; exact hs)
theorem SR.cell {w g cap T} (h : SR w g cap T) (i : Nat) (hi : i < T.length) : w.cell? ⟨g, i, none⟩ = some (.string (ba T[i])) := by
  have := h.cellAt i (by omega)
  rw [this]
  simp [hi, Ss]
theorem SR.reads {w g cap T} (h : SR w g cap T) : Reads w w.heap.size 1 (some ⟨g, 0, none⟩) T.length (T.map Ss) := Reads.of_own h
theorem SR.lt {w g cap T} (h : SR w g cap T) : g < w.heap.size := RowIs.lt (RowIs.of_own h)
theorem IR.lt {w g cap l} (h : IR w g cap l) : g < w.heap.size := RowIs.lt (RowIs.of_own h)
theorem own_made {w : World} {g n : Nat} {e : TypeId} {z : Value} (h : w.heap[g]? = some (.cells (Array.replicate n z) e (0, 0))) (hn : n ≤ maxLen) : w.ownsRow 0 e 1 (.slice (some ⟨g, 0, none⟩) n n) n (List.replicate n z) :=
  ⟨by simp, .inr ⟨g, n, _, rfl, Nat.zero_le _, h, Nat.le_refl _, hn, by simp, by simp⟩⟩
theorem SR.made {w : World} {g n : Nat} (h : w.heap[g]? = some (.cells (Array.replicate n (.string ⟨#[]⟩)) 9 (0, 0))) (hn : n ≤ maxLen) : SR w g n (List.replicate n []) := by
  have := own_made h hn
  unfold SR
  simp only [List.length_replicate, List.map_replicate]
  exact this
theorem IR.made {w : World} {g n : Nat} (h : w.heap[g]? = some (.cells (Array.replicate n (.int .i64 0)) 3 (0, 0))) (hn : n ≤ maxLen) : IR w g n (List.replicate n 0) := by
  have := own_made h hn
  unfold IR
  simp only [List.length_replicate, List.map_replicate]
  exact this

structure IsRef (w : World) (B : Nat) (q : RP) (R : RSto) : Prop where
  ints : IR w q.gl q.cl R.l
  texts : SR w q.gt q.ct R.T
  keeps : SR w q.gk q.ck R.K
  bt : B ≤ q.gt
  bk : B ≤ q.gk
  lt : R.T.length = R.l.length
  lk : R.K.length = R.l.length
  pos : 0 < R.l.length
  len : R.l.length ≤ 128
  lt4 : ∀ x ∈ R.l, x < 4
theorem IsRef.kept {w w' B q R} {S : Nat → Prop} (h : IsRef w B q R) (k : Kept S w w') (h1 : ¬ S q.gl) (h2 : ¬ S q.gt) (h3 : ¬ S q.gk) : IsRef w' B q R :=
  ⟨h.ints.kept k h1, h.texts.kept k h2, h.keeps.kept k h3, h.bt, h.bk, h.lt, h.lk, h.pos, h.len, h.lt4⟩
theorem IsRef.keptF {w w' B q R} (h : IsRef w B q R) (k : Kept (fun _ => False) w w') : IsRef w' B q R := h.kept k id id id

/-- What a call leaves that hands a store back, with what else. -/
def RefPost (B : Nat) (R' : RSto) (mk : Value → Value) (w : World) (e : Ending) (w' : World) : Prop :=
  ∃ q, e = .returned (mk (refV q R')) ∧ IsRef w' B q R' ∧ Kept (fun _ => False) w w'

theorem rep_lt4 (n : Nat) : ∀ x ∈ List.replicate n 0, x < 4 := by
  intro x hx; rw [(List.mem_replicate.1 hx).2]; omega
def rNew (n : Nat) : RSto := ⟨List.replicate n 0, List.replicate n [], ⟨1, -1, 1, 1⟩, List.replicate n []⟩

theorem new_fin (w : World) (n : Nat) (hmx : n ≤ maxLen) (h0 : 0 < n) (hn : n ≤ 128) {W : World} (a b c : Nat) (ha : W.heap[a]? = some (.cells (Array.replicate n (.int .i64 0)) 3 (0, 0)))
    (hb : W.heap[b]? = some (.cells (Array.replicate n (.string ⟨#[]⟩)) 9 (0, 0))) (hc : W.heap[c]? = some (.cells (Array.replicate n (.string ⟨#[]⟩)) 9 (0, 0))) (h2 : w.heap.size ≤ b) (h3 : w.heap.size ≤ c)
    (k : Kept (fun _ => False) w W) : RefPost w.heap.size (rNew n) id w (.returned (refV ⟨a, n, b, n, c, n⟩ (rNew n))) W :=
  ⟨⟨a, n, b, n, c, n⟩, rfl, ⟨IR.made ha hmx, SR.made hb hmx, SR.made hc hmx, h2, h3, by simp [rNew], by simp [rNew], by simpa [rNew] using h0, by simpa [rNew] using hn, rep_lt4 n⟩, k⟩

set_option maxHeartbeats 4000000 in
set_option maxRecDepth 100000 in
theorem refNew_calls (n : Nat) (h0 : 0 < n) (hn : n ≤ 128) (w : World) : Calls Try.prog 29 #[.int .i64 n] w (RefPost w.heap.size (rNew n) id w) := by
  have hm1 := fun w : World => run_make_n w und_ints info_int rfl n (by omega) (by unfold maxLen; omega)
  have hm2 := fun w : World => run_make_n w und_strs info_str rfl n (by omega) (by unfold maxLen; omega)
  have hmx : n ≤ maxLen := by unfold maxLen; omega
  go_enter Try.func29, Try.ntmps29
  go_wp2_with fail
  go_region
  all_goals go_wp2_with fail
  all_goals first
    | refine bodyPost_ret (v := refV ⟨w.heap.size + 1, n, w.heap.size + 1 + 1, n, w.heap.size + 1 + 1 + 1, n⟩ (rNew n)) ?_ rfl ?_
      · simp [results, Try.f29, go_sem, refV, refCells, rNew]
      · exact new_fin w n hmx h0 hn _ _ _ (heap_old (heap_old (heap_newAt (by simp) _) _) _) (heap_old (heap_newAt (by simp) _) _) (heap_newAt (by simp) _) (by omega) (by omega) (((((Kept.refl _ _).alloc _).alloc _).alloc _).alloc _).drew
    | refine bodyPost_ret (v := refV ⟨w.heap.size + 1, n, w.heap.size + 1 + 1 + 1, n, w.heap.size + 1 + 1, n⟩ (rNew n)) ?_ rfl ?_
      · simp [results, Try.f29, go_sem, refV, refCells, rNew]
      · exact new_fin w n hmx h0 hn _ _ _ (heap_old (heap_old (heap_newAt (by simp) _) _) _) (heap_newAt (by simp) _) (heap_old (heap_newAt (by simp) _) _) (by omega) (by omega) (((((Kept.refl _ _).alloc _).alloc _).alloc _).alloc _).drew
    | refine bodyPost_ret (v := refV ⟨w.heap.size + 1 + 1, n, w.heap.size + 1, n, w.heap.size + 1 + 1 + 1, n⟩ (rNew n)) ?_ rfl ?_
      · simp [results, Try.f29, go_sem, refV, refCells, rNew]
      · exact new_fin w n hmx h0 hn _ _ _ (heap_old (heap_newAt (by simp) _) _) (heap_old (heap_old (heap_newAt (by simp) _) _) _) (heap_newAt (by simp) _) (by omega) (by omega) (((((Kept.refl _ _).alloc _).alloc _).alloc _).alloc _).drew
    | refine bodyPost_ret (v := refV ⟨w.heap.size + 1 + 1, n, w.heap.size + 1 + 1 + 1, n, w.heap.size + 1, n⟩ (rNew n)) ?_ rfl ?_
      · simp [results, Try.f29, go_sem, refV, refCells, rNew]
      · exact new_fin w n hmx h0 hn _ _ _ (heap_old (heap_newAt (by simp) _) _) (heap_newAt (by simp) _) (heap_old (heap_old (heap_newAt (by simp) _) _) _) (by omega) (by omega) (((((Kept.refl _ _).alloc _).alloc _).alloc _).alloc _).drew
    | refine bodyPost_ret (v := refV ⟨w.heap.size + 1 + 1 + 1, n, w.heap.size + 1, n, w.heap.size + 1 + 1, n⟩ (rNew n)) ?_ rfl ?_
      · simp [results, Try.f29, go_sem, refV, refCells, rNew]
      · exact new_fin w n hmx h0 hn _ _ _ (heap_newAt (by simp) _) (heap_old (heap_old (heap_newAt (by simp) _) _) _) (heap_old (heap_newAt (by simp) _) _) (by omega) (by omega) (((((Kept.refl _ _).alloc _).alloc _).alloc _).alloc _).drew
    | refine bodyPost_ret (v := refV ⟨w.heap.size + 1 + 1 + 1, n, w.heap.size + 1 + 1, n, w.heap.size + 1, n⟩ (rNew n)) ?_ rfl ?_
      · simp [results, Try.f29, go_sem, refV, refCells, rNew]
      · exact new_fin w n hmx h0 hn _ _ _ (heap_newAt (by simp) _) (heap_old (heap_newAt (by simp) _) _) (heap_old (heap_old (heap_newAt (by simp) _) _) _) (by omega) (by omega) (((((Kept.refl _ _).alloc _).alloc _).alloc _).alloc _).drew

def rRead (R : RSto) (i : Int) : List UInt8 × Int := if i < 0 ∨ (R.l.length : Int) ≤ i ∨ R.l.getD i.toNat 0 = 0 then ([], 8) else (R.T.getD i.toNat [], 0)

set_option maxHeartbeats 4000000 in
set_option maxRecDepth 100000 in
theorem refRead_calls {w B q R} (h : IsRef w B q R) (i : Int) : Calls Try.prog 80 #[refV q R, .int .i64 i] w fun e w' => e = .returned (.tuple #[.string (ba (rRead R i).1), .int .i64 (rRead R i).2]) ∧ Kept (fun _ => False) w w' := by
  have H := Lib.hid h
  have hlen := h.len
  have hlt := h.lt
  clear h
  obtain ⟨gl, cl, gt, ct, gk, ck⟩ := q
  unfold refV refCells
  simp only
  by_cases h0 : i < 0
  · have h1 : decide (i < 0) = true := by simpa using h0
    have HR : Hid (rRead R i = ([], 8)) := by simp [Hid, rRead, h0]
    rw [HR.out]
    clear h0
    go_enter Try.func80, Try.ntmps80
    go_wp2
    go_ret2
    exact ⟨rfl, (Kept.refl _ _).alloc _⟩
  · have h1 : decide (i < 0) = false := by simpa using h0
    by_cases hb : (R.l.length : Int) ≤ i
    · have h2 : decide ((R.l.length : Int) ≤ i) = true := by simpa using hb
      have HR : Hid (rRead R i = ([], 8)) := by simp [Hid, rRead, hb]
      rw [HR.out]
      clear h0 hb
      go_enter Try.func80, Try.ntmps80
      go_wp2
      go_ret2
      exact ⟨rfl, (Kept.refl _ _).alloc _⟩
    · obtain ⟨k, rfl⟩ : ∃ k : Nat, i = k := ⟨i.toNat, by omega⟩
      have hk : k < R.l.length := by omega
      have hc := H.out.ints.cell k hk
      have ht := H.out.texts.cell k (by omega)
      have hg1 := H.out.ints.lt
      have hg2 := H.out.texts.lt
      have hx4 := H.out.lt4 R.l[k] (List.getElem_mem _)
      simp only at hc ht hg1 hg2
      have h2 : decide ((R.l.length : Int) ≤ (k : Int)) = false := by simpa using hb
      by_cases hz : R.l[k] = 0
      · have h3 : ((R.l[k] : Int) == 0) = true := by simp [hz]
        have HR : Hid (rRead R k = ([], 8)) := by simp [Hid, rRead, List.getD, hk, hz]
        rw [HR.out]
        clear hz
        go_enter Try.func80, Try.ntmps80
        go_wp2
        go_ret2
        exact ⟨rfl, (Kept.refl _ _).alloc _⟩
      · have h3 : ((R.l[k] : Int) == 0) = false := by simpa using hz
        have HR : Hid (rRead R k = (R.T[k], 0)) := by
          have hkt : k < R.T.length := by omega
          simp [Hid, rRead, List.getD, hk, hz, hkt]
        rw [HR.out]
        have hkt : k < R.T.length := by omega
        clear hz
        go_enter Try.func80, Try.ntmps80
        go_wp2
        go_ret2
        exact ⟨rfl, (Kept.refl _ _).alloc _⟩

def rUndo (R : RSto) : RSto := { R with l := R.l.map ud1, T := R.K }

/-- The result's cells. -/
theorem set7 {w : World} {n : Nat} {T : TypeId} {z0 z1 z2 z3 z4 z5 z6 : Value} (hz : w.heap[n]? = some (.cells #[z0, z1, z2, z3, z4, z5, z6] T (0, 0))) (v0 v1 v2 v3 v4 v5 v6 : Value) :
    (((((((w.setCell ⟨n, 0, none⟩ v0).setCell ⟨n, 1, none⟩ v1).setCell ⟨n, 2, none⟩ v2).setCell ⟨n, 3, none⟩ v3).setCell ⟨n, 4, none⟩ v4).setCell ⟨n, 5, none⟩ v5).setCell ⟨n, 6, none⟩ v6).heap[n]? = some (.cells #[v0, v1, v2, v3, v4, v5, v6] T (0, 0)) := by
  rw [heap_set (heap_set (heap_set (heap_set (heap_set (heap_set (heap_set hz _ _) _ _) _ _) _ _) _ _) _ _) _ _]
  rfl
theorem cells7 {w : World} {n : Nat} {T : TypeId} {z0 z1 z2 z3 z4 z5 z6 : Value} (h : w.heap[n]? = some (.cells #[z0, z1, z2, z3, z4, z5, z6] T (0, 0))) :
    w.cell? ⟨n, 0, none⟩ = some z0 ∧ w.cell? ⟨n, 1, none⟩ = some z1 ∧ w.cell? ⟨n, 2, none⟩ = some z2 ∧ w.cell? ⟨n, 3, none⟩ = some z3 ∧ w.cell? ⟨n, 4, none⟩ = some z4 ∧ w.cell? ⟨n, 5, none⟩ = some z5 ∧ w.cell? ⟨n, 6, none⟩ = some z6 :=
  ⟨(cell_heap h 0).trans rfl, (cell_heap h 1).trans rfl, (cell_heap h 2).trans rfl, (cell_heap h 3).trans rfl, (cell_heap h 4).trans rfl, (cell_heap h 5).trans rfl, (cell_heap h 6).trans rfl⟩
theorem free7 {w : World} {n : Nat} {T : TypeId} {cs : Array Value} (h : w.heap[n]? = some (.cells cs T (0, 0))) :
    w.frozen? ⟨n, 0, none⟩ = false ∧ w.frozen? ⟨n, 1, none⟩ = false ∧ w.frozen? ⟨n, 2, none⟩ = false ∧ w.frozen? ⟨n, 3, none⟩ = false ∧ w.frozen? ⟨n, 4, none⟩ = false ∧ w.frozen? ⟨n, 5, none⟩ = false ∧ w.frozen? ⟨n, 6, none⟩ = false :=
  ⟨free_heap h 0, free_heap h 1, free_heap h 2, free_heap h 3, free_heap h 4, free_heap h 5, free_heap h 6⟩
theorem keptS7 {S : Nat → Prop} {w W : World} {n : Nat} (k : Kept S w W) (hn : S n) (v0 v1 v2 v3 v4 v5 v6 : Value) :
    Kept S w (((((((W.setCell ⟨n, 0, none⟩ v0).setCell ⟨n, 1, none⟩ v1).setCell ⟨n, 2, none⟩ v2).setCell ⟨n, 3, none⟩ v3).setCell ⟨n, 4, none⟩ v4).setCell ⟨n, 5, none⟩ v5).setCell ⟨n, 6, none⟩ v6) :=
  ((((((k.setCell (.inl hn) _).setCell (.inl hn) _).setCell (.inl hn) _).setCell (.inl hn) _).setCell (.inl hn) _).setCell (.inl hn) _).setCell (.inl hn) _
theorem IR.ne {w : World} {g cap : Nat} {l : List Nat} (h : IR w g cap l) {b : Nat} {cs : Array Value} {T : TypeId} {f : Nat × Nat} (hb : w.heap[b]? = some (.cells cs T f)) (hT : T ≠ 3) : g ≠ b := by
  obtain ⟨cs', f', hg, _⟩ := RowIs.of_own h
  exact fun e => ne_type hb hg hT e.symm
/-- A result's cells, filled, are what the call hands back. -/
def zero7 : Array Value := #[.slice none 0 0, .slice none 0 0, .int .i64 0, .int .i64 0, .int .i64 0, .int .i64 0, .slice none 0 0]
theorem kept7 {S : Nat → Prop} {w W : World} {n : Nat} (k : Kept S w W) (hn : w.heap.size ≤ n) (v0 v1 v2 v3 v4 v5 v6 : Value) :
    Kept S w (((((((W.setCell ⟨n, 0, none⟩ v0).setCell ⟨n, 1, none⟩ v1).setCell ⟨n, 2, none⟩ v2).setCell ⟨n, 3, none⟩ v3).setCell ⟨n, 4, none⟩ v4).setCell ⟨n, 5, none⟩ v5).setCell ⟨n, 6, none⟩ v6) :=
  ((((((k.setCell (.inr hn) _).setCell (.inr hn) _).setCell (.inr hn) _).setCell (.inr hn) _).setCell (.inr hn) _).setCell (.inr hn) _).setCell (.inr hn) _

set_option maxHeartbeats 4000000 in
set_option maxRecDepth 100000 in
theorem refUndo7_calls {w B q R} (h : IsRef w B q R) (hB : B ≤ w.heap.size) : Calls Try.prog 48 #[refV q R] w (RefPost B (rUndo R) id w) := by
  have H := Lib.hid h
  have HB := Lib.hid hB
  clear h hB
  obtain ⟨l, T, ⟨gen, root, log, next⟩, K⟩ := R
  obtain ⟨gl, cl, gt, ct, gk, ck⟩ := q
  unfold refV refCells
  simp only
  have HU : Hid (∀ W, Kept (fun _ => False) w W → Calls Try.prog 21 #[.slice (some ⟨gl, 0, none⟩) l.length cl] W (RList (l.map ud1) W)) := fun W hW => refUndo_calls (H.out.ints.kept hW id) H.out.len H.out.pos H.out.lt4
  go_enter Try.func48, Try.ntmps48
  go_wp2_with fail
  obtain ⟨W, hW⟩ : ∃ W, W = (w.alloc (.cells #[.slice (some ⟨gl, 0, none⟩) l.length cl, .slice (some ⟨gt, 0, none⟩) T.length ct, .int .i64 gen, .int .i64 root, .int .i64 log, .int .i64 next, .slice (some ⟨gk, 0, none⟩) K.length ck] 55)).alloc (.cells #[.slice none 0 0, .slice none 0 0, .int .i64 0, .int .i64 0, .int .i64 0, .int .i64 0, .slice none 0 0] 55) := ⟨_, rfl⟩
  rw [← hW]
  obtain ⟨N, hN⟩ : ∃ N, N = w.heap.size := ⟨_, rfl⟩
  have KW : Hid (Kept (fun _ => False) w W) := by rw [hW]; exact ((Kept.refl _ _).alloc _).alloc _
  have hb : W.heap[N]? = some (.cells #[.slice (some ⟨gl, 0, none⟩) l.length cl, .slice (some ⟨gt, 0, none⟩) T.length ct, .int .i64 gen, .int .i64 root, .int .i64 log, .int .i64 next, .slice (some ⟨gk, 0, none⟩) K.length ck] 55 (0, 0)) := by rw [hW, hN]; exact heap_old (heap_new w _) _
  have hr : W.heap[N + 1]? = some (.cells #[.slice none 0 0, .slice none 0 0, .int .i64 0, .int .i64 0, .int .i64 0, .int .i64 0, .slice none 0 0] 55 (0, 0)) := by rw [hW, hN]; exact heap_newAt (by simp) _
  have HBX := Lib.hid hb
  have HRS := Lib.hid hr
  have HN := Lib.hid hN
  rw [← hN]
  clear hW hb hr hN
  refine (HU.out W KW.out).mono ?_
  rintro e w1 ⟨g', cap', rfl, h1, k1⟩
  have H1 := Lib.hid h1
  have K1 : Hid (Kept (fun _ => False) w w1) := KW.out.trans k1
  have hb := k1.heap HBX.out id
  have hr := k1.heap HRS.out id
  obtain ⟨a0, a1, a2, a3, a4, a5, a6⟩ := cells7 hb
  obtain ⟨b0, b1, b2, b3, b4, b5, b6⟩ := cells7 hr
  obtain ⟨f0, f1, -, -, -, -, -⟩ := free7 hb
  obtain ⟨g0, g1, g2, g3, g4, g5, g6⟩ := free7 hr
  have HRS1 := Lib.hid hr
  have HBX1 := Lib.hid hb
  clear h1 k1 hb hr
  go_wp2_with fail
  refine bodyPost_ret (v := refV ⟨g', cap', gk, ck, gk, ck⟩ (rUndo ⟨l, T, ⟨gen, root, log, next⟩, K⟩)) ?_ rfl ?_
  · have hh := set7 (heap_set_other (a := ⟨N, 1, none⟩) (v := .slice (some ⟨gk, 0, none⟩) K.length ck) (heap_set_other (a := ⟨N, 0, none⟩) (v := .slice (some ⟨g', 0, none⟩) l.length cap') HRS1.out (by simp)) (by simp)) (.slice (some ⟨g', 0, none⟩) l.length cap') (.slice (some ⟨gk, 0, none⟩) K.length ck) (.int .i64 gen) (.int .i64 root) (.int .i64 log) (.int .i64 next) (.slice (some ⟨gk, 0, none⟩) K.length ck)
    obtain ⟨x0, x1, x2, x3, x4, x5, x6⟩ := cells7 hh
    simp [results, Try.f48, go_sem, x0, x1, x2, x3, x4, x5, x6, refV, refCells, rUndo]
  · have hNw := HN.out
    have k2 : Kept (fun i => i = N ∨ i = N + 1) w1 ((w1.setCell ⟨N, 0, none⟩ (.slice (some ⟨g', 0, none⟩) l.length cap')).setCell ⟨N, 1, none⟩ (.slice (some ⟨gk, 0, none⟩) K.length ck)) := ((Kept.refl _ _).setCell (.inl (.inl rfl)) _).setCell (.inl (.inl rfl)) _
    have k3 := keptS7 (n := N + 1) k2 (.inr rfl) (.slice (some ⟨g', 0, none⟩) l.length cap') (.slice (some ⟨gk, 0, none⟩) K.length ck) (.int .i64 gen) (.int .i64 root) (.int .i64 log) (.int .i64 next) (.slice (some ⟨gk, 0, none⟩) K.length ck)
    have hK := K1.out.then k3 (by intro i hi e; omega)
    have hgk := H.out.keeps.lt
    simp only at hgk
    have n1 : g' ≠ N := H1.out.ne HBX1.out (by decide)
    have n2 : g' ≠ N + 1 := H1.out.ne HRS1.out (by decide)
    have hkp := (H.out.keeps.kept K1.out id).kept k3 (by simp only; omega)
    refine ⟨_, rfl, ⟨H1.out.kept k3 (by omega), hkp, hkp, H.out.bk, H.out.bk, ?_, ?_, ?_, ?_, ?_⟩, hK⟩
    · simp only [rUndo, List.length_map]; exact H.out.lk
    · simp only [rUndo, List.length_map]; exact H.out.lk
    · simp only [rUndo, List.length_map]; exact H.out.pos
    · simp only [rUndo, List.length_map]; exact H.out.len
    · intro x hx
      simp only [rUndo, List.mem_map] at hx
      obtain ⟨y, _, rfl⟩ := hx
      unfold ud1; split <;> omega

def rBad (R : RSto) (ro lo ne : Int) : Int :=
  if ro < -1 ∨ (0 ≤ ro ∧ stAt R.l ro ≠ 1 ∧ stAt R.l ro ≠ 2) ∨ (R.l.length : Int) ≤ ro then 8
  else if lo < 1 ∨ 1099511627776 < lo ∨ ne < 0 ∨ 1099511627776 < ne then 18 else 0
def rCheck (R : RSto) (ro lo ne : Int) : RSto × Int :=
  if rBad R ro lo ne ≠ 0 then (R, rBad R ro lo ne) else (⟨R.l.map kp1, R.T, ⟨R.s.gen + 1, ro, lo.toNat, ne.toNat⟩, R.T⟩, 0)
/-- What a call leaves that hands a store back, and a number. -/
def RefPost2 (B : Nat) (r : RSto × Int) (w : World) (e : Ending) (w' : World) : Prop :=
  ∃ q, e = .returned (.tuple #[refV q r.1, .int .i64 r.2]) ∧ IsRef w' B q r.1 ∧ Kept (fun _ => False) w w'

theorem root_in {R : RSto} {ro : Int} (h : 0 ≤ ro) (hb : ¬ (R.l.length : Int) ≤ ro) : ∃ k : Nat, ro = k ∧ ∃ hk : k < R.l.length, stAt R.l ro = (R.l[k] : Nat) := by
  obtain ⟨k, rfl⟩ : ∃ k : Nat, ro = k := ⟨ro.toNat, by omega⟩
  have hk : k < R.l.length := by omega
  refine ⟨k, rfl, hk, ?_⟩
  simp only [stAt, if_neg (show ¬ (k : Int) < 0 by omega), Int.toNat_natCast]
  rw [List.getElem?_eq_getElem hk]

set_option maxHeartbeats 4000000 in
set_option maxRecDepth 100000 in
theorem refCheck_bad {w B q R} (h : IsRef w B q R) (ro lo ne : Int) (hb : rBad R ro lo ne ≠ 0) :
    Calls Try.prog 33 #[refV q R, .int .i64 ro, .int .i64 lo, .int .i64 ne] w (RefPost2 B (rCheck R ro lo ne) w) := by
  have H := Lib.hid h
  have HR : Hid (rCheck R ro lo ne = (R, rBad R ro lo ne)) := by simp [Hid, rCheck, hb]
  have hlen := h.len
  rw [HR.out]
  obtain ⟨bd, hbd⟩ : ∃ bd, bd = rBad R ro lo ne := ⟨_, rfl⟩
  rw [← hbd] at hb ⊢
  have hcase : (bd = 8 ∧ (ro < -1 ∨ (¬ ro < -1 ∧ (R.l.length : Int) ≤ ro) ∨ (∃ k : Nat, ro = k ∧ ∃ hk : k < R.l.length, R.l[k] ≠ 1 ∧ R.l[k] ≠ 2)))
      ∨ (bd = 18 ∧ (ro = -1 ∨ ∃ k : Nat, ro = k ∧ ∃ hk : k < R.l.length, R.l[k] = 1 ∨ R.l[k] = 2) ∧ (lo < 1 ∨ (¬ lo < 1 ∧ 1099511627776 < lo) ∨ (¬ lo < 1 ∧ ¬ 1099511627776 < lo ∧ ne < 0) ∨ (¬ lo < 1 ∧ ¬ 1099511627776 < lo ∧ ¬ ne < 0 ∧ 1099511627776 < ne))) := by
    unfold rBad at hbd
    by_cases c : ro < -1 ∨ (0 ≤ ro ∧ stAt R.l ro ≠ 1 ∧ stAt R.l ro ≠ 2) ∨ (R.l.length : Int) ≤ ro
    · rw [if_pos c] at hbd
      refine .inl ⟨hbd, ?_⟩
      by_cases c1 : ro < -1
      · exact .inl c1
      · by_cases c2 : (R.l.length : Int) ≤ ro
        · exact .inr (.inl ⟨c1, c2⟩)
        · have c3 : 0 ≤ ro ∧ stAt R.l ro ≠ 1 ∧ stAt R.l ro ≠ 2 := by
            rcases c with c | c | c
            · exact absurd c c1
            · exact c
            · exact absurd c c2
          obtain ⟨k, rfl, hk, e⟩ := root_in c3.1 c2
          rw [e] at c3
          exact .inr (.inr ⟨k, rfl, hk, by omega, by omega⟩)
    · rw [if_neg c] at hbd
      simp only [not_or] at c
      by_cases d : lo < 1 ∨ 1099511627776 < lo ∨ ne < 0 ∨ 1099511627776 < ne
      · rw [if_pos d] at hbd
        refine .inr ⟨hbd, ?_, by omega⟩
        by_cases c1 : 0 ≤ ro
        · obtain ⟨k, rfl, hk, e⟩ := root_in c1 c.2.2
          rw [e] at c
          exact .inr ⟨k, rfl, hk, by omega⟩
        · exact .inl (by omega)
      · rw [if_neg d] at hbd; exact absurd hbd hb
  clear hbd hb
  obtain ⟨l, T, ⟨gen, root, log, next⟩, K⟩ := R
  obtain ⟨gl, cl, gt, ct, gk, ck⟩ := q
  have HF : Hid (∀ W, Kept (fun _ => False) w W → RefPost2 B (⟨l, T, ⟨gen, root, log, next⟩, K⟩, bd) w (.returned (.tuple #[refV ⟨gl, cl, gt, ct, gk, ck⟩ ⟨l, T, ⟨gen, root, log, next⟩, K⟩, .int .i64 bd])) W) := fun W hW => ⟨_, rfl, h.keptF hW, hW⟩
  clear h
  have hgl := H.out.ints.lt
  unfold refV refCells
  simp only at hcase hlen hgl ⊢
  rcases hcase with ⟨rfl, hc⟩ | ⟨rfl, hc, hn⟩
  · rcases hc with c1 | ⟨c1, c2⟩ | ⟨k, rfl, hk, c1, c2⟩
    · have h1 : decide (ro < -1) = true := by simpa using c1
      clear c1
      go_enter Try.func33, Try.ntmps33
      go_wp2
      refine bodyPost_ret (v := .tuple #[refV ⟨gl, cl, gt, ct, gk, ck⟩ ⟨l, T, ⟨gen, root, log, next⟩, K⟩, .int .i64 8]) ?_ rfl (HF.out _ (((Kept.refl _ _).alloc _).alloc _))
      simp [results, Try.f33, go_sem, refV, refCells]
    · have h1 : decide (ro < -1) = false := by simpa using c1
      have h2 : decide ((l.length : Int) ≤ ro) = true := by simpa using c2
      clear c1 c2
      go_enter Try.func33, Try.ntmps33
      go_wp2
      refine bodyPost_ret (v := .tuple #[refV ⟨gl, cl, gt, ct, gk, ck⟩ ⟨l, T, ⟨gen, root, log, next⟩, K⟩, .int .i64 8]) ?_ rfl (HF.out _ (((Kept.refl _ _).alloc _).alloc _))
      simp [results, Try.f33, go_sem, refV, refCells]
    · have h1 : decide ((k : Int) < -1) = false := by simp
      have h2 : decide ((l.length : Int) ≤ (k : Int)) = false := by simp; omega
      have hck := H.out.ints.cell k hk
      have hx4 := H.out.lt4 l[k] (List.getElem_mem _)
      simp only at hck hx4
      have h3 : ((l[k] : Int) != 1) = true := by rw [bne_iff_ne]; omega
      have h4 : ((l[k] : Int) != 2) = true := by rw [bne_iff_ne]; omega
      clear c1 c2
      go_enter Try.func33, Try.ntmps33
      go_wp2
      refine bodyPost_ret (v := .tuple #[refV ⟨gl, cl, gt, ct, gk, ck⟩ ⟨l, T, ⟨gen, root, log, next⟩, K⟩, .int .i64 8]) ?_ rfl (HF.out _ (((Kept.refl _ _).alloc _).alloc _))
      simp [results, Try.f33, go_sem, refV, refCells]
  · have hnum : (decide (lo < 1) = true) ∨ (decide (lo < 1) = false ∧ decide (1099511627776 < lo) = true) ∨ (decide (lo < 1) = false ∧ decide (1099511627776 < lo) = false ∧ decide (ne < 0) = true) ∨ (decide (lo < 1) = false ∧ decide (1099511627776 < lo) = false ∧ decide (ne < 0) = false ∧ decide (1099511627776 < ne) = true) := by
      simp only [decide_eq_true_eq, decide_eq_false_iff_not]; exact hn
    clear hn
    rcases hc with rfl | ⟨k, rfl, hk, c1⟩
    · have h2 : decide ((l.length : Int) ≤ -1) = false := by simp; omega
      rcases hnum with n1 | ⟨n1, n2⟩ | ⟨n1, n2, n3⟩ | ⟨n1, n2, n3, n4⟩
      all_goals
        go_enter Try.func33, Try.ntmps33
        go_wp2
        refine bodyPost_ret (v := .tuple #[refV ⟨gl, cl, gt, ct, gk, ck⟩ ⟨l, T, ⟨gen, root, log, next⟩, K⟩, .int .i64 18]) ?_ rfl (HF.out _ (((Kept.refl _ _).alloc _).alloc _))
        simp [results, Try.f33, go_sem, refV, refCells]
    · have h1 : decide ((k : Int) < -1) = false := by simp
      have h2 : decide ((l.length : Int) ≤ (k : Int)) = false := by simp; omega
      have hck := H.out.ints.cell k hk
      simp only at hck
      rcases c1 with c1 | c1
      · have h3 : ((l[k] : Int) != 1) = false := by rw [bne_eq_false_iff_eq]; omega
        clear c1
        rcases hnum with n1 | ⟨n1, n2⟩ | ⟨n1, n2, n3⟩ | ⟨n1, n2, n3, n4⟩
        all_goals
          go_enter Try.func33, Try.ntmps33
          go_wp2
          refine bodyPost_ret (v := .tuple #[refV ⟨gl, cl, gt, ct, gk, ck⟩ ⟨l, T, ⟨gen, root, log, next⟩, K⟩, .int .i64 18]) ?_ rfl (HF.out _ (((Kept.refl _ _).alloc _).alloc _))
          simp [results, Try.f33, go_sem, refV, refCells]
      · have h3 : ((l[k] : Int) != 1) = true := by rw [bne_iff_ne]; omega
        have h4 : ((l[k] : Int) != 2) = false := by rw [bne_eq_false_iff_eq]; omega
        clear c1
        rcases hnum with n1 | ⟨n1, n2⟩ | ⟨n1, n2, n3⟩ | ⟨n1, n2, n3, n4⟩
        all_goals
          go_enter Try.func33, Try.ntmps33
          go_wp2
          refine bodyPost_ret (v := .tuple #[refV ⟨gl, cl, gt, ct, gk, ck⟩ ⟨l, T, ⟨gen, root, log, next⟩, K⟩, .int .i64 18]) ?_ rfl (HF.out _ (((Kept.refl _ _).alloc _).alloc _))
          simp [results, Try.f33, go_sem, refV, refCells]

end Go.Proofs.Ytfgjehecjgebdaa
