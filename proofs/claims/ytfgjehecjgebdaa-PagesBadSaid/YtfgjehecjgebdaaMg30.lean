/- Pages: the map of what was put since the last checkpoint. -/
import Derived.Test.YtfgjehecjgebdaaMg29
import Derived.Maps.OwnSet
namespace Go.Proofs.Ytfgjehecjgebdaa
open Go.RowKit Go.Maps Go.ChangeMaps

/-- How a page reads. -/
def pgR (v : Value) : Option (DataW Unit × List MemPlace) := match v with | .agg ⟨[.string s]⟩ => some (.lit (.string s.data.toList), []) | _ => none
theorem pgR_mk (t : List UInt8) : pgR (.agg #[.string (ba t)]) = some (.lit (.string t), []) := by simp [pgR, ba]
theorem pgR_inv {v : Value} {t : List UInt8} {ps : List MemPlace} (h : pgR v = some (.lit (.string t), ps)) : v = .agg #[.string (ba t)] := by
  unfold pgR at h
  split at h
  · rename_i s
    simp only [Option.some.injEq, Prod.mk.injEq, DataW.lit.injEq, Lit.string.injEq] at h
    obtain ⟨rfl, _⟩ := h
    rfl
  · cases h

def prs (ks : List Nat) (T : Nat → List UInt8) : List (Lit × DataW Unit) := ks.map fun i : Nat => (Lit.int .i64 (i : Int), DataW.lit (.string (T i)))
def ins (i : Nat) : List Nat → List Nat
  | [] => [i]
  | k :: r => if i < k then i :: k :: r else k :: ins i r
/-- The pages that were put. -/
def fresh (l : List Nat) : List Nat := (List.range l.length).filter fun i => l.getD i 0 == 2
def upd (T : Nat → List UInt8) (i : Nat) (t : List UInt8) : Nat → List UInt8 := fun j => if j = i then t else T j

theorem same_key (a b : Nat) : (Lit.int .i64 (a : Int)).sameKey (.int .i64 (b : Int)) = decide (a = b) := by
  simp only [Lit.sameKey, true_and]
  exact decide_eq_decide.2 (by omega)
theorem prs_len (ks : List Nat) (T : Nat → List UInt8) : (prs ks T).length = ks.length := by simp [prs]
theorem fresh_len (l : List Nat) : (fresh l).length ≤ l.length := by
  have := List.length_filter_le (fun i => l.getD i 0 == 2) (List.range l.length)
  simpa [fresh] using this
theorem mem_fresh {l : List Nat} {i : Nat} : i ∈ fresh l ↔ i < l.length ∧ l.getD i 0 = 2 := by simp [fresh]
theorem fresh_up (l : List Nat) : (fresh l).Pairwise (· < ·) := List.Pairwise.filter _ List.pairwise_lt_range
theorem up_ext : ∀ {a b : List Nat}, a.Pairwise (· < ·) → b.Pairwise (· < ·) → (∀ x, x ∈ a ↔ x ∈ b) → a = b
  | [], [], _, _, _ => rfl
  | [], y :: b, _, _, h => by have := (h y).2 (by simp); simp at this
  | x :: a, [], _, _, h => by have := (h x).1 (by simp); simp at this
  | x :: a, y :: b, ha, hb, h => by
    rw [List.pairwise_cons] at ha hb
    have e : x = y := by
      have h1 := (h x).1 (by simp)
      have h2 := (h y).2 (by simp)
      simp only [List.mem_cons] at h1 h2
      rcases h1 with h1 | h1
      · exact h1
      · rcases h2 with h2 | h2
        · exact h2.symm
        · have := ha.1 y h2
          have := hb.1 x h1
          omega
    subst e
    have : a = b := up_ext ha.2 hb.2 (fun z => by
      have hz := h z
      simp only [List.mem_cons] at hz
      constructor
      · intro h1
        rcases hz.1 (.inr h1) with e | e
        · subst e; have := ha.1 z h1; omega
        · exact e
      · intro h1
        rcases hz.2 (.inr h1) with e | e
        · subst e; have := hb.1 z h1; omega
        · exact e)
    rw [this]
theorem mem_ins (i : Nat) (ks : List Nat) (x : Nat) : x ∈ ins i ks ↔ x = i ∨ x ∈ ks := by
  induction ks with
  | nil => simp [ins]
  | cons k r ih =>
    unfold ins
    split
    · simp
    · simp only [List.mem_cons, ih]
      constructor
      · rintro (h | h | h)
        · exact .inr (.inl h)
        · exact .inl h
        · exact .inr (.inr h)
      · rintro (h | h | h)
        · exact .inr (.inl h)
        · exact .inl h
        · exact .inr (.inr h)
theorem ins_up (i : Nat) (ks : List Nat) (h : ks.Pairwise (· < ·)) (hi : i ∉ ks) : (ins i ks).Pairwise (· < ·) := by
  induction ks with
  | nil => simp [ins]
  | cons k r ih =>
    rw [List.pairwise_cons] at h
    simp only [List.mem_cons, not_or] at hi
    unfold ins
    split
    · rename_i hlt
      rw [List.pairwise_cons]
      refine ⟨fun x hx => ?_, List.pairwise_cons.2 h⟩
      simp only [List.mem_cons] at hx
      rcases hx with rfl | hx
      · exact hlt
      · have := h.1 x hx; omega
    · rename_i hlt
      rw [List.pairwise_cons]
      refine ⟨fun x hx => ?_, ih h.2 hi.2⟩
      rcases (mem_ins i r x).1 hx with rfl | hx
      · omega
      · exact h.1 x hx
theorem insert_prs (i : Nat) (ks : List Nat) (T : Nat → List UInt8) : DataW.insert (.int .i64 i, .lit (.string (T i))) (prs ks T) = prs (ins i ks) T := by
  induction ks with
  | nil => rfl
  | cons k r ih =>
    unfold ins
    by_cases h : i < k
    · rw [if_pos h]
      simp [prs, DataW.insert, Lit.before, h]
    · rw [if_neg h]
      simp only [prs, List.map_cons] at ih ⊢
      rw [DataW.insert, if_neg (by simp [Lit.before]; omega), ih]
theorem filter_prs (i : Nat) (ks : List Nat) (T : Nat → List UInt8) : (prs ks T).filter (fun p => !p.1.sameKey (.int .i64 i)) = prs (ks.filter (· != i)) T := by
  induction ks with
  | nil => rfl
  | cons k r ih =>
    simp only [prs, List.map_cons, List.filter_cons] at ih ⊢
    by_cases h : k = i
    · subst h; simp [same_key]; simpa [same_key] using ih
    · simp [same_key, h]; simpa [same_key] using ih
theorem prs_congr (ks : List Nat) {T T' : Nat → List UInt8} (h : ∀ i ∈ ks, T i = T' i) : prs ks T = prs ks T' := List.map_congr_left fun (i : Nat) hi => by rw [h i hi]

theorem fresh_put {l : List Nat} {i : Nat} (hi : i < l.length) : ins i ((fresh l).filter (· != i)) = fresh (l.set i 2) := by
  apply up_ext
  · exact ins_up i _ (List.Pairwise.filter _ (fresh_up l)) (by simp)
  · exact fresh_up _
  · intro x
    rw [mem_ins, mem_fresh, List.length_set]
    simp only [List.mem_filter, mem_fresh, bne_iff_ne]
    by_cases h : x = i
    · subst h; simp [List.getD, hi]
    · have h' : ¬ i = x := fun e => h e.symm
      simp [List.getD, h, h', List.getElem?_set_ne]
theorem put_prs {l : List Nat} {i : Nat} (hi : i < l.length) (T : Nat → List UInt8) (t : List UInt8) :
    (DataW.map (prs (fresh l) T)).put (.int .i64 i) (.lit (.string t)) = .map (prs (fresh (l.set i 2)) (upd T i t)) := by
  show DataW.map (DataW.insert _ _) = _
  rw [filter_prs, ← fresh_put hi, ← insert_prs]
  congr 2
  · simp [upd]
  · apply prs_congr
    intro j hj
    simp at hj
    simp [upd, hj.2]
theorem fresh_del {l : List Nat} {i : Nat} (x : Nat) (hx : x ≠ 2) : (fresh l).filter (· != i) = fresh (l.set i x) := by
  apply up_ext
  · exact List.Pairwise.filter _ (fresh_up l)
  · exact fresh_up _
  · intro y
    rw [mem_fresh, List.length_set]
    simp only [List.mem_filter, mem_fresh, bne_iff_ne]
    by_cases h : y = i
    · subst h
      by_cases hl : y < l.length
      · simp [List.getD, hl, hx]
      · simp [hl]
    · have h' : ¬ i = y := fun e => h e.symm
      simp [List.getD, h, h', List.getElem?_set_ne]
theorem del_prs {l : List Nat} {i : Nat} (x : Nat) (hx : x ≠ 2) (T : Nat → List UInt8) : (DataW.map (prs (fresh l) T)).del (.int .i64 i) = .map (prs (fresh (l.set i x)) T) := by
  show DataW.map _ = _
  rw [filter_prs, fresh_del x hx]
theorem at_prs {l : List Nat} {i : Nat} (hi : i < l.length) (h2 : l.getD i 0 = 2) (T : Nat → List UInt8) (z : DataW Unit) : (DataW.map (prs (fresh l) T)).atKey (.int .i64 i) z = .lit (.string (T i)) := by
  have hm : i ∈ fresh l := mem_fresh.2 ⟨hi, h2⟩
  have : ∀ ks : List Nat, i ∈ ks → (prs ks T).find? (fun p => p.1.sameKey (.int .i64 i)) = some (.int .i64 i, .lit (.string (T i))) := by
    intro ks
    induction ks with
    | nil => simp
    | cons k r ih =>
      intro hk
      simp only [prs, List.map_cons, List.find?_cons] at ih ⊢
      by_cases h : k = i
      · subst h; simp [same_key]
      · have hr : i ∈ r := by simpa [Ne.symm h] using hk
        rw [same_key, decide_eq_false h]
        exact ih hr
  simp only [DataW.atKey, this _ hm]

/-- What was put since the last checkpoint, in the block m. -/
def IsPut (w : World) (m : Nat) (l : List Nat) (T : Nat → List UInt8) : Prop := w.ownsMap Try.prog 3 pgR m 128 (.map (prs (fresh l) T))

theorem own_tight {H : Type} {P : Program} {k : TypeId} {R : Value → Option (DataW H × List MemPlace)} {w : World} {b n n' : Nat} {L : List (Lit × DataW H)} (h : w.ownsMap P k R b n (.map L)) (hl : L.length ≤ n') : w.ownsMap P k R b n' (.map L) := by
  obtain ⟨es, clock, hb, F, hs, hD⟩ := h
  refine ⟨es, clock, hb, F, ?_, hD⟩
  injection hD with hD
  have := congrArg List.length hD
  rw [length_sorted] at this
  simp at this
  omega
theorem IsPut.heap {w m l T} (h : IsPut w m l T) : ∃ es clock, w.heap[m]? = some (.map es clock) := by
  obtain ⟨es, clock, hb, _⟩ := h
  exact ⟨es, clock, hb⟩
theorem IsPut.kept {w w' m l T} {S : Nat → Prop} (h : IsPut w m l T) (k : Kept S w w') (hs : ¬ S m) : IsPut w' m l T := by
  obtain ⟨es, clock, hb, r⟩ := h
  exact ⟨es, clock, k.heap hb hs, r⟩
theorem IsPut.made (w : World) (l : List Nat) (T : Nat → List UInt8) (h : ∀ x ∈ l, x ≠ 2) : IsPut (w.alloc (.map #[] 0)) w.heap.size l T := by
  have e : fresh l = [] := by
    apply List.eq_nil_iff_forall_not_mem.2
    intro i hi
    obtain ⟨h1, h2⟩ := mem_fresh.1 hi
    have := h l[i] (by simp)
    simp [List.getD, h1] at h2
    exact this h2
  have := World.ownsMap_made w Try.prog 3 pgR
  unfold IsPut
  rw [e]
  exact this.mono (by omega)

/-- 'clear(m)' on a map. -/
theorem run_clear_map {P : Program} {w : World} {t k e : TypeId} (ht : P.underlying t = some (.map k e)) {m : Nat} {es : Array MapEntry} {clock : Nat} (hb : w.heap[m]? = some (.map es clock)) (ty : TypeId) :
    (Builtin.clear_ #[t] ty #[.map (some m)]).run P w = .ok (.tuple #[]) (setBlock w m (.map #[] clock)) := by
  simp [Builtin.clear_, run_underlying ht, Go.MapKept.run_getObj_map hb, Go.MapKept.run_setObj_map _ hb, Result.andThen, setBlock]

theorem setBlock_kept {w : World} {m : Nat} {es : Array MapEntry} {clock : Nat} (_hb : w.heap[m]? = some (.map es clock)) (o : Obj) : Kept (· = m) w (setBlock w m o) :=
  ⟨rfl, rfl, rfl, by simp [setBlock], fun k _ hk => by simp only [setBlock]; rw [Array.getElem?_setIfInBounds_ne (fun e => hk e.symm)]⟩
theorem setBlock_at {w : World} {m : Nat} {es : Array MapEntry} {clock : Nat} (hb : w.heap[m]? = some (.map es clock)) (o : Obj) : (setBlock w m o).heap[m]? = some o := by
  simp only [setBlock]
  rw [Array.getElem?_setIfInBounds_self]
  simp [lt_heap hb]
theorem IsPut.cleared {w : World} {m : Nat} (l' : List Nat) (T' : Nat → List UInt8) (hl : ∀ x ∈ l', x ≠ 2) {es clock} (hb : w.heap[m]? = some (.map es clock)) : IsPut (setBlock w m (.map #[] clock)) m l' T' := by
  have e : fresh l' = [] := by
    apply List.eq_nil_iff_forall_not_mem.2
    intro i hi
    obtain ⟨h1, h2⟩ := mem_fresh.1 hi
    have := hl l'[i] (by simp)
    simp [List.getD, h1] at h2
    exact this h2
  unfold IsPut
  rw [e]
  exact ⟨#[], clock, setBlock_at hb _, ⟨by simp, Go.MapKept.stamped_empty _, by simp⟩, by simp, rfl⟩

theorem und_dirty : Try.prog.underlying 86 = some (.map 3 106) := by kernel_rfl
theorem und_int : Try.prog.underlying 3 = some (.int .i64) := by kernel_rfl
theorem key_int (i : Nat) (hi : i < 1000) : keyOf Try.prog 3 (.int .i64 i) = some (.int .i64 i) := keyOf_int_mk und_int (by simp [Lit.wf, IntKind.min, IntKind.max, IntKind.bits, IntKind.signed]; omega)

end Go.Proofs.Ytfgjehecjgebdaa
