/- Plain: a device of sectors, as chapter 3 has it. -/
import Derived.Test.YtfgjehecjgebdaaMg08
namespace Go.Proofs.Ytfgjehecjgebdaa
open Go.RowKit

/-- A device: its sectors, the writes that are loose (oldest first), how many calls until the power goes, whether it is gone. -/
structure Dev where
  secs : List (List UInt8)
  cache : List (Nat × List UInt8)
  left : Int
  down : Bool

def zero64 : List UInt8 := List.replicate 64 0
def dev0 (n : Nat) : Dev := ⟨List.replicate n zero64, [], -1, false⟩

/-- One call more: is it made, and what stands behind it. -/
def Dev.call (D : Dev) : Bool × Dev :=
  if D.down then (false, D) else if D.left = 0 then (false, { D with down := true }) else if 0 < D.left then (true, { D with left := D.left - 1 }) else (true, D)

/-- A sector as it was written last. -/
def Dev.text (D : Dev) (i : Nat) : List UInt8 := match D.cache.reverse.find? (fun p => p.1 == i) with | some p => p.2 | none => D.secs.getD i []

def pad64 (t : List UInt8) : List UInt8 := t ++ List.replicate (64 - t.length) 0
def settle (s : List (List UInt8)) (c : List (Nat × List UInt8)) : List (List UInt8) := c.foldl (fun s p => s.set p.1 p.2) s

def Dev.read (D : Dev) (at_ : Int) : List UInt8 × Int :=
  if at_ < 0 ∨ (D.secs.length : Int) ≤ at_ then ([], 4) else if D.down then ([], 16) else (D.text at_.toNat, 0)
def Dev.write (D : Dev) (at_ : Int) (t : List UInt8) : Int × Dev :=
  if at_ < 0 ∨ (D.secs.length : Int) ≤ at_ ∨ 64 < t.length then (4, D) else if D.call.1 then (0, { D.call.2 with cache := D.cache ++ [(at_.toNat, pad64 t)] }) else (16, D.call.2)
def Dev.flush (D : Dev) : Int × Dev :=
  if D.call.1 then (0, { D.call.2 with secs := settle D.secs D.cache, cache := [] }) else (16, D.call.2)

/-- The writes of which the numbers are among those kept. -/
def kept (keep : List Int) (c : List (Nat × List UInt8)) : List (Nat × List UInt8) := ((c.zipIdx).filter fun p => decide ((p.2 : Int) ∈ keep)).map (·.1)
def Dev.crash (D : Dev) (keep : List Int) : Dev := ⟨settle D.secs (kept keep D.cache), [], -1, false⟩

structure Dev.Good (D : Dev) : Prop where
  one : 0 < D.secs.length
  most : D.secs.length ≤ 65536
  secs : ∀ s ∈ D.secs, s.length = 64
  cache : ∀ p ∈ D.cache, p.1 < D.secs.length ∧ p.2.length = 64
  left : -9223372036854775808 ≤ D.left ∧ D.left ≤ 9223372036854775807

theorem call_secs (D : Dev) : D.call.2.secs = D.secs := by unfold Dev.call; split <;> try rfl
                                                           split <;> try rfl
                                                           split <;> rfl
theorem call_cache (D : Dev) : D.call.2.cache = D.cache := by unfold Dev.call; split <;> try rfl
                                                              split <;> try rfl
                                                              split <;> rfl
theorem Dev.Good.called {D : Dev} (h : D.Good) : D.call.2.Good := by
  have hl : -9223372036854775808 ≤ D.call.2.left ∧ D.call.2.left ≤ 9223372036854775807 := by
    have := h.left
    unfold Dev.call
    split
    · exact this
    · split
      · exact this
      · split
        · simp only; omega
        · exact this
  exact ⟨by rw [call_secs]; exact h.one, by rw [call_secs]; exact h.most, by rw [call_secs]; exact h.secs, by rw [call_secs, call_cache]; exact h.cache, hl⟩
theorem settle_len (s : List (List UInt8)) (c : List (Nat × List UInt8)) : (settle s c).length = s.length := by
  unfold settle
  induction c generalizing s with
  | nil => rfl
  | cons x t ih => simp only [List.foldl_cons]; rw [ih]; simp
theorem settle_all {s : List (List UInt8)} {c : List (Nat × List UInt8)} (hs : ∀ x ∈ s, x.length = 64) (hc : ∀ p ∈ c, p.2.length = 64) : ∀ x ∈ settle s c, x.length = 64 := by
  unfold settle
  induction c generalizing s with
  | nil => exact hs
  | cons p t ih =>
    simp only [List.foldl_cons]
    apply ih
    · intro x hx
      rcases List.mem_or_eq_of_mem_set hx with h | h
      · exact hs x h
      · rw [h]; exact hc p (by simp)
    · intro q hq; exact hc q (by simp [hq])
theorem settle_snoc (s : List (List UInt8)) (c : List (Nat × List UInt8)) (p : Nat × List UInt8) : settle s (c ++ [p]) = (settle s c).set p.1 p.2 := by simp [settle]
theorem pad64_len (t : List UInt8) (h : t.length ≤ 64) : (pad64 t).length = 64 := by simp [pad64]; omega
theorem dev0_good (n : Nat) (h0 : 0 < n) (h : n ≤ 65536) : (dev0 n).Good := ⟨by simp [dev0]; omega, by simp [dev0]; omega, by intro s hs; simp [dev0] at hs; rw [hs.2]; simp [zero64], by simp [dev0], by simp [dev0]⟩
theorem Dev.Good.wrote {D : Dev} (h : D.Good) (a : Int) (t : List UInt8) : (D.write a t).2.Good := by
  unfold Dev.write
  split
  · exact h
  · rename_i hn
    split
    · have hc := h.called
      refine ⟨hc.one, hc.most, hc.secs, ?_, hc.left⟩
      intro p hp
      simp only [List.mem_append, List.mem_singleton] at hp
      simp only [call_secs]
      rcases hp with hp | rfl
      · exact h.cache p hp
      · exact ⟨by simp only; omega, pad64_len t (by omega)⟩
    · exact h.called
theorem Dev.Good.flushed {D : Dev} (h : D.Good) : D.flush.2.Good := by
  unfold Dev.flush
  split
  · have hc := h.called
    exact ⟨by simp only [settle_len]; exact h.one, by simp only [settle_len]; exact h.most, settle_all h.secs (fun p hp => (h.cache p hp).2), by simp, hc.left⟩
  · exact h.called
theorem kept_sub (keep : List Int) (c : List (Nat × List UInt8)) : ∀ p ∈ kept keep c, p ∈ c := by
  intro p hp
  simp only [kept, List.mem_map, List.mem_filter] at hp
  obtain ⟨q, ⟨hq, _⟩, rfl⟩ := hp
  exact (List.mem_zipIdx' hq).2 ▸ List.getElem_mem _
theorem Dev.Good.crashed {D : Dev} (h : D.Good) (keep : List Int) : (D.crash keep).Good :=
  ⟨by simp only [Dev.crash, settle_len]; exact h.one, by simp only [Dev.crash, settle_len]; exact h.most, settle_all h.secs (fun p hp => (h.cache p (kept_sub _ _ p hp)).2), by simp [Dev.crash], by simp [Dev.crash]⟩
theorem kept_snoc (keep : List Int) (c : List (Nat × List UInt8)) (p : Nat × List UInt8) : kept keep (c ++ [p]) = kept keep c ++ if (c.length : Int) ∈ keep then [p] else [] := by
  simp only [kept, List.zipIdx_append, List.filter_append, List.map_append]
  congr 1
  by_cases h : (c.length : Int) ∈ keep
  · simp [h, List.zipIdx]
  · simp [h, List.zipIdx]
theorem kept_take (keep : List Int) (c : List (Nat × List UInt8)) (k : Nat) (hk : k < c.length) : kept keep (c.take (k + 1)) = kept keep (c.take k) ++ if (k : Int) ∈ keep then [c[k]] else [] := by
  rw [List.take_succ_eq_append_getElem hk, kept_snoc]
  simp [Nat.min_eq_left (Nat.le_of_lt hk)]

end Go.Proofs.Ytfgjehecjgebdaa
