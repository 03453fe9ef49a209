/- Pages: what a checkpoint does; its arguments. -/
import Derived.Test.YtfgjehecjgebdaaMg36
namespace Go.Proofs.Ytfgjehecjgebdaa
open Go.RowKit Go.Maps Go.ChangeMaps

theorem StoRead_calls {w st b c m d vs vc p g X} (h : IsStore w st b c m d vs vc p g X) (i : Int) (hd : X.D.down = false) (hn : 2 + 4 * p ≤ X.D.secs.length) (hcl : X.D.cache.length ≤ 1000000) :
    Calls Try.prog 39 #[.pointer (some ⟨st, 0, none⟩), .int .i64 i] w (StoReadPost (X.read i) w) := by
  rcases stAt_cases X.l h.sp.le i with e | e | e | e | e
  · have hr : X.read i = ([], 8) := by simp [Sto.read, e]
    rw [hr]; exact StoRead_none h i (.inl e)
  · have hr : X.read i = ([], 8) := by simp [Sto.read, e]
    rw [hr]; exact StoRead_none h i (.inr e)
  · obtain ⟨k, rfl, hk, _⟩ := stAt_nat (x := 1) e
    have hr : X.read k = pgOf (rawTo X.D k 4) := by simp [Sto.read, e]
    rw [hr]; exact StoRead_dev1 h k hk e hd hn hcl
  · obtain ⟨k, rfl, hk, hx⟩ := stAt_nat (x := 2) e
    have hr : X.read k = (X.T k, 0) := by simp [Sto.read, e]
    rw [hr]; exact StoRead_put h k hk hx
  · obtain ⟨k, rfl, hk, _⟩ := stAt_nat (x := 3) e
    have hr : X.read k = pgOf (rawTo X.D k 4) := by simp [Sto.read, e]
    rw [hr]; exact StoRead_dev3 h k hk e hd hn hcl

/-- A page's four writes. -/
def pgW (T : Nat → List UInt8) (id : Nat) : List (Nat × List UInt8) := (List.range 4).map fun k => (2 + 4 * id + k, ((fullB (T id)).drop (64 * k)).take 64)
/-- Writes, one behind the other, till one isn't made. -/
def wrAll (D : Dev) : List (Nat × List UInt8) → Int × Dev
  | [] => (0, D)
  | x :: r => if (D.write x.1 x.2).1 = 0 then wrAll (D.write x.1 x.2).2 r else D.write x.1 x.2
theorem wrAll_append (D : Dev) (x y : List (Nat × List UInt8)) : wrAll D (x ++ y) = if (wrAll D x).1 = 0 then wrAll (wrAll D x).2 y else wrAll D x := by
  induction x generalizing D with
  | nil => simp [wrAll]
  | cons a r ih =>
    by_cases h : (D.write a.1 a.2).1 = 0
    · have e1 : wrAll D (a :: r) = wrAll (D.write a.1 a.2).2 r := if_pos h
      have e2 : wrAll D (a :: r ++ y) = wrAll (D.write a.1 a.2).2 (r ++ y) := if_pos h
      rw [e1, e2, ih]
    · have e1 : wrAll D (a :: r) = D.write a.1 a.2 := if_neg h
      have e2 : wrAll D (a :: r ++ y) = D.write a.1 a.2 := if_neg h
      rw [e1, e2, if_neg h]
theorem wrAll_snoc (D : Dev) (x : List (Nat × List UInt8)) (a : Nat × List UInt8) (h : (wrAll D x).1 = 0) : wrAll D (x ++ [a]) = (wrAll D x).2.write a.1 a.2 := by
  rw [wrAll_append, if_pos h]
  simp only [wrAll]
  split
  · rename_i h0
    have := Prod.eta ((wrAll D x).2.write a.1 a.2)
    rw [h0] at this
    exact this
  · rfl
theorem wrAll_stop (D : Dev) (x y : List (Nat × List UInt8)) (h : (wrAll D x).1 ≠ 0) : wrAll D (x ++ y) = wrAll D x := by
  rw [wrAll_append, if_neg h]
theorem wrAll_good {D : Dev} (h : D.Good) (x : List (Nat × List UInt8)) : (wrAll D x).2.Good := by
  induction x generalizing D with
  | nil => exact h
  | cons a r ih =>
    simp only [wrAll]
    split
    · exact ih (h.wrote _ _)
    · exact h.wrote _ _
theorem write_cache (D : Dev) (a : Int) (t : List UInt8) : (D.write a t).2.cache.length ≤ D.cache.length + 1 := by
  unfold Dev.write
  split
  · simp
  · split
    · simp
    · rw [call_cache]; omega
theorem wrAll_cache (D : Dev) (x : List (Nat × List UInt8)) : (wrAll D x).2.cache.length ≤ D.cache.length + x.length := by
  induction x generalizing D with
  | nil => simp [wrAll]
  | cons a r ih =>
    simp only [wrAll, List.length_cons]
    have := write_cache D a.1 a.2
    split
    · have := ih (D.write a.1 a.2).2; omega
    · omega

/-- What a checkpoint does to the device: its error, the device. -/
def ckDev (X : Sto) (s : Sup) : Int × Dev :=
  let a := wrAll X.D ((fresh X.l).flatMap (pgW X.T))
  if a.1 ≠ 0 then a else
  let b := a.2.flush
  if b.1 ≠ 0 then b else
  let c := b.2.write (s.gen % 2 : Nat) (secText ⟨s.gen, 0, supB s X.l⟩)
  if c.1 ≠ 0 then c else c.2.flush
def ckBad (X : Sto) (root log next : Int) : Int :=
  if root < -1 ∨ (0 ≤ root ∧ stAt X.l root ≠ 1 ∧ stAt X.l root ≠ 2) ∨ (X.l.length : Int) ≤ root then 8
  else if log < 1 ∨ 1099511627776 < log ∨ next < 0 ∨ 1099511627776 < next then 18 else 0
/-- A checkpoint. -/
def Sto.check (X : Sto) (root log next : Int) : Int × Sto :=
  if ckBad X root log next ≠ 0 then (ckBad X root log next, X) else
  let s : Sup := ⟨X.sup.gen + 1, root, log.toNat, next.toNat⟩
  if (ckDev X s).1 = 0 then (0, { X with l := kp X.l, sup := s, D := (ckDev X s).2 }) else ((ckDev X s).1, { X with D := (ckDev X s).2 })

end Go.Proofs.Ytfgjehecjgebdaa
