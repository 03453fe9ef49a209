/- Pages: a store's Dirty. -/
import Derived.Test.YtfgjehecjgebdaaMg31
import Derived.Test.YtfgjehecjgebdaaMg38
namespace Go.Proofs.Ytfgjehecjgebdaa
open Go.RowKit Go.Maps Go.ChangeMaps

theorem keys_prs (ks : List Nat) (T : Nat → List UInt8) : intKeys (DataW.map (prs ks T)) = ks.map fun i : Nat => (i : Int) := by
  simp only [intKeys, prs, List.map_map]
  apply List.map_congr_left
  intro a _
  rfl

theorem sorted_keys {ks : List Nat} (h : ks.Pairwise (· < ·)) {ss : List Int} (hp : ss.Perm (ks.map fun i : Nat => (i : Int))) : ss.mergeSort (fun x y => decide (x ≤ y)) = ks.map fun i : Nat => (i : Int) := by
  have tr : ∀ a b c : Int, decide (a ≤ b) = true → decide (b ≤ c) = true → decide (a ≤ c) = true := by
    intro a b c h1 h2; simp only [decide_eq_true_eq] at *; omega
  have tot : ∀ a b : Int, (decide (a ≤ b) || decide (b ≤ a)) = true := by
    intro a b; simp only [Bool.or_eq_true, decide_eq_true_eq]; omega
  refine List.Perm.eq_of_pairwise (le := fun a b => decide (a ≤ b) = true) (fun a b _ _ h1 h2 => by simp only [decide_eq_true_eq] at h1 h2; omega) (List.pairwise_mergeSort tr tot ss) ?_ ((List.mergeSort_perm ss _).trans hp)
  rw [List.pairwise_map]
  exact h.imp fun {a b} hlt => by simp only [decide_eq_true_eq]; omega

/-- What Dirty leaves of a store. -/
def StoDirtyPost (l : List Nat) (w : World) (e : Ending) (w' : World) : Prop :=
  ∃ v : Value, e = .returned v ∧ w'.ownsRow w.heap.size 3 1 v (fresh l).length ((fresh l).map fun i : Nat => Value.int .i64 (i : Int)) ∧ Kept (fun _ => False) w w'

theorem StoDirty_calls {w st b c m d vs vc p g X} (h : IsStore w st b c m d vs vc p g X) :
    Calls Try.prog 55 #[.pointer (some ⟨st, 0, none⟩)] w (StoDirtyPost X.l w) := by
  have hc : w.cell? ⟨st, 8, none⟩ = some (.map (some m)) := (cell_heap h.head 8).trans rfl
  refine (Dirty_calls st m 128 _ pgR w hc h.put (by
    show (prs (fresh X.l) X.T).length ≤ 1000
    rw [prs_len]; have := fresh_len X.l; have := h.sp.len; omega)).mono ?_
  rintro e w' ⟨v, ss, rfl, hp, hrow, hb⟩
  rw [keys_prs] at hp
  have hl : ss.length = (fresh X.l).length := by have := hp.length_eq; simpa using this
  rw [sorted_keys (fresh_up X.l) hp, hl, List.map_map] at hrow
  exact ⟨v, rfl, hrow, Kept.of_below hb⟩

end Go.Proofs.Ytfgjehecjgebdaa
