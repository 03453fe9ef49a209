/- serial: Orders. -/
import Derived.Test.YtghbnomiahiapaaSeC
import Derived.Laws.EntriesVeiled
namespace Go.Proofs.Ytghbnomiahiapaa
open Go.RowKit
attribute [local go_sem] Oper.semAt_some
/-- Transactions of a row that was there. -/
def TxsAt (w : World) (B : Nat) (v : Value) (af : List Int) : Prop := ∃ b off c, v = .slice (some ⟨b, off, none⟩) af.length c ∧ b < B ∧ b < w.heap.size ∧ ∀ j (hj : j < af.length), w.cell? ⟨b, off + j * 2, none⟩ = some (.slice none 0 0) ∧ w.cell? ⟨b, off + j * 2 + 1, none⟩ = some (.int .i64 af[j])
def OrdTo (af : List Int) (w : World) (e : Ending) (w' : World) : Prop := ∃ A c vs, e = .returned (.slice A (growL af af.length []).length c) ∧ w'.ownsRow w.heap.size 22 1 (.slice A (growL af af.length []).length c) vs.length vs ∧
  (vs.length = (growL af af.length []).length ∧ ∀ (i : Nat) (s : Value) (o : List Nat), vs[i]? = some s → (growL af af.length [])[i]? = some o → NRow w' w.heap.size s o) ∧ Kept (fun _ => False) w w'
set_option maxHeartbeats 4000000 in
theorem Orders_calls {w v af} (h : TxsAt w w.heap.size v af) (h6 : af.length ≤ 6) (hl : (growL af af.length []).length ≤ 1000) : Calls Try.prog 6 #[v] w (OrdTo af w) := by
  have hmf : ∀ (fn : Fn) (first cap : Array Value) (w : World), (Instr.makeFunc fn first cap).run Try.prog w = .ok (.func fn first cap) w := fun _ _ _ _ => rfl
  have H := Lib.hid h
  have HL := Lib.hid (And.intro h6 hl)
  obtain ⟨b, off, c, rfl, -⟩ := h
  obtain ⟨m, hM⟩ : ∃ m, m = af.length := ⟨_, rfl⟩
  have HM := Lib.hid hM
  have hm : m ≤ 6 := by omega
  rw [← hM]
  clear hM hl h6
  go_enter Try.func6, Try.ntmps6
  go_wp2_with fail
  obtain ⟨W0, hW0⟩ : ∃ W0, W0 = (((((w.alloc (Obj.cells #[.slice (some ⟨b, off, none⟩) m c] 24)).alloc (Obj.cells #[] 22)).alloc (Obj.cells #[.slice (some ⟨w.heap.size + 1, 0, none⟩) 0 0] 30)).alloc (Obj.cells #[.slice none 0 0] 22)).alloc
      (Obj.cells #[.func (.func 9) #[] #[.pointer (some ⟨w.heap.size + 1 + 1 + 1, 0, none⟩), .pointer (some ⟨w.heap.size, 0, none⟩), .pointer (some ⟨w.heap.size + 1 + 1, 0, none⟩), .pointer (some ⟨w.heap.size + 1 + 1 + 1 + 1, 0, none⟩)]] 1)) := ⟨_, rfl⟩
  have k0 : Kept (fun _ => False) w W0 := by rw [hW0]; exact (((((Kept.refl _ w).alloc _).alloc _).alloc _).alloc _).alloc _
  have HG : Gr W0 w.heap.size (w.heap.size + 1 + 1 + 1) w.heap.size (w.heap.size + 1 + 1) (w.heap.size + 1 + 1 + 1 + 1) (.slice (some ⟨b, off, none⟩) m c) af (.slice none 0 0) [] (.slice (some ⟨w.heap.size + 1, 0, none⟩) 0 0) [] [] := by
    refine ⟨by omega, ?_, ?_, ?_, ?_, ?_, World.ownsRow_nil _ _ _ _, ?_, ?_, by simp, by simp⟩
    · rw [hW0]; exact heap_old (heap_old (heap_old (heap_old (heap_new w _) _) _) _) _
    · rw [hW0]; exact heap_old (heap_newAt (by simp) _) _
    · rw [hW0]; exact heap_old (heap_old (heap_newAt (by simp) _) _) _
    · rw [hW0]; exact heap_newAt (by simp) _
    · obtain ⟨b', off', c', e, h1, h2, h3⟩ := H.out
      simp only [Value.slice.injEq, Option.some.injEq, Addr.mk.injEq, and_true, true_and] at e
      obtain ⟨⟨rfl, rfl⟩, rfl⟩ := e
      exact ⟨b, off, c, by rw [HM.out], h1, Nat.lt_of_lt_of_le h2 k0.size, fun j hj => ⟨(World.cell?_of_block (k0.block _ h2 not_false)).trans (h3 j hj).1, (World.cell?_of_block (k0.block _ h2 not_false)).trans (h3 j hj).2⟩⟩
    · have h1 : (w.alloc (Obj.cells #[.slice (some ⟨b, off, none⟩) m c] 24)).heap.size = w.heap.size + 1 := by simp
      have h := own_empty (w.alloc (Obj.cells #[.slice (some ⟨b, off, none⟩) m c] 24)) 22
      rw [h1] at h
      rw [hW0]
      refine own_base ((((Kept.refl (fun _ => False) _).alloc _).alloc _).alloc _ |>.own h fun _ _ => id) fun g hg => ?_
      simp [Value.ownBlock] at hg; omega
    · simp [Value.ownBlock]
  rw [← hW0]
  have C := Lib.hid (grow_calls af.length W0 _ _ _ _ _ _ af _ [] _ [] [] HG (by rw [hW0]; simp; omega) (by simp) HL.out.1 (by have := HL.out; simp; omega))
  have K0 := Lib.hid k0
  clear hW0 k0 HG
  refine C.out.mono ?_
  rintro e w1 ⟨rfl, vw1, vo1, vs1, g1, k1⟩
  obtain ⟨A1, c1, rfl⟩ : ∃ A c, vo1 = .slice A vs1.length c := by
    rcases g1.ro.2 with ⟨rfl, e⟩ | ⟨g, cap, cur, rfl, _⟩
    · exact ⟨none, 0, by rw [e]⟩
    · exact ⟨_, _, rfl⟩
  have cO1 : w1.cell? ⟨w.heap.size + 1 + 1, 0, none⟩ = some (.slice A1 vs1.length c1) := (cell_heap g1.hO 0).trans rfl
  have G1 := Lib.hid g1; have K1 := Lib.hid k1
  clear g1 k1 C
  go_wp2_with fail
  go_ret
  have e1 : vs1.length = (growL af af.length []).length := by have := G1.out.ou.1; simpa using this
  refine ⟨A1, c1, vs1, by rw [← e1]; rfl, by rw [← e1]; exact G1.out.ro, ⟨e1, fun i s o h1 h2 => (G1.out.ou.2 i s o h1 (by simpa using h2)).1⟩, K0.out.then K1.out fun i hi e => by omega⟩
end Go.Proofs.Ytghbnomiahiapaa
