/- PagesPlays: any calls on a store of pages, without loss of power: each answer is the document's, and behind each the store is. No condition. -/
import Derived.Test.YtfgjehecjgebdaaGreatMg53
import Derived.Test.YtfgjehecjgebdaaGreatMg28
namespace Go.Proofs.YtfgjehecjgebdaaGreat.pagesPlays
open Go.ChangeShapes Go.WideShapes Go.ChangeAt Go.RowKit

theorem walk {A : Option Addr} {len cap b0 off : Nat} {K N L M : Nat → Int} {S : Nat → ByteArray} {P : Nat → Option Addr} {Q : Nat → List Int} {C : Nat → Nat} {w : World} (hm : len ≤ maxLen) (hA : Acts6 w A len b0 off K N L M S P Q C) :
    Calls Tryz.prog 3 #[.slice A len cap] w fun e w' => e = .returned (.bool true) ∧ Below w.heap.size w w' :=
  (plays_walk hm hA).mono fun _ _ h => ⟨h.1, h.2.below⟩

set_option maxRecDepth 100000 in
theorem lifted (os : Os) (started : os.Started) (H : Type) (enc : TypeId × Value → H) :
    ReturnsInHanded {} Tryz.checked os 3 .any (Rows.pagesPlaysSpec.pre6 enc Tryz.prog Tryz.f3 Rows.pagesPlaysRow.domain false) (Rows.pagesPlaysSpec.post enc Tryz.prog Tryz.f3 false true false false) := by
  refine returnsInHanded_of_change_sized (C := Tryz.checked) law_own started (by kernel_rfl) Tryz.func3
    (ChangeSpec.witness6 (enc := enc) (C := Tryz.checked) false ⟨#[], #[.slice none 0 0], []⟩ 8 (by kernel_rfl) (by kernel_rfl) (by kernel_rfl) (by kernel_rfl)) ?_
  intro W base args ds gs before hval0 hW hcnd hsz0 _
  have hval : ∀ (j : Nat) t v, Tryz.f3.params[j]? = some t → args[j]? = some v → Value.okWide Tryz.prog W .any base t v := hval0
  have hsz : (DataW.weightsEach Tryz.prog (Tryz.f3.params.toList ++ Rows.pagesPlaysSpec.plain.varTypes Tryz.prog) (ds ++ gs)).all (· ≤ reachBytes) = true := hsz0
  clear hsz0 hcnd
  have hW' := hW
  obtain ⟨p, q, hA0, hV, rfl, hfz, hnd⟩ := hW
  have hA : DataW.TrodAll enc Tryz.prog W 0 (fun _ => true) true Tryz.f3.params.toList args.toList ds p := hA0
  rw [Tryz.params3] at hA hval hsz
  obtain ⟨v0, vs0, d0, ds0, p0, q0, hargs, rfl, rfl, h0, r0⟩ := trodAll_cons hA
  obtain ⟨rfl, rfl, rfl⟩ := trodAll_nil r0
  obtain rfl : args = #[v0] := by cases args; simp_all
  obtain ⟨rfl, rfl⟩ := trodVars_none hV
  obtain ⟨A0, len0, cap0, b0, off0, K0, N0, L0, M0, S0, P0, Q0, C0, rfl, m0, y0⟩ := open_acts6 (ti := 3) (ts := 9) (tr := 28) Tryz.underlying22 Tryz.underlying34 (by kernel_rfl) (by kernel_rfl) rfl rfl rfl rfl rfl rfl Tryz.underlying3 Tryz.underlying9 Tryz.underlying28 (by kernel_rfl) (hval 0 22 v0 rfl rfl) h0
  refine (walk m0 y0).mono fun e W' ⟨he, hb⟩ => ?_
  subst he
  exact ⟨_, rfl, law_post hW' rfl rfl rfl rfl (by kernel_rfl) Tryz.underlying4 law_laid (by kernel_rfl) hb⟩

theorem over : Rows.pagesPlaysRow.holds Tryz.pinned (OpenSpec.ofChange Rows.pagesPlaysSpec) :=
  OpenClaim.holds_of_wide 3 Tryz.f3 rfl rfl rfl rfl rfl rfl rfl ⟨rfl, rfl, rfl, rfl, rfl⟩ rfl rfl rfl rfl rfl (by kernel_rfl) Tryz.func3 (by kernel_rfl)
    (of_decide_eq_true (by kernel_rfl)) (by unfold Func.isWrapper; first | (rw [if_pos (by decide +kernel)]; kernel_rfl) | (rw [if_neg (by decide +kernel)]; exact ⟨rfl, rfl⟩))
    (fun os started H enc _ => lifted os started H enc)

theorem proved : Rows.PagesPlaysSaid := over

end Go.Proofs.YtfgjehecjgebdaaGreat.pagesPlays
