/- PagesShadow: any calls on a store of pages, with the power going at any and any of what is loose lasting: the last checkpoint that was answered OK is found, or the one that was broken off, wholly. No condition. -/
import Derived.Test.YtfgjehecjgebdaaMg53
import Derived.Test.YtfgjehecjgebdaaMg24
namespace Go.Proofs.Ytfgjehecjgebdaa.pagesShadow
open Go.ChangeShapes Go.WideShapes Go.ChangeAt Go.RowKit

theorem walk {A : Option Addr} {len cap b0 off : Nat} {K N L M : Nat → Int} {S : Nat → ByteArray} {P : Nat → Option Addr} {Q : Nat → List Int} {C : Nat → Nat} {w : World} (hm : len ≤ maxLen) (hA : Acts6 w A len b0 off K N L M S P Q C) :
    Calls Try.prog 9 #[.slice A len cap] w fun e w' => e = .returned (.bool true) ∧ Below w.heap.size w w' :=
  (shadow_walk hm hA).mono fun _ _ h => ⟨h.1, h.2.below⟩

set_option maxRecDepth 100000 in
theorem lifted (os : Os) (started : os.Started) (H : Type) (enc : TypeId × Value → H) :
    ReturnsInHanded {} Try.checked os 9 .any (Rows.pagesShadowSpec.pre6 enc Try.prog Try.f9 Rows.pagesShadowRow.domain false) (Rows.pagesShadowSpec.post enc Try.prog Try.f9 false true false false) := by
  refine returnsInHanded_of_change_sized (C := Try.checked) law_own started (by kernel_rfl) Try.func9
    (ChangeSpec.witness6 (enc := enc) (C := Try.checked) false ⟨#[], #[.slice none 0 0], []⟩ 8 (by kernel_rfl) (by kernel_rfl) (by kernel_rfl) (by kernel_rfl)) ?_
  intro W base args ds gs before hval0 hW hcnd hsz0 _
  have hval : ∀ (j : Nat) t v, Try.f9.params[j]? = some t → args[j]? = some v → Value.okWide Try.prog W .any base t v := hval0
  have hsz : (DataW.weightsEach Try.prog (Try.f9.params.toList ++ Rows.pagesShadowSpec.plain.varTypes Try.prog) (ds ++ gs)).all (· ≤ reachBytes) = true := hsz0
  clear hsz0 hcnd
  have hW' := hW
  obtain ⟨p, q, hA0, hV, rfl, hfz, hnd⟩ := hW
  have hA : DataW.TrodAll enc Try.prog W 0 (fun _ => true) true Try.f9.params.toList args.toList ds p := hA0
  rw [Try.params9] at hA hval hsz
  obtain ⟨v0, vs0, d0, ds0, p0, q0, hargs, rfl, rfl, h0, r0⟩ := trodAll_cons hA
  obtain ⟨rfl, rfl, rfl⟩ := trodAll_nil r0
  obtain rfl : args = #[v0] := by cases args; simp_all
  obtain ⟨rfl, rfl⟩ := trodVars_none hV
  obtain ⟨A0, len0, cap0, b0, off0, K0, N0, L0, M0, S0, P0, Q0, C0, rfl, m0, y0⟩ := open_acts6 (ti := 3) (ts := 9) (tr := 36) Try.underlying90 Try.underlying92 (by kernel_rfl) (by kernel_rfl) rfl rfl rfl rfl rfl rfl Try.underlying3 Try.underlying9 Try.underlying36 (by kernel_rfl) (hval 0 90 v0 rfl rfl) h0
  refine (walk m0 y0).mono fun e W' ⟨he, hb⟩ => ?_
  subst he
  exact ⟨_, rfl, law_post hW' rfl rfl rfl rfl (by kernel_rfl) Try.underlying4 law_laid (by kernel_rfl) hb⟩

theorem over : Rows.pagesShadowRow.holds Try.pinned (OpenSpec.ofChange Rows.pagesShadowSpec) :=
  OpenClaim.holds_of_wide 9 Try.f9 rfl rfl rfl rfl rfl rfl rfl ⟨rfl, rfl, rfl, rfl, rfl⟩ rfl rfl rfl rfl rfl (by kernel_rfl) Try.func9 (by kernel_rfl)
    (of_decide_eq_true (by kernel_rfl)) (by unfold Func.isWrapper; first | (rw [if_pos (by decide +kernel)]; kernel_rfl) | (rw [if_neg (by decide +kernel)]; exact ⟨rfl, rfl⟩))
    (fun os started H enc _ => lifted os started H enc)

theorem proved : Rows.PagesShadowSaid := over

end Go.Proofs.Ytfgjehecjgebdaa.pagesShadow
