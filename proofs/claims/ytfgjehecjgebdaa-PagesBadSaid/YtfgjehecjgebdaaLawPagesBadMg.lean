/- PagesBad: whatever two sectors stand for superblocks, Open answers an error or a store that is as one of them says; and a page of which one byte is otherwise isn't read. No condition. -/
import Derived.Test.YtfgjehecjgebdaaMg54
import Derived.Test.YtfgjehecjgebdaaMg11
import Derived.Lib.SmallJoins
namespace Go.Proofs.Ytfgjehecjgebdaa.pagesBad
open Go.ChangeShapes Go.WideShapes Go.ChangeAt Go.RowKit

section
variable {H : Type} {enc : TypeId × Value → H} {w : World} {P : Program}
open Go.Deep Go.Joins
theorem open_sector {t ti tu ts : TypeId} {f0 f1 f2 : Field} {v : Value} {d : DataW H} {ps : List MemPlace} (hs : P.underlying t = some (.struct #[f0, f1, f2])) (hone : oneCellFields P #[f0, f1, f2] = true) (hC : P.cellsOf t = 3)
    (h0 : f0.type = ti) (h1 : f1.type = tu) (h2 : f2.type = ts) (hti : P.underlying ti = some (.int .i64)) (htu : P.underlying tu = some (.int .u8)) (hts : P.underlying ts = some .string)
    (hv : Value.okWide P w .any 0 t v) (h : DataW.Trod enc P w 0 (fun _ => true) true t v d ps) :
    ∃ (st : Int) (mk : Nat) (x : ByteArray), v = .agg #[.int .i64 st, .int .u8 mk, .string x] ∧ (-9223372036854775808 ≤ st ∧ st ≤ 9223372036854775807) ∧ mk < 256 ∧ x.size ≤ maxLen := by
  obtain ⟨v0, v1, v2, y0, y1, y2, n, rfl, _, _, t0, t1, t2⟩ := open_agg3 hs hone hC hv h
  rw [h0] at t0
  rw [h1] at t1
  rw [h2] at t2
  obtain ⟨x0, e0, _, w0⟩ := DataW.trod_int hti t0
  obtain ⟨x1, e1, _, w1⟩ := DataW.trod_int htu t1
  obtain ⟨x2, e2, _, w2⟩ := DataW.trod_string hts t2
  simp at e0 e1 e2
  subst e0 e1 e2
  have hb : 0 ≤ x1 ∧ x1 < 256 := by
    simp [Lit.wf, IntKind.min, IntKind.max, IntKind.bits, IntKind.signed] at w1
    omega
  exact ⟨x0, x1.toNat, x2, by rw [Int.toNat_of_nonneg hb.1], bounds_i64 w0, by omega, w2⟩
end

theorem walk (sa : Int) (ma : Nat) (da : ByteArray) (hsa : -9223372036854775808 ≤ sa ∧ sa ≤ 9223372036854775807) (hma : ma < 256) (hda : da.size ≤ maxLen) (sb : Int) (mb : Nat) (db : ByteArray) (hsb : -9223372036854775808 ≤ sb ∧ sb ≤ 9223372036854775807) (hmb : mb < 256) (hdb : db.size ≤ maxLen)
    (a4 : Int) (ha4 : -9223372036854775808 ≤ a4 ∧ a4 ≤ 9223372036854775807) (b4 : Int) (hb4 : -9223372036854775808 ≤ b4 ∧ b4 ≤ 9223372036854775807) {w : World} :
    Calls Try.prog 8 #[.agg #[.int .i64 sa, .int .u8 ma, .string da], .agg #[.int .i64 sb, .int .u8 mb, .string db], .int .i64 a4, .int .i64 b4] w fun e w' => e = .returned (.bool true) ∧ Below w.heap.size w w' :=
  (bad_walk sa ma da sb mb db a4 b4 w hsa hsb hma hmb hda hdb ha4 hb4).mono fun _ _ h => ⟨h.1, h.2.below⟩

set_option maxRecDepth 100000 in
theorem lifted (os : Os) (started : os.Started) (H : Type) (enc : TypeId × Value → H) :
    ReturnsInHanded {} Try.checked os 8 .any (Rows.pagesBadSpec.pre6 enc Try.prog Try.f8 Rows.pagesBadRow.domain false) (Rows.pagesBadSpec.post enc Try.prog Try.f8 false true false false) := by
  refine returnsInHanded_of_change_sized (C := Try.checked) law_own started (by kernel_rfl) Try.func8
    (ChangeSpec.witness6 (enc := enc) (C := Try.checked) false ⟨#[], #[.agg #[.int .i64 0, .int .u8 0, .string ⟨#[]⟩], .agg #[.int .i64 0, .int .u8 0, .string ⟨#[]⟩], .int .i64 0, .int .i64 0], []⟩ 8 (by kernel_rfl) (by kernel_rfl) (by kernel_rfl) (by kernel_rfl)) ?_
  intro W base args ds gs before hval0 hW hcnd hsz0 _
  have hval : ∀ (j : Nat) t v, Try.f8.params[j]? = some t → args[j]? = some v → Value.okWide Try.prog W .any base t v := hval0
  have hsz : (DataW.weightsEach Try.prog (Try.f8.params.toList ++ Rows.pagesBadSpec.plain.varTypes Try.prog) (ds ++ gs)).all (· ≤ reachBytes) = true := hsz0
  clear hsz0 hcnd
  have hW' := hW
  obtain ⟨p, q, hA0, hV, rfl, hfz, hnd⟩ := hW
  have hA : DataW.TrodAll enc Try.prog W 0 (fun _ => true) true Try.f8.params.toList args.toList ds p := hA0
  rw [Try.params8] at hA hval hsz
  obtain ⟨v0, vs0, d0, ds0, p0, q0, hargs, rfl, rfl, h0, r0⟩ := trodAll_cons hA
  obtain ⟨v1, vs1, d1, ds1, p1, q1, rfl, rfl, rfl, h1, r1⟩ := trodAll_cons r0
  obtain ⟨v2, vs2, d2, ds2, p2, q2, rfl, rfl, rfl, h2, r2⟩ := trodAll_cons r1
  obtain ⟨v3, vs3, d3, ds3, p3, q3, rfl, rfl, rfl, h3, r3⟩ := trodAll_cons r2
  obtain ⟨rfl, rfl, rfl⟩ := trodAll_nil r3
  obtain rfl : args = #[v0, v1, v2, v3] := by cases args; simp_all
  obtain ⟨rfl, rfl⟩ := trodVars_none hV
  obtain ⟨s0, m0, x0, rfl, ⟨ks0, km0, kx0⟩⟩ := open_sector Try.underlying64 (by kernel_rfl) (by kernel_rfl) rfl rfl rfl Try.underlying3 Try.underlying5 Try.underlying9 (hval 0 64 v0 rfl rfl) h0
  obtain ⟨s1, m1, x1, rfl, ⟨ks1, km1, kx1⟩⟩ := open_sector Try.underlying64 (by kernel_rfl) (by kernel_rfl) rfl rfl rfl Try.underlying3 Try.underlying5 Try.underlying9 (hval 1 64 v1 rfl rfl) h1
  obtain ⟨a2, rfl, rfl, rfl, w2⟩ := open_int Try.underlying3 (hval 2 3 v2 rfl rfl) h2
  obtain ⟨a3, rfl, rfl, rfl, w3⟩ := open_int Try.underlying3 (hval 3 3 v3 rfl rfl) h3
  refine (walk s0 m0 x0 ks0 km0 kx0 s1 m1 x1 ks1 km1 kx1 a2 (bounds_i64 w2) a3 (bounds_i64 w3)).mono fun e W' ⟨he, hb⟩ => ?_
  subst he
  exact ⟨_, rfl, law_post hW' rfl rfl rfl rfl (by kernel_rfl) Try.underlying4 law_laid (by kernel_rfl) hb⟩

theorem over : Rows.pagesBadRow.holds Try.pinned (OpenSpec.ofChange Rows.pagesBadSpec) :=
  OpenClaim.holds_of_wide 8 Try.f8 rfl rfl rfl rfl rfl rfl rfl ⟨rfl, rfl, rfl, rfl, rfl⟩ rfl rfl rfl rfl rfl (by kernel_rfl) Try.func8 (by kernel_rfl)
    (of_decide_eq_true (by kernel_rfl)) (by unfold Func.isWrapper; first | (rw [if_pos (by decide +kernel)]; kernel_rfl) | (rw [if_neg (by decide +kernel)]; exact ⟨rfl, rfl⟩))
    (fun os started H enc _ => lifted os started H enc)

theorem proved : Rows.PagesBadSaid := over

end Go.Proofs.Ytfgjehecjgebdaa.pagesBad
