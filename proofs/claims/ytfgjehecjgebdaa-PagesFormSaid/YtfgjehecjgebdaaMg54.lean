/- PagesForm: the walk. -/
import Derived.Test.YtfgjehecjgebdaaMg53
import Derived.Test.YtfgjehecjgebdaaMg51
import Derived.Test.YtfgjehecjgebdaaMg52
import Derived.Test.YtfgjehecjgebdaaMg41
import Derived.Test.YtfgjehecjgebdaaMg31
import Derived.Test.YtfgjehecjgebdaaMg06
import Derived.Test.YtfgjehecjgebdaaMg12
import Derived.Deep.Strs
namespace Go.Proofs.Ytfgjehecjgebdaa
open Go.RowKit Go.Maps Go.ChangeMaps

/-- Texts, as they lie. -/
structure Strs (w : World) (A : Option Addr) (len : Nat) (b off : Nat) (S : Nat → ByteArray) : Prop where
  at_ : 0 < len → A = some ⟨b, off, none⟩
  lt : 0 < len → b < w.heap.size
  cell : ∀ i, i < len → w.cell? ⟨b, off + i, none⟩ = some (.string (S i))
  sz : ∀ i, i < len → (S i).size ≤ maxLen
theorem Strs.kept {w w' A len b off S} (h : Strs w A len b off S) (k : Kept (fun _ => False) w w') : Strs w' A len b off S :=
  ⟨h.at_, fun hl => Nat.lt_of_lt_of_le (h.lt hl) k.size, fun i hi => by
    have hb := h.lt (by omega)
    exact (World.cell?_of_block (w := w) (k.block b hb id)).trans (h.cell i hi), h.sz⟩
section
variable {H : Type} {enc : TypeId × Value → H} {w : World} {P : Program}
open Go.Deep Go.ChangeShapes Go.WideShapes
theorem open_texts {t e : TypeId} {v : Value} {d : DataW H} {ps : List MemPlace} (ht : P.underlying t = some (.slice e)) (he : P.underlying e = some .string) (hc : P.cellsOf e = 1)
    (hv : Value.okWide P w .any 0 t v) (h : DataW.Trod enc P w 0 (fun _ => true) true t v d ps) :
    ∃ A len cap b off S, v = .slice A len cap ∧ len ≤ maxLen ∧ Strs w A len b off S := by
  obtain ⟨a0, len, cap, rfl⟩ := okWide_slice ht hv
  obtain ⟨fuel, hf⟩ := h
  rcases Go.Deep.open_strs ht he hc hf with ⟨hcs, _⟩ | ⟨a, len', cap', m, Sx, hcs, _, hl, hm, hmm, _, hx⟩
  · simp [Value.cells] at hcs
    obtain ⟨rfl, rfl, rfl⟩ := hcs
    exact ⟨none, 0, 0, 0, 0, fun _ => ⟨#[]⟩, rfl, Nat.zero_le _, ⟨fun h => absurd h (by omega), fun h => absurd h (by omega), fun i h => absurd h (by omega), fun i h => absurd h (by omega)⟩⟩
  · simp [Value.cells] at hcs
    obtain ⟨rfl, rfl, rfl⟩ := hcs
    simp only [if_true] at hmm
    subst hmm
    obtain ⟨b, off, spot⟩ := a
    by_cases hlen : 0 < len
    · have h00 := (hx 0 (by omega)).1
      have hspot : spot = none := by simpa [Addr.add] using World.cell?_spot h00
      subst hspot
      have e1 : ∀ n, (⟨b, off, none⟩ : Addr).add n = ⟨b, off + n, none⟩ := fun n => by unfold Addr.add; split <;> simp_all
      refine ⟨some ⟨b, off, none⟩, len, _, b, off, Sx, rfl, by omega, ⟨fun _ => rfl, fun _ => block_lt_of_cell (a := (⟨b, off, none⟩ : Addr).add 0) h00, fun i hi => ?_, fun i hi => (hx i (by omega)).2⟩⟩
      rw [← e1]; exact (hx i (by omega)).1
    · exact ⟨some ⟨b, off, spot⟩, len, _, 0, 0, fun _ => ⟨#[]⟩, rfl, by omega, ⟨fun h => absurd h hlen, fun h => absurd h hlen, fun i h => absurd h (by omega), fun i h => absurd h (by omega)⟩⟩
end

theorem rBad_none (R : RSto) (lo ne : Int) (h1 : 1 ≤ lo) (h2 : lo ≤ 1099511627776) (h3 : 0 ≤ ne) (h4 : ne ≤ 1099511627776) : rBad R (-1) lo ne = 0 := by
  unfold rBad
  rw [if_neg (by omega), if_neg (by omega)]

/-- What the last checkpoint laid is found. -/
theorem latest_step {w d vs vc X R} (hd : IsDev w d vs vc X.D) (hi : Inv X R) (hg : X.sup.gen % 2 = 0) :
    Calls Try.prog 34 #[.pointer (some ⟨d, 0, none⟩), .int .i64 0, .int .i64 1] w fun e w' => e = .returned (.tuple #[secOf ⟨X.sup.gen, 0, supB X.sup (ud X.l)⟩, .int .i64 0, .int .i64 0]) ∧ Kept (fun _ => False) w w' := by
  refine (StLatest_calls hd 0 1 (by rw [hi.hale.cache]; simp)).mono ?_
  rintro e w' ⟨x, n, c, rfl, hk, hc, hr⟩
  have r0 : X.D.read 0 = (X.D.text 0, 0) := by
    simp only [Dev.read, hi.hale.down]
    rw [if_neg (by have := hi.n; omega)]; rfl
  have r1 : X.D.read 1 = (X.D.text 1, 0) := by
    simp only [Dev.read, hi.hale.down]
    rw [if_neg (by have := hi.n; omega)]; rfl
  rw [r0, r1] at hr hc
  obtain ⟨r, hn, hm⟩ := hr rfl rfl
  simp only [hi.hale.text] at hn
  obtain ⟨h1, _⟩ := hi.disk.found (by omega) hn
  rw [h1] at hm
  obtain ⟨rfl, rfl⟩ := hm
  have hq : decide (X.sup.gen % 2 = 1) = false := by simp; omega
  simp only [ne_eq, not_true_eq_false, if_false] at hc
  subst hc
  refine ⟨?_, hk⟩
  rw [hq]; rfl

/-- A page's sectors are its bytes. -/
theorem OnDisk.raw {p S l s K} (h : OnDisk p S l s K) {D : Dev} (hD : Hale D) (hS : D.secs = S) (i : Nat) (hi : l.getD i 0 = 1) : rawTo D i 4 = fullB (K i) := by
  have hp := h.page i hi
  rw [← four_parts (fullB (K i)) (fullB_len _ hp.1)]
  simp only [rawTo]
  simp only [List.flatMap]
  congr 1
  apply List.map_congr_left
  intro k hk
  rw [hD.text, hS, hp.2 k (List.mem_range.1 hk)]

def FormI (X : Sto) (R : RSto) : Prop := Inv X R ∧ X.sup = ⟨1, -1, 1, 1⟩

set_option maxHeartbeats 30000000 in
set_option maxRecDepth 100000 in
theorem form_walk {A : Option Addr} {len cap b0 off : Nat} {S : Nat → ByteArray} {w : World} (hm : len ≤ maxLen) (hA : Strs w A len b0 off S) (lg nx : Int) (hlg : -9223372036854775808 ≤ lg ∧ lg ≤ 9223372036854775807) (hnx : -9223372036854775808 ≤ nx ∧ nx ≤ 9223372036854775807) :
    Calls Try.prog 7 #[.slice A len cap, .int .i64 lg, .int .i64 nx] w fun e w' => e = .returned (.bool true) ∧ Kept (fun _ => False) w w' := by
  unfold maxLen at hm
  have HA := Lib.hid hA
  obtain ⟨lo, hlo⟩ : ∃ x, x = lg % 65536 := ⟨_, rfl⟩
  obtain ⟨ne, hne⟩ : ∃ x, x = nx % 65536 := ⟨_, rfl⟩
  have and1 : bits BinOp.and IntKind.i64 lg 65535 = lo := by rw [hlo]; exact and_mask lg 16 (by omega)
  have and2 : bits BinOp.and IntKind.i64 nx 65535 = ne := by rw [hne]; exact and_mask nx 16 (by omega)
  have hlo1 : 0 ≤ lo := by omega
  have hlo2 : lo < 65536 := by omega
  have hne1 : 0 ≤ ne := by omega
  have hne2 : ne < 65536 := by omega
  clear hA hlg hnx hlo hne
  go_enter Try.func7, Try.ntmps7
  go_wp2_with fail
  refine (begin_calls w).mono ?_
  rintro e w1 ⟨d, st, b, c, m, vs, vc, X, rfl, hs, k1, hX, hfr⟩
  have HS := Lib.hid hs
  have K1 := Lib.hid k1
  have HFR := Lib.hid hfr
  have HX := Lib.hid hX
  have HVS : Hid (∀ k, vs.ownBlock = some k → k < w1.heap.size) := fun k hk => by
    obtain ⟨cs, f, hg⟩ := own_type hs.dev.secs hk
    exact lt_heap hg
  clear hs k1 hX hfr
  go_wp2_with (go_at_call 28; refine (awake_calls _).mono ?_; rintro e w2 ⟨rfl, k2⟩; have K2 := Lib.hid k2; clear k2)
  refine (refNew_calls 8 (by omega) (by omega) w2).mono ?_
  rintro e w3 ⟨q, rfl, hr, k3⟩
  have K3 : Hid (Kept (fun _ => False) w1 w3) := K2.out.trans k3
  have HR := Lib.hid hr
  have HB2 : Hid (w1.heap.size ≤ w2.heap.size) := K2.out.size
  clear hr k3
  have hrv : id (refV q (rNew 8)) = .agg #[.slice (some ⟨q.gl, 0, none⟩) 8 q.cl, .slice (some ⟨q.gt, 0, none⟩) 8 q.ct, .int .i64 1, .int .i64 (-1), .int .i64 1, .int .i64 1, .slice (some ⟨q.gk, 0, none⟩) 8 q.ck] := rfl
  rw [hrv]
  go_wp2_with fail
  obtain ⟨W, hW⟩ : ∃ W, W = w3.alloc (.cells (refCells q (rNew 8)) 55) := ⟨_, rfl⟩
  have HP : Hid (PlayAt FormI w W w2.heap.size w3.heap.size d vs st b c m vc X (rNew 8) q 0) := by
    have k4 : Kept (fun _ => False) w3 W := by rw [hW]; exact (Kept.refl _ _).alloc _
    have k5 := K3.out.trans k4
    refine ⟨HS.out.keptF k5, HR.out.keptF k4, by rw [hW]; exact heap_new _ _, by rw [HX.out]; exact ⟨inv_begin, begin_disk.2.2.2.2.2⟩, by rw [HX.out, begin_disk.2.2.2.2.2]; simp, K1.out.trans k5, HFR.out, fun k hk => ?_, ?_⟩
    · have := HVS.out k hk; have := HB2.out; omega
    · exact (K1.out.trans K3.out).size
  have hW2 : w3.alloc (.cells #[.slice (some ⟨q.gl, 0, none⟩) 8 q.cl, .slice (some ⟨q.gt, 0, none⟩) 8 q.ct, .int .i64 1, .int .i64 (-1), .int .i64 1, .int .i64 1, .slice (some ⟨q.gk, 0, none⟩) 8 q.ck] 55) = W := hW.symm
  rw [hW2]
  obtain ⟨NX, hNX⟩ : ∃ n, n = w3.heap.size := ⟨_, rfl⟩
  obtain ⟨B, hB⟩ : ∃ n, n = w2.heap.size := ⟨_, rfl⟩
  rw [← hNX, ← hB] at HP
  rw [← hNX]
  clear hrv hW hW2 hNX hB
  go_loopw [11] (fun i wr => ∃ (j : Nat) (X : Sto) (R : RSto) (q : RP), j ≤ 8 ∧ i = .int .i64 j ∧ PlayAt FormI w wr B NX d vs st b c m vc X R q 0) (fun i _ => 8 - (intOf i).toNat)
  case atStart => exact ⟨0, X, _, q, by omega, rfl, HP.out⟩
  case round =>
    obtain ⟨j, X, R, q, hj, rfl, hp⟩ := hrel
    have HP := Lib.hid hp
    clear hp
    obtain ⟨x0, x1, x2, x3, x4, x5, x6⟩ := cells7 HP.out.box
    have hnx := lt_heap HP.out.box
    by_cases hin : j < len ∧ j < 8
    · obtain ⟨hjl, hj60⟩ := hin
      have hA2 := HA.out.kept HP.out.kept
      have hK := hA2.cell j hjl
      have hAd := hA2.at_ (by omega)
      have hb0 := hA2.lt (by omega)
      have HSZ := Lib.hid (hA2.sz j hjl)
      clear hA2
      subst hAd
      generalize hSj : S j = sj at *
      clear hSj
      obtain ⟨t, ht⟩ : ∃ t, cutTo sj 248 = ba t := ⟨(cutTo sj 248).data.toList, rfl⟩
      obtain ⟨⟨R7, wi, er⟩, hr⟩ : ∃ r, rPut R t = r := ⟨_, rfl⟩
      have HRP := Lib.hid hr
      obtain ⟨s, hs⟩ : ∃ s, s = ba t := ⟨_, rfl⟩
      have HSS := Lib.hid hs
      have CC : Hid (∀ W, Calls Try.prog 23 #[.string sj, .int .i64 248] W fun e w' => e = .returned (.string s) ∧ W = w') := fun W => by
        have h := Cut_calls sj 248 W HSZ.out (by omega)
        rw [ht, ← hs] at h; exact h
      have CP : Hid (Calls Try.prog 30 #[.pointer (some ⟨st, 0, none⟩), .string s] wr fun e w' => e = .returned (.tuple #[.int .i64 wi, .int .i64 er]) ∧ Kept (fun i => i = c ∨ i = m) wr w' ∧ ∃ X', IsStore w' st b c m d vs vc 8 6 X' ∧ Inv X' R7 ∧ X'.sup = X.sup) := by
        have h := put_step HP.out.sto HP.out.inv.1 t
        rw [hr, ← hs] at h; exact h
      clear hr hs ht
      go_wp2_with fail
      refine (CC.out _).mono ?_
      rintro e w5 ⟨rfl, rfl⟩
      go_wp2_with fail
      refine CP.out.mono ?_
      rintro e w6 ⟨rfl, k6, X', h6, hi6, hs6⟩
      have K6 : Hid (Kept (StoB st c m d vs vc) wr w6) := k6.mono fun _ _ e => e.elim (fun e => .inr (.inl e)) (fun e => .inr (.inr (.inl e)))
      have HS6 := Lib.hid h6
      have HI6 : Hid (FormI X' R7) := ⟨hi6, hs6.trans HP.out.inv.2⟩
      have HSF := Lib.hid (ref_safe HP.out.sto HP.out.ref HP.out.vsB)
      have HR6 := Lib.hid (HP.out.ref.kept K6.out HSF.out.1 HSF.out.2.1 HSF.out.2.2)
      have HB6 := Lib.hid (K6.out.heap HP.out.box (box_safe HP.out.sto HP.out.box))
      have HBW : Hid (B ≤ w6.heap.size) := by
        have h1 := HR6.out.texts.lt
        have h2 := HR6.out.bt
        simp only [Hid]; omega
      clear k6 h6 hi6 hs6 x0 x1 x2 x3 x4 x5 x6
      obtain ⟨y0, y1, y2, y3, y4, y5, y6⟩ := cells7 HB6.out
      have hnx6 := lt_heap HB6.out
      have CR := refPut_calls HR6.out HBW.out t
      rw [HRP.out, ← HSS.out] at CR
      unfold refV refCells at CR
      have CR' := Lib.hid CR
      clear CR
      go_wp2_with fail
      refine CR'.out.mono ?_
      rintro e w7 ⟨q7, rfl, h7, k7⟩
      have HR7 := Lib.hid h7
      have HB7 := Lib.hid (k7.heap HB6.out (fun f => f))
      have K7 := Lib.hid k7
      obtain ⟨z0, z1, z2, z3, z4, z5, z6⟩ := cells7 HB7.out
      obtain ⟨g0, g1, g2, g3, g4, g5, g6⟩ := free7 HB7.out
      have hnx7 := lt_heap HB7.out
      clear h7 k7 y0 y1 y2 y3 y4 y5 y6 hnx6
      simp only [refV, refCells]
      have KW7 : Kept (fun _ => False) w w7 := (HP.out.kept.then K6.out (fun i hi e => by have := HP.out.new i e; omega)).trans K7.out
      have P8 := PlayAt.boxed (I := FormI) (j := 0) (HS6.out.keptF K7.out) HR7.out HB7.out HI6.out (by rw [HI6.out.2]; simp) KW7 HP.out.new HP.out.vsB HP.out.nx
      have HP8 := Lib.hid P8
      clear P8 KW7
      go_wp2_with fail
      go_roundw
      case rel => exact ⟨j + 1, _, _, q7, by omega, by go_num, HP8.out⟩
      case measure => simp [intOf]; omega
    · have hcase : ¬ j < len ∨ (j < len ∧ ¬ j < 8) := by omega
      clear hin
      rcases hcase with hjl | ⟨hjl, hj8⟩
      all_goals
        have hb := rBad_none R (1 + lo) ne (by omega) (by omega) (by omega) (by omega)
        have hRs : R.s = ⟨1, -1, 1, 1⟩ := HP.out.inv.1.s.symm.trans HP.out.inv.2
        obtain ⟨R7, hR7⟩ : ∃ r : RSto, r = ⟨R.l.map kp1, R.T, ⟨2, -1, (1 + lo).toNat, ne.toNat⟩, R.T⟩ := ⟨_, rfl⟩
        have hck : rCheck R (-1) (1 + lo) ne = (R7, 0) := by rw [hR7]; simp [rCheck, hb, hRs]
        have HCK := Lib.hid hck
        have HR7 := Lib.hid hR7
        have HRG : Hid (R.s.gen ≤ 1099511627776) := by rw [hRs]; simp [Hid]
        have CP : Hid (Calls Try.prog 32 #[.pointer (some ⟨st, 0, none⟩), .int .i64 (-1), .int .i64 (1 + lo), .int .i64 ne] wr fun e w' => e = .returned (.int .i64 0) ∧ ∃ vc' X', StoTo wr st b c m d vs vc 8 6 w' vc' X' ∧ Inv X' R7 ∧ X'.sup.gen ≤ X.sup.gen + 1) := by
          have h := ck_step HP.out.sto HP.out.inv.1 (by rw [HP.out.inv.2]; simp) (-1) (1 + lo) ne
          rw [hck] at h; exact h
        clear hb hRs hck hR7
        go_wp2_with fail
        refine CP.out.mono ?_
        rintro e w6 ⟨rfl, vc', X', hto, hi6, -⟩
        have K6 : Hid (Kept (StoB st c m d vs vc) wr w6) := hto.kept
        have HS6 := Lib.hid hto.sto
        have HI6 := Lib.hid hi6
        have HNEW : Hid (∀ k, StoB st c m d vs vc' k → w.heap.size ≤ k) := by
          intro k hk
          rcases hk with e | e | e | e | e | e
          · exact HP.out.new k (.inl e)
          · exact HP.out.new k (.inr (.inl e))
          · exact HP.out.new k (.inr (.inr (.inl e)))
          · exact HP.out.new k (.inr (.inr (.inr (.inl e))))
          · exact HP.out.new k (.inr (.inr (.inr (.inr (.inl e)))))
          · rcases hto.own k e with e | e
            · exact HP.out.new k (.inr (.inr (.inr (.inr (.inr e)))))
            · have := HP.out.kept.size; omega
        have HSF := Lib.hid (ref_safe HP.out.sto HP.out.ref HP.out.vsB)
        have HR6 := Lib.hid (HP.out.ref.kept K6.out HSF.out.1 HSF.out.2.1 HSF.out.2.2)
        have HB6 := Lib.hid (K6.out.heap HP.out.box (box_safe HP.out.sto HP.out.box))
        have HG2 : Hid (X'.sup.gen = 2) := by rw [Hid, hi6.s, HR7.out]
        clear hto hi6 x0 x1 x2 x3 x4 x5 x6
        obtain ⟨y0, y1, y2, y3, y4, y5, y6⟩ := cells7 HB6.out
        have hnx6 := lt_heap HB6.out
        have CR := refCheck_calls HR6.out (-1) (1 + lo) ne HRG.out
        rw [HCK.out] at CR
        unfold refV refCells at CR
        have CR' := Lib.hid CR
        clear CR
        go_wp2_with fail
        refine CR'.out.mono ?_
        rintro e w7 ⟨q7, rfl, h7, k7⟩
        have HRR7 := Lib.hid h7
        have HB7 := Lib.hid (k7.heap HB6.out (fun f => f))
        have K7 := Lib.hid k7
        obtain ⟨z0, z1, z2, z3, z4, z5, z6⟩ := cells7 HB7.out
        obtain ⟨g0, g1, g2, g3, g4, g5, g6⟩ := free7 HB7.out
        have hnx7 := lt_heap HB7.out
        clear h7 k7 y0 y1 y2 y3 y4 y5 y6 hnx6
        simp only [refV, refCells]
        have KW7 : Kept (fun _ => False) w w7 := (HP.out.kept.then K6.out (fun i hi e => by have := HP.out.new i e; omega)).trans K7.out
        have P8 := PlayAt.boxed (I := Inv) (j := 2) (HS6.out.keptF K7.out) HRR7.out HB7.out HI6.out (by rw [HG2.out]; omega) KW7 HNEW.out HP.out.vsB HP.out.nx
        have HP8 := Lib.hid P8
        obtain ⟨ys, hys⟩ : ∃ x, x = ba (supB X'.sup (ud X'.l)) := ⟨_, rfl⟩
        have hl := latest_step P8.sto.dev P8.inv (by rw [HG2.out])
        rw [HG2.out] at hl
        simp only [secOf, secV] at hl
        rw [← hys] at hl
        have HL := Lib.hid hl
        have h01 : L01 R7.l := by
          rw [HR7.out]
          intro x hx
          simp only [List.mem_map] at hx
          obtain ⟨y, _, rfl⟩ := hx
          unfold kp1; split <;> omega
        have HYS : Hid (ba (supB R7.s R7.l) = ys) := by rw [Hid, hys, HI6.out.s, HI6.out.l, ud_of01 h01]
        have HGD : Hid R7.s.Good := by
          rw [Hid, HR7.out]
          exact ⟨by simp, by simp, by simp only; omega, by simp only; omega, by simp only; omega⟩
        clear P8 KW7 hys hl h01
        go_wp2_with fail
        refine HL.out.mono ?_
        rintro e w9 ⟨rfl, k9⟩
        have HP9 := Lib.hid (HP8.out.keptF k9)
        clear k9 z0 z1 z2 z3 z4 z5 z6 g0 g1 g2 g3 g4 g5 g6 hnx7
        go_wp2_with fail
        obtain ⟨W, hW⟩ : ∃ W, W = w9.alloc (.cells #[.int .i64 2, .int .u8 0, .string ys] 64) := ⟨_, rfl⟩
        have hyb : W.heap[w9.heap.size]? = some (.cells #[.int .i64 2, .int .u8 0, .string ys] 64 (0, 0)) := by rw [hW]; exact heap_new _ _
        have KW : Kept (fun _ => False) w9 W := by rw [hW]; exact (Kept.refl _ _).alloc _
        have HPW := Lib.hid (HP9.out.keptF KW)
        rw [← hW]
        obtain ⟨NY, hNY⟩ : ∃ n, n = w9.heap.size := ⟨_, rfl⟩
        rw [← hNY] at hyb
        rw [← hNY]
        have CS : Hid (∀ W1, Kept (fun _ => False) W W1 → Calls Try.prog 35 #[.agg #[.slice (some ⟨q7.gl, 0, none⟩) R7.l.length q7.cl, .slice (some ⟨q7.gt, 0, none⟩) R7.T.length q7.ct, .int .i64 R7.s.gen, .int .i64 R7.s.root, .int .i64 R7.s.log, .int .i64 R7.s.next, .slice (some ⟨q7.gk, 0, none⟩) R7.K.length q7.ck]] W1 fun e w' => e = .returned (.string ys) ∧ Kept (fun _ => False) W1 w') := fun W1 hW1 => by
          have h := refSuper_calls (HPW.out.ref.keptF hW1) HGD.out
          rw [HYS.out] at h
          exact h
        have n0 := (cell_heap hyb 0).trans rfl
        have n1 := (cell_heap hyb 1).trans rfl
        have n2 := (cell_heap hyb 2).trans rfl
        have hny := lt_heap hyb
        obtain ⟨z0, z1, z2, z3, z4, z5, z6⟩ := cells7 HPW.out.box
        have hnxW := lt_heap HPW.out.box
        have HYB := Lib.hid hyb
        clear hW hyb KW hNY
        go_region_held3 (fun w' => w'.cell? ⟨NY, 0, none⟩ = some (.int .i64 2) ∧ w'.cell? ⟨NY, 1, none⟩ = some (.int .u8 0) ∧ w'.cell? ⟨NY, 2, none⟩ = some (.string ys) ∧ w'.cell? ⟨NX, 0, none⟩ = some (.slice (some ⟨q7.gl, 0, none⟩) R7.l.length q7.cl) ∧ w'.cell? ⟨NX, 1, none⟩ = some (.slice (some ⟨q7.gt, 0, none⟩) R7.T.length q7.ct) ∧ w'.cell? ⟨NX, 2, none⟩ = some (.int .i64 R7.s.gen) ∧ w'.cell? ⟨NX, 3, none⟩ = some (.int .i64 R7.s.root) ∧ w'.cell? ⟨NX, 4, none⟩ = some (.int .i64 R7.s.log) ∧ w'.cell? ⟨NX, 5, none⟩ = some (.int .i64 R7.s.next) ∧ w'.cell? ⟨NX, 6, none⟩ = some (.slice (some ⟨q7.gk, 0, none⟩) R7.K.length q7.ck)) (go_keep)
          (first
            | (go_at_call 35; refine (CS.out _ (by repeat (first | exact Kept.refl _ _ | refine Kept.drew ?_))).mono ?_; rintro e w10 ⟨rfl, k10⟩; have K10 : Hid (Kept (fun _ => False) W w10) := Kept.trans (by repeat (first | exact Kept.refl _ _ | refine Kept.drew ?_)) k10; obtain ⟨b0, b1, b2, b3, b4, b5, b6⟩ := cells7 (K10.out.heap HPW.out.box id); have m0 := (cell_heap (K10.out.heap HYB.out id) 0).trans rfl; have m1 := (cell_heap (K10.out.heap HYB.out id) 1).trans rfl; have m2 := (cell_heap (K10.out.heap HYB.out id) 2).trans rfl; clear k10))
        have HP10 := Lib.hid (HPW.out.keptF K10.out)
        have hnx10 := lt_heap HP10.out.box
        clear n0 n1 n2 m0 m1 m2 z0 z1 z2 z3 z4 z5 z6 hny hnxW
        have hl8 : R7.l.length = 8 := by rw [← HP10.out.inv.l]; exact HP10.out.inv.len
        have ht8 : R7.T.length = R7.l.length := HP10.out.ref.lt
        have HL8 := Lib.hid hl8
        have HT8 := Lib.hid ht8
        have HRD : Hid (∀ (W1 : World) (i k : Nat), i < 8 → k < 4 → Kept (fun _ => False) w10 W1 → Calls Try.prog 36 #[.pointer (some ⟨d, 0, none⟩), .int .i64 (2 + 4 * (i : Int) + (k : Int))] W1 (DReadPost (X'.D.text (2 + 4 * i + k), 0) W1)) := fun W1 i k hi hk hW => by
          have e := DevRead_calls (HP10.out.sto.dev.keptF hW) (2 + 4 * (i : Int) + (k : Int)) (by rw [HP10.out.inv.hale.cache]; simp)
          have e2 : X'.D.read (2 + 4 * (i : Int) + (k : Int)) = (X'.D.text (2 + 4 * i + k), 0) := by
            simp only [Dev.read, HP10.out.inv.hale.down]
            rw [if_neg (by have := HP10.out.inv.n; omega)]
            have : (2 + 4 * (i : Int) + (k : Int)).toNat = 2 + 4 * i + k := by omega
            simp [this]
          rw [e2] at e
          exact e
        have HTL : Hid (∀ i k, i < 8 → k < 4 → (X'.D.text (2 + 4 * i + k)).length = 64) := fun i k hi hk => text_len HP10.out.sto.dev.good (by have := HP10.out.inv.n; omega)
        have HRL : Hid (∀ i k, i < 8 → k ≤ 4 → (rawTo X'.D i k).length = 64 * k) := fun i k hi hk => rawTo_len HP10.out.sto.dev.good k (by have := HP10.out.inv.n; omega)
        have HRW : Hid (∀ i, R7.l.getD i 0 = 1 → rawTo X'.D i 4 = fullB (R7.T.getD i [])) := fun i hi => by
          have h1 : (ud X'.l).getD i 0 = 1 := by rw [ud_map HP10.out.inv.lt4, getD_map0 ud1 rfl, HP10.out.inv.l, hi]; rfl
          rw [HP10.out.inv.disk.raw HP10.out.inv.hale rfl i h1, HP10.out.inv.kept i (.inl (by rw [HP10.out.inv.l]; exact hi))]
        have HTB : Hid (∀ i, R7.l.getD i 0 = 1 → (R7.T.getD i []).length ≤ 248) := fun i hi => by
          have h1 : (ud X'.l).getD i 0 = 1 := by rw [ud_map HP10.out.inv.lt4, getD_map0 ud1 rfl, HP10.out.inv.l, hi]; rfl
          rw [HP10.out.inv.kept i (.inl (by rw [HP10.out.inv.l]; exact hi))]
          exact (HP10.out.inv.disk.page i h1).1
        clear hl8 ht8
        go_wp2_with fail
        go_loopw [108] (fun i wr2 => ∃ k : Nat, k ≤ R7.l.length ∧ i = .int .i64 k ∧ Kept (fun _ => False) w10 wr2) (fun i _ => R7.l.length - (intOf i).toNat)
        case atStart => exact ⟨0, Nat.zero_le _, rfl, by repeat (first | exact Kept.refl _ _ | refine Kept.drew ?_)⟩
        case round =>
          obtain ⟨k, hk, rfl, hkr⟩ := hrel
          have HKR := Lib.hid hkr
          clear hkr
          by_cases hkl : k < R7.l.length
          · have hk8 : k < 8 := by have := HL8.out; omega
            obtain ⟨lk, hlk⟩ : ∃ x, x = R7.l[k] := ⟨_, rfl⟩
            have hck := (HP10.out.ref.keptF HKR.out).ints.cell k hkl
            have hgl := (HP10.out.ref.keptF HKR.out).ints.lt
            rw [← hlk] at hck
            have HLK : Hid (R7.l.getD k 0 = lk) := by rw [hlk]; simp [Hid, List.getD, hkl]
            clear hlk
            go_wp2_with fail
            go_loopw [18, 113] (fun v i wr3 => ∃ j : Nat, j ≤ 4 ∧ i = .int .i64 j ∧ v = .string (ba (rawTo X'.D k j)) ∧ Kept (fun _ => False) w10 wr3) (fun _ i _ => 4 - (intOf i).toNat)
            case atStart => exact ⟨0, by omega, rfl, by simp [rawTo, ba], HKR.out⟩
            case round =>
              obtain ⟨j, hj, rfl, rfl, hkj⟩ := hrel
              have HKJ := Lib.hid hkj
              clear hkj hck hgl
              obtain ⟨r, hr⟩ : ∃ r, r = ba (rawTo X'.D k j) := ⟨_, rfl⟩
              have hrs : r.size = 64 * j := by rw [hr, ba_size]; exact HRL.out k j hk8 hj
              rw [← hr]
              have HR := Lib.hid hr
              clear hr
              by_cases hlt : j < 4
              · have C := Lib.hid (HRD.out _ k j hk8 hlt HKJ.out)
                obtain ⟨x, hx⟩ : ∃ x, x = X'.D.text (2 + 4 * k + j) := ⟨_, rfl⟩
                have hxl : (ba x).size = 64 := by rw [ba_size, hx]; exact HTL.out k j hk8 hlt
                have HN : Hid (r ++ ba x = ba (rawTo X'.D k (j + 1))) := by simp only [Hid]; rw [rawTo_succ, ba_append, ← hx, HR.out]
                rw [← hx] at C
                have hsum : r.size + (ba x).size ≤ 1000 := by omega
                have HRS0 := Lib.hid hrs
                clear hx hxl hrs
                go_wp2_with fail
                refine C.out.mono ?_
                rintro e w12 ⟨rfl, k12⟩
                have HK2 := Lib.hid (HKJ.out.trans (Kept.of_below k12))
                clear k12
                go_wp2_with fail
                go_roundw
                case rel => exact ⟨j + 1, by omega, by go_num, by rw [HN.out], HK2.out⟩
                case measure => simp [intOf]; omega
              · obtain rfl : j = 4 := by omega
                clear hrs
                by_cases h1 : lk = 1
                · subst h1
                  obtain ⟨t, ht⟩ : ∃ t, t = R7.T.getD k [] := ⟨_, rfl⟩
                  have hkt : k < R7.T.length := by have := HT8.out; omega
                  have hct := (HP10.out.ref.keptF HKJ.out).texts.cell k hkt
                  have hgt := (HP10.out.ref.keptF HKJ.out).texts.lt
                  have htk : R7.T[k] = t := by rw [ht]; simp [List.getD, hkt]
                  rw [htk] at hct
                  obtain ⟨tx, htx⟩ : ∃ x, x = ba t := ⟨_, rfl⟩
                  rw [← htx] at hct
                  have CF := Lib.hid (fun W1 => refFull_calls t (by rw [ht]; exact HTB.out k HLK.out) W1)
                  rw [← htx] at CF
                  have hrr : r = ba (fullB t) := by rw [HR.out, HRW.out k HLK.out, ← ht]
                  rw [← hrr] at CF
                  obtain ⟨u0, u1, u2, u3, u4, u5, u6⟩ := cells7 (HKJ.out.heap HP10.out.box id)
                  have hnx3 := lt_heap (HKJ.out.heap HP10.out.box id)
                  clear ht htk htx hrr
                  go_wp2_with fail
                  refine (CF.out _).mono ?_
                  rintro e w13 ⟨rfl, k13⟩
                  have HK13 := Lib.hid (HKJ.out.trans k13)
                  clear k13
                  go_wp2_with fail
                  go_roundw
                  case rel => exact ⟨k + 1, by omega, by go_num, HK13.out⟩
                  case measure => simp [intOf]; omega
                · have t1 : ((lk : Int) == 1) = false := by rw [beq_eq_false_iff_ne]; omega
                  clear h1
                  go_wp2_with fail
                  go_roundw
                  case rel => exact ⟨k + 1, by omega, by go_num, HKJ.out⟩
                  case measure => simp [intOf]; omega
          · go_wp2_with fail
            go_ret
            exact ⟨rfl, HP10.out.kept.trans HKR.out⟩

end Go.Proofs.Ytfgjehecjgebdaa
