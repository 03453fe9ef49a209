/- PagesShadow: the walk. -/
import Derived.Test.YtfgjehecjgebdaaMg52
import Derived.Test.YtfgjehecjgebdaaMg48
import Derived.Test.YtfgjehecjgebdaaMg49
import Derived.Test.YtfgjehecjgebdaaMg24
import Derived.Test.YtfgjehecjgebdaaMg51
import Derived.Test.YtfgjehecjgebdaaMg07
namespace Go.Proofs.Ytfgjehecjgebdaa
open Go.RowKit Go.Maps Go.ChangeMaps

theorem InvS.read {X R} (h : InvS X R) (i : Int) : X.read i = rRead R i := h.inv.read i
theorem InvS.isSame {w B q R st b c m d vs vc X} (hs : IsStore w st b c m d vs vc 8 6 X) (hr : IsRef w B q R) (hi : InvS X R) :
    Calls Try.prog 49 #[.pointer (some ⟨st, 0, none⟩), refV q R] w fun e w' => e = .returned (.int .i64 0) ∧ Kept (fun _ => False) w w' :=
  Is_same hs hr ⟨hi.inv.l, hi.inv.s, hi.read⟩ hi.calm.down (by have h1 : X.D.secs.length = 40 := hi.inv.n; omega) (by rw [hi.calm.cache]; simp)

set_option maxHeartbeats 30000000 in
set_option maxRecDepth 100000 in
theorem shadow_walk {A : Option Addr} {len cap b0 off : Nat} {K N L M : Nat → Int} {S : Nat → ByteArray} {P : Nat → Option Addr} {Q : Nat → List Int} {C : Nat → Nat} {w : World} (hm : len ≤ maxLen) (hA : Acts6 w A len b0 off K N L M S P Q C) :
    Calls Try.prog 9 #[.slice A len cap] w fun e w' => e = .returned (.bool true) ∧ Kept (fun _ => False) w w' := by
  unfold maxLen at hm
  have HA := Lib.hid hA
  clear hA
  go_enter Try.func9, Try.ntmps9
  go_wp2_with fail
  refine (begin_calls w).mono ?_
  rintro e w1 ⟨d, st, b, c, m, vs, vc, X, rfl, hs, k1, hX, hfr⟩
  have HS := Lib.hid hs
  have K1 := Lib.hid k1
  have HFR := Lib.hid hfr
  have HX := Lib.hid hX
  have HVS : Hid (∀ k, vs.ownBlock = some k → k < w1.heap.size) := fun k hk => by
    obtain ⟨cs, f, hg⟩ := own_type hs.dev.secs hk
    exact lt_heap hg
  clear hs k1 hX hfr
  go_wp2_with (go_at_call 28; refine (awake_calls _).mono ?_; rintro e w2 ⟨rfl, k2⟩; have K2 := Lib.hid k2; clear k2)
  refine (refNew_calls 8 (by omega) (by omega) w2).mono ?_
  rintro e w3 ⟨q, rfl, hr, k3⟩
  have K3 : Hid (Kept (fun _ => False) w1 w3) := K2.out.trans k3
  have HR := Lib.hid hr
  have HB2 : Hid (w1.heap.size ≤ w2.heap.size) := K2.out.size
  clear hr k3
  have hrv : id (refV q (rNew 8)) = .agg #[.slice (some ⟨q.gl, 0, none⟩) 8 q.cl, .slice (some ⟨q.gt, 0, none⟩) 8 q.ct, .int .i64 1, .int .i64 (-1), .int .i64 1, .int .i64 1, .slice (some ⟨q.gk, 0, none⟩) 8 q.ck] := rfl
  rw [hrv]
  go_wp2_with fail
  obtain ⟨W, hW⟩ : ∃ W, W = w3.alloc (.cells (refCells q (rNew 8)) 55) := ⟨_, rfl⟩
  have HP : Hid (PlayAt InvS w W w2.heap.size w3.heap.size d vs st b c m vc X (rNew 8) q 0) := by
    have k4 : Kept (fun _ => False) w3 W := by rw [hW]; exact (Kept.refl _ _).alloc _
    have k5 := K3.out.trans k4
    refine ⟨HS.out.keptF k5, HR.out.keptF k4, by rw [hW]; exact heap_new _ _, by rw [HX.out]; exact InvS.of inv_begin, by rw [HX.out, begin_disk.2.2.2.2.2]; simp, K1.out.trans k5, HFR.out, fun k hk => ?_, ?_⟩
    · have := HVS.out k hk; have := HB2.out; omega
    · exact (K1.out.trans K3.out).size
  have hW2 : w3.alloc (.cells #[.slice (some ⟨q.gl, 0, none⟩) 8 q.cl, .slice (some ⟨q.gt, 0, none⟩) 8 q.ct, .int .i64 1, .int .i64 (-1), .int .i64 1, .int .i64 1, .slice (some ⟨q.gk, 0, none⟩) 8 q.ck] 55) = W := hW.symm
  rw [hW2]
  obtain ⟨NX, hNX⟩ : ∃ n, n = w3.heap.size := ⟨_, rfl⟩
  obtain ⟨B, hB⟩ : ∃ n, n = w2.heap.size := ⟨_, rfl⟩
  rw [← hNX, ← hB] at HP
  rw [← hNX]
  clear hrv hW hW2 hNX hB
  go_loopw [4, 7] (fun v i wr => ∃ (j st b c m : Nat) (vc : Value) (X : Sto) (R : RSto) (q : RP), j ≤ 40 ∧ i = .int .i64 j ∧ v = .pointer (some ⟨st, 0, none⟩) ∧ PlayAt InvS w wr B NX d vs st b c m vc X R q j) (fun _ i _ => 40 - (intOf i).toNat)
  case atStart => exact ⟨0, st, b, c, m, vc, X, _, q, by omega, rfl, rfl, HP.out⟩
  case round =>
    obtain ⟨j, st, b, c, m, vc, X, R, q, hj, rfl, rfl, hp⟩ := hrel
    have HP := Lib.hid hp
    have HLY : Hid (∀ W, Calls Try.prog 43 #[] W fun e w' => e = .returned (.agg #[.int .i64 8, .int .i64 6]) ∧ Kept (fun _ => False) W w') := Layout_calls
    clear hp
    by_cases hin : j < len ∧ j < 40
    · obtain ⟨hjl, hj60⟩ := hin
      have hA2 := HA.out.kept HP.out.kept
      obtain ⟨hK, hN, hL, hM, hSt, hQ⟩ := hA2.cell j hjl
      obtain ⟨kb1, kb2⟩ := hA2.bd j hjl
      have hAd := hA2.at_ (by omega)
      have hb0 := hA2.lt (by omega)
      have HROW := Lib.hid (hA2.row j hjl)
      have HOLD := Lib.hid (HA.out.row j hjl).1
      obtain ⟨hroom, hroom2⟩ := HA.out.room j hjl
      clear hA2
      subst hAd
      generalize hKj : K j = kj at *
      generalize hNj : N j = nj at *
      generalize hLj : L j = lj at *
      generalize hMj : M j = mj at *
      generalize hSj : S j = sj at *
      generalize hPj : P j = pj at *
      generalize hQj : Q j = qj at *
      generalize hCj : C j = cj at *
      clear hKj hNj hLj hMj hSj hPj hQj hCj
      obtain ⟨x0, x1, x2, x3, x4, x5, x6⟩ := cells7 HP.out.box
      have hnx := lt_heap HP.out.box
      have HCR : Hid (∀ (n : Nat) (W : World) (vc' : Value) (D : Dev), n ≤ qj.length → IsDev W d vs vc' D → D.cache.length ≤ 1000 → Kept (StoB st c m d vs vc) wr W → (∀ k, vc'.ownBlock = some k → w.heap.size ≤ k) →
          Calls Try.prog 47 #[.pointer (some ⟨d, 0, none⟩), .slice pj n cj] W (CrashPost W d vs vc' (D.crash (qj.take n)))) := by
        intro n W vc' D hn hd hc hk hv
        have hnew : ∀ a, pj = some a → 0 < qj.length → a.block < w.heap.size := by
          intro a ha hp
          obtain ⟨b1, o1, hb1, hlt1, _⟩ := HOLD.out hp
          rw [hb1] at ha
          injection ha with ha
          subst ha
          exact hlt1
        have hI : Ints W pj qj := HROW.out.1.keptS hk (fun a ha hp hS => by have := hnew a ha hp; have := HP.out.new _ hS; omega)
        have hI2 : Ints W pj (qj.take n) := hI.take n
        have hl2 : (qj.take n).length = n := by rw [List.length_take]; omega
        have h := DevCrash_calls (cap := cj) hd (by omega) hI2 (by rw [hl2]; have := HROW.out.2.1; omega) (by
          intro a ha hp
          have h0 := hnew a ha (by rw [hl2] at hp; omega)
          rintro (e | e | e)
          · have := HP.out.new d (.inr (.inr (.inr (.inl rfl)))); omega
          · have := HP.out.new _ (.inr (.inr (.inr (.inr (.inl e))))); omega
          · have := hv _ e; omega)
        rw [hl2] at h
        exact h
      have hparts : (∃ n, n ≤ qj.length ∧ n = 30 ∧ decide ((30 : Int) < (qj.length : Int)) = true) ∨ (∃ n, n ≤ qj.length ∧ n = qj.length ∧ decide ((30 : Int) < (qj.length : Int)) = false) := by
        by_cases h30 : 30 < qj.length
        · exact .inl ⟨30, by omega, rfl, by simp; omega⟩
        · exact .inr ⟨qj.length, by omega, rfl, by simp; omega⟩
      rcases hparts with ⟨n, hn, rfl, t30⟩ | ⟨n, hn, rfl, t30⟩
      case' inl =>
        obtain ⟨b1, o1, rfl, hb1, _⟩ := HOLD.out (by omega)
        obtain ⟨kl, hkl⟩ : ∃ l, l = qj.take 30 := ⟨_, rfl⟩
        have HC : Hid (∀ (W : World) (vc' : Value) (D : Dev), IsDev W d vs vc' D → D.cache.length ≤ 1000 → Kept (StoB st c m d vs vc) wr W → (∀ k, vc'.ownBlock = some k → w.heap.size ≤ k) →
          Calls Try.prog 47 #[.pointer (some ⟨d, 0, none⟩), .slice (some ⟨b1, o1, none⟩) 30 cj] W (CrashPost W d vs vc' (D.crash kl))) := fun W vc' D h1 h2 h3 h4 => by rw [hkl]; exact HCR.out 30 W vc' D hn h1 h2 h3 h4
        have hc30 : (30 : Int) ≤ (cj : Int) := by omega
        clear hkl hn
      case' inr =>
        obtain ⟨kl, hkl⟩ : ∃ l, l = qj.take qj.length := ⟨_, rfl⟩
        have HC : Hid (∀ (W : World) (vc' : Value) (D : Dev), IsDev W d vs vc' D → D.cache.length ≤ 1000 → Kept (StoB st c m d vs vc) wr W → (∀ k, vc'.ownBlock = some k → w.heap.size ≤ k) →
          Calls Try.prog 47 #[.pointer (some ⟨d, 0, none⟩), .slice pj qj.length cj] W (CrashPost W d vs vc' (D.crash kl))) := fun W vc' D h1 h2 h3 h4 => by rw [hkl]; exact HCR.out qj.length W vc' D hn h1 h2 h3 h4
        clear hkl hn
      all_goals
        clear hroom hroom2
        by_cases e1 : kj = 1
        · subst e1
          obtain ⟨t, ht⟩ : ∃ t, cutTo sj 248 = ba t := ⟨(cutTo sj 248).data.toList, rfl⟩
          obtain ⟨⟨R7, wi, er⟩, hr⟩ : ∃ r, rPut R t = r := ⟨_, rfl⟩
          have HRP := Lib.hid hr
          obtain ⟨s, hs⟩ : ∃ s, s = ba t := ⟨_, rfl⟩
          have HSS := Lib.hid hs
          have CC : Hid (∀ W, Calls Try.prog 23 #[.string sj, .int .i64 248] W fun e w' => e = .returned (.string s) ∧ W = w') := fun W => by
            have h := Cut_calls sj 248 W HROW.out.2.2 (by omega)
            rw [ht, ← hs] at h; exact h
          have CP : Hid (∀ W, Kept (fun _ => False) wr W → Calls Try.prog 30 #[.pointer (some ⟨st, 0, none⟩), .string s] W fun e w' => (∃ v, e = .returned v) ∧ Kept (fun i => i = c ∨ i = m) W w' ∧ ∃ X', IsStore w' st b c m d vs vc 8 6 X' ∧ InvS X' R7 ∧ X'.sup = X.sup) := fun W hW => by
            have h := put_stepS (HP.out.sto.keptF hW) HP.out.inv t
            rw [hr, ← hs] at h; exact h
          clear hr hs ht
          go_wp2_with fail
          refine (CC.out _).mono ?_
          rintro e w5 ⟨rfl, rfl⟩
          go_wp2_with fail
          refine (CP.out _ ((Kept.refl _ _).alloc _)).mono ?_
          rintro e w6 ⟨⟨v, rfl⟩, k6, X', h6, hi6, hs6⟩
          have K6 : Hid (Kept (StoB st c m d vs vc) wr w6) := ((Kept.refl (StoB st c m d vs vc) wr).alloc _).trans (k6.mono fun _ _ e => e.elim (fun e => .inr (.inl e)) (fun e => .inr (.inr (.inl e))))
          have HS6 := Lib.hid h6
          have HI6 := Lib.hid hi6
          have HG6 := Lib.hid hs6
          have HSF := Lib.hid (ref_safe HP.out.sto HP.out.ref HP.out.vsB)
          have HR6 := Lib.hid (HP.out.ref.kept K6.out HSF.out.1 HSF.out.2.1 HSF.out.2.2)
          have HB6 := Lib.hid (K6.out.heap HP.out.box (box_safe HP.out.sto HP.out.box))
          have HBW : Hid (B ≤ w6.heap.size) := by
            have h1 := HR6.out.texts.lt
            have h2 := HR6.out.bt
            simp only [Hid]; omega
          clear k6 h6 hi6 hs6 x0 x1 x2 x3 x4 x5 x6
          obtain ⟨y0, y1, y2, y3, y4, y5, y6⟩ := cells7 HB6.out
          have hnx6 := lt_heap HB6.out
          have CR := refPut_calls HR6.out HBW.out t
          rw [HRP.out, ← HSS.out] at CR
          unfold refV refCells at CR
          have CR' := Lib.hid CR
          clear CR
          go_wp2_with fail
          refine CR'.out.mono ?_
          rintro e w7 ⟨q7, rfl, h7, k7⟩
          have HR7 := Lib.hid h7
          have HB7 := Lib.hid (k7.heap HB6.out (fun f => f))
          have K7 := Lib.hid k7
          obtain ⟨z0, z1, z2, z3, z4, z5, z6⟩ := cells7 HB7.out
          obtain ⟨g0, g1, g2, g3, g4, g5, g6⟩ := free7 HB7.out
          have hnx7 := lt_heap HB7.out
          clear h7 k7 y0 y1 y2 y3 y4 y5 y6 hnx6
          simp only [refV, refCells]
          have KW7 : Kept (fun _ => False) w w7 := (HP.out.kept.then K6.out (fun i hi e => by have := HP.out.new i e; omega)).trans K7.out
          have P8 := PlayAt.boxed (I := InvS) (j := j + 1) (HS6.out.keptF K7.out) HR7.out HB7.out HI6.out (by rw [HG6.out]; have := HP.out.gen; omega) KW7 HP.out.new HP.out.vsB HP.out.nx
          have HP8 := Lib.hid P8
          clear P8 KW7
          go_wp2_with fail
          go_roundw
          case rel => exact ⟨j + 1, st, b, c, m, vc, _, _, q7, by omega, by go_num, rfl, HP8.out⟩
          case measure => simp [intOf]; omega
        · by_cases e2 : kj = 2
          · subst e2
            clear e1
            obtain ⟨⟨gc, l2⟩, hgr⟩ : ∃ r, gvRes X.l nj = r := ⟨_, rfl⟩
            have HGR := Lib.hid hgr
            have CG : Hid (∀ (W : World), Kept (fun _ => False) wr W → Calls Try.prog 45 #[.pointer (some ⟨st, 0, none⟩), .int .i64 nj] W fun e w' => e = .returned (.int .i64 gc) ∧ Kept (fun i => i = c ∨ i = m) W w' ∧ IsStore w' st b c m d vs vc 8 6 { X with l := l2 }) := fun W hW => by
              have h1 := StoGive_calls (HP.out.sto.keptF hW) nj
              unfold GivePost at h1
              rw [hgr] at h1
              exact h1
            clear hgr
            go_wp2_with fail
            refine (CG.out _ ((Kept.refl _ _).alloc _)).mono ?_
            rintro e w6 ⟨rfl, k6, h6⟩
            have K6 : Hid (Kept (StoB st c m d vs vc) wr w6) := ((Kept.refl (StoB st c m d vs vc) wr).alloc _).trans (k6.mono fun _ _ e => e.elim (fun e => .inr (.inl e)) (fun e => .inr (.inr (.inl e))))
            have HS6 := Lib.hid h6
            have HSF := Lib.hid (ref_safe HP.out.sto HP.out.ref HP.out.vsB)
            have HR6 := Lib.hid (HP.out.ref.kept K6.out HSF.out.1 HSF.out.2.1 HSF.out.2.2)
            have HB6 := Lib.hid (K6.out.heap HP.out.box (box_safe HP.out.sto HP.out.box))
            obtain ⟨y0, y1, y2, y3, y4, y5, y6⟩ := cells7 HB6.out
            have hnx6 := lt_heap HB6.out
            have CR := refGive_calls HR6.out.ints HR6.out.len nj
            have hl0 : X.l = R.l := HP.out.inv.inv.l
            rw [← hl0, HGR.out, hl0] at CR
            simp only at CR
            have CR' := Lib.hid CR
            have HL4 : Hid (∀ x ∈ l2, x < 4) := h6.sp.le
            obtain ⟨ba1, ba2, ba3, ba4, ba5, hba⟩ := box6 k6 (fun i e => HP.out.sto.below (e.elim (fun e => .inr (.inl e)) (fun e => .inr (.inr (.inl e)))))
            have HINV : Hid (InvS { X with l := l2 } { R with l := l2 }) := by
              have := HP.out.inv.inv.given nj
              have e1 : (gvRes ({ X with D := X.D.unarmed } : Sto).l nj) = (gc, l2) := HGR.out
              rw [e1] at this
              exact ⟨HP.out.inv.calm, this⟩
            clear k6 h6 x0 x1 x2 x3 x4 x5 x6 CR hl0
            go_wp2_with fail
            refine CR'.out.mono ?_
            rintro e w7 ⟨g', cap', rfl, h7, hlen, k7⟩
            have HL7 := Lib.hid h7
            have HLEN := Lib.hid hlen
            have HB7 := Lib.hid (k7.heap HB6.out (fun f => f))
            have K7 := Lib.hid k7
            obtain ⟨z0, z1, z2, z3, z4, z5, z6⟩ := cells7 HB7.out
            obtain ⟨g0, g1, g2, g3, g4, g5, g6⟩ := free7 HB7.out
            have hnx7 := lt_heap HB7.out
            clear h7 k7 hlen y0 y1 y2 y3 y4 y5 y6 hnx6
            have KW7 : Kept (fun _ => False) w w7 := (HP.out.kept.then K6.out (fun i hi e => by have := HP.out.new i e; omega)).trans K7.out
            have P8 := PlayAt.boxedL (I := InvS) (j := j + 1) (HS6.out.keptF K7.out) (HR6.out.keptF K7.out) HL7.out HLEN.out HL4.out HB7.out HINV.out (by have := HP.out.gen; simp only; omega) KW7 HP.out.new HP.out.vsB HP.out.nx
            have HP8 := Lib.hid P8
            clear P8 KW7
            go_wp2_with fail
            go_roundw
            case rel => exact ⟨j + 1, st, b, c, m, vc, _, _, _, by omega, by go_num, rfl, HP8.out⟩
            case measure => simp [intOf]; omega
          · by_cases e6 : kj = 6
            · subst e6
              clear e1 e2
              obtain ⟨nm, hnm⟩ : ∃ x, x = nj % 64 := ⟨_, rfl⟩
              have hand : bits BinOp.and IntKind.i64 nj 63 = nm := by rw [and_63, hnm]
              have CA : Hid (∀ W, Kept (fun _ => False) wr W → Calls Try.prog 46 #[.pointer (some ⟨d, 0, none⟩), .int .i64 nm] W fun e w' => e = .returned (.tuple #[]) ∧ IsDev w' d vs vc { X.D with left := nm } ∧ Kept (· = d) W w') := fun W hW => DevArm_calls (HP.out.sto.keptF hW).dev nm (by omega)
              clear hnm
              go_wp2_with fail
              refine (CA.out _ ((Kept.refl _ _).alloc _)).mono ?_
              rintro e w6 ⟨rfl, h6, k6⟩
              have K6 : Hid (Kept (StoB st c m d vs vc) wr w6) := ((Kept.refl (StoB st c m d vs vc) wr).alloc _).trans (k6.mono fun _ _ e => .inr (.inr (.inr (.inl e))))
              have HSF := Lib.hid (ref_safe HP.out.sto HP.out.ref HP.out.vsB)
              have HP8 : Hid (PlayAt InvS w w6 B NX d vs st b c m vc { X with D := { X.D with left := nm } } R q (j + 1)) := by
                have hto : DevTo wr d vs vc w6 vc { X.D with left := nm } := ⟨h6, ((Kept.refl _ _).alloc _).trans (k6.mono fun _ _ e => .inl e), fun _ e => .inl e⟩
                refine ⟨HP.out.sto.devStep hto, HP.out.ref.kept K6.out HSF.out.1 HSF.out.2.1 HSF.out.2.2, K6.out.heap HP.out.box (box_safe HP.out.sto HP.out.box), HP.out.inv.armed nm, by have := HP.out.gen; simp only; omega, HP.out.kept.then K6.out (fun i hi e => by have := HP.out.new i e; omega), HP.out.new, HP.out.vsB, HP.out.nx⟩
              clear k6 h6 x0 x1 x2 x3 x4 x5 x6
              go_wp2_with fail
              go_roundw
              case rel => exact ⟨j + 1, st, b, c, m, vc, _, _, _, by omega, by go_num, rfl, HP8.out⟩
              case measure => simp [intOf]; omega
            · have t1 : (kj == 1) = false := by simpa using e1
              have t2 : (kj == 2) = false := by simpa using e2
              have t6 : (kj == 6) = false := by simpa using e6
              clear e1 e2 e6
              obtain ⟨⟨R7, er⟩, hr⟩ : ∃ r, rCheck R nj lj mj = r := ⟨_, rfl⟩
              have HRP := Lib.hid hr
              have hxg : X.sup.gen ≤ 100 := by have := HP.out.gen; omega
              have CP : Hid (∀ W, Kept (fun _ => False) wr W → Calls Try.prog 32 #[.pointer (some ⟨st, 0, none⟩), .int .i64 nj, .int .i64 lj, .int .i64 mj] W fun e w' => ∃ code vc' X', e = .returned (.int .i64 code) ∧ CkS W st b c m d vs vc X R nj lj mj code vc' X' w') := fun W hW => ck_stepS (HP.out.sto.keptF hW) HP.out.inv (by omega) nj lj mj
              have her : 0 ≤ er ∧ er ≤ 100 := by have := rCheck_bd R nj lj mj; rw [hr] at this; exact this
              obtain ⟨her1, her2⟩ := her
              have HRG : Hid (R.s.gen ≤ 1099511627776) := by
                have h0 : X.sup = R.s := HP.out.inv.inv.s
                rw [Hid, ← h0]; omega
              clear hr hxg
              go_wp2_with fail
              refine (CP.out _ ((Kept.refl _ _).alloc _)).mono ?_
              rintro e w6 ⟨code, vc', X', rfl, hto, hck⟩
              have K6 : Hid (Kept (StoB st c m d vs vc) wr w6) := ((Kept.refl (StoB st c m d vs vc) wr).alloc _).trans hto.kept
              have HS6 := Lib.hid hto.sto
              have HNEW : Hid (∀ k, StoB st c m d vs vc' k → w.heap.size ≤ k) := by
                intro k hk
                rcases hk with e | e | e | e | e | e
                · exact HP.out.new k (.inl e)
                · exact HP.out.new k (.inr (.inl e))
                · exact HP.out.new k (.inr (.inr (.inl e)))
                · exact HP.out.new k (.inr (.inr (.inr (.inl e))))
                · exact HP.out.new k (.inr (.inr (.inr (.inr (.inl e)))))
                · rcases hto.own k e with e | e
                  · exact HP.out.new k (.inr (.inr (.inr (.inr (.inr e)))))
                  · have := HP.out.kept.size; simp at e; omega
              have HSF := Lib.hid (ref_safe HP.out.sto HP.out.ref HP.out.vsB)
              have HR6 := Lib.hid (HP.out.ref.kept K6.out HSF.out.1 HSF.out.2.1 HSF.out.2.2)
              have HB6 := Lib.hid (K6.out.heap HP.out.box (box_safe HP.out.sto HP.out.box))
              have HCK := Lib.hid hck
              obtain ⟨ba1, ba2, ba3, ba4, ba5, hba⟩ := box6 hto.kept (fun i e => HP.out.sto.below e)
              clear hto hck x0 x1 x2 x3 x4 x5 x6
              obtain ⟨y0, y1, y2, y3, y4, y5, y6⟩ := cells7 HB6.out
              have hnx6 := lt_heap HB6.out
              have CR := refCheck_calls HR6.out nj lj mj HRG.out
              rw [HRP.out] at CR
              unfold refV refCells at CR
              have CR' := Lib.hid CR
              clear CR
              go_wp2_with fail
              refine CR'.out.mono ?_
              rintro e w7 ⟨q7, rfl, h7, k7⟩
              have HR7 := Lib.hid h7
              have HB7 := Lib.hid (k7.heap HB6.out (fun f => f))
              have K7 := Lib.hid k7
              obtain ⟨z0, z1, z2, z3, z4, z5, z6⟩ := cells7 HB7.out
              obtain ⟨g0, g1, g2, g3, g4, g5, g6⟩ := free7 HB7.out
              have hnx7 := lt_heap HB7.out
              have ca5 : w7.cell? ⟨wr.heap.size, 5, none⟩ = w6.cell? ⟨wr.heap.size, 5, none⟩ := World.cell?_of_block (w := w6) (k7.block _ hba id)
              rw [ba5] at ca5
              have hca : wr.heap.size < w7.heap.size := Nat.lt_of_lt_of_le hba k7.size
              clear h7 k7 y0 y1 y2 y3 y4 y5 y6 hnx6 ba1 ba2 ba3 ba4 ba5 hba
              simp only [refV, refCells]
              rcases HCK.out with ⟨h1, h2, h3, h4⟩ | ⟨h1, h2, h3⟩
              · -- the power stays
                rw [HRP.out] at h1 h3
                simp only at h1 h3
                subst h1
                have t16 : (code != 16) = true := by rw [bne_iff_ne]; exact h2
                have HI6 := Lib.hid h3
                have HG6 := Lib.hid h4
                have KW7 : Kept (fun _ => False) w w7 := (HP.out.kept.then K6.out (fun i hi e => by have := HP.out.new i e; omega)).trans K7.out
                have P7 := PlayAt.boxed (I := InvS) (j := j + 1) (HS6.out.keptF K7.out) HR7.out HB7.out HI6.out (by have := HG6.out; have := HP.out.gen; omega) KW7 HNEW.out HP.out.vsB HP.out.nx
                have P8 := P7.keptF ((Kept.refl _ _).alloc (.cells (refCells q7 R7) 55))
                have HP8 := Lib.hid P8
                clear P7 P8 KW7 h2 h3 h4
                go_wp2_with fail
                go_roundw
                case rel => exact ⟨j + 1, st, b, c, m, vc', _, _, q7, by omega, by go_num, rfl, HP8.out⟩
                case measure => simp [intOf]; omega
              · -- the power goes
                subst h1
                have KW7 : Hid (Kept (fun _ => False) w w7) := (HP.out.kept.then K6.out (fun i hi e => by have := HP.out.new i e; omega)).trans K7.out
                have HY := Lib.hid h3
                have HCL := Lib.hid h2
                clear h2 h3
                go_wp2_with fail
                obtain ⟨W8, hW8⟩ : ∃ W, W = w7.alloc (.cells #[.slice (some ⟨q7.gl, 0, none⟩) R7.l.length q7.cl, .slice (some ⟨q7.gt, 0, none⟩) R7.T.length q7.ct, .int .i64 R7.s.gen, .int .i64 R7.s.root, .int .i64 R7.s.log, .int .i64 R7.s.next, .slice (some ⟨q7.gk, 0, none⟩) R7.K.length q7.ck] 55) := ⟨_, rfl⟩
                have KA : Kept (fun _ => False) w7 W8 := by rw [hW8]; exact (Kept.refl _ _).alloc _
                have hby : W8.heap[w7.heap.size]? = some (.cells (refCells q7 R7) 55 (0, 0)) := by rw [hW8]; exact heap_new _ _
                rw [← hW8]
                have K78 := K7.out.trans KA
                have KX8 : Kept (StoB st c m d vs vc) wr W8 := K6.out.trans (K78.mono fun _ _ f => f.elim)
                have hs8 := HS6.out.keptF K78
                have hc8 := HC.out W8 vc' X'.D hs8.dev HCL.out KX8 (fun k e => HNEW.out k (.inr (.inr (.inr (.inr (.inr e))))))
                have HC8 := Lib.hid hc8
                have KA8 : Hid (Kept (fun _ => False) w W8) := KW7.out.trans KA
                have HS8 := Lib.hid hs8
                have HR8 := Lib.hid (HR6.out.keptF K78)
                have HR78 := Lib.hid (HR7.out.keptF KA)
                have HBX8 := Lib.hid (KA.heap HB7.out (fun f => f))
                have HBY8 := Lib.hid hby
                obtain ⟨NY, hNY⟩ : ∃ n, n = w7.heap.size := ⟨_, rfl⟩
                rw [← hNY] at HBY8
                rw [← hNY]
                clear hW8 KA hby K78 KX8 hs8 hc8 hNY z0 z1 z2 z3 z4 z5 z6 g0 g1 g2 g3 g4 g5 g6 hnx7 ca5 hca
                refine HC8.out.mono ?_
                rintro e w9 ⟨rfl, hdt⟩
                obtain ⟨Y, hYD, hYH, hYT, hYO, hYI⟩ := HY.out kl
                rw [← hYD] at hdt
                have K9 : Hid (Kept (StoB st c m d vs vc') W8 w9) := hdt.kept.mono fun _ _ e => by rcases e with e | e | e; exact .inr (.inr (.inr (.inl e))); exact .inr (.inr (.inr (.inr (.inl e)))); exact .inr (.inr (.inr (.inr (.inr e))))
                have sa := ref_safe HS8.out HR8.out HP.out.vsB
                have sb := ref_safe HS8.out HR78.out HP.out.vsB
                have HR9 := Lib.hid (HR8.out.kept K9.out sa.1 sa.2.1 sa.2.2)
                have HR79 := Lib.hid (HR78.out.kept K9.out sb.1 sb.2.1 sb.2.2)
                have HBX9 := Lib.hid (K9.out.heap HBX8.out (box_safe HS8.out HBX8.out))
                have HBY9 := Lib.hid (K9.out.heap HBY8.out (box_safe HS8.out HBY8.out))
                have KW9 : Hid (Kept (fun _ => False) w w9) := KA8.out.then K9.out (fun i hi e => by have := HNEW.out i e; omega)
                have HD9 := Lib.hid hdt.dev
                have HYO := Lib.hid hYO
                have HYH := Lib.hid hYH
                have HYT := Lib.hid hYT
                have HYI := Lib.hid hYI
                have HYN : Hid (Y.D.secs.length = 40) := by
                  rcases hYI with ⟨_, h⟩ | ⟨_, h⟩
                  · exact h.n
                  · exact h.n
                clear hdt hYD hYH hYT hYO hYI sa sb
                go_wp2_with fail
                refine (HLY.out _).mono ?_
                rintro e w10 ⟨rfl, k10⟩
                have K10 := Lib.hid k10
                have HO := Lib.hid (open_stepS (HD9.out.keptF k10) HYH.out HYN.out HYT.out HYO.out)
                clear k10
                go_wp2_with fail
                refine HO.out.mono ?_
                rintro e w11 ⟨k11, st', rfl, b', c', m', vc2, g1, g2, g3, g4, hs11, -, hown11⟩
                have K911 : Hid (Kept (fun _ => False) w9 w11) := K10.out.trans k11
                have KW11 : Hid (Kept (fun _ => False) w w11) := KW9.out.trans K911.out
                have HS11 := Lib.hid hs11
                have HR11 := Lib.hid (HR9.out.keptF K911.out)
                have HR711 := Lib.hid (HR79.out.keptF K911.out)
                have HBX11 := Lib.hid (K911.out.heap HBX9.out id)
                have HBY11 := Lib.hid (K911.out.heap HBY9.out id)
                have HNEW2 : Hid (∀ k, StoB st' c' m' d vs vc2 k → w.heap.size ≤ k) := by
                  intro k hk
                  have h0 := KW9.out.size
                  have h1 := K10.out.size
                  rcases hk with e | e | e | e | e | e
                  · omega
                  · omega
                  · omega
                  · exact HP.out.new k (.inr (.inr (.inr (.inl e))))
                  · exact HP.out.new k (.inr (.inr (.inr (.inr (.inl e)))))
                  · rcases hown11 k e with e | e
                    · simp [Value.ownBlock] at e
                    · omega
                have HBW : Hid (B ≤ w11.heap.size) := by
                  have h1 := HR11.out.texts.lt
                  have h2 := HR11.out.bt
                  simp only [Hid]; omega
                clear k11 g1 g2 g3 g4 hs11 hown11
                obtain ⟨y0, y1, y2, y3, y4, y5, y6⟩ := cells7 HBX11.out
                have hnx11 := lt_heap HBX11.out
                have CR2 := refUndo7_calls HR11.out HBW.out
                unfold refV refCells at CR2
                have CR2' := Lib.hid CR2
                clear CR2
                go_wp2_with fail
                refine CR2'.out.mono ?_
                rintro e w12 ⟨q12, rfl, h12, k12⟩
                have HRU := Lib.hid h12
                have K12 := Lib.hid k12
                clear h12 k12 y0 y1 y2 y3 y4 y5 y6 hnx11
                simp only [id, refV, refCells]
                go_wp2_with fail
                obtain ⟨W13, hW13⟩ : ∃ W, W = w12.alloc (.cells #[.slice (some ⟨q12.gl, 0, none⟩) (rUndo R).l.length q12.cl, .slice (some ⟨q12.gt, 0, none⟩) (rUndo R).T.length q12.ct, .int .i64 (rUndo R).s.gen, .int .i64 (rUndo R).s.root, .int .i64 (rUndo R).s.log, .int .i64 (rUndo R).s.next, .slice (some ⟨q12.gk, 0, none⟩) (rUndo R).K.length q12.ck] 55) := ⟨_, rfl⟩
                have KA : Kept (fun _ => False) w12 W13 := by rw [hW13]; exact (Kept.refl _ _).alloc _
                have hbu : W13.heap[w12.heap.size]? = some (.cells (refCells q12 (rUndo R)) 55 (0, 0)) := by rw [hW13]; exact heap_new _ _
                rw [← hW13]
                have K13 : Hid (Kept (fun _ => False) w11 W13) := K12.out.trans KA
                have HRU13 := Lib.hid (HRU.out.keptF KA)
                have HBU13 := Lib.hid hbu
                obtain ⟨NU, hNU⟩ : ∃ n, n = w12.heap.size := ⟨_, rfl⟩
                rw [← hNU] at HBU13
                rw [← hNU]
                have hnu := lt_heap HBU13.out
                obtain ⟨u0, u1, u2, u3, u4, u5, u6⟩ := cells7 HBU13.out
                clear hW13 KA hbu hNU
                rcases HYI.out with ⟨hg, hI⟩ | ⟨hg, hI⟩
                · -- as the last checkpoint left it
                  have HI := Lib.hid hI
                  have hgg : Y.sup.gen ≤ j + 2 := by have := HP.out.gen; omega
                  have H1 := Lib.hid (InvS.isSame (HS11.out.keptF K13.out) HRU13.out (InvS.of hI))
                  clear hI hg
                  go_wp2_with fail
                  refine H1.out.mono ?_
                  rintro e w14 ⟨rfl, k14⟩
                  have HB14 := Lib.hid ((K13.out.trans k14).heap HBX11.out id)
                  have HRU14 := Lib.hid (HRU13.out.keptF k14)
                  have K14 : Hid (Kept (fun _ => False) w11 w14) := K13.out.trans k14
                  obtain ⟨v0, v1, v2, v3, v4, v5, v6⟩ := cells7 (k14.heap HBU13.out id)
                  obtain ⟨z0, z1, z2, z3, z4, z5, z6⟩ := cells7 HB14.out
                  obtain ⟨g0, g1, g2, g3, g4, g5, g6⟩ := free7 HB14.out
                  have hnx14 := lt_heap HB14.out
                  have hnu14 : NU < w14.heap.size := Nat.lt_of_lt_of_le hnu k14.size
                  clear k14 u0 u1 u2 u3 u4 u5 u6 hnu
                  have P9 := PlayAt.boxed (I := InvS) (j := j + 1) (HS11.out.keptF K14.out) HRU14.out HB14.out (InvS.of HI.out) hgg (KW11.out.trans K14.out) HNEW2.out HP.out.vsB HP.out.nx
                  have HP9 := Lib.hid P9
                  have H2 := Lib.hid (InvS.isSame P9.sto P9.ref P9.inv)
                  clear P9
                  go_wp2_with fail
                  refine H2.out.mono ?_
                  rintro e w15 ⟨rfl, k15⟩
                  have HP10 := Lib.hid (HP9.out.keptF k15)
                  clear k15
                  go_wp2_with fail
                  go_roundw
                  case rel => exact ⟨j + 1, st', b', c', m', vc2, _, _, q12, by omega, by go_num, rfl, HP10.out⟩
                  case measure => simp [intOf]; omega
                · -- as the checkpoint that was broken off has it
                  rw [HRP.out] at hI
                  simp only at hI
                  have HI := Lib.hid hI
                  have hgg : Y.sup.gen ≤ j + 2 := by have := HP.out.gen; omega
                  have hne : Y.sup.gen ≠ (rUndo R).s.gen := by
                    have h0 : X.sup = R.s := HP.out.inv.inv.s
                    have h1 : (rUndo R).s = R.s := rfl
                    rw [h1, ← h0]; omega
                  have H1 := Lib.hid (Is_other (q := q12) (HS11.out.keptF K13.out) hne)
                  clear hI hg hne
                  go_wp2_with fail
                  refine H1.out.mono ?_
                  rintro e w14 ⟨rfl, k14⟩
                  have K14 : Hid (Kept (fun _ => False) w11 w14) := K13.out.trans k14
                  have HB14 := Lib.hid (K14.out.heap HBX11.out id)
                  have HR14 := Lib.hid (HR711.out.keptF K14.out)
                  have hby14 := K14.out.heap HBY11.out id
                  have hny14 := lt_heap hby14
                  obtain ⟨v0, v1, v2, v3, v4, v5, v6⟩ := cells7 hby14
                  obtain ⟨z0, z1, z2, z3, z4, z5, z6⟩ := cells7 HB14.out
                  obtain ⟨g0, g1, g2, g3, g4, g5, g6⟩ := free7 HB14.out
                  have hnx14 := lt_heap HB14.out
                  clear k14 u0 u1 u2 u3 u4 u5 u6 hnu hby14
                  have P9 := PlayAt.boxed (I := InvS) (j := j + 1) (HS11.out.keptF K14.out) HR14.out HB14.out (InvS.of HI.out) hgg (KW11.out.trans K14.out) HNEW2.out HP.out.vsB HP.out.nx
                  have HP9 := Lib.hid P9
                  have H2 := Lib.hid (InvS.isSame P9.sto P9.ref P9.inv)
                  clear P9
                  go_wp2_with fail
                  refine H2.out.mono ?_
                  rintro e w15 ⟨rfl, k15⟩
                  have HP10 := Lib.hid (HP9.out.keptF k15)
                  clear k15
                  go_wp2_with fail
                  go_roundw
                  case rel => exact ⟨j + 1, st', b', c', m', vc2, _, _, q7, by omega, by go_num, rfl, HP10.out⟩
                  case measure => simp [intOf]; omega
    · by_cases hjl : j < len
      · have hj60 : ¬ j < 40 := fun h => hin ⟨hjl, h⟩
        go_wp2_with fail
        go_ret
        exact ⟨rfl, HP.out.kept⟩
      · go_wp2_with fail
        go_ret
        exact ⟨rfl, HP.out.kept⟩

end Go.Proofs.Ytfgjehecjgebdaa
