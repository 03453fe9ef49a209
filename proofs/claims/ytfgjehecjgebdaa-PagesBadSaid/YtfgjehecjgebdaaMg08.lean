/- Codec, Out: Text, U, N, S, by their contracts. -/
import Derived.Test.YtfgjehecjgebdaaProg
import Derived.Test.YtfgjehecjgebdaaMg02
import Derived.Deep.RegionHeld3
import Derived.Deep.RegionLaw
namespace Go.Proofs.Ytfgjehecjgebdaa
open Go.RowKit

def B8 (x : UInt8) : Value := .int .u8 x.toNat
theorem b8_one (l : List UInt8) : ∀ u ∈ l.map B8, u.oneCell' = true := by
  intro u hu
  obtain ⟨x, _, rfl⟩ := List.mem_map.1 hu
  rfl
theorem und_bytes2 : Try.prog.underlying 72 = some (.slice 5) := by kernel_rfl
theorem info_u82 : (Try.prog.info? 5).map (fun i => (i.zero, i.size, i.bytes)) = some (some (.int .u8 0), 1, 1) := by kernel_rfl

/-- Bytes that grow: the block o, its row's value v. -/
structure IsOut (w : World) (o : Nat) (v : Value) (bs : List UInt8) : Prop where
  head : w.heap[o]? = some (.cells #[v] 129 (0, 0))
  row : w.ownsRow 0 5 1 v bs.length (bs.map B8)

/-- What a step on them leaves. -/
structure OutTo (w : World) (o : Nat) (v : Value) (w' : World) (v' : Value) (bs' : List UInt8) : Prop where
  out : IsOut w' o v' bs'
  kept : Kept (fun k => k = o ∨ v.ownBlock = some k) w w'
  own : ∀ k, v'.ownBlock = some k → v.ownBlock = some k ∨ w.heap.size ≤ k

theorem OutTo.refl {w o v bs} (h : IsOut w o v bs) : OutTo w o v w v bs := ⟨h, Kept.refl _ _, fun _ h => .inl h⟩
theorem OutTo.trans {w o v w1 v1 b1 w2 v2 b2} (h : OutTo w o v w1 v1 b1) (k : OutTo w1 o v1 w2 v2 b2) : OutTo w o v w2 v2 b2 := by
  refine ⟨k.out, h.kept.then k.kept ?_, ?_⟩
  · rintro i hi (rfl | e)
    · exact .inl rfl
    · rcases h.own i e with e | e
      · exact .inr e
      · omega
  · intro i e
    rcases k.own i e with e | e
    · exact h.own i e
    · exact .inr (Nat.le_trans h.kept.size e)

/-- Another row, of other elements, stands. -/
theorem IsOut.ne {w o v bs g cs e f} (h : IsOut w o v bs) (hg : w.heap[g]? = some (.cells cs e f)) (h1 : e ≠ 129) (h2 : e ≠ 5) : ¬ (g = o ∨ v.ownBlock = some g) := by
  rintro (rfl | e1)
  · have := hg.symm.trans h.head
    simp at this
    exact h1 this.2.1
  · rcases h.row.2 with ⟨rfl, _⟩ | ⟨g', cap, cur, rfl, _, hh, _⟩
    · simp [Value.ownBlock] at e1
    · simp [Value.ownBlock] at e1
      subst e1
      have := hg.symm.trans hh
      simp at this
      exact h2 this.2.1

theorem IsOut.neRow {w o v bs g e xs} (h : IsOut w o v bs) (hg : RowIs w g e xs) (h1 : e ≠ 129) (h2 : e ≠ 5) : ¬ (g = o ∨ v.ownBlock = some g) := by
  obtain ⟨cs, f, hg, _⟩ := hg
  exact h.ne hg h1 h2

theorem IsOut.kept {w w' o v bs} {S : Nat → Prop} (h : IsOut w o v bs) (k : Kept S w w') (ho : ¬ S o) (hv : ∀ g, v.ownBlock = some g → ¬ S g) : IsOut w' o v bs :=
  ⟨k.heap h.head ho, k.own h.row hv⟩
theorem IsOut.keptF {w w' o v bs} (h : IsOut w o v bs) (k : Kept (fun _ => False) w w') : IsOut w' o v bs := h.kept k id (fun _ _ => id)
/-- A step behind new blocks. -/
theorem OutTo.behind {w W o v bs w2 v2 b2} (h : IsOut w o v bs) (k : Kept (fun _ => False) w W) (t : OutTo W o v w2 v2 b2) : OutTo w o v w2 v2 b2 :=
  (⟨h.keptF k, k.mono fun _ _ f => f.elim, fun _ h => .inl h⟩ : OutTo w o v W v bs).trans t

/-- An append, and the store of what it gave. -/
theorem out_app {w o v bs W w1 v1 xs m} (h : IsOut w o v bs) (k0 : Kept (fun _ => False) w W) (hm : m = xs.length) (hown : w1.ownsRow 0 5 1 v1 (bs.length + m) (bs.map B8 ++ xs.map B8)) (hg : W.grownBy w1 v.ownBlock)
    (hat : v1.ownBlock = v.ownBlock ∨ v1.ownBlock = some W.heap.size) : w1.heap[o]? = some (.cells #[v] 129 (0, 0)) ∧ OutTo w o v (w1.setCell ⟨o, 0, none⟩ v1) v1 (bs ++ xs) := by
  subst hm
  have hno : v.ownBlock ≠ some o := by
    intro e
    rcases h.row.2 with ⟨rfl, _⟩ | ⟨g', cap, cur, rfl, _, hh, _⟩
    · simp [Value.ownBlock] at e
    · simp [Value.ownBlock] at e
      subst e
      have := hh.symm.trans h.head
      simp at this
  have h0 : W.heap[o]? = some (.cells #[v] 129 (0, 0)) := k0.heap h.head id
  have h1 : w1.heap[o]? = some (.cells #[v] 129 (0, 0)) := (hg.block o (lt_heap h0) (fun e => hno e.symm)).trans h0
  have hk : Kept (fun k => k = o ∨ v.ownBlock = some k) w w1 :=
    (k0.mono fun _ _ f => f.elim).grown hg fun k hk => .inl (.inr hk)
  refine ⟨h1, ⟨⟨?_, ?_⟩, hk.setCell (.inl (.inl rfl)) _, ?_⟩⟩
  · rw [heap_set h1]; rfl
  · have hne : v1.ownBlock ≠ some (⟨o, 0, none⟩ : Addr).block := by
      rcases hat with e | e
      · rw [e]; exact hno
      · rw [e]; intro e2; simp at e2
        have := lt_heap h0
        omega
    have := ownsRow_setCell_other hown (a := ⟨o, 0, none⟩) hne v1
    rw [List.length_append, List.map_append]
    exact this
  · intro k hk
    rcases hat with e | e
    · rw [e] at hk; exact .inl hk
    · rw [e] at hk; simp at hk; subst hk; exact .inr k0.size

/-- A text of these bytes. -/
def ba (l : List UInt8) : ByteArray := ⟨l.toArray⟩
theorem ba_size (l : List UInt8) : (ba l).size = l.length := by simp [ba, ByteArray.size]

theorem ba_append (x y : List UInt8) : ba (x ++ y) = ba x ++ ba y := by
  apply ByteArray.ext
  simp [ba]
/-- 'string(make([]byte, m))'. -/
theorem run_zeros (m : Nat) (hm : m ≤ 100000) : ∃ O : Obj, (∀ w : World, (Instr.makeSlice 72 (.int .i64 (m : Int)) (.int .i64 (m : Int))).run Try.prog w = .ok (.slice (some ⟨w.heap.size, 0, none⟩) m m) (w.alloc O)) ∧
    (∀ w : World, (convert 72 9 (.slice (some ⟨w.heap.size, 0, none⟩) m m)).run Try.prog (w.alloc O) = .ok (.string (ba (List.replicate m 0))) (w.alloc O)) := by
  refine ⟨.cells (List.replicate m (.int .u8 0)).toArray 5, fun w => run_make_n w und_bytes2 info_u82 rfl m (by omega) (by unfold maxLen; omega), fun w => ?_⟩
  have h := run_conv_row (P := Try.prog) (src := 72) (dst := 9) und_bytes2 (by kernel_rfl) (by kernel_rfl) (ys := List.replicate m 0) (more := []) (cap := m) (t := 5) (w := w.alloc (.cells (List.replicate m (.int .u8 0)).toArray 5)) (g := w.heap.size) (by
    have := heap_new w (.cells (List.replicate m (.int .u8 0)).toArray 5)
    simpa [B] using this)
  rw [List.length_replicate] at h
  rw [h]
  simp [bstr, ba]

theorem OutText_calls {w o v bs} (h : IsOut w o v bs) : Calls Try.prog 73 #[.pointer (some ⟨o, 0, none⟩)] w fun e w' => e = .returned (.string (ba bs)) ∧ w = w' := by
  have hc : w.cell? ⟨o, 0, none⟩ = some v := by rw [cell_heap h.head]; rfl
  rcases h.row.2 with ⟨rfl, h0⟩ | ⟨g, cap, cur, rfl, _, hg, hn, _, hsz, htk⟩
  · have hcv := run_convert_bytes_nil (P := Try.prog) w 72 5 und_bytes2 (by kernel_rfl) 0 0 9 (by kernel_rfl)
    have hb : bs = [] := List.eq_nil_of_length_eq_zero h0
    subst hb
    clear h h0
    go_enter Try.func73, Try.ntmps73
    go_wp2
    go_ret
    exact ⟨rfl, rfl⟩
  · have hcv : (convert 72 9 (.slice (some ⟨g, 0, none⟩) bs.length cap)).run Try.prog w = .ok (.string (ba bs)) w := by
      have h1 := run_convert_bytes_arg (P := Try.prog) w 72 5 und_bytes2 (by kernel_rfl) g 0 bs.length cap (bs.map fun x => (x.toNat : Int)) (by simp) (by
        intro i hi
        rw [Nat.zero_add, cell_of_row w g i cur _ _ hg]
        have h2 := congrArg (fun l => l[i]?) htk
        simp only [List.getElem?_take, Nat.mul_one, if_pos hi] at h2
        rw [← Array.getElem?_toList, h2]
        simp [B8, List.getD, hi]) 9 (by kernel_rfl)
      rw [h1]
      simp [strOfNums, ba, Function.comp_def]
    clear h hg htk
    go_enter Try.func73, Try.ntmps73
    go_wp2
    go_ret
    exact ⟨rfl, rfl⟩

end Go.Proofs.Ytfgjehecjgebdaa
/- Codec, Out.U: a number's bytes. -/
namespace Go.Proofs.Ytfgjehecjgebdaa
open Go.RowKit

theorem und_out : True := trivial

/-- What U leaves. -/
def UPost (o : Nat) (v : Value) (bs : List UInt8) (w : World) (e : Ending) (w' : World) : Prop :=
  e = .returned (.pointer (some ⟨o, 0, none⟩)) ∧ ∃ v', OutTo w o v w' v' bs

set_option maxRecDepth 100000 in
theorem U_calls {w o v bs g f} (h : IsOut w o v bs) (n : Nat) (hn : n < 18446744073709551616) (hg : w.heap[g]? = some (.cells #[.int .u64 n] 146 f)) (hb : bs.length < 4000000000) :
    Calls Try.prog 90 #[.pointer (some ⟨o, 0, none⟩), .slice (some ⟨g, 0, none⟩) 1 1] w (UPost o v (bs ++ encU n) w) := by
  have hc0 : w.cell? ⟨g, 0, none⟩ = some (.int .u64 n) := by rw [cell_heap hg]; rfl
  have hn64 : (n : Int) < 18446744073709551616 := by omega
  have H := Lib.hid h; clear h
  have HG := Lib.hid hg; clear hg
  go_enter Try.func90, Try.ntmps90
  go_wp2
  go_loopw [12] (fun i wr => (i = .int .i64 0 ∧ w = wr) ∨ (i = .int .i64 1 ∧ ∃ v', OutTo w o v wr v' (bs ++ encU n))) (fun i _ => 1 - (intOf i).toNat)
  case atStart => exact .inl ⟨rfl, rfl⟩
  case round =>
    rcases hrel with ⟨rfl, rfl⟩ | ⟨rfl, hO⟩
    · go_wp2
      go_loop [7, 8] (fun a b => ∃ k x : Nat, Hid (nb x + k = nb n) ∧ k ≤ 8 ∧ x ≤ n ∧ a = .int .i64 k ∧ b = .int .u64 x) (fun _ b => (intOf b).toNat)
      case atStart => exact ⟨0, n, rfl, by omega, Nat.le_refl _, rfl, rfl⟩
      case round =>
        obtain ⟨k, x, hk, hk8, hx, rfl, rfl⟩ := hrel
        by_cases hx0 : 0 < x
        · have HX : Hid (nb (x / 256) + (k + 1) = nb n) := by have := hk.out; rw [nb_pos hx0] at this; simp only [Hid]; omega
          have HB : k + 1 ≤ 8 := by have := HX.out; have := nb_le8 n hn; omega
          go_wp2
          go_round
          case rel => exact ⟨k + 1, x / 256, HX.out, HB, by omega, by go_num, by go_num⟩
          case measure => simp [intOf]; omega
        · obtain rfl : x = 0 := by omega
          have HK : Hid (k = nb n) := by have := hk.out; rw [nb_zero] at this; simp only [Hid]; omega
          clear hk hx0 hx
          have hcell : w.cell? ⟨o, 0, none⟩ = some v := by rw [cell_heap H.out.head]; rfl
          have hok := lt_heap H.out.head
          go_wp2_with (at_builtin; go_loud (refine app_one (v := v) rfl (.tmp 27) (.tmp 30) rfl und_bytes2 info_u82 rfl rfl (H.out.row.alloc _) (w.heap.size + 1) rfl (reads_one w (.int .u8 k) _) (by intro u hu; simp at hu; subst hu; rfl) (by unfold maxLen; omega) (by omega) ?_; intro v1 w1 hown1 hg1 hat1; have R := out_app (xs := [UInt8.ofNat k]) H.out ((Kept.refl _ _).alloc _) rfl (by simpa [B8, UInt8.toNat_ofNat', Nat.mod_eq_of_lt (show k < 256 by omega)] using hown1) hg1 (by simpa using hat1); obtain ⟨g1, cap1, rfl⟩ := own_form hown1 (by omega); have hc1 : w1.cell? ⟨o, 0, none⟩ = some v := (cell_heap R.1 0).trans rfl; have hf1 : w1.frozen? ⟨o, 0, none⟩ = false := free_heap R.1 0; have HR := Lib.hid R.2; clear R hown1 hg1 hat1 hcell))
          have HR2 : Hid (∃ v', OutTo w o v (w1.setCell ⟨o, 0, none⟩ (.slice (some ⟨g1, 0, none⟩) (bs.length + 1) cap1)) v' (bs ++ [UInt8.ofNat k])) := ⟨_, HR.out⟩
          clear HR
          generalize w1.setCell ⟨o, 0, none⟩ (.slice (some ⟨g1, 0, none⟩) (bs.length + 1) cap1) = w2 at *
          clear hc1 hf1
          go_loopw [9] (fun i wr => ∃ c : Nat, c ≤ k ∧ i = .int .i64 ((c : Int) - 1) ∧ ∃ v', OutTo w o v wr v' (bs ++ (UInt8.ofNat k :: (beB k n).take (k - c)))) (fun i _ => (intOf i + 1).toNat)
          case atStart => exact ⟨k, Nat.le_refl _, rfl, by simpa using HR2.out⟩
          case round =>
            obtain ⟨c, hc, rfl, v2, hO⟩ := hrel
            by_cases hc0 : c = 0
            · subst hc0
              have HE : Hid (bs ++ (UInt8.ofNat k :: (beB k n).take (k - 0)) = bs ++ encU n) := by
                have := HK.out
                subst this
                simp only [Hid, encU, Nat.sub_zero]
                rw [List.take_of_length_le (by rw [beB_len]; omega)]
              rw [HE.out] at hO
              have HO := Lib.hid hO; clear hO
              go_wp2
              go_roundw
              case rel => exact .inr ⟨rfl, v2, HO.out⟩
              case measure => simp [intOf]
            · obtain ⟨i, rfl⟩ : ∃ i, c = i + 1 := ⟨c - 1, by omega⟩
              have hcell : wr.cell? ⟨o, 0, none⟩ = some v2 := (cell_heap hO.out.head 0).trans rfl
              have hi1 : ((i + 1 : Nat) : Int) - 1 = i := by omega
              rw [hi1]
              have hk8 : k ≤ 8 := by have := nb_le8 n hn; have := HK.out; omega
              have hcl : (bs ++ UInt8.ofNat k :: List.take (k - (i + 1)) (beB k n)).length < 4100000000 := by
                simp; have := nb_le8 n hn; have := HK.out; omega
              generalize hcs : bs ++ UInt8.ofNat k :: List.take (k - (i + 1)) (beB k n) = cs at hO hcl
              have HC := Lib.hid hcs; clear hcs
              have HO := Lib.hid hO; clear hO hc0 hi1
              have hol : o < wr.heap.size := lt_heap HO.out.out.head
              obtain ⟨m, hm⟩ : ∃ m, m = 8 * i := ⟨_, rfl⟩
              have hm1 : IntKind.i64.wrap (m : Int) = (m : Int) := by rw [IntKind.wrap_i64]; omega
              have hm2 : (8 * (i : Int)) = (m : Int) := by omega
              have hm64 : m < 64 := by omega
              have hm0 : (0 : Int) ≤ m := by omega
              obtain ⟨y, hy⟩ : ∃ y, y = n / 256 ^ i % 256 := ⟨_, rfl⟩
              have hy256 : y < 256 := by omega
              have hby : IntKind.u8.wrap ((n : Int) / 2 ^ m) = (y : Int) := by
                have e : ((n : Int) / 2 ^ m) = ((n / 256 ^ i : Nat) : Int) := by
                  rw [hm, Int.pow_mul]; simp
                rw [e, IntKind.wrap_u8, hy]; omega
              have HY : Hid ((beB k n).take (k - i) = (beB k n).take (k - (i + 1)) ++ [UInt8.ofNat y]) := by
                have := beB_take k n i (by omega)
                rw [← hy] at this
                simp only [Hid]
                rw [show k - i = k - 1 - i + 1 by omega, show k - (i + 1) = k - 1 - i by omega]
                exact this
              clear hm hy
              go_wp2
              go_region_law (first | (refine step_one (v := v2) rfl (.tmp 44) (.tmp 50) rfl und_bytes2 info_u82 rfl rfl ((HO.out.out.row.alloc _).drew) (wr.heap.size + 1) rfl (reads_one wr (.int .u8 y) _).drew (by intro u hu; simp at hu; subst hu; rfl) (by unfold maxLen; simp; omega) (by simp; omega) ?_; intro v3 w3 hown3 hg3 hat3; have R := out_app (xs := [UInt8.ofNat y]) HO.out.out (((Kept.refl _ _).alloc _).drew) rfl (by simpa [B8, UInt8.toNat_ofNat', Nat.mod_eq_of_lt hy256] using hown3) hg3 hat3; obtain ⟨g3, cap3, rfl⟩ := own_form hown3 (by omega); have hc3 : w3.cell? ⟨o, 0, none⟩ = some v2 := (cell_heap R.1 0).trans rfl; have hf3 : w3.frozen? ⟨o, 0, none⟩ = false := free_heap R.1 0; have HR3 : Hid (∃ v', OutTo w o v (w3.setCell ⟨o, 0, none⟩ (.slice (some ⟨g3, 0, none⟩) (cs.length + 1) cap3)) v' (bs ++ UInt8.ofNat k :: List.take (k - i) (beB k n))) := ⟨_, by have h := HO.out.trans R.2; have e : cs ++ [UInt8.ofNat y] = bs ++ UInt8.ofNat k :: List.take (k - i) (beB k n) := (by rw [HY.out, ← HC.out]; simp); rw [e] at h; exact h⟩; clear R hown3 hg3 hat3))
              all_goals
                go_wp2
                go_roundw
                case rel => exact ⟨i, by omega, rfl, by first | exact HR3.out | exact (let ⟨v', h⟩ := HR3.out; ⟨v', ⟨⟨h.out.head, h.out.row⟩, h.kept.drew, h.own⟩⟩)⟩
                case measure => simp [intOf] <;> omega
    · go_wp2
      go_ret
      exact ⟨rfl, hO⟩

end Go.Proofs.Ytfgjehecjgebdaa
/- Codec, Out.N, Out.S: numbers, texts. -/
namespace Go.Proofs.Ytfgjehecjgebdaa
open Go.RowKit

def Ii (x : Int) : Value := .int .i64 x
def St (x : List UInt8) : Value := .string (ba x)

theorem encN_len (n : Int) (hn : n ≤ 9223372036854775807) : (encN n).length ≤ 9 := by
  unfold encN
  rw [encU_len]
  have := nb_le8 n.toNat (by omega)
  omega
theorem encNs_len (l : List Int) (hl : ∀ x ∈ l, x ≤ 9223372036854775807) : (encNs l).length ≤ 9 * l.length := by
  unfold encNs
  induction l with
  | nil => simp
  | cons x t ih =>
    have h1 := encN_len x (hl x (by simp))
    have h2 := ih fun y hy => hl y (by simp [hy])
    simp only [List.flatMap_cons, List.length_append, List.length_cons]
    omega
theorem encNs_take {l : List Int} {k : Nat} (hk : k < l.length) : encNs (l.take (k + 1)) = encNs (l.take k) ++ encN l[k] := by
  unfold encNs
  rw [List.take_succ_eq_append_getElem hk, List.flatMap_append]
  simp

set_option maxRecDepth 100000 in
theorem N_calls {w o v bs g A cap} {l : List Int} (h : IsOut w o v bs) (hr : 0 < l.length → A = some ⟨g, 0, none⟩ ∧ RowIs w g 3 (l.map Ii)) (hl : ∀ x ∈ l, -9223372036854775808 ≤ x ∧ x ≤ 9223372036854775807) (hn : l.length ≤ 1000) (hb : bs.length < 3000000000) :
    Calls Try.prog 71 #[.pointer (some ⟨o, 0, none⟩), .slice A l.length cap] w (UPost o v (bs ++ encNs l) w) := by
  have H := Lib.hid h; clear h
  have HR := Lib.hid hr; clear hr
  have HL := Lib.hid hl; clear hl
  go_enter Try.func71, Try.ntmps71
  go_wp2
  go_loopw [9] (fun i wr => ∃ k : Nat, k ≤ l.length ∧ i = .int .i64 k ∧ ∃ v', OutTo w o v wr v' (bs ++ encNs (l.take k))) (fun i _ => l.length - (intOf i).toNat)
  case atStart => exact ⟨0, Nat.zero_le _, rfl, v, by simpa [encNs] using OutTo.refl H.out⟩
  case round =>
    obtain ⟨k, hk, rfl, v', hO⟩ := hrel
    by_cases hlt : k < l.length
    · obtain ⟨hA, hrow⟩ := HR.out (by omega)
      subst hA
      have hrow' := hrow.kept hO.kept (H.out.neRow hrow (by decide) (by decide))
      have hx := hrow'.cell (i := k) (x := .int .i64 l[k]) (by simp [hlt, Ii])
      obtain ⟨hx1, hx2⟩ := HL.out l[k] (by simp)
      have HT : Hid (encNs (l.take (k + 1)) = encNs (l.take k) ++ encN l[k]) := encNs_take hlt
      have hbl : Hid ((bs ++ encNs (l.take k)).length < 4000000000) := by
        have := encNs_len (l.take k) (fun x hx => (HL.out x (List.mem_of_mem_take hx)).2)
        have h2 := List.length_take_le k l
        simp only [Hid, List.length_append]; omega
      generalize hxv : l[k] = x at *
      have HX := Lib.hid hxv; clear hxv
      have HO := Lib.hid hO; clear hO
      by_cases hx0 : x < 0
      · have hxz : Hid (encN x = encU 0) := by simp only [Hid, encN]; congr 1; omega
        go_wp2_with fail
        refine (U_calls (HO.out.out.keptF ((Kept.refl _ _).alloc _)) 0 (by omega) (heap_new wr _) hbl.out).mono ?_
        rintro e w1 ⟨rfl, v1, h1⟩
        have H1 := Lib.hid (HO.out.trans (OutTo.behind HO.out.out ((Kept.refl _ _).alloc _) h1)); clear h1
        go_wp2_with fail
        go_roundw
        case rel => exact ⟨k + 1, by omega, by go_num, v1, by (have h := H1.out; rw [HT.out, ← List.append_assoc]; rw [hxz.out]; exact h)⟩
        case measure => simp [intOf]; omega
      · obtain ⟨y, rfl⟩ := Int.eq_ofNat_of_zero_le (show 0 ≤ x by omega)
        have hxz : Hid (encN (y : Int) = encU y) := by simp [Hid, encN]
        go_wp2_with fail
        refine (U_calls (HO.out.out.keptF ((Kept.refl _ _).alloc _)) y (by omega) (heap_new wr _) hbl.out).mono ?_
        rintro e w1 ⟨rfl, v1, h1⟩
        have H1 := Lib.hid (HO.out.trans (OutTo.behind HO.out.out ((Kept.refl _ _).alloc _) h1)); clear h1
        go_wp2_with fail
        go_roundw
        case rel => exact ⟨k + 1, by omega, by go_num, v1, by (have h := H1.out; rw [HT.out, ← List.append_assoc]; rw [hxz.out]; exact h)⟩
        case measure => simp [intOf]; omega
    · have HE : Hid (encNs (l.take k) = encNs l) := by rw [List.take_of_length_le (by omega)]; rfl
      rw [HE.out] at hO
      go_wp2
      go_ret
      exact ⟨rfl, v', hO⟩

theorem encN_one (n : Int) : encNs [n] = encN n := by simp [encNs]
theorem strCells_ba (l : List UInt8) : Lib.strCells (ba l) = l.map B8 := rfl
theorem encSs_take {l : List (List UInt8)} {k : Nat} (hk : k < l.length) : encSs (l.take (k + 1)) = encSs (l.take k) ++ encS l[k] := by
  unfold encSs
  rw [List.take_succ_eq_append_getElem hk, List.flatMap_append]
  simp
theorem encSs_len (l : List (List UInt8)) (M : Nat) (hM : M ≤ 1000000) (hl : ∀ x ∈ l, x.length ≤ M) : (encSs l).length ≤ (M + 9) * l.length := by
  unfold encSs
  induction l with
  | nil => simp
  | cons x t ih =>
    have h1 := hl x (by simp)
    have h2 := ih fun y hy => hl y (by simp [hy])
    have h3 := nb_le8 x.length (by omega)
    simp only [List.flatMap_cons, List.length_append, List.length_cons, encS, encU_len, Nat.mul_add]
    omega

theorem und_str2 : Try.prog.underlying 9 = some .string := by kernel_rfl

set_option maxRecDepth 100000 in
theorem S_calls {w o v bs g A cap} {l : List (List UInt8)} (h : IsOut w o v bs) (hr : 0 < l.length → A = some ⟨g, 0, none⟩ ∧ RowIs w g 9 (l.map St)) (hl : ∀ x ∈ l, x.length ≤ 1000000) (hn : l.length ≤ 1000) (hb : bs.length < 1000000000) :
    Calls Try.prog 72 #[.pointer (some ⟨o, 0, none⟩), .slice A l.length cap] w (UPost o v (bs ++ encSs l) w) := by
  have H := Lib.hid h; clear h
  have HR := Lib.hid hr; clear hr
  have HL := Lib.hid hl; clear hl
  go_enter Try.func72, Try.ntmps72
  go_wp2
  go_loopw [9] (fun i wr => ∃ k : Nat, k ≤ l.length ∧ i = .int .i64 k ∧ ∃ v', OutTo w o v wr v' (bs ++ encSs (l.take k))) (fun i _ => l.length - (intOf i).toNat)
  case atStart => exact ⟨0, Nat.zero_le _, rfl, v, by simpa [encSs] using OutTo.refl H.out⟩
  case round =>
    obtain ⟨k, hk, rfl, v', hO⟩ := hrel
    by_cases hlt : k < l.length
    · obtain ⟨hA, hrow⟩ := HR.out (by omega)
      subst hA
      have hrow' := hrow.kept hO.kept (H.out.neRow hrow (by decide) (by decide))
      have hx := hrow'.cell (i := k) (x := St l[k]) (by simp [hlt])
      have hx1 := HL.out l[k] (by simp)
      have HT : Hid (encSs (l.take (k + 1)) = encSs (l.take k) ++ encS l[k]) := encSs_take hlt
      have hbl : Hid ((bs ++ encSs (l.take k)).length < 2500000000) := by
        have := encSs_len (l.take k) 1000000 (Nat.le_refl _) (fun x hx => HL.out x (List.mem_of_mem_take hx))
        have h2 : (l.take k).length ≤ 1000 := by have := List.length_take_le k l; omega
        have h3 : (1000000 + 9) * (l.take k).length ≤ 1000009 * 1000 := Nat.mul_le_mul_left _ h2
        simp only [Hid, List.length_append]; omega
      generalize hxv : l[k] = x at *
      have HX := Lib.hid hxv; clear hxv
      have hsz := ba_size x
      obtain ⟨s, hs⟩ : ∃ s, s = ba x := ⟨_, rfl⟩
      have hx' : wr.cell? ⟨g, k, none⟩ = some (.string s) := by rw [hx, hs]; rfl
      rw [← hs] at hsz
      have hs2 : s.size ≤ 1000000 := by omega
      have HS := Lib.hid hs; have HSZ := Lib.hid hsz; clear hs hsz hx
      have HO := Lib.hid hO; clear hO
      generalize hcs : bs ++ encSs (l.take k) = cs at *
      have HC := Lib.hid hcs; clear hcs
      go_wp2_with fail
      refine (N_calls (l := [(s.size : Int)]) (HO.out.out.keptF ((Kept.refl _ _).alloc _)) (fun _ => ⟨rfl, RowIs.new wr [.int .i64 s.size] _⟩) (by intro x hx; simp at hx; omega) (by simp) (by have := hbl.out; omega)).mono ?_
      rintro e w1 ⟨rfl, v1, h1⟩
      rw [encN_one] at h1
      have H1 := Lib.hid (OutTo.behind HO.out.out ((Kept.refl _ _).alloc _) h1); clear h1
      have hcell : w1.cell? ⟨o, 0, none⟩ = some v1 := (cell_heap H1.out.out.head 0).trans rfl
      have hlc : (cs ++ encN (s.size : Int)).length < 2500000100 := by
        have := encN_len (s.size : Int) (by omega); have := hbl.out; simp only [List.length_append]; omega
      go_wp2_with (with_reducible refine app_str (v := v1) rfl (.tmp 22) (.tmp 23) rfl und_bytes2 und_str2 info_u82 rfl H1.out.out.row rfl (by omega) ?_; intro v2 w2 hown2 hg2 hat2; have R := out_app (xs := x) H1.out.out (Kept.refl _ _) HSZ.out (by rw [HS.out, strCells_ba] at hown2; rw [HS.out]; exact hown2) hg2 hat2; have h0 : 0 < (cs ++ encN (s.size : Int)).length + s.size := (by simp only [List.length_append, encN, encU_len]; omega); obtain ⟨g2, cap2, rfl⟩ := own_form hown2 h0; have hc2 : w2.cell? ⟨o, 0, none⟩ = some v1 := (cell_heap R.1 0).trans rfl; have hf2 : w2.frozen? ⟨o, 0, none⟩ = false := free_heap R.1 0; generalize hL : (cs ++ encN (s.size : Int)).length + s.size = L at *; have HR2 := Lib.hid R.2; clear R hown2 hg2 hat2 hcell hL)
      go_roundw
      case rel =>
        refine ⟨k + 1, by omega, by go_num, .slice (some ⟨g2, 0, none⟩) L cap2, ?_⟩
        have h := H1.out.trans HR2.out
        have e1 : cs ++ encN (s.size : Int) ++ x = bs ++ encSs (l.take (k + 1)) := by
          rw [HT.out, ← HC.out, encS, encN, HSZ.out]; simp
        rw [e1] at h
        exact (HO.out.trans h)
      case measure => simp [intOf]; omega
    · have HE : Hid (encSs (l.take k) = encSs l) := by rw [List.take_of_length_le (by omega)]; rfl
      rw [HE.out] at hO
      go_wp2
      go_ret
      exact ⟨rfl, v', hO⟩

end Go.Proofs.Ytfgjehecjgebdaa
