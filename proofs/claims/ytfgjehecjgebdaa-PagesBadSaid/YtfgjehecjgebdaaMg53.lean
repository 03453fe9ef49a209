/- PagesBad: plain parts; Open over any two sectors. -/
import Derived.Test.YtfgjehecjgebdaaMg41
import Derived.Test.YtfgjehecjgebdaaMg48
import Derived.Test.YtfgjehecjgebdaaMg51
import Derived.Test.YtfgjehecjgebdaaMg24
namespace Go.Proofs.Ytfgjehecjgebdaa
open Go.RowKit

theorem OnDisk.raw4 {p S l s K} (h : OnDisk p S l s K) {D : Dev} (hD : Hale D) (hS : D.secs = S) (i : Nat) (hi : l.getD i 0 = 1) : rawTo D i 4 = fullB (K i) := by
  have hp := h.page i hi
  rw [← four_parts (fullB (K i)) (fullB_len _ hp.1)]
  simp only [rawTo]
  simp only [List.flatMap]
  congr 1
  apply List.map_congr_left
  intro k hk
  rw [hD.text, hS, hp.2 k (List.mem_range.1 hk)]

/-- A sector of page 0 of which one byte is otherwise. -/
theorem raw_bent {D : Dev} (hD : Hale D) (hn : D.secs.length = 40) {F : List UInt8} (hF : F.length = 256) (hs : ∀ k, k < 4 → D.secs.getD (2 + k) [] = (F.drop (64 * k)).take 64) {p : Nat} (_hp : p < 256) (c : UInt8) :
    rawTo { D with secs := D.secs.set (2 + p / 64) (((F.drop (64 * (p / 64))).take 64).set (p % 64) c) } 0 4 = F.set p c := by
  rw [← four_parts (F.set p c) (by simpa using hF)]
  simp only [rawTo, List.flatMap]
  congr 1
  apply List.map_congr_left
  intro k hk
  have hk4 : k < 4 := List.mem_range.1 hk
  have ht : ∀ i, Dev.text { D with secs := D.secs.set (2 + p / 64) (((F.drop (64 * (p / 64))).take 64).set (p % 64) c) } i = (D.secs.set (2 + p / 64) (((F.drop (64 * (p / 64))).take 64).set (p % 64) c)).getD i [] := fun i => by simp [Dev.text, hD.cache]
  rw [ht]
  simp only [Nat.mul_zero, Nat.add_zero]
  by_cases e : k = p / 64
  · subst e
    have h1 : (D.secs.set (2 + p / 64) (((F.drop (64 * (p / 64))).take 64).set (p % 64) c)).getD (2 + p / 64) [] = ((F.drop (64 * (p / 64))).take 64).set (p % 64) c := by
      simp [List.getD, show 2 + p / 64 < D.secs.length by omega]
    rw [h1, List.drop_set, if_neg (by omega), List.take_set]
    congr 1
    omega
  · have h1 : (D.secs.set (2 + p / 64) (((F.drop (64 * (p / 64))).take 64).set (p % 64) c)).getD (2 + k) [] = D.secs.getD (2 + k) [] := by
      have hne : ¬ p / 64 = k := fun h => e h.symm
      simp [List.getD, hne]
    rw [h1, hs k hk4, List.drop_set]
    split
    · rfl
    · rw [List.take_set, List.set_eq_of_length_le]
      simp; omega

def none64 : List UInt8 := [110, 111, 110, 101] ++ List.replicate 60 0
theorem none_says (y : Sec) : ¬ Says none64 y := by
  rintro ⟨hg, ht⟩
  have h0 : 1 ≤ nb y.stamp := by
    have := hg.one
    unfold nb
    rw [dif_neg (by omega)]
    omega
  have h6 := nb_le y.stamp 6 (by have := hg.most; omega)
  have h1 : (secText y).getD 4 0 = UInt8.ofNat (nb y.stamp) := by
    have h4 := le4_len (crcOf (secBody y))
    simp only [secText, summed, secBody, padTo, secHead_eq, encN, encU, Int.toNat_natCast] at *
    rw [List.getD_eq_getElem?_getD, List.getElem?_append_right (by omega), h4]
    rfl
  rw [ht] at h1
  have h2 : none64.getD 4 0 = 0 := by decide
  rw [h2] at h1
  have h3 := congrArg UInt8.toNat h1
  rw [UInt8.toNat_ofNat'] at h3
  simp at h3
  omega

/-- What stands for a sector that may be none. -/
def laidT (st : Int) (mk : Nat) (d : List UInt8) : List UInt8 := if secCheck st d = 0 then secText ⟨st.toNat, mk, d⟩ else [110, 111, 110, 101]
theorem check_zero {st : Int} {d : List UInt8} (h : secCheck st d = 0) : 1 ≤ st ∧ st ≤ 1099511627776 ∧ d.length ≤ 44 := by
  unfold secCheck at h
  split at h
  · omega
  · split at h
    · omega
    · omega
theorem laid_len (st : Int) {mk : Nat} (hm : mk < 256) (d : List UInt8) : (laidT st mk d).length ≤ 64 := by
  unfold laidT
  split
  · rename_i h
    obtain ⟨h1, h2, h3⟩ := check_zero h
    have hg : Sec.Good ⟨st.toNat, mk, d⟩ := ⟨by simp only; omega, by simp only; omega, hm, h3⟩
    rw [hg.len]; omega
  · simp
theorem laid_says {st : Int} {mk : Nat} (hm : mk < 256) {d : List UInt8} {y : Sec} (h : Says ((laidT st mk d ++ zero64).take 64) y) : st = y.stamp := by
  unfold laidT at h
  split at h
  · rename_i hc
    obtain ⟨h1, h2, h3⟩ := check_zero hc
    have hg : Sec.Good ⟨st.toNat, mk, d⟩ := ⟨by simp only; omega, by simp only; omega, hm, h3⟩
    have hl := hg.len
    rw [List.take_append_of_le_length (by omega), List.take_of_length_le (by omega)] at h
    have hs : Says (secText ⟨st.toNat, mk, d⟩) ⟨st.toNat, mk, d⟩ := ⟨hg, rfl⟩
    rw [h.unique hs]
    simp only; omega
  · have e : (([110, 111, 110, 101] : List UInt8) ++ zero64).take 64 = none64 := by decide
    rw [e] at h
    exact absurd h (none_says y)

theorem supOf_some {p gen : Nat} {t : List UInt8} {su : Sup} {l : List Nat} (h : supOf p gen t = some (su, l)) : su.gen = gen ∧ (su.root < 0 ∨ stAt l su.root = 1) := by
  unfold supOf at h
  split at h
  · cases h
  · split at h
    · cases h
    · split at h
      · cases h
      · rename_i h3
        simp only [Option.some.injEq, Prod.mk.injEq] at h
        obtain ⟨rfl, rfl⟩ := h
        refine ⟨rfl, ?_⟩
        simp only
        by_cases h1 : 1 ≤ (pA p t).1
        · right
          apply Classical.not_not.1
          intro h4
          exact h3 ⟨h1, h4⟩
        · left; omega

/-- What Open answers over two sectors that say the stamps sa, sb, or nothing. -/
def BadPost (w : World) (d : Nat) (vs vc : Value) (D : Dev) (sa sb : Int) (e : Ending) (w' : World) : Prop :=
  Kept (fun _ => False) w w' ∧ (e = .returned (.tuple #[.pointer none, .int .i64 17]) ∨
    ∃ st su l, e = .returned (.tuple #[.pointer (some ⟨st, 0, none⟩), .int .i64 0]) ∧ MadeAt w d vs vc 8 6 ⟨l, fun _ => [], su, D⟩ st w' ∧ (su.root < 0 ∨ stAt l su.root = 1) ∧ l.length = 8 ∧
      ((su.gen % 2 = 0 ∧ sa = su.gen) ∨ (su.gen % 2 = 1 ∧ sb = su.gen)))
theorem open_bad {w d vs vc D} {sa sb : Int} (hd : IsDev w d vs vc D) (hh : Hale D) (hn : D.secs.length = 40) (ha : ∀ y : Sec, Says (D.secs.getD 0 []) y → sa = (y.stamp : Int)) (hb : ∀ y : Sec, Says (D.secs.getD 1 []) y → sb = (y.stamp : Int)) :
    Calls Try.prog 42 #[.pointer (some ⟨d, 0, none⟩), .agg #[.int .i64 8, .int .i64 6]] w (BadPost w d vs vc D sa sb) := by
  refine (Open_calls hd lay86 (by omega) (by rw [hh.cache]; simp) hh.down).mono ?_
  rintro e w' ⟨r, hn, hk, ho⟩
  rw [hh.text, hh.text] at hn
  refine ⟨hk, ?_⟩
  cases r with
  | none => exact .inl ho
  | some r =>
    obtain ⟨x, s⟩ := r
    simp only at ho
    by_cases hpar : (if s = true then 1 else 0) ≠ x.stamp % 2
    · rw [if_pos hpar] at ho; exact .inl ho
    · rw [if_neg hpar] at ho
      cases hso : supOf 8 x.stamp x.data with
      | none => rw [hso] at ho; exact .inl ho
      | some q =>
        obtain ⟨su, l⟩ := q
        rw [hso] at ho
        obtain ⟨st, he, hm⟩ := ho
        obtain ⟨h1, h2⟩ := supOf_some hso
        obtain ⟨h3, _⟩ := supOf_len hso
        refine .inr ⟨st, su, l, he, hm, h2, h3, ?_⟩
        rw [h1]
        cases hn with
        | second y hy _ =>
          right
          simp only [if_true, ne_eq, Classical.not_not] at hpar
          exact ⟨hpar.symm, hb _ hy⟩
        | first y hy _ =>
          left
          simp only [Bool.false_eq_true, if_false, ne_eq, Classical.not_not] at hpar
          exact ⟨hpar.symm, ha _ hy⟩

/-- The device behind k of the two sectors. -/
def badD (D : Dev) (ta tb : List UInt8) : Nat → Dev
  | 0 => D
  | 1 => { D with secs := D.secs.set 0 ((ta ++ zero64).take 64) }
  | _ => { D with secs := (D.secs.set 0 ((ta ++ zero64).take 64)).set 1 ((tb ++ zero64).take 64) }
theorem badD_len (D : Dev) (ta tb : List UInt8) (k : Nat) : (badD D ta tb k).secs.length = D.secs.length := by
  match k with
  | 0 => rfl
  | 1 => simp [badD]
  | n + 2 => simp [badD]
theorem badD_hale {D : Dev} (h : Hale D) (ta tb : List UInt8) (k : Nat) : Hale (badD D ta tb k) := by
  match k with
  | 0 => exact h
  | 1 => exact ⟨h.cache, h.left, h.down⟩
  | n + 2 => exact ⟨h.cache, h.left, h.down⟩
theorem badD_0 {D : Dev} (h : 2 ≤ D.secs.length) (ta tb : List UInt8) : (badD D ta tb 2).secs.getD 0 [] = (ta ++ zero64).take 64 := by
  simp [badD, List.getD, show 0 < D.secs.length by omega]
theorem badD_1 {D : Dev} (h : 2 ≤ D.secs.length) (ta tb : List UInt8) : (badD D ta tb 2).secs.getD 1 [] = (tb ++ zero64).take 64 := by
  simp [badD, List.getD, show 1 < D.secs.length by omega]
theorem laid_text {st : Int} {mk : Nat} {d : List UInt8} (h : secCheck st d = 0) (hm : mk < 256) (w : World) :
    Calls Try.prog 41 #[.agg #[.int .i64 st, .int .u8 mk, .string (ba d)]] w fun e w' => e = .returned (.string (ba (laidT st mk d))) ∧ Kept (fun _ => False) w w' := by
  obtain ⟨h1, h2, h3⟩ := check_zero h
  obtain ⟨n, rfl⟩ : ∃ n : Nat, st = n := ⟨st.toNat, by omega⟩
  have h4 := StText_calls ⟨n, mk, d⟩ (by simp only; omega) hm h3 w
  have e : laidT (n : Int) mk d = secText ⟨n, mk, d⟩ := by rw [laidT, if_pos h]; rfl
  rw [e]
  exact h4

theorem run_sup_gen (a b c d : Int) (w : World) : (Instr.field 84 (.agg #[.int .i64 a, .int .i64 b, .int .i64 c, .int .i64 d]) 0).run Try.prog w = .ok (.int .i64 a) w := by kernel_rfl
theorem run_sup_root (a b c d : Int) (w : World) : (Instr.field 84 (.agg #[.int .i64 a, .int .i64 b, .int .i64 c, .int .i64 d]) 1).run Try.prog w = .ok (.int .i64 b) w := by kernel_rfl

theorem sec_safe {w st b c m d vs vc p g X} (h : IsStore w st b c m d vs vc p g X) {n : Nat} {cs : Array Value} {f : Nat × Nat} (hb : w.heap[n]? = some (.cells cs 64 f)) : ¬ StoB st c m d vs vc n := by
  obtain ⟨es, clock, hm⟩ := h.put.heap
  obtain ⟨c0, hd⟩ := h.dev.head
  rintro (rfl | rfl | rfl | rfl | e1 | e1)
  · exact ne_type hb h.head (by decide) rfl
  · exact ne_type hb h.sp.row (by decide) rfl
  · exact map_ne hm hb rfl
  · exact ne_type hb hd (by decide) rfl
  · obtain ⟨cs', f', hg⟩ := own_type h.dev.secs e1; exact ne_type hb hg (by decide) rfl
  · obtain ⟨cs', f', hg⟩ := own_type h.dev.cache e1; exact ne_type hb hg (by decide) rfl

/-- '[]byte(s)', one byte of it turned, and back. -/
theorem run_turn {P : Program} {src dst e : TypeId} (hs : P.underlying src = some .string) (hd : P.underlying dst = some (.slice e)) (he : P.underlying e = some (.int .u8)) (l : List UInt8) :
    ∃ (cp : World → Nat) (O : World → Obj), (∀ w : World, (convert src dst (.string (ba l))).run P w = .ok (.slice (some ⟨w.heap.size, 0, none⟩) l.length (cp w)) (w.drew.alloc (O w))) ∧ (∀ w : World, l.length ≤ cp w) ∧
      (∀ (w : World) (j : Nat) (hj : j < l.length), (w.alloc (O w)).cell? ⟨w.heap.size, j, none⟩ = some (.int .u8 (l[j].toNat : Nat)) ∧ (w.alloc (O w)).frozen? ⟨w.heap.size, j, none⟩ = false) ∧
      (∀ (w : World) (j y c : Nat), y < 256 → (convert dst src (.slice (some ⟨w.heap.size, 0, none⟩) l.length c)).run P (((w.alloc (O w)).setCell ⟨w.heap.size, j, none⟩ (.int .u8 y)).drew) =
        .ok (.string (ba (l.set j (UInt8.ofNat y)))) (((w.alloc (O w)).setCell ⟨w.heap.size, j, none⟩ (.int .u8 y)).drew)) := by
  have hsz := ba_size l
  have hrow : ∀ (w : World) (j : Nat) (hj : j < l.length), (bytesRow (ba l) (grownCap w (ba l).size 0 e))[j]? = some (.int .u8 (l[j].toNat : Nat)) := fun w j hj => by
    rw [bytesRow_at (ba l) _ j (by simpa [ba] using hj)]
    simp [ba]
  have hle : ∀ w : World, l.length ≤ (bytesRow (ba l) (grownCap w (ba l).size 0 e)).size := fun w => by
    unfold bytesRow
    simp [ba]
  refine ⟨fun w => grownCap w (ba l).size 0 e, fun w => .cells (bytesRow (ba l) (grownCap w (ba l).size 0 e)) e ((bytesRow (ba l) (grownCap w (ba l).size 0 e)).size, (bytesRow (ba l) (grownCap w (ba l).size 0 e)).size + 1), fun w => ?_, fun w => ?_, fun w j hj => ⟨?_, ?_⟩, fun w j y c hy => ?_⟩
  · rw [run_bytes_of_string w src dst e (ba l) hs hd he, hsz]
  · rw [← hsz]; exact grownCap_ge w (ba l).size 0 e
  · rw [cell_heap (heap_new w _)]; exact hrow w j hj
  · simp only [World.frozen?, heap_new]
    have := hle w
    simp; omega
  · have hb := heap_set (heap_new w (.cells (bytesRow (ba l) (grownCap w (ba l).size 0 e)) e ((bytesRow (ba l) (grownCap w (ba l).size 0 e)).size, (bytesRow (ba l) (grownCap w (ba l).size 0 e)).size + 1))) j (.int .u8 (y : Nat))
    have := run_convert_bytes_arg (P := P) (((w.alloc (.cells (bytesRow (ba l) (grownCap w (ba l).size 0 e)) e ((bytesRow (ba l) (grownCap w (ba l).size 0 e)).size, (bytesRow (ba l) (grownCap w (ba l).size 0 e)).size + 1))).setCell ⟨w.heap.size, j, none⟩ (.int .u8 y)).drew) dst e hd he w.heap.size 0 l.length c ((l.set j (UInt8.ofNat y)).map fun x : UInt8 => (x.toNat : Int)) (by simp) (by
      intro i hi
      rw [Nat.zero_add]
      have hc : (((w.alloc (.cells (bytesRow (ba l) (grownCap w (ba l).size 0 e)) e ((bytesRow (ba l) (grownCap w (ba l).size 0 e)).size, (bytesRow (ba l) (grownCap w (ba l).size 0 e)).size + 1))).setCell ⟨w.heap.size, j, none⟩ (.int .u8 y)).drew).cell? ⟨w.heap.size, i, none⟩ = ((bytesRow (ba l) (grownCap w (ba l).size 0 e)).setIfInBounds j (.int .u8 (y : Nat)))[i]? := cell_heap (w := ((w.alloc _).setCell _ _).drew) hb i
      rw [hc, Array.getElem?_setIfInBounds]
      by_cases hji : j = i
      · subst hji
        have h1 : j < (bytesRow (ba l) (grownCap w (ba l).size 0 e)).size := Nat.lt_of_lt_of_le hi (hle w)
        rw [if_pos rfl, if_pos h1]
        simp [List.getD, hi]
        omega
      · rw [if_neg hji, hrow w i hi]
        simp [List.getD, hi, hji]) src hs
    rw [this]
    congr 2
    simp only [strOfNums, ba]
    congr 2
    rw [List.map_map]
    conv => rhs; rw [← List.map_id (l.set j (UInt8.ofNat y))]
    apply List.map_congr_left
    intro x _
    simp

theorem u8_xor (a b : Nat) (ha : a < 256) (hb : b < 256) : bits .xor .u8 (a : Int) (b : Int) = ((a ^^^ b : Nat) : Int) ∧ a ^^^ b < 256 := by
  have hx : a ^^^ b < 256 := by
    have : (256 : Nat) = 2 ^ 8 := by decide
    rw [this] at ha hb ⊢
    exact Nat.xor_lt_two_pow ha hb
  refine ⟨?_, hx⟩
  show IntKind.u8.wrap ((BitVec.ofInt 8 (a : Int) ^^^ BitVec.ofInt 8 (b : Int)).toNat : Int) = _
  rw [BitVec.toNat_xor, BitVec.ofInt_natCast, BitVec.ofInt_natCast, BitVec.toNat_ofNat, BitVec.toNat_ofNat, Nat.mod_eq_of_lt (show a < 2 ^ 8 by omega), Nat.mod_eq_of_lt (show b < 2 ^ 8 by omega), IntKind.wrap_u8]
  omega

end Go.Proofs.Ytfgjehecjgebdaa
