/- Plain: a page of which one byte is otherwise is no page. -/
import Derived.Test.YtfgjehecjgebdaaMg14
import Derived.Test.YtfgjehecjgebdaaMg39
namespace Go.Proofs.Ytfgjehecjgebdaa

theorem xor_canc_l {a b c : Nat} (h : c ^^^ a = c ^^^ b) : a = b := by
  have h2 := congrArg (c ^^^ ·) h
  simp only [← Nat.xor_assoc, Nat.xor_self, Nat.zero_xor] at h2
  exact h2
theorem xor_canc_r {a b c : Nat} (h : a ^^^ c = b ^^^ c) : a = b := by
  rw [Nat.xor_comm a, Nat.xor_comm b] at h
  exact xor_canc_l h
theorem top_bit (a : Nat) (h : a < 4294967296) : (bitStep a).testBit 31 = decide (a % 2 = 1) := by
  unfold bitStep
  rw [Nat.testBit_xor]
  have h1 : (a / 2).testBit 31 = false := Nat.testBit_lt_two_pow (by omega)
  rw [h1]
  rcases Nat.mod_two_eq_zero_or_one a with e | e
  · rw [e]; decide
  · rw [e]; decide
theorem bitStep_inj {a b : Nat} (ha : a < 4294967296) (hb : b < 4294967296) (h : bitStep a = bitStep b) : a = b := by
  have h1 := top_bit a ha
  have h2 := top_bit b hb
  rw [h, h2] at h1
  have h3 : a % 2 = b % 2 := by
    rcases Nat.mod_two_eq_zero_or_one a with e | e <;> rcases Nat.mod_two_eq_zero_or_one b with f | f <;> rw [e, f] at h1 ⊢ <;> simp at h1
  unfold bitStep at h
  rw [h3] at h
  have h4 : a / 2 = b / 2 := xor_canc_r h
  omega
theorem bitSteps_inj (k : Nat) {a b : Nat} (ha : a < 4294967296) (hb : b < 4294967296) (h : bitSteps k a = bitSteps k b) : a = b := by
  induction k with
  | zero => exact h
  | succ k ih => exact ih (bitStep_inj (bitSteps_lt k a ha) (bitSteps_lt k b hb) h)
theorem crcStep_left {n m c : Nat} (hn : n < 4294967296) (hm : m < 4294967296) (hc : c < 256) (h : crcStep n c = crcStep m c) : n = m :=
  xor_canc_r (bitSteps_inj 8 (xor_lt32 hn (by omega)) (xor_lt32 hm (by omega)) h)
theorem crcStep_right {n c d : Nat} (hn : n < 4294967296) (hc : c < 256) (hd : d < 256) (h : crcStep n c = crcStep n d) : c = d :=
  xor_canc_l (bitSteps_inj 8 (xor_lt32 hn (by omega)) (xor_lt32 hn (by omega)) h)
theorem crcRun_inj (l : List UInt8) : ∀ {n m : Nat}, n < 4294967296 → m < 4294967296 → crcRun n l = crcRun m l → n = m := by
  induction l with
  | nil => intro n m _ _ h; exact h
  | cons c t ih =>
    intro n m hn hm h
    exact crcStep_left hn hm c.toNat_lt (ih (crcStep_lt n c.toNat hn c.toNat_lt) (crcStep_lt m c.toNat hm c.toNat_lt) h)
theorem crcOf_ne {x y : List UInt8} {c d : UInt8} (h : c ≠ d) : crcOf (x ++ c :: y) ≠ crcOf (x ++ d :: y) := by
  intro he
  unfold crcOf crcAdd at he
  have l1 := crcRun_lt 4294967295 (x ++ c :: y) (by omega)
  have l2 := crcRun_lt 4294967295 (x ++ d :: y) (by omega)
  have e : crcRun 4294967295 (x ++ c :: y) = crcRun 4294967295 (x ++ d :: y) := by
    simp only [Nat.sub_zero] at he; omega
  have hs : ∀ z : UInt8, crcRun 4294967295 (x ++ z :: y) = crcRun (crcStep (crcRun 4294967295 x) z.toNat) y := fun z => by simp [crcRun]
  rw [hs, hs] at e
  have hx := crcRun_lt 4294967295 x (by omega)
  have e2 := crcRun_inj y (crcStep_lt _ _ hx c.toNat_lt) (crcStep_lt _ _ hx d.toNat_lt) e
  exact h (UInt8.toNat.inj (crcStep_right hx c.toNat_lt d.toNat_lt e2))
theorem le4_inj {a b : Nat} (ha : a < 4294967296) (hb : b < 4294967296) (h : le4 a = le4 b) : a = b := by
  simp only [le4, List.cons.injEq, and_true] at h
  obtain ⟨h1, h2, h3, h4⟩ := h
  have g1 := congrArg UInt8.toNat h1
  have g2 := congrArg UInt8.toNat h2
  have g3 := congrArg UInt8.toNat h3
  have g4 := congrArg UInt8.toNat h4
  simp only [UInt8.toNat_ofNat'] at g1 g2 g3 g4
  omega

theorem bent_not {t u : List UInt8} (ht : t.length ≤ 248) (hu : u.length ≤ 248) {p : Nat} {c : UInt8} (hp : p < 256) (hc : (fullB t)[p]? ≠ some c) : (fullB t).set p c ≠ fullB u := by
  have h1 := encS_len t (by omega)
  have h2 := encS_len u (by omega)
  obtain ⟨b, hb⟩ : ∃ b, b = padTo 252 (encS t) := ⟨_, rfl⟩
  obtain ⟨b', hb'⟩ : ∃ b, b = padTo 252 (encS u) := ⟨_, rfl⟩
  have hl : b.length = 252 := by rw [hb]; exact padTo_len _ _ (by omega)
  have hl' : b'.length = 252 := by rw [hb']; exact padTo_len _ _ (by omega)
  have e1 : fullB t = le4 (crcOf b) ++ b := by rw [hb]; rfl
  have e2 : fullB u = le4 (crcOf b') ++ b' := by rw [hb']; rfl
  rw [e1] at hc ⊢
  rw [e2]
  intro h
  by_cases h4 : p < 4
  · rw [List.set_append_left _ _ (by rw [le4_len]; exact h4)] at h
    obtain ⟨g1, g2⟩ := List.append_inj h (by simp [le4_len])
    rw [← g2] at g1
    have g3 := congrArg (·[p]?) g1
    simp only [List.getElem?_set_self (show p < (le4 (crcOf b)).length by rw [le4_len]; exact h4)] at g3
    rw [List.getElem?_append_left (by rw [le4_len]; exact h4)] at hc
    exact hc g3.symm
  · rw [List.set_append_right _ _ (by rw [le4_len]; omega), le4_len] at h
    obtain ⟨g1, g2⟩ := List.append_inj h (by simp [le4_len])
    have g3 := le4_inj (crcOf_lt b) (crcOf_lt b') g1
    rw [← g2] at g3
    have hpl : p - 4 < b.length := by omega
    have hs : b.set (p - 4) c = b.take (p - 4) ++ c :: b.drop (p - 4 + 1) := List.set_eq_take_append_cons_drop ▸ (by simp [hpl])
    have hs0 : b = b.take (p - 4) ++ b[p - 4] :: b.drop (p - 4 + 1) := by
      rw [List.getElem_cons_drop]; simp
    rw [hs] at g3
    have g4 : crcOf (b.take (p - 4) ++ b[p - 4] :: b.drop (p - 4 + 1)) = crcOf (b.take (p - 4) ++ c :: b.drop (p - 4 + 1)) := by rw [← hs0]; exact g3
    refine crcOf_ne ?_ g4
    intro e
    apply hc
    rw [List.getElem?_append_right (by rw [le4_len]; omega), le4_len, List.getElem?_eq_getElem hpl, e]

/-- .. so it isn't read. -/
theorem pgOf_bent {t : List UInt8} (ht : t.length ≤ 248) {p : Nat} {c : UInt8} (hp : p < 256) (hc : (fullB t)[p]? ≠ some c) : pgOf ((fullB t).set p c) = ([], 17) := by
  unfold pgOf
  obtain ⟨⟨u, s⟩, hu⟩ : ∃ r, iS 248 (((fullB t).set p c).drop 4, 0) = r := ⟨_, rfl⟩
  have hl := iS_len248 (((fullB t).set p c).drop 4, 0)
  rw [hu] at hl ⊢
  simp only
  rw [if_pos (.inr (bent_not ht hl hp hc))]

end Go.Proofs.Ytfgjehecjgebdaa
