/- PagesShadow: a store's calls with the power going. -/
import Derived.Test.YtfgjehecjgebdaaMg50
import Derived.Test.YtfgjehecjgebdaaMg45
import Derived.Test.YtfgjehecjgebdaaMg47
import Derived.Test.YtfgjehecjgebdaaMg06
namespace Go.Proofs.Ytfgjehecjgebdaa
open Go.RowKit Go.Maps Go.ChangeMaps

theorem DevArm_calls {w d vs vc D} (h : IsDev w d vs vc D) (n : Int) (hn : -9223372036854775808 ≤ n ∧ n ≤ 9223372036854775807) :
    Calls Try.prog 46 #[.pointer (some ⟨d, 0, none⟩), .int .i64 n] w fun e w' => e = .returned (.tuple #[]) ∧ IsDev w' d vs vc { D with left := n } ∧ Kept (· = d) w w' := by
  obtain ⟨c, hh⟩ := h.head
  have hne1 : vs.ownBlock ≠ some d := fun e => by obtain ⟨cs, f, hg⟩ := own_type h.secs e; exact ne_type hg hh (by decide) rfl
  have hne2 : vc.ownBlock ≠ some d := fun e => by obtain ⟨cs, f, hg⟩ := own_type h.cache e; exact ne_type hg hh (by decide) rfl
  have h2 : w.cell? ⟨d, 2, none⟩ = some (.int .i64 D.left) := (cell_heap hh 2).trans rfl
  have f2 : w.frozen? ⟨d, 2, none⟩ = false := free_heap hh 2
  have hk : Kept (· = d) w (w.setCell ⟨d, 2, none⟩ (.int .i64 n)) := (Kept.refl _ _).set1 _ _
  have R : IsDev (w.setCell ⟨d, 2, none⟩ (.int .i64 n)) d vs vc { D with left := n } :=
    ⟨⟨c, by rw [heap_set hh]; rfl⟩, hk.own h.secs (fun g hg e => hne1 (e ▸ hg)), hk.own h.cache (fun g hg e => hne2 (e ▸ hg)), ⟨h.good.one, h.good.most, h.good.secs, h.good.cache, hn⟩⟩
  have HR := Lib.hid R
  have HK := Lib.hid hk
  clear h hh hne1 hne2 hk R
  go_enter Try.func46, Try.ntmps46
  go_wp2
  go_end0
  exact ⟨rfl, HR.out, HK.out⟩

theorem put_stepS {w st b c m d vs vc X R} (h : IsStore w st b c m d vs vc 8 6 X) (hi : InvS X R) (t : List UInt8) :
    Calls Try.prog 30 #[.pointer (some ⟨st, 0, none⟩), .string (ba t)] w fun e w' =>
      (∃ v, e = .returned v) ∧ Kept (fun i => i = c ∨ i = m) w w' ∧ ∃ X', IsStore w' st b c m d vs vc 8 6 X' ∧ InvS X' (rPut R t).1 ∧ X'.sup = X.sup := by
  refine (Put_calls h t).mono ?_
  rintro e w' ⟨hk, hp⟩
  have hl : X.l = R.l := hi.inv.l
  by_cases ht : 248 < t.length
  · rw [if_pos ht] at hp
    simp only [rPut, if_pos ht]
    exact ⟨⟨_, hp.1⟩, hk, X, hp.2, hi, rfl⟩
  · rw [if_neg ht] at hp
    simp only [rPut, if_neg ht]
    cases htk : tkAt X.l with
    | none =>
      rw [htk] at hp
      rw [hl] at htk
      rw [htk]
      exact ⟨⟨_, hp.1⟩, hk, X, hp.2, hi, rfl⟩
    | some i =>
      have hp' := hi.inv.putted (i := i) htk (t := t) (by omega)
      rw [htk] at hp
      rw [hl] at htk
      rw [htk]
      exact ⟨⟨_, hp.1⟩, hk, _, hp.2, ⟨hi.calm, hp'⟩, rfl⟩

/-- What a checkpoint leaves beside the reference's. -/
def CkS (w : World) (st b c m d : Nat) (vs vc : Value) (X : Sto) (R : RSto) (ro lo ne : Int) (code : Int) (vc' : Value) (X' : Sto) (w' : World) : Prop :=
  StoTo w st b c m d vs vc 8 6 w' vc' X' ∧
    ((code = (rCheck R ro lo ne).2 ∧ code ≠ 16 ∧ InvS X' (rCheck R ro lo ne).1 ∧ X'.sup.gen ≤ X.sup.gen + 1) ∨
     (code = 16 ∧ X'.D.cache.length ≤ 1000 ∧ ∀ keep, ∃ Y, Y.D = X'.D.crash keep ∧ Hale Y.D ∧ (Y.T = fun _ => []) ∧ OnDisk 8 Y.D.secs Y.l Y.sup (fun i => (if Y.sup.gen = X.sup.gen then rUndo R else (rCheck R ro lo ne).1).K.getD i []) ∧
      ((Y.sup.gen = X.sup.gen ∧ Inv Y (rUndo R)) ∨ (Y.sup.gen = X.sup.gen + 1 ∧ Inv Y (rCheck R ro lo ne).1))))

theorem ckDev_cache (X : Sto) (s : Sup) : (ckDev X s).2.cache.length ≤ X.D.cache.length + 4 * X.l.length + 1 := by
  have h1 := wrAll_cache X.D ((fresh X.l).flatMap (pgW X.T))
  rw [flat_len] at h1
  have h2 := fresh_len X.l
  unfold ckDev
  simp only
  split
  · omega
  · have h3 := flush_cache (wrAll X.D ((fresh X.l).flatMap (pgW X.T))).2
    split
    · omega
    · have h4 := write_cache (wrAll X.D ((fresh X.l).flatMap (pgW X.T))).2.flush.2 ((s.gen % 2 : Nat) : Int) (secText ⟨s.gen, 0, supB s X.l⟩)
      split
      · omega
      · have h5 := flush_cache ((wrAll X.D ((fresh X.l).flatMap (pgW X.T))).2.flush.2.write ((s.gen % 2 : Nat) : Int) (secText ⟨s.gen, 0, supB s X.l⟩)).2
        omega
theorem check_cache (X : Sto) (ro lo ne : Int) : (X.check ro lo ne).2.D.cache.length ≤ X.D.cache.length + 4 * X.l.length + 1 := by
  unfold Sto.check
  split
  · simp only; omega
  · simp only
    split <;> exact ckDev_cache _ _

theorem ck_stepS {w st b c m d vs vc X R} (h : IsStore w st b c m d vs vc 8 6 X) (hi : InvS X R) (hg : X.sup.gen ≤ 1000) (ro lo ne : Int) :
    Calls Try.prog 32 #[.pointer (some ⟨st, 0, none⟩), .int .i64 ro, .int .i64 lo, .int .i64 ne] w fun e w' =>
      ∃ code vc' X', e = .returned (.int .i64 code) ∧ CkS w st b c m d vs vc X R ro lo ne code vc' X' w' := by
  have hT : ∀ i ∈ fresh X.l, (X.T i).length ≤ 248 := fun i hf => (hi.inv.put i (mem_fresh.1 hf).2).2
  refine (Ck_calls h ro lo ne hT (by rw [hi.calm.cache]; simp) (by omega)).mono ?_
  rintro e w' ⟨he, vc', hto⟩
  refine ⟨_, vc', _, he, hto, ?_⟩
  rcases hi.checked ro lo ne (by omega) with ⟨h1, h2, h3⟩ | ⟨h1, h2⟩
  · left
    refine ⟨h1, by rw [h1]; exact h2, h3, ?_⟩
    have h4 : (X.check ro lo ne).2.sup = (rCheck R ro lo ne).1.s := h3.inv.s
    have h5 : X.sup = R.s := hi.inv.s
    rw [h4, h5]
    unfold rCheck
    split <;> simp
  · right
    refine ⟨h1, ?_, h2⟩
    have := check_cache X ro lo ne
    have h5 : X.l.length = 8 := hi.inv.len
    rw [hi.calm.cache, h5] at this
    simp at this
    omega

theorem open_stepS {w d vs vc Y K} (hd : IsDev w d vs vc Y.D) (hh : Hale Y.D) (hn : Y.D.secs.length = 40) (hT : Y.T = fun _ => []) (ho : OnDisk 8 Y.D.secs Y.l Y.sup K) :
    Calls Try.prog 42 #[.pointer (some ⟨d, 0, none⟩), .agg #[.int .i64 8, .int .i64 6]] w fun e w' =>
      Kept (fun _ => False) w w' ∧ ∃ st, e = .returned (.tuple #[.pointer (some ⟨st, 0, none⟩), .int .i64 0]) ∧ MadeAt w d vs vc 8 6 Y st w' := by
  refine (Open_calls hd lay86 (by omega) (by rw [hh.cache]; simp) hh.down).mono ?_
  rintro e w' ⟨r, hn, hop⟩
  have h := open_found hh ho (by omega) hn hop
  obtain ⟨l, T, s, D⟩ := Y
  simp only at hT
  subst hT
  exact h

theorem InvS.of {X R} (h : Inv X R) : InvS X R := by
  refine ⟨⟨h.hale.cache, h.hale.down⟩, ?_⟩
  have e : X.D.unarmed = X.D := by
    have := h.hale.left
    obtain ⟨l, T, s, ⟨a, b, c, d⟩⟩ := X
    simp only at this
    subst this
    rfl
  rw [e]
  exact h
theorem InvS.armed {X R} (h : InvS X R) (n : Int) : InvS { X with D := { X.D with left := n } } R := ⟨⟨h.calm.cache, h.calm.down⟩, h.inv⟩

end Go.Proofs.Ytfgjehecjgebdaa
