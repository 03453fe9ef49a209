/- The tree: level, whole; what it keeps; Delete of a key that isn't there. -/
import Derived.Test.YtfgjehecjgebdaaGreatMg48
import Derived.Test.YtfgjehecjgebdaaGreatMg11
namespace Go.Proofs.YtfgjehecjgebdaaGreat
open Go.RowKit Go.Maps Go.ChangeMaps
attribute [local go_sem] Oper.semAt_some
theorem TWlevel_calls {w q wk vf vo W root Z} {s : Stp} {l : Bool} {P1 P2 P3 : Option Addr} {n1 c1 n2 c2 n3 c3 : Nat} {vk : Value} {kid : Nd} (h : WkW w q wk vf vo W root Z) (hs : NdAp w (wkS q wk vf vo) (.agg #[.bool l, .slice P1 n1 c1, .slice P2 n2 c2, .slice P3 n3 c3]) s.n) (hk : NdAp w (wkS q wk vf vo) vk kid)
    (hok : s.n.Ok) (hlf : s.n.leaf = false) (hat : s.at_ + 1 ≤ s.n.kids.length) (hf : kid.Fit) (hkl : kid.len ≤ 8) (hZ : Z ≤ w.heap.size) (hl : W.fresh.length ≤ 900) (hold : W.old.length ≤ 900) :
    Calls Tryz.prog 90 #[.pointer (some ⟨wk, 0, none⟩), .agg #[.int .i64 (s.id : Int), .int .i64 (s.at_ : Int), .bool l, .slice P1 n1 c1, .slice P2 n2 c2, .slice P3 n3 c3], vk] w (LevTo (levelP W s kid) w q wk vf vo root Z) := by
  by_cases hu : kid.under = false
  · exact TWlevel_fit h hs hk hok hlf hat hf hZ hl hu
  · have hu' : kid.under = true := by simpa using hu
    by_cases he : (W.X.load (lvOther s)).2 = 0
    · by_cases hkd : (W.X.load (lvOther s)).1.leaf = kid.leaf
      · rcases (show s.at_ = 0 ∨ ∃ m, s.at_ = m + 1 by cases s.at_ with | zero => exact .inl rfl | succ m => exact .inr ⟨m, rfl⟩) with hm | ⟨m, hm⟩
        · exact TWlevel_full_a h hs hk hok hat hlf hm hu' he hkd hf hkl hZ hl hold
        · exact TWlevel_full_b h hs hk hok hat hlf hm hu' he hkd hf hkl hZ hl hold
      · rcases (show s.at_ = 0 ∨ ∃ m, s.at_ = m + 1 by cases s.at_ with | zero => exact .inl rfl | succ m => exact .inr ⟨m, rfl⟩) with hm | ⟨m, hm⟩
        · exact TWlevel_kind_a h hs hk hok hat hlf hm hu' he hkd
        · exact TWlevel_kind_b h hs hk hok hat hm hu' he hkd
    · rcases (show s.at_ = 0 ∨ ∃ m, s.at_ = m + 1 by cases s.at_ with | zero => exact .inl rfl | succ m => exact .inr ⟨m, rfl⟩) with hm | ⟨m, hm⟩
      · exact TWlevel_load_a h hs hk hok hat hlf hm hu' he
      · exact TWlevel_load_b h hs hk hok hat hm hu' he
theorem putP_id {W : Wk} {n : Nd} (h0 : (putP W n).1.2 = 0) (h128 : W.X.l.length ≤ 128) : (putP W n).1.1 < 128 ∧ (putP W n).2.X.l.length ≤ 128 := by have := putP_lt h0; omega
/-- What level leaves fits. -/
theorem levelP_fit {W : Wk} {s : Stp} {kid : Nd} (hok : s.n.Ok) (hlf : s.n.leaf = false) (hat : s.at_ + 1 ≤ s.n.kids.length) (hf : kid.Fit) (hkl : kid.len ≤ 8) (h128 : W.X.l.length ≤ 128) (h0 : (levelP W s kid).2.1 = 0) : (levelP W s kid).1.Fit ∧ (levelP W s kid).1.len ≤ 8 := by
  have hlen := hok.len
  have hsl : s.n.len ≤ 6 := by simp [Nd.len, hlf]; omega
  have h2 := (hok.inner hlf).1
  by_cases hu : kid.under = false
  · rw [levelP_put hu] at h0 ⊢
    have h1 := (putP_id h0 h128).1
    obtain ⟨f1, -, f3⟩ := hok.fit.repl hlf (i := s.at_) (j := s.at_ + 1) (ids := [(putP W kid).1.1]) (key := []) (by omega) (by omega) (by intro x hx; simp only [List.mem_singleton] at hx; subst hx; exact h1) (.inl rfl) (by simp) (by omega)
    exact ⟨f1, by simp only [List.length_singleton] at f3; simp only; omega⟩
  · have hu' : kid.under = true := by simpa using hu
    by_cases he : (W.X.load (lvOther s)).2 = 0
    · by_cases hkd : (W.X.load (lvOther s)).1.leaf = kid.leaf
      · obtain ⟨e1, e2⟩ := levelP_two (W := W) (s := s) (kid := kid) hu' rfl rfl he hkd rfl rfl rfl
        have hof := (load_ok he)
        have hol := not_over.1 hof.most
        have hfit : (if lvLeft s = s.at_ then kid else (W.X.load (lvOther s)).1).Fit ∧ (if lvLeft s = s.at_ then (W.X.load (lvOther s)).1 else kid).Fit ∧ (if lvLeft s = s.at_ then (W.X.load (lvOther s)).1 else kid).leaf = (if lvLeft s = s.at_ then kid else (W.X.load (lvOther s)).1).leaf ∧ (if lvLeft s = s.at_ then kid else (W.X.load (lvOther s)).1).len + (if lvLeft s = s.at_ then (W.X.load (lvOther s)).1 else kid).len ≤ 20 := by
          by_cases hc : lvLeft s = s.at_
          · rw [if_pos hc, if_pos hc]; exact ⟨hf, hof.fit, hkd, by split at hol <;> omega⟩
          · rw [if_neg hc, if_neg hc]; exact ⟨hof.fit, hf, hkd.symm, by split at hol <;> omega⟩
        have hlk : lvLeft s < s.n.keys.length := by have := (hok.inner hlf).2.1; unfold lvLeft; omega
        have hkey : (s.n.keys.getD (lvLeft s) []).length ≤ 24 := by
          rw [show s.n.keys.getD (lvLeft s) [] = s.n.keys[lvLeft s] by simp [List.getD, hlk]]
          exact hok.kl _ (List.getElem_mem hlk)
        obtain ⟨j1, -, -⟩ := hfit.1.join hfit.2.1 hkey hfit.2.2.1 hfit.2.2.2
        generalize nJoin _ _ _ = J at e1 e2 j1
        by_cases hz : (layP (W.add (lvOther s)) J).2.1 = 0
        · rw [e1 hz]
          have p := layP_ok (W := W.add (lvOther s)) j1 h128 hz
          obtain ⟨f1, -, f3⟩ := hok.fit.repl hlf (i := lvLeft s) (j := lvLeft s + 2) (ids := (layP (W.add (lvOther s)) J).1.1) (key := (layP (W.add (lvOther s)) J).1.2) (by omega) (by have := (hok.inner hlf).2.1; omega) p.lt p.n p.key (by omega)
          exact ⟨f1, by have := p.n; simp only; omega⟩
        · have := e2 hz
          rw [this] at h0
          exact absurd h0 hz
      · unfold levelP at h0
        rw [if_neg (by simp [hu']), if_neg (by simp [he]), if_pos hkd] at h0
        exact absurd h0 (show ¬ (17 : Int) = 0 by decide)
    · unfold levelP at h0
      rw [if_neg (by simp [hu']), if_pos he] at h0
      exact absurd h0 he
theorem putP_len (W : Wk) (n : Nd) : (putP W n).2.X.l.length = W.X.l.length := by
  unfold putP
  split
  · rfl
  · split
    · rfl
    · simp
theorem layP_len (W : Wk) (n : Nd) : (layP W n).2.2.X.l.length = W.X.l.length := by
  unfold layP
  split
  · exact putP_len _ _
  · split
    · exact putP_len _ _
    · simp only; rw [putP_len, putP_len]
/-- How much is taken and given back at most. -/
theorem levelP_counts (W : Wk) (s : Stp) (kid : Nd) : (levelP W s kid).2.2.fresh.length ≤ W.fresh.length + 2 ∧ (levelP W s kid).2.2.old.length ≤ W.old.length + 1 ∧ (levelP W s kid).2.2.X.l.length = W.X.l.length := by
  by_cases hu : kid.under = false
  · rw [levelP_put hu]
    have h1 := putP_fresh W kid
    have h2 := putP_old W kid
    have h3 := putP_len W kid
    refine ⟨?_, ?_, ?_⟩ <;> simp only
    · omega
    · rw [h2]; omega
    · exact h3
  · have hu' : kid.under = true := by simpa using hu
    by_cases he : (W.X.load (lvOther s)).2 = 0
    · by_cases hkd : (W.X.load (lvOther s)).1.leaf = kid.leaf
      · obtain ⟨e1, e2⟩ := levelP_two (W := W) (s := s) (kid := kid) hu' rfl rfl he hkd rfl rfl rfl
        generalize nJoin _ _ _ = J at e1 e2
        have hc := layP_counts (W.add (lvOther s)) J
        have hl := layP_len (W.add (lvOther s)) J
        have ha : (W.add (lvOther s)).fresh = W.fresh ∧ (W.add (lvOther s)).old = W.old ++ [lvOther s] ∧ (W.add (lvOther s)).X = W.X := ⟨rfl, rfl, rfl⟩
        rw [ha.1, ha.2.1] at hc
        rw [ha.2.2] at hl
        have e3 : (levelP W s kid).2.2 = (layP (W.add (lvOther s)) J).2.2 := by
          by_cases hz : (layP (W.add (lvOther s)) J).2.1 = 0
          · rw [e1 hz]
          · rw [e2 hz]
        rw [e3]
        exact ⟨hc.1, by rw [hc.2]; simp, hl⟩
      · unfold levelP
        rw [if_neg (by simp [hu']), if_neg (by simp [he]), if_pos hkd]
        simp
    · unfold levelP
      rw [if_neg (by simp [hu']), if_pos he]
      simp
section
variable {P : Program} {ops : Array Oper} {Q : Exit → Act → World → Prop} {md : Region.Mode} {C : World → Prop} {z : Nat}
/-- Either of two comes up. -/
theorem wpAnyZ_two {i j : Nat} {oi oj : Oper} {fuel : Nat} {listed : Array Bool} {a : Act} {w : World} (hr : Region.ready md ops listed = [i, j]) (hi : ops[i]? = some oi) (hj : ops[j]? = some oj)
    (h1 : ∀ K' : Act → World → Prop, Shut (∀ a w, ((listed.setIfInBounds i true).getD z true = false → C w) → wpAnyZ P md ops Q C z fuel (listed.setIfInBounds i true) a w → K' a w) → if Region.wanted oi (yielded ops a.tmps) = true then Oper.wp P oi a w K' Q else K' (a.put oi.dst undef) w)
    (h2 : ∀ K' : Act → World → Prop, Shut (∀ a w, ((listed.setIfInBounds j true).getD z true = false → C w) → wpAnyZ P md ops Q C z fuel (listed.setIfInBounds j true) a w → K' a w) → if Region.wanted oj (yielded ops a.tmps) = true then Oper.wp P oj a w K' Q else K' (a.put oj.dst undef) w) :
    wpAnyZ P md ops Q C z (fuel + 1) listed a w := by
  refine ⟨fun h0 => (by rw [hr] at h0; cases h0), fun k hk => ?_⟩
  rw [hr] at hk
  simp only [List.mem_cons, List.not_mem_nil, or_false] at hk
  rcases hk with rfl | rfl
  · exact wpOp_step hi (fun K' hK => h1 K' (fun a w hC hW => hK a w ⟨hC, hW⟩))
  · exact wpOp_step hj (fun K' hK => h2 K' (fun a w hC hW => hK a w ⟨hC, hW⟩))
end
/-- What Delete leaves. -/
def DelTo (r : Bool × Int × Int × Sto) (w : World) (q : TQ) (e : Ending) (w' : World) : Prop := e = .returned (.tuple #[.bool r.1, .int .i64 r.2.1]) ∧ TW w' q r.2.2.2 r.2.2.1 ∧ Kept (fun k => k = q.c ∨ k = q.m ∨ k = q.t) w w'
theorem TreeDelete_none {w q X root} (h : TW w q X root) (k : Bs) (hg : (getT X root k).2 ≠ 0 ∨ (getT X root k).1.2 = false) :
    Calls Tryz.prog 35 #[.pointer (some ⟨q.t, 0, none⟩), .string (ba k)] w (DelTo (delT X root k) w q) := by
  have HD : Hid (delT X root k = (false, (getT X root k).2, root, X)) := by show _ = _; unfold delT; rw [if_pos hg]
  have CG := Lib.hid (TreeGet_calls h k)
  have H := Lib.hid h
  obtain ⟨⟨⟨v, ok⟩, er⟩, hr⟩ : ∃ r, r = getT X root k := ⟨_, rfl⟩
  obtain ⟨d, hd⟩ : ∃ d, d = delT X root k := ⟨_, rfl⟩
  rw [← hr] at CG HD hg
  rw [← hd] at HD ⊢
  unfold GetTo at CG
  dsimp only at CG HD hg
  obtain ⟨ks, hks⟩ : ∃ s, s = ba k := ⟨_, rfl⟩
  obtain ⟨vs, hvs⟩ : ∃ s, s = ba v := ⟨_, rfl⟩
  rw [← hks, ← hvs] at CG
  rw [← hks]
  clear h hr hd hks hvs
  by_cases ho : ok = false
  · subst ho
    clear hg
    go_enter Tryz.func35, Tryz.ntmps35
    go_wp2_with fail
    refine CG.out.mono ?_
    rintro e w1 ⟨rfl, k1⟩
    have K1 := Lib.hid k1
    clear k1 CG
    go_wp2
    refine bodyPost_ret (v := .tuple #[.bool false, .int .i64 er]) (by simp [results, Tryz.f35, go_sem]) rfl ?_
    rw [HD.out]
    exact ⟨rfl, H.out.keptF K1.out, K1.out.mono fun _ _ => False.elim⟩
  · have ho' : ok = true := by simpa using ho
    subst ho'
    have hz : er ≠ 0 := by simpa using hg
    have hz1 : (er == 0) = false := by rw [beq_eq_false_iff_ne]; exact hz
    have hz2 : (er != 0) = true := by rw [bne_iff_ne]; exact hz
    clear hg hz ho
    go_enter Tryz.func35, Tryz.ntmps35
    go_wp2_with fail
    refine CG.out.mono ?_
    rintro e w1 ⟨rfl, k1⟩
    have K1 := Lib.hid k1
    clear k1 CG
    go_wp2
    refine bodyPost_ret (v := .tuple #[.bool false, .int .i64 er]) (by simp [results, Tryz.f35, go_sem]) rfl ?_
    rw [HD.out]
    exact ⟨rfl, H.out.keptF K1.out, K1.out.mono fun _ _ => False.elim⟩
end Go.Proofs.YtfgjehecjgebdaaGreat
