/- The tree: what level's loop keeps. -/
import Derived.Test.YtfgjehecjgebdaaGreatMg45
import Derived.Test.YtfgjehecjgebdaaGreatMg30
namespace Go.Proofs.YtfgjehecjgebdaaGreat
open Go.RowKit Go.Maps Go.ChangeMaps
theorem wp_hide {P : Program} {c : Code} {Q : Exit → Act → World → Prop} {a : Act} {w : World} (h : ∀ a0, a0 = a → c.wp P Q a0 w) : c.wp P Q a w := h a rfl
theorem levelP_eq {W : Wk} {s : Stp} {kid a b : Nd} {key : Bs} {left x : Nat} (hu : kid.under = true) (hx : lvOther s = x) (hlf : lvLeft s = left) (h0 : (W.X.load x).2 = 0) (hl : (W.X.load x).1.leaf = kid.leaf)
    (ha : a = if left = s.at_ then kid else (W.X.load x).1) (hb : b = if left = s.at_ then (W.X.load x).1 else kid) (hk : s.n.keys.getD left [] = key) :
    levelP W s kid = if (putAll (W.add x) (nLevel a key b)).2.1 ≠ 0 then (nd0, (putAll (W.add x) (nLevel a key b)).2.1, (putAll (W.add x) (nLevel a key b)).2.2) else (s.n.repl left (left + 2) (putAll (W.add x) (nLevel a key b)).1 (if (nLevel a key b).length = 2 then nBetween a key b else []), 0, (putAll (W.add x) (nLevel a key b)).2.2) := by
  unfold levelP
  rw [if_neg (by simp [hu]), hx, if_neg (by simp [h0]), if_neg (by simp [hl]), hlf, hk, ← ha, ← hb]
theorem putP_fr1 (W : Wk) (n : Nd) : (putP W n).2.fresh.length ≤ W.fresh.length + 1 := by
  unfold putP
  split
  · simp
  · split <;> simp
theorem putAll_step {U U' : Wk} {n : Nd} {ti : Nat} (h : putP U n = ((ti, 0), U')) (l : List Nd) : putAll U (n :: l) = (ti :: (putAll U' l).1, (putAll U' l).2) ∧ U'.fresh.length ≤ U.fresh.length + 1 := by
  have hf := putP_fr1 U n
  simp only [putAll]
  rw [h] at hf ⊢
  exact ⟨by rw [if_neg (by simp)], hf⟩
theorem putAll_bad {U U' : Wk} {n : Nd} {ti : Nat} {te : Int} (h : putP U n = ((ti, te), U')) (hz : te ≠ 0) (l : List Nd) : putAll U (n :: l) = ([], te, U') := by
  simp only [putAll]
  rw [h, if_pos hz]
theorem parts_app {w3 W' w4 : World} {p M m x : Nat} {vp v' kv : Value} {ids : List Nat} (hp : w3.heap[p]? = some (.cells #[vp, kv] 169 (0, 0))) (hr : IRow w3 M vp ids) (k0 : Kept (fun _ => False) w3 W') (hZ : M ≤ w3.heap.size) (hm : m = ids.length)
    (h1 : w4.ownsRow 0 3 1 v' (m + 1) (ids.map I ++ [I x])) (h2 : W'.grownBy w4 vp.ownBlock) (h3 : v'.ownBlock = vp.ownBlock ∨ v'.ownBlock = some W'.heap.size) :
    ∃ A c, v' = .slice A (m + 1) c ∧ w4.heap[p]? = some (.cells #[vp, kv] 169 (0, 0)) ∧ (w4.setCell ⟨p, 0, none⟩ (.slice A (m + 1) c)).heap[p]? = some (.cells #[.slice A (m + 1) c, kv] 169 (0, 0)) ∧ IRow (w4.setCell ⟨p, 0, none⟩ (.slice A (m + 1) c)) M (.slice A (m + 1) c) (ids ++ [x]) ∧
      Kept (fun k => k = p ∨ vp.ownBlock = some k) w3 (w4.setCell ⟨p, 0, none⟩ (.slice A (m + 1) c)) ∧ ∀ g, (Value.slice A (m + 1) c).ownBlock = some g → vp.ownBlock = some g ∨ w3.heap.size ≤ g := by
  have hks := k0.size
  have kg : Kept (fun k => vp.ownBlock = some k) w3 w4 := (k0.mono fun _ _ => False.elim).trans ⟨h2.os, h2.tape, h2.output, h2.size, fun k hk' hne => h2.block k hk' fun e => hne e.symm⟩
  have hl : (ids ++ [x]).length = m + 1 := by rw [List.length_append, hm]; rfl
  have r : IRow w4 M v' (ids ++ [x]) := by
    show w4.ownsRow _ _ _ _ _ _
    rw [hl, List.map_append]
    refine own_base h1 fun k hk' => ?_
    rcases h3 with e | e
    · exact own_ge hr (e ▸ hk')
    · rw [hk'] at e
      injection e with e
      omega
  obtain ⟨A, c, rfl⟩ := own_slice h1
  have hb := kg.heap hp fun e => own_ne hr hp (by decide) _ e rfl
  have ks : Kept (· = p) w4 (w4.setCell ⟨p, 0, none⟩ (.slice A (m + 1) c)) := (Kept.refl (· = p) w4).set1 0 _
  refine ⟨A, c, rfl, hb, heap_set hb 0 _, IRow.kept r ks (own_ne r hb (by decide)), ?_, ?_⟩
  · exact (kg.mono fun i _ e => .inr e).then ks fun i hi e => .inl e
  · intro g hg
    rcases h3 with e | e
    · rw [e] at hg; exact .inl hg
    · rw [e] at hg; injection hg with hg; exact .inr (by omega)
/-- What stands between two rounds of level's loop. -/
structure LvL (w9 wr : World) (q : TQ) (wk : Nat) (vf vo : Value) (root : Int) (Z p : Nat) (kv : Value) (U : Wk) (vfk vp : Value) (ids : List Nat) : Prop where
  hw : WkW wr q wk vfk vo U root Z
  kp : Kept (fun g => wkS q wk vf vo g ∨ g = p) w9 wr
  fk : ∀ g, vfk.ownBlock = some g → vf.ownBlock = some g ∨ w9.heap.size ≤ g
  pb : wr.heap[p]? = some (.cells #[vp, kv] 169 (0, 0))
  ip : IRow wr w9.heap.size vp ids
  nv : ∀ b, vp.ownBlock = some b → vfk.ownBlock ≠ some b
theorem LvL.keptF {w9 wr w' q wk vf vo root Z p kv U vfk vp ids} (h : LvL w9 wr q wk vf vo root Z p kv U vfk vp ids) (k : Kept (fun _ => False) wr w') : LvL w9 w' q wk vf vo root Z p kv U vfk vp ids :=
  ⟨h.hw.keptF k, h.kp.then k fun _ _ e => e.elim, h.fk, k.heap h.pb id, h.ip.keptF k, h.nv⟩
/-- A node put. -/
theorem LvL.put {w9 wr w' q wk vf vo root Z p kv U vfk vp ids} {r : (Nat × Int) × Wk} {e : Ending} (h : LvL w9 wr q wk vf vo root Z p kv U vfk vp ids) (hp : PutTo r wr q wk vfk vo root Z e w') :
    e = .returned (.tuple #[.int .i64 r.1.1, .int .i64 r.1.2]) ∧ ∃ vfk', LvL w9 w' q wk vf vo root Z p kv r.2 vfk' vp ids := by
  obtain ⟨rfl, vfk', hw, hk, hv⟩ := hp
  have hl := h.hw.lt
  have hpne : ∀ {T cs f}, wr.heap[p]? = some (.cells cs T f) → T = 169 → ¬ (p = q.c ∨ p = q.m ∨ p = wk ∨ vfk.ownBlock = some p) := by
    rintro T cs f hh hT (e | e | e | e)
    · subst e
      rw [h.hw.tw.sto.sp.row] at hh
      injection hh with hh
      injection hh with _ e _
      rw [hT] at e
      exact absurd e (by decide)
    · obtain ⟨es, clock, hm⟩ := h.hw.tw.sto.put.heap
      exact map_ne hm hh e
    · subst e
      rw [h.hw.blk] at hh
      injection hh with hh
      injection hh with _ e _
      rw [hT] at e
      exact absurd e (by decide)
    · exact own_neH h.hw.rf hh (by rw [hT]; decide) _ e rfl
  refine ⟨rfl, vfk', hw, h.kp.then hk ?_, ?_, hk.heap h.pb (hpne h.pb rfl), IRow.kept h.ip hk ?_, ?_⟩
  · rintro i hi (e | e | e | e)
    · exact .inl (.inl e)
    · exact .inl (.inr (.inl e))
    · exact .inl (.inr (.inr (.inl e)))
    · rcases h.fk i e with e | e
      · exact .inl (.inr (.inr (.inr (.inl e))))
      · omega
  · intro g hg
    rcases hv g hg with e | e
    · exact h.fk g e
    · exact .inr (Nat.le_trans h.kp.size e)
  · rintro b hb (e | e | e | e)
    · exact own_ne h.ip h.hw.tw.sto.sp.row (by decide) b hb e
    · obtain ⟨cs, f, hh⟩ := own_type h.ip hb
      obtain ⟨es, clock, hm⟩ := h.hw.tw.sto.put.heap
      exact map_ne hm hh e
    · exact own_ne h.ip h.hw.blk (by decide) b hb e
    · exact h.nv b hb e
  · intro b hb e
    rcases hv b e with e | e
    · exact h.nv b hb e
    · have := own_lt h.ip hb; omega
/-- A page more. -/
theorem LvL.app {w9 wr W' w4 q wk vf vo root Z p kv U vfk vp ids} {m x : Nat} {v' : Value} (h : LvL w9 wr q wk vf vo root Z p kv U vfk vp ids) (hvo : ∀ b, vo.ownBlock = some b → b < w9.heap.size) (k0 : Kept (fun _ => False) wr W') (hm : m = ids.length)
    (h1 : w4.ownsRow 0 3 1 v' (m + 1) (ids.map I ++ [I x])) (h2 : W'.grownBy w4 vp.ownBlock) (h3 : v'.ownBlock = vp.ownBlock ∨ v'.ownBlock = some W'.heap.size) :
    ∃ A c, v' = .slice A (m + 1) c ∧ w4.heap[p]? = some (.cells #[vp, kv] 169 (0, 0)) ∧ LvL w9 (w4.setCell ⟨p, 0, none⟩ (.slice A (m + 1) c)) q wk vf vo root Z p kv U vfk (.slice A (m + 1) c) (ids ++ [x]) := by
  obtain ⟨A, c, e1, e2, e3, e4, e5, e6⟩ := parts_app h.pb h.ip k0 h.kp.size hm h1 h2 h3
  have hal : Alien wr (fun k => k = p ∨ vp.ownBlock = some k) := by
    rintro i (e | e)
    · subst e; exact ⟨_, _, _, h.pb, by decide⟩
    · obtain ⟨cs, f, hh⟩ := own_type h.ip e
      exact ⟨_, _, _, hh, by decide⟩
  refine ⟨A, c, e1, e2, h.hw.aside e5 hal ?_ ?_ ?_, h.kp.then e5 ?_, h.fk, e3, e4, ?_⟩
  · rintro (e | e)
    · have h1 := h.hw.blk
      rw [e, h.pb] at h1
      injection h1 with h1
      injection h1 with _ e _
      exact absurd e (by decide)
    · exact own_ne h.ip h.hw.blk (by decide) _ e rfl
  · rintro b hb (e | e)
    · exact own_ne h.hw.rf h.pb (by decide) b hb e
    · exact h.nv b e hb
  · rintro b hb (e | e)
    · exact own_ne h.hw.ro h.pb (by decide) b hb e
    · have := hvo b hb; have := own_ge h.ip e; omega
  · rintro i hi (e | e)
    · exact .inr e
    · have := own_ge h.ip e; omega
  · intro b hb e
    rcases e6 b hb with e' | e'
    · exact h.nv b e' e
    · have := own_lt h.hw.rf e; omega
theorem nds_at {w9 w' : World} {B : Nat} {v : Value} {ns : List Nd} {S : Nat → Prop} (h : IsNds w9 B v ns) (k : Kept S w9 w') (hs : ∀ b, S b → b < B) {g c n : Nat} (e : v = .slice (some ⟨g, 0, none⟩) n c) {i : Nat} (hi : i < ns.length) :
    ∃ l A1 n1 c1 A2 n2 c2 A3 n3 c3, w'.cell? ⟨g, i * 4, none⟩ = some (.bool l) ∧ w'.cell? ⟨g, i * 4 + 1, none⟩ = some (.slice A1 n1 c1) ∧ w'.cell? ⟨g, i * 4 + 2, none⟩ = some (.slice A2 n2 c2) ∧ w'.cell? ⟨g, i * 4 + 3, none⟩ = some (.slice A3 n3 c3) ∧ IsNd w' B (.agg #[.bool l, .slice A1 n1 c1, .slice A2 n2 c2, .slice A3 n3 c3]) ns[i] ∧ g < w'.heap.size := by
  obtain ⟨g', c', e', hB, hg, h⟩ := h
  rw [e] at e'
  injection e' with e1 e2 e3
  injection e1 with e1
  injection e1 with e1 _ _
  subst e1
  obtain ⟨v0, v1, v2, v3, h0, h1, h2, h3, hn⟩ := h i hi
  obtain ⟨l, A1, n1, c1, A2, n2, c2, A3, n3, c3, ea⟩ := hn.agg
  injection ea with ea
  injection ea with ea
  injection ea with ea1 ea
  injection ea with ea2 ea
  injection ea with ea3 ea
  injection ea with ea4 _
  subst ea1 ea2 ea3 ea4
  have hgS : ¬ S g := fun e => by have := hs g e; omega
  have ce : ∀ i, w'.cell? ⟨g, i, none⟩ = w9.cell? ⟨g, i, none⟩ := fun i => World.cell?_of_block (k.block g hg hgS)
  exact ⟨l, A1, n1, c1, A2, n2, c2, A3, n3, c3, (ce _).trans h0, (ce _).trans h1, (ce _).trans h2, (ce _).trans h3, hn.keptS k hs, Nat.lt_of_lt_of_le hg k.size⟩
end Go.Proofs.YtfgjehecjgebdaaGreat
