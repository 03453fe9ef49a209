/- Pages: a store; Super, Put, Give, Undo. -/
import Derived.Test.YtfgjehecjgebdaaMg30
namespace Go.Proofs.Ytfgjehecjgebdaa
open Go.RowKit Go.Maps Go.ChangeMaps

/-- A store: the states of its pages, what was put, what the last checkpoint says, its device. -/
structure Sto where
  l : List Nat
  T : Nat → List UInt8
  sup : Sup
  D : Dev

def stoCells (b d m p g : Nat) (s : Sup) : Array Value := #[.pointer (some ⟨b, 0, none⟩), .pointer (some ⟨d, 0, none⟩), .int .i64 p, .int .i64 g, .int .i64 s.gen, .int .i64 s.root, .int .i64 s.log, .int .i64 s.next, .map (some m)]
structure IsStore (w : World) (st b c m d : Nat) (vs vc : Value) (p g : Nat) (X : Sto) : Prop where
  head : w.heap[st]? = some (.cells (stoCells b d m p g X.sup) 88 (0, 0))
  sp : IsSp w b c X.l
  put : IsPut w m X.l X.T
  dev : IsDev w d vs vc X.D
  len : X.l.length = p
  lay : LayGood p g

theorem map_ne {w : World} {m : Nat} {es : Array MapEntry} {clock : Nat} {k : Nat} {cs : Array Value} {e : TypeId} {f : Nat × Nat} (hm : w.heap[m]? = some (.map es clock)) (hk : w.heap[k]? = some (.cells cs e f)) : k ≠ m := by
  rintro rfl
  rw [hm] at hk
  cases hk

/-- Where nothing but the space's row and the map has turned. -/
theorem IsStore.turned {w w' st b c m d vs vc p g X} {l' : List Nat} {T' : Nat → List UInt8} (h : IsStore w st b c m d vs vc p g X) (k : Kept (fun i => i = c ∨ i = m) w w') (hs : IsSp w' b c l') (hp : IsPut w' m l' T') (hl : l'.length = X.l.length) :
    IsStore w' st b c m d vs vc p g { X with l := l', T := T' } := by
  obtain ⟨es, clock, hm⟩ := h.put.heap
  obtain ⟨c0, hd⟩ := h.dev.head
  refine ⟨k.heap h.head ?_, hs, hp, h.dev.kept k ?_ ?_ ?_, by simp only; rw [hl]; exact h.len, h.lay⟩
  · rintro (e | e)
    · exact ne_type h.head h.sp.row (by decide) e
    · exact map_ne hm h.head e
  · rintro (e | e)
    · exact ne_type hd h.sp.row (by decide) e
    · exact map_ne hm hd e
  · intro x hx
    obtain ⟨cs, f, hg⟩ := own_type h.dev.secs hx
    rintro (e | e)
    · exact ne_type hg h.sp.row (by decide) e
    · exact map_ne hm hg e
  · intro x hx
    obtain ⟨cs, f, hg⟩ := own_type h.dev.cache hx
    rintro (e | e)
    · exact ne_type hg h.sp.row (by decide) e
    · exact map_ne hm hg e

theorem IsStore.keptF {w w' st b c m d vs vc p g X} (h : IsStore w st b c m d vs vc p g X) (k : Kept (fun _ => False) w w') : IsStore w' st b c m d vs vc p g X :=
  h.turned (k.mono fun _ _ f => f.elim) ⟨k.heap h.sp.head id, k.heap h.sp.row id, h.sp.le, h.sp.len⟩ (h.put.kept k id) rfl

/-- What Put leaves. -/
def PutPost (w : World) (st b c m d : Nat) (vs vc : Value) (p g : Nat) (X : Sto) (t : List UInt8) (e : Ending) (w' : World) : Prop :=
  Kept (fun i => i = c ∨ i = m) w w' ∧ (if 248 < t.length then e = .returned (.tuple #[.int .i64 0, .int .i64 3]) ∧ IsStore w' st b c m d vs vc p g X else
    match tkAt X.l with
    | none => e = .returned (.tuple #[.int .i64 0, .int .i64 7]) ∧ IsStore w' st b c m d vs vc p g X
    | some i => e = .returned (.tuple #[.int .i64 i, .int .i64 0]) ∧ IsStore w' st b c m d vs vc p g { X with l := X.l.set i 2, T := upd X.T i t })

set_option maxRecDepth 100000 in
theorem Put_calls {w st b c m d vs vc p g X} (h : IsStore w st b c m d vs vc p g X) (t : List UInt8) :
    Calls Try.prog 30 #[.pointer (some ⟨st, 0, none⟩), .string (ba t)] w (PutPost w st b c m d vs vc p g X t) := by
  have H := Lib.hid h
  have hc0 : w.cell? ⟨st, 0, none⟩ = some (.pointer (some ⟨b, 0, none⟩)) := (cell_heap h.head 0).trans rfl
  have HSP := Lib.hid (Take_calls h.sp)
  obtain ⟨s, hs⟩ : ∃ s, s = ba t := ⟨_, rfl⟩
  have hsz : s.size = t.length := by rw [hs, ba_size]
  rw [← hs]
  have HS := Lib.hid hs
  have h128 := h.lay.p2
  have hlp := h.len
  clear h hs
  by_cases hbig : 248 < t.length
  · have hb1 : 248 < s.size := by omega
    have HB := Lib.hid hbig
    clear hsz hbig
    go_enter Try.func30, Try.ntmps30
    go_wp2
    go_ret2
    exact ⟨Kept.refl _ _, by rw [if_pos HB.out]; exact ⟨rfl, H.out⟩⟩
  · have hb1 : s.size ≤ 248 := by omega
    have HB := Lib.hid hbig
    clear hsz hbig
    cases ht : tkAt X.l with
    | none =>
      have HT := Lib.hid ht
      have HR : Hid (tkRes X.l = (0, 7, X.l)) := by simp [Hid, tkRes, ht]
      rw [HR.out] at HSP
      simp only at HSP
      clear ht
      go_enter Try.func30, Try.ntmps30
      go_wp2_with fail
      refine HSP.out.mono ?_
      rintro e w1 ⟨rfl, h1, k1⟩
      have H1 := Lib.hid h1
      have K1 := Lib.hid k1
      clear h1 k1
      go_wp2_with fail
      go_ret2
      have hcm : c ≠ m := by obtain ⟨es, clock, hm⟩ := H.out.put.heap; exact map_ne hm H.out.sp.row
      refine ⟨K1.out.mono fun _ _ e => .inl e, ?_⟩
      rw [if_neg HB.out, HT.out]
      exact ⟨rfl, H.out.turned (K1.out.mono fun _ _ e => .inl e) H1.out (H.out.put.kept K1.out (fun e => hcm e.symm)) rfl⟩
    | some i =>
      have hi : i < X.l.length := (List.findIdx?_eq_some_iff_getElem.1 ht).1
      have HT := Lib.hid ht
      have HR : Hid (tkRes X.l = ((i : Int), 0, X.l.set i 2)) := by simp [Hid, tkRes, ht]
      rw [HR.out] at HSP
      simp only at HSP
      have hcm : Hid (c ≠ m) := by obtain ⟨es, clock, hm⟩ := H.out.put.heap; exact map_ne hm H.out.sp.row
      have HKEY := Lib.hid (key_int i (by omega))
      have HIL := Lib.hid hi
      clear ht hi
      go_enter Try.func30, Try.ntmps30
      go_wp2_with fail
      refine HSP.out.mono ?_
      rintro e w1 ⟨rfl, h1, k1⟩
      have H1 := Lib.hid h1
      have K1 := Lib.hid k1
      have P1 := Lib.hid (H.out.put.kept k1 (fun e => hcm.out e.symm))
      have hhd := k1.heap H.out.head (fun e => ne_type H.out.head H.out.sp.row (by decide) e)
      have hc8 : w1.cell? ⟨st, 8, none⟩ = some (.map (some m)) := (cell_heap hhd 8).trans rfl
      clear h1 k1 hhd
      go_wp2_with (at_mapUpdate; refine wpList_mapUpdate_own _ rfl _ _ _ 86 rfl 3 106 (int_keyed und_int) und_dirty pgR m 128 _ rfl P1.out (by unfold maxLen; omega) _ _ (.int .i64 i) rfl rfl HKEY.out (.lit (.string t)) [] (by rw [HS.out]; exact pgR_mk t) ?_; intro w2 hown2 hg2; have HO := Lib.hid hown2; have HG := Lib.hid hg2; clear hown2 hg2)
      go_ret2
      have hk2 : Kept (fun i => i = c ∨ i = m) w w2 := (K1.out.mono fun _ _ e => .inl e).grown HG.out (by intro k hk; injection hk with hk; exact .inl (.inr hk.symm))
      refine ⟨hk2, ?_⟩
      rw [if_neg HB.out, HT.out]
      have ho := HO.out
      rw [put_prs HIL.out] at ho
      have hp2 : IsPut w2 m (X.l.set i 2) (upd X.T i t) := own_tight ho (by rw [prs_len]; have := fresh_len (X.l.set i 2); have := H.out.sp.len; simp at *; omega)
      have hsp2 : IsSp w2 b c (X.l.set i 2) := by
        have hb : ∀ k, k ≠ m → k < w1.heap.size → w2.heap[k]? = w1.heap[k]? := fun k hk hl => HG.out.block k hl (by simpa using hk)
        have h1 := H1.out
        obtain ⟨es, clock, hm⟩ := P1.out.heap
        exact ⟨by rw [hb b (map_ne hm h1.head) (lt_heap h1.head)]; exact h1.head, by rw [hb c hcm.out (lt_heap h1.row)]; exact h1.row, h1.le, h1.len⟩
      exact ⟨rfl, H.out.turned hk2 hsp2 hp2 (by simp)⟩

end Go.Proofs.Ytfgjehecjgebdaa
