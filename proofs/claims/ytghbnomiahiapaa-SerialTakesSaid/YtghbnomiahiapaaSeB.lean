/- serial: Orders' closure. -/
import Derived.Test.YtghbnomiahiapaaSeA
import Derived.Test.YtghbnomiahiapaaGrowZ
namespace Go.Proofs.Ytghbnomiahiapaa
open Go.RowKit
theorem own_type {w : World} {base : Nat} {e : TypeId} {size : Nat} {v : Value} {n : Nat} {xs : List Value} (h : w.ownsRow base e size v n xs) {g : Nat} (hg : v.ownBlock = some g) : ∃ cs f, w.heap[g]? = some (.cells cs e f) := by
  rcases h.2 with ⟨rfl, _⟩ | ⟨g', cap, cur, rfl, _, hh, _⟩
  · simp [Value.ownBlock] at hg
  · simp [Value.ownBlock] at hg; subst hg; exact ⟨cur, _, hh⟩
theorem own_base {w : World} {B B' : Nat} {e : TypeId} {size : Nat} {v : Value} {n : Nat} {xs : List Value} (h : w.ownsRow B e size v n xs) (hb : ∀ g, v.ownBlock = some g → B' ≤ g) : w.ownsRow B' e size v n xs := by
  refine ⟨h.1, ?_⟩
  rcases h.2 with hn | ⟨g, cap, cur, rfl, _, rest⟩
  · exact .inl hn
  · exact .inr ⟨g, cap, cur, rfl, hb g rfl, rest⟩
theorem own_ge {w : World} {B : Nat} {e : TypeId} {size : Nat} {v : Value} {n : Nat} {xs : List Value} (h : w.ownsRow B e size v n xs) {g : Nat} (hg : v.ownBlock = some g) : B ≤ g := by
  rcases h.2 with ⟨rfl, _⟩ | ⟨g', cap, cur, rfl, hb, _⟩
  · simp [Value.ownBlock] at hg
  · simp [Value.ownBlock] at hg; omega
theorem own_lt {w : World} {B : Nat} {e : TypeId} {size : Nat} {v : Value} {n : Nat} {xs : List Value} (h : w.ownsRow B e size v n xs) {g : Nat} (hg : v.ownBlock = some g) : g < w.heap.size := by
  obtain ⟨cs, f, hh⟩ := own_type h hg; exact lt_heap hh
theorem own_neH {w : World} {B s : Nat} {e : TypeId} {v : Value} {n : Nat} {xs : List Value} (h : w.ownsRow B e s v n xs) {g : Nat} {cs : Array Value} {T : TypeId} {f : Nat × Nat} (hg : w.heap[g]? = some (.cells cs T f)) (hT : e ≠ T) : v.ownBlock ≠ some g := by
  intro e
  obtain ⟨cs', f', h'⟩ := own_type h e
  rw [hg] at h'
  injection h' with h'
  injection h' with h1 h2
  exact hT h2.symm
theorem hp_ne {w : World} {a b : Nat} {ca cb : Array Value} {ea eb : TypeId} {fa fb : Nat × Nat} (ha : w.heap[a]? = some (.cells ca ea fa)) (hb : w.heap[b]? = some (.cells cb eb fb)) (h : ea ≠ eb) : a ≠ b := by
  rintro rfl
  rw [ha] at hb
  injection hb with hb
  injection hb with _ h2
  exact h h2
/-- A row without its last. -/
theorem own_less {w : World} {B : Nat} {e : TypeId} {v : Value} {n : Nat} {xs : List Value} {x : Value} (h : w.ownsRow B e 1 v (n + 1) (xs ++ [x])) : ∃ g c, v = .slice (some ⟨g, 0, none⟩) (n + 1) c ∧ n + 1 ≤ c ∧ w.ownsRow B e 1 (.slice (some ⟨g, 0, none⟩) n c) n xs := by
  rcases h.2 with ⟨_, h0⟩ | ⟨g, cap, cur, rfl, hb, hh, hnc, hcm, hcs, htk⟩
  · omega
  · have hl := h.1
    simp only [List.length_append, List.length_cons, List.length_nil] at hl
    refine ⟨g, cap, rfl, hnc, ⟨by omega, .inr ⟨g, cap, cur, rfl, hb, hh, by omega, hcm, hcs, ?_⟩⟩⟩
    have := congrArg (List.take (n * 1)) htk
    rw [List.take_take, List.take_append_of_le_length (by omega)] at this
    rw [show min (n * 1) ((n + 1) * 1) = n * 1 by omega] at this
    rw [this, List.take_of_length_le (by omega)]
def growL (af : List Int) : Nat → List Nat → List (List Nat)
  | 0, ws => [ws]
  | n + 1, ws => (List.range af.length).flatMap fun k => if mayB af ws k then growL af n (ws ++ [k]) else []
def gpart (af : List Int) (n : Nat) (ws : List Nat) (k : Nat) : List (List Nat) := (List.range k).flatMap fun k => if mayB af ws k then growL af n (ws ++ [k]) else []
theorem gpart_succ (af : List Int) (n : Nat) (ws : List Nat) (k : Nat) : gpart af n ws (k + 1) = gpart af n ws k ++ (if mayB af ws k then growL af n (ws ++ [k]) else []) := by
  unfold gpart; rw [List.range_succ, List.flatMap_append]; simp
theorem gpart_le (af : List Int) (n : Nat) (ws : List Nat) {k m : Nat} (h : k ≤ m) : (gpart af n ws k).length ≤ (gpart af n ws m).length := by
  induction h with
  | refl => exact Nat.le_refl _
  | step _ ih => rw [gpart_succ, List.length_append]; omega
/-- What stands while the orders grow. -/
structure Gr (w : World) (B W L O G : Nat) (v : Value) (af : List Int) (vw : Value) (ws : List Nat) (vo : Value) (vs : List Value) (outs : List (List Nat)) : Prop where
  bl : B ≤ W ∧ B ≤ L ∧ B ≤ O ∧ B ≤ G
  hL : w.heap[L]? = some (.cells #[v] 24 (0, 0))
  hW : w.heap[W]? = some (.cells #[vw] 22 (0, 0))
  hO : w.heap[O]? = some (.cells #[vo] 30 (0, 0))
  hG : w.heap[G]? = some (.cells #[.func (.func 9) #[] #[.pointer (some ⟨W, 0, none⟩), .pointer (some ⟨L, 0, none⟩), .pointer (some ⟨O, 0, none⟩), .pointer (some ⟨G, 0, none⟩)]] 1 (0, 0))
  tx : ∃ b off c, v = .slice (some ⟨b, off, none⟩) af.length c ∧ b < B ∧ b < w.heap.size ∧ ∀ j (hj : j < af.length), w.cell? ⟨b, off + j * 2, none⟩ = some (.slice none 0 0) ∧ w.cell? ⟨b, off + j * 2 + 1, none⟩ = some (.int .i64 af[j])
  wy : NRow w B vw ws
  ro : w.ownsRow B 22 1 vo vs.length vs
  oW : vo.ownBlock ≠ some W
  oc : ∀ s ∈ vs, s.oneCell' = true
  ou : vs.length = outs.length ∧ ∀ (i : Nat) (s : Value) (o : List Nat), vs[i]? = some s → outs[i]? = some o → NRow w B s o ∧ ∀ g, s.ownBlock = some g → vw.ownBlock ≠ some g
theorem Gr.txs {w B W L O G v af vw ws vo vs outs} (h : Gr w B W L O G v af vw ws vo vs outs) : Txs w v af := by
  obtain ⟨b, off, c, rfl, _, _, hc⟩ := h.tx
  exact ⟨b, off, c, rfl, hc⟩
theorem tx_kept {w w' : World} {B : Nat} {v : Value} {af : List Int} (k : Kept (B ≤ ·) w w') (h : ∃ b off c, v = .slice (some ⟨b, off, none⟩) af.length c ∧ b < B ∧ b < w.heap.size ∧ ∀ j (hj : j < af.length), w.cell? ⟨b, off + j * 2, none⟩ = some (.slice none 0 0) ∧ w.cell? ⟨b, off + j * 2 + 1, none⟩ = some (.int .i64 af[j])) :
    ∃ b off c, v = .slice (some ⟨b, off, none⟩) af.length c ∧ b < B ∧ b < w'.heap.size ∧ ∀ j (hj : j < af.length), w'.cell? ⟨b, off + j * 2, none⟩ = some (.slice none 0 0) ∧ w'.cell? ⟨b, off + j * 2 + 1, none⟩ = some (.int .i64 af[j]) := by
  obtain ⟨b, off, c, h1, h2, h3, h4⟩ := h
  have e := k.block b h3 (by omega)
  exact ⟨b, off, c, h1, h2, by have := k.size; omega, fun j hj => ⟨(World.cell?_of_block e).trans (h4 j hj).1, (World.cell?_of_block e).trans (h4 j hj).2⟩⟩
/-- The way has one more. -/
theorem Gr.add {w w2 B W L O G v af vw ws vo vs outs} (h : Gr w B W L O G v af vw ws vo vs outs) (hB : B ≤ w.heap.size) {a : Obj} {k : Nat} {v' : Value} (hv : w2.ownsRow 0 3 1 v' (ws.length + 1) (ws.map Nu ++ [Nu k]))
    (hg : (w.alloc a).grownBy w2 vw.ownBlock) (hob : v'.ownBlock = vw.ownBlock ∨ v'.ownBlock = some (w.alloc a).heap.size) :
    Gr (w2.setCell ⟨W, 0, none⟩ v') B W L O G v af v' (ws ++ [k]) vo vs outs ∧ Kept (B ≤ ·) w (w2.setCell ⟨W, 0, none⟩ v') := by
  have k0 : Kept (fun g => vw.ownBlock = some g) w w2 := ((Kept.refl _ _).alloc a).grown hg fun k e => .inl e
  have hsz : (w.alloc a).heap.size = w.heap.size + 1 := by simp
  have kB : Kept (B ≤ ·) w w2 := k0.mono fun i _ e => own_ge h.wy e
  have nL := own_neH h.wy h.hL (by decide)
  have nW := own_neH h.wy h.hW (by decide)
  have nO := own_neH h.wy h.hO (by decide)
  have nG := own_neH h.wy h.hG (by decide)
  have hW2 := k0.heap h.hW nW
  have k1 : Kept (· = W) w2 (w2.setCell ⟨W, 0, none⟩ v') := (Kept.refl _ _).set1 0 v'
  have kB2 : Kept (B ≤ ·) w (w2.setCell ⟨W, 0, none⟩ v') := kB.trans (k1.mono fun i _ e => by have := h.bl.1; omega)
  have vB : ∀ g, v'.ownBlock = some g → B ≤ g := fun g e => by
    rcases hob with e' | e'
    · exact own_ge h.wy (e'.symm.trans e)
    · rw [e', hsz] at e; injection e with e; omega
  refine ⟨⟨h.bl, k1.heap (k0.heap h.hL nL) (hp_ne h.hL h.hW (by decide)), ?_, k1.heap (k0.heap h.hO nO) (hp_ne h.hO h.hW (by decide)), k1.heap (k0.heap h.hG nG) (hp_ne h.hG h.hW (by decide)), tx_kept kB2 h.tx, ?_, ?_, h.oW, h.oc, h.ou.1, fun i s o h1 h2 => ?_⟩, kB2⟩
  · have := heap_set hW2 0 v'
    simpa using this
  · have h1 : NRow w2 B v' (ws ++ [k]) := by
      unfold NRow
      rw [List.length_append, List.map_append]
      exact own_base hv vB
    exact k1.own h1 fun g e e' => by subst e'; exact absurd e (own_neH h1 hW2 (by decide))
  · refine k1.own (k0.own h.ro fun g e e' => ?_) fun g e e' => by subst e'; exact h.oW e
    obtain ⟨cs, f, hh⟩ := own_type h.ro e
    exact own_neH h.wy hh (by decide) e'
  · obtain ⟨a1, a2⟩ := h.ou.2 i s o h1 h2
    have a3 : NRow w2 B s o := k0.own a1 fun g e e' => a2 g e e'
    refine ⟨k1.own a3 fun g e e' => by subst e'; exact absurd e (own_neH a3 hW2 (by decide)), fun g e e' => ?_⟩
    rcases hob with e2 | e2
    · exact a2 g e (e2.symm.trans e')
    · rw [e2, hsz] at e'
      injection e' with e'
      have := own_lt a1 e
      omega
/-- .. or one less. -/
theorem Gr.less {w B W L O G v af g c ws k vo vs outs} (h : Gr w B W L O G v af (.slice (some ⟨g, 0, none⟩) (ws.length + 1) c) (ws ++ [k]) vo vs outs) :
    Gr (w.setCell ⟨W, 0, none⟩ (.slice (some ⟨g, 0, none⟩) ws.length c)) B W L O G v af (.slice (some ⟨g, 0, none⟩) ws.length c) ws vo vs outs ∧ Kept (B ≤ ·) w (w.setCell ⟨W, 0, none⟩ (.slice (some ⟨g, 0, none⟩) ws.length c)) := by
  have k1 : Kept (· = W) w (w.setCell ⟨W, 0, none⟩ (.slice (some ⟨g, 0, none⟩) ws.length c)) := (Kept.refl _ _).set1 0 _
  have kB : Kept (B ≤ ·) w (w.setCell ⟨W, 0, none⟩ (.slice (some ⟨g, 0, none⟩) ws.length c)) := k1.mono fun i _ e => by have := h.bl.1; omega
  refine ⟨⟨h.bl, k1.heap h.hL (hp_ne h.hL h.hW (by decide)), ?_, k1.heap h.hO (hp_ne h.hO h.hW (by decide)), k1.heap h.hG (hp_ne h.hG h.hW (by decide)), tx_kept kB h.tx, ?_, ?_, h.oW, h.oc, h.ou.1, fun i s o h1 h2 => ?_⟩, kB⟩
  · have := heap_set h.hW 0 (.slice (some ⟨g, 0, none⟩) ws.length c)
    simpa using this
  · have h1 := h.wy
    unfold NRow at h1
    rw [List.length_append, List.map_append] at h1
    obtain ⟨g', c', e, _, h2⟩ := own_less h1
    simp only [Value.slice.injEq, Option.some.injEq, Addr.mk.injEq, and_true, true_and] at e
    obtain ⟨rfl, rfl⟩ := e
    exact k1.own h2 fun g e e' => by subst e'; exact absurd e (own_neH h2 h.hW (by decide))
  · exact k1.own h.ro fun g e e' => by subst e'; exact h.oW e
  · obtain ⟨a1, a2⟩ := h.ou.2 i s o h1 h2
    exact ⟨k1.own a1 fun g e e' => by subst e'; exact absurd e (own_neH a1 h.hW (by decide)), a2⟩
/-- A new order stands. -/
theorem Gr.out {w w1 w2 B W L O G v af vw ws vo vs outs} (h : Gr w B W L O G v af vw ws vo vs outs) (hB : B ≤ w.heap.size) (k1 : Kept (fun _ => False) w w1) {s v' : Value} (hs : NRow w1 w.heap.size s ws) (hoc : s.oneCell' = true) {a : Obj}
    (hv : w2.ownsRow 0 22 1 v' (vs.length + 1) (vs ++ [s])) (hg : (w1.alloc a).grownBy w2 vo.ownBlock) (hob : v'.ownBlock = vo.ownBlock ∨ v'.ownBlock = some (w1.alloc a).heap.size) :
    Gr (w2.setCell ⟨O, 0, none⟩ v') B W L O G v af vw ws v' (vs ++ [s]) (outs ++ [ws]) ∧ Kept (B ≤ ·) w (w2.setCell ⟨O, 0, none⟩ v') := by
  have hsz : (w1.alloc a).heap.size = w1.heap.size + 1 := by simp
  have k2 : Kept (fun g => vo.ownBlock = some g) w1 w2 := ((Kept.refl _ _).alloc a).grown hg fun k e => .inl e
  have k0 : Kept (fun g => vo.ownBlock = some g) w w2 := (k1.mono fun _ _ e => e.elim).trans k2
  have kB : Kept (B ≤ ·) w w2 := k0.mono fun i _ e => own_ge h.ro e
  have nL := own_neH h.ro h.hL (by decide)
  have nO := own_neH h.ro h.hO (by decide)
  have nG := own_neH h.ro h.hG (by decide)
  have hO2 := k0.heap h.hO nO
  have k3 : Kept (· = O) w2 (w2.setCell ⟨O, 0, none⟩ v') := (Kept.refl _ _).set1 0 v'
  have kB2 : Kept (B ≤ ·) w (w2.setCell ⟨O, 0, none⟩ v') := kB.trans (k3.mono fun i _ e => by have := h.bl.2.2.1; omega)
  have s1 := k1.size
  have vB : ∀ g, v'.ownBlock = some g → B ≤ g := fun g e => by
    rcases hob with e' | e'
    · exact own_ge h.ro (e'.symm.trans e)
    · rw [e', hsz] at e; injection e with e; omega
  have row : ∀ {b x o}, NRow w1 b x o → NRow (w2.setCell ⟨O, 0, none⟩ v') b x o := fun {b x o} hx => by
    have h2 : NRow w2 b x o := k2.own hx fun g e e' => by
      have hlt := own_lt h.ro e'
      obtain ⟨cs, f, hh⟩ := own_type h.ro e'
      exact own_neH hx (k1.heap hh not_false) (by decide) e
    exact k3.own h2 fun g e e' => by subst e'; exact absurd e (own_neH h2 hO2 (by decide))
  refine ⟨⟨h.bl, k3.heap (k0.heap h.hL nL) (hp_ne h.hL h.hO (by decide)), k3.heap (k0.heap h.hW h.oW) (hp_ne h.hW h.hO (by decide)), ?_, k3.heap (k0.heap h.hG nG) (hp_ne h.hG h.hO (by decide)), tx_kept kB2 h.tx, row (k1.own h.wy fun _ _ => id), ?_, ?_, ?_, ?_, ?_⟩, kB2⟩
  · have := heap_set hO2 0 v'
    simpa using this
  · have h1 : w2.ownsRow B 22 1 v' (vs ++ [s]).length (vs ++ [s]) := by
      rw [List.length_append]
      exact own_base hv vB
    exact k3.own h1 fun g e e' => by subst e'; exact absurd e (own_neH h1 hO2 (by decide))
  · rcases hob with e | e
    · rw [e]; exact h.oW
    · rw [e, hsz]
      intro e'
      injection e' with e'
      have := lt_heap h.hW
      omega
  · intro x hx
    rcases List.mem_append.1 hx with hx | hx
    · exact h.oc x hx
    · rw [List.mem_singleton.1 hx]; exact hoc
  · rw [List.length_append, List.length_append, h.ou.1]; rfl
  · intro i x o h1 h2
    by_cases hi : i < vs.length
    · rw [List.getElem?_append_left hi] at h1
      rw [List.getElem?_append_left (by have := h.ou.1; omega)] at h2
      obtain ⟨a1, a2⟩ := h.ou.2 i x o h1 h2
      exact ⟨row (k1.own a1 fun _ _ => id), a2⟩
    · rw [List.getElem?_append_right (by omega)] at h1
      rw [List.getElem?_append_right (by have := h.ou.1; omega)] at h2
      have e1 : i - vs.length = 0 := by
        have := (List.getElem?_eq_some_iff.1 h1).1
        simp at this; omega
      rw [e1] at h1
      rw [show i - outs.length = 0 by have := h.ou.1; omega] at h2
      simp at h1 h2
      subst h1 h2
      refine ⟨row (own_base hs fun g e => by have := own_ge hs e; omega), fun g e e' => ?_⟩
      have e1 := own_ge hs e
      have e2 := own_lt h.wy e'
      omega
end Go.Proofs.Ytghbnomiahiapaa
