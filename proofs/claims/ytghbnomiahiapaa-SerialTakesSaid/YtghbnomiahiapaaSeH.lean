/- serial: Take. -/
import Derived.Test.YtghbnomiahiapaaSeB
import Derived.Test.YtghbnomiahiapaaNums
namespace Go.Proofs.Ytghbnomiahiapaa
open Go.RowKit
attribute [local go_sem] Oper.semAt_some
def tCells (E : List Int) : List Value := E.flatMap fun e => [.slice none 0 0, .int .i64 e]
theorem tCells_len (E : List Int) : (tCells E).length = E.length * 2 := by
  induction E with
  | nil => rfl
  | cons a t ih => unfold tCells at *; rw [List.flatMap_cons, List.length_append, ih]; simp; omega
theorem tCells_app (A B : List Int) : tCells (A ++ B) = tCells A ++ tCells B := by unfold tCells; rw [List.flatMap_append]
theorem tCells_one (E : List Int) : ∀ u ∈ tCells E, u.oneCell' = true := by
  intro u hu
  unfold tCells at hu
  obtain ⟨e, -, he⟩ := List.mem_flatMap.1 hu
  simp only [List.mem_cons, List.not_mem_nil, or_false] at he
  rcases he with rfl | rfl <;> rfl
theorem tCells_at : ∀ (E : List Int) (j : Nat) (h : j < E.length), (tCells E)[j * 2]? = some (.slice none 0 0) ∧ (tCells E)[j * 2 + 1]? = some (.int .i64 E[j])
  | a :: t, 0, _ => ⟨rfl, rfl⟩
  | a :: t, j + 1, h => by
    obtain ⟨h1, h2⟩ := tCells_at t j (by simpa using h)
    have e : tCells (a :: t) = .slice none 0 0 :: .int .i64 a :: tCells t := rfl
    rw [e, show (j + 1) * 2 = j * 2 + 1 + 1 by omega]
    exact ⟨by simpa using h1, by simpa using h2⟩
/-- A row of transactions without entries. -/
def TRow (w : World) (B : Nat) (v : Value) (E : List Int) : Prop := w.ownsRow B 27 2 v E.length (tCells E)
theorem TRow.keptF {w w' B v E} (h : TRow w B v E) (k : Kept (fun _ => False) w w') : TRow w' B v E := k.own h fun _ _ => id
theorem TRow.slice {w B v E} (h : TRow w B v E) : ∃ A c, v = .slice A E.length c := by
  rcases h.2 with ⟨rfl, e⟩ | ⟨g, cap, cur, rfl, _⟩
  · exact ⟨none, 0, by rw [e]⟩
  · exact ⟨_, _, rfl⟩
theorem TRow.slice' {w B v E} (h : TRow w B v E) : ∃ A c l, v = .slice A l c ∧ Hid (l = E.length) := by
  obtain ⟨A, c, rfl⟩ := h.slice
  exact ⟨A, c, _, rfl, rfl⟩
theorem TRow.at {w B v E} (h : TRow w B v E) {j : Nat} (hj : j < E.length) : ∃ g c, v = .slice (some ⟨g, 0, none⟩) E.length c ∧ w.cell? ⟨g, j * 2, none⟩ = some (.slice none 0 0) ∧ w.cell? ⟨g, j * 2 + 1, none⟩ = some (.int .i64 E[j]) := by
  rcases id h.2 with ⟨rfl, e⟩ | ⟨g, cap, cur, rfl, _⟩
  · omega
  · obtain ⟨e1, e2⟩ := tCells_at E j hj
    exact ⟨g, cap, rfl, (World.ownsRow.cellAt h (j * 2) (by omega)).trans e1, (World.ownsRow.cellAt h (j * 2 + 1) (by omega)).trans e2⟩
theorem tx_info : (Try.prog.info? 27).map (fun i => (i.zero, i.size, i.bytes)) = some (some (.agg #[.slice none 0 0, .int .i64 0]), 2, 32) := by kernel_rfl
theorem app_tx {w : World} {ops : Array Oper} {rest : List Oper} {o : Oper} {a : Act} {Q : Exit → Act → World → Prop} (hgd : o.guard = none) (s x : Operand)
    (ho : o.op = .call { callee := .builtin .append, args := #[s, x], argTypes := #[24, 24] })
    {v : Value} {E : List Int} (hs : a.eval s = v) {Bv : Nat} (hown : TRow w Bv v E)
    (B : Nat) {A : Option Addr} {c : Nat} {e : Int} (hx : a.eval x = .slice A 1 c) (hr : Reads w B 2 A 1 [.slice none 0 0, .int .i64 e]) (hl : E.length ≤ 100000)
    (h : ∀ v' w', w'.ownsRow 0 27 2 v' (E.length + 1) (tCells E ++ tCells [e]) → w.grownBy w' v.ownBlock → (v'.ownBlock = v.ownBlock ∨ v'.ownBlock = some w.heap.size) → wpList Try.prog ops Q rest (a.put o.dst v') w') : wpList Try.prog ops Q (o :: rest) a w := by
  obtain ⟨i, hi, h1', h2, h3⟩ := info_parts tx_info
  exact wpList_append_any w hgd s x 24 ho 0 27 i (.agg #[.slice none 0 0, .int .i64 0]) 2 32 Try.underlying24 hi h1' h2 h3 rfl (by decide) v E.length (tCells E) hs (own_base hown fun _ _ => Nat.zero_le _) B A 1 c (tCells [e]) hx hr (tCells_one [e]) (by unfold maxLen; omega) (by omega) (Nat.zero_le _) h
theorem tx_step {w2 W' w' : World} {B : Nat} {v v' : Value} {E : List Int} {e : Int} (h : TRow w2 B v E) (k0 : Kept (fun _ => False) w2 W') (hB : B ≤ w2.heap.size) (h1 : w'.ownsRow 0 27 2 v' (E.length + 1) (tCells E ++ tCells [e])) (h2 : W'.grownBy w' v.ownBlock)
    (h3 : v'.ownBlock = v.ownBlock ∨ v'.ownBlock = some W'.heap.size) : TRow w' B v' (E ++ [e]) ∧ Kept (B ≤ ·) w2 w' := by
  have hk := k0.size
  refine ⟨?_, (k0.mono fun _ _ => False.elim).trans ⟨h2.os, h2.tape, h2.output, h2.size, fun k hk' hne => h2.block k hk' fun e => hne (own_ge h e.symm)⟩⟩
  show w'.ownsRow _ _ _ _ _ _
  rw [List.length_append, tCells_app]
  refine own_base h1 fun k hk' => ?_
  rcases h3 with e | e
  · exact own_ge h (e ▸ hk')
  · rw [hk'] at e
    injection e with e
    omega
theorem reads_tx (w : World) (e : Int) (t : TypeId) : Reads (w.alloc (.cells #[.slice none 0 0, .int .i64 e] t)) (w.heap.size + 1) 2 (some ⟨w.heap.size, 0, none⟩) 1 [.slice none 0 0, .int .i64 e] :=
  ⟨rfl, fun _ => ⟨_, rfl, Nat.lt_succ_self _, fun j x hj => by
    rw [Addr.add_lit]
    have hh := heap_new w (.cells #[.slice none 0 0, .int .i64 e] t)
    rw [show 0 + j = j by omega, cell_heap hh]
    rw [← hj]
    rcases j with _ | _ | j <;> rfl⟩⟩
/-- What an order takes. -/
def takeF (af : List Int) (M : Nat → Int) (k : Nat) : List Int := (List.range k).filterMap fun i => if 0 ≤ M i ∧ M i < af.length then some (af.getD (M i).toNat 0) else none
theorem takeF_in {af : List Int} {M : Nat → Int} {k : Nat} (h : 0 ≤ M k ∧ M k < af.length) : takeF af M (k + 1) = takeF af M k ++ [af.getD (M k).toNat 0] := by
  unfold takeF; rw [List.range_succ, List.filterMap_append]; simp [h]
theorem takeF_out {af : List Int} {M : Nat → Int} {k : Nat} (h : ¬ (0 ≤ M k ∧ M k < af.length)) : takeF af M (k + 1) = takeF af M k := by
  unfold takeF; rw [List.range_succ, List.filterMap_append]
  simp only [List.filterMap_cons, List.filterMap_nil, if_neg h, List.append_nil]
theorem takeF_len (af : List Int) (M : Nat → Int) (k : Nat) : (takeF af M k).length ≤ k := by
  have := List.length_filterMap_le (fun i => if 0 ≤ M i ∧ M i < af.length then some (af.getD (M i).toNat 0) else none) (List.range k)
  simpa [takeF] using this
theorem takeF_pre (af : List Int) (M : Nat → Int) {k n : Nat} (h : k ≤ n) : ∃ r, takeF af M n = takeF af M k ++ r := by
  induction h with
  | refl => exact ⟨[], by simp⟩
  | step h ih =>
    rename_i m
    obtain ⟨r, hr⟩ := ih
    by_cases hm : 0 ≤ M m ∧ M m < af.length
    · exact ⟨r ++ [af.getD (M m).toNat 0], by rw [takeF_in hm, hr, List.append_assoc]⟩
    · exact ⟨r, by rw [takeF_out hm, hr]⟩
set_option maxHeartbeats 2000000 in
theorem Take_calls {w B v af A n c b off M} (hv : TRow w B v af) (hN : Nums w A n b off M) (ha : af.length ≤ 1000) (hn : n ≤ 1000) :
    Calls Try.prog 5 #[v, .slice A n c] w fun e w' => ∃ v', e = .returned v' ∧ TRow w' w.heap.size v' (takeF af M n) ∧ Kept (fun _ => False) w w' := by
  have HV := Lib.hid hv; have HN := Lib.hid hN
  obtain ⟨Av, cv, rfl⟩ := hv.slice
  obtain ⟨m, hm⟩ : ∃ m, m = af.length := ⟨_, rfl⟩
  have HM := Lib.hid hm
  have hm1 : m ≤ 1000 := by omega
  rw [← hm]
  clear hv hN hm ha
  go_enter Try.func5, Try.ntmps5
  go_wp2_with fail
  go_loopw [5, 10] (fun o i wr => ∃ (k : Nat) (Ao : Option Addr) (lo co : Nat), k ≤ n ∧ i = .int .i64 k ∧ o = .slice Ao lo co ∧ Hid (lo = (takeF af M k).length) ∧ Hid (TRow wr w.heap.size (.slice Ao lo co) (takeF af M k)) ∧ Hid (Kept (fun _ => False) w wr)) (fun _ i _ => n - (RowKit.intOf i).toNat)
  case atStart => exact ⟨0, none, 0, 0, Nat.zero_le _, rfl, rfl, rfl, World.ownsRow_nil _ _ _ _, Kept.refl _ _⟩
  case round =>
    obtain ⟨k, Ao, lo, co, hk, rfl, rfl, HL, HT, HK⟩ := hrel
    by_cases hkn : k < n
    · have x0 := (HN.out.kept HK.out).cell k hkn
      have xA := HN.out.at_ (by omega)
      subst xA
      have xb := (HN.out.kept HK.out).lt (by omega)
      obtain ⟨z, hz⟩ : ∃ z, z = M k := ⟨_, rfl⟩
      rw [← hz] at x0
      have HZ := Lib.hid hz
      clear hz
      have hlo : lo ≤ 1000 := by have := takeF_len af M k; have := HL.out; omega
      by_cases h1 : 0 ≤ z ∧ z < m
      · obtain ⟨h1, h2⟩ := h1
        obtain ⟨g, c', e, y0, y1⟩ := (HV.out.keptF HK.out).at (j := z.toNat) (by have := HM.out; omega)
        simp only [Value.slice.injEq] at e
        obtain ⟨rfl, -, rfl⟩ := e
        obtain ⟨zn, rfl⟩ := Int.eq_ofNat_of_zero_le h1
        simp only [Int.toNat_natCast] at y0 y1
        obtain ⟨a, ha⟩ : ∃ a, a = af[zn]'(by have := HM.out; omega) := ⟨_, rfl⟩
        rw [← ha] at y1
        have HA : Hid (takeF af M (k + 1) = takeF af M k ++ [a]) := by
          show _ = _
          have h3 : 0 ≤ M k ∧ M k < af.length := by have := HZ.out; have := HM.out; omega
          have := takeF_in h3
          rw [← HZ.out] at this
          rw [this, ha]
          simp [List.getD, show zn < af.length by have := HM.out; omega]
        clear ha
        have OWN : Hid (TRow (wr.alloc (.cells #[.slice none 0 0, .int .i64 a] 27)) w.heap.size (.slice Ao lo co) (takeF af M k)) := HT.out.keptF ((Kept.refl _ _).alloc _)
        have hzn : zn < m := by omega
        go_wp2_with (at_builtin; go_loud (refine app_tx (v := .slice Ao lo co) rfl (.tmp 22) (.tmp 27) rfl rfl OWN.out _ rfl (reads_tx wr a _) (by have := HL.out; omega) ?_; intro v' w6 hv' hg' hob'; have ST := Lib.hid (tx_step HT.out ((Kept.refl _ _).alloc _) HK.out.size hv' hg' hob'); obtain ⟨A6, c6, l6, e6, HL6⟩ := ST.out.1.slice'; clear hv' hg' hob'; subst e6))
        go_roundw
        case rel => exact ⟨k + 1, A6, l6, c6, by omega, by go_num, rfl, by rw [HA.out]; exact HL6, HA.out ▸ ST.out.1, HK.out.then ST.out.2 fun i hi e => by omega⟩
        case measure => simp [RowKit.intOf]; omega
      · have h2 : ¬ 0 ≤ z ∨ (0 ≤ z ∧ ¬ z < m) := by omega
        have HA : Hid (takeF af M (k + 1) = takeF af M k) := takeF_out (by have := HZ.out; have := HM.out; omega)
        rcases h2 with h2 | ⟨h2, h3⟩
        all_goals
          go_wp2_with fail
          go_roundw
          case rel => exact ⟨k + 1, Ao, lo, co, by omega, by go_num, rfl, by rw [HA.out]; exact HL.out, HA.out ▸ HT.out, HK.out⟩
          case measure => simp [RowKit.intOf]; omega
    · obtain rfl : k = n := by omega
      go_wp2_with fail
      go_ret
      exact ⟨_, rfl, HT.out, HK.out⟩
end Go.Proofs.Ytghbnomiahiapaa
