/- A region that draws its order: operations that only add, whatever the order. -/
import Derived.Test.YtfgjehecjgebdaaGreatMg04
import Derived.OrdersHeld
import Derived.RegionTactic
import Derived.Deep.RegionHeld3
namespace Go.Proofs.YtfgjehecjgebdaaGreat
section
variable {P : Program} {ops : Array Oper} {Q : Exit → Act → World → Prop} {md : Region.Mode} {S : World → Prop}

/-- What lays a frame's list open. -/
theorem lit1 {α : Type _} {xs : List α} {i : Nat} (h : i < xs.toArray.size) : xs.toArray[i] = xs[i]'(by simpa using h) := List.getElem_toArray h
theorem lit2 {α : Type _} {a : α} {r : List α} {i : Nat} (h : i + 1 < (a :: r).length) : (a :: r)[i + 1] = r[i]'(by simpa using h) := rfl
theorem lit3 {α : Type _} {a : α} {r : List α} (h : 0 < (a :: r).length) : (a :: r)[0] = a := rfl
theorem lit4 {α : Type _} (l : List α) (i : Nat) (a : α) : l.toArray.setIfInBounds i a = (l.set i a).toArray := by simp
theorem lit5 {α : Type _} {a : α} {r : List α} {i : Nat} {b : α} : (a :: r).set (i + 1) b = a :: r.set i b := rfl
theorem lit6 {α : Type _} {a : α} {r : List α} {b : α} : (a :: r).set 0 b = b :: r := rfl
theorem lits : (∀ {α : Type} {xs : List α} {i : Nat} (h : i < xs.toArray.size), xs.toArray[i] = xs[i]'(by simpa using h)) ∧ (∀ {α : Type} {a : α} {r : List α} {i : Nat} (h : i + 1 < (a :: r).length), (a :: r)[i + 1] = r[i]'(by simpa using h)) ∧ (∀ {α : Type} {a : α} {r : List α} (h : 0 < (a :: r).length), (a :: r)[0] = a) ∧ (∀ {α : Type} (l : List α) (i : Nat) (a : α), l.toArray.setIfInBounds i a = (l.set i a).toArray) ∧ (∀ {α : Type} {a : α} {r : List α} {i : Nat} {b : α}, (a :: r).set (i + 1) b = a :: r.set i b) ∧ (∀ {α : Type} {a : α} {r : List α} {b : α}, (a :: r).set 0 b = b :: r) ∧ (∀ (a : Act) (d : Nat) (v : Value), a.put (some d) v = { a with tmps := a.tmps.setIfInBounds d v }) ∧ ∀ (a : Act) (v : Value), a.put none v = a :=
  ⟨lit1, lit2, lit3, lit4, lit5, lit6, fun _ _ _ => rfl, fun _ _ => rfl⟩
def updV (V : Nat → Value) (t : Nat) (v : Value) : Nat → Value := fun i => if i = t then v else V i
/-- The slots of J hold V. -/
def puts (a : Act) : List (Nat × Nat) → (Nat → Value) → Act
  | [], _ => a
  | p :: J, V => (puts a J V).put (some p.2) (V p.2)
def bindsOf (md : Region.Mode) (ops : Array Oper) (i : Nat) : List Nat :=
  match ops[i]? with
  | some o => (o.after.toList.filter fun e => Region.binds md e).map (·.on)
  | none => []
/-- Those of J that i waits for. -/
def clJ (md : Region.Mode) (ops : Array Oper) (J : List (Nat × Nat)) : Nat → Nat → List Nat
  | 0, _ => []
  | k + 1, i => ((bindsOf md ops i).filter fun e => J.any fun q => q.1 == e) ++ ((bindsOf md ops i).filter fun e => J.any fun q => q.1 == e).flatMap (clJ md ops J k)
/-- Nobody who may come up beside i touches what it touches. -/
def freeJ (md : Region.Mode) (ops : Array Oper) (listed : Array Bool) (i : Nat) : Bool :=
  match ops[i]? with
  | none => false
  | some oi => (List.range ops.size).all fun j => j == i || listed.getD j true || (bindsOf md ops i).contains j || match ops[j]? with
      | some oj => oj.after.any (fun e => Region.binds md e && e.on == i) || oi.apart ops oj
      | none => true
theorem freeJ_spec {i : Nat} {oi : Oper} {listed : Array Bool} (hi : ops[i]? = some oi) (h : freeJ md ops listed i = true) (j : Nat) (oj : Oper)
    (hj : ops[j]? = some oj) (hne : j ≠ i) (hun : listed.getD j true = false) (hd : j ∉ bindsOf md ops i) (hno : ∀ e ∈ oj.after, Region.binds md e = true → e.on ≠ i) :
    oi.apart ops oj = true := by
  simp only [freeJ, hi, List.all_eq_true, List.mem_range] at h
  have h1 := h j (Array.getElem?_eq_some_iff.1 hj).1
  have h2 : (bindsOf md ops i).contains j = false := by
    cases hc : (bindsOf md ops i).contains j
    · rfl
    · exact absurd (by simpa using hc) hd
  simp only [hj, Bool.or_eq_true, beq_iff_eq, hne, false_or, hun, h2, Bool.false_eq_true] at h1
  rcases h1 with h1 | h1
  · obtain ⟨e, he, hb⟩ := Array.any_eq_true'.1 h1
    simp only [Bool.and_eq_true, beq_iff_eq] at hb
    exact absurd hb.2 (hno e he hb.1)
  · exact h1
def growB (md : Region.Mode) (ops : Array Oper) (listed : Array Bool) (J : List (Nat × Nat)) (pure : Nat → Bool) : Bool :=
  (J.all fun p => (listed.getD p.1 true == false) && (ops[p.1]?).isSome && (bindsOf md ops p.1).all fun e => listed.getD e false || J.any fun q => q.1 == e && decide (e < p.1)) &&
  decide ((J.map (·.2)).Nodup) && decide ((J.map (·.1)).Nodup) &&
  ((List.range ops.size).all fun i => listed.getD i true || J.any (fun q => q.1 == i) || (bindsOf md ops i).any (fun e => !listed.getD e false && !J.any fun q => q.1 == e) || J.all fun q => pure q.1 || (clJ md ops J J.length i).contains q.1) &&
  Region.noSelect ops && J.all fun p => !pure p.1 || (freeJ md ops listed p.1 && ((ops[p.1]?).map (·.dst) == some (some p.2)))

theorem clJ_sound {l : Array Bool} {J : List (Nat × Nat)} (hdc : ∀ q ∈ J, l.getD q.1 true = true → ∀ p ∈ J, p.1 ∈ bindsOf md ops q.1 → l.getD p.1 true = true) :
    ∀ (k i : Nat), (∀ p ∈ J, p.1 ∈ bindsOf md ops i → l.getD p.1 true = true) → ∀ x ∈ clJ md ops J k i, l.getD x true = true
  | 0, _, _, _, hx => by cases hx
  | k + 1, i, hi, x, hx => by
    have hd : ∀ e ∈ (bindsOf md ops i).filter (fun e => J.any fun q => q.1 == e), ∃ q ∈ J, q.1 = e ∧ e ∈ bindsOf md ops i := fun e he => by
      obtain ⟨h1, h2⟩ := List.mem_filter.1 he
      obtain ⟨q, hq, hqe⟩ := List.any_eq_true.1 h2
      exact ⟨q, hq, by simpa using hqe, h1⟩
    rw [clJ, List.mem_append] at hx
    rcases hx with hx | hx
    · obtain ⟨q, hq, rfl, hb⟩ := hd x hx
      exact hi q hq hb
    · obtain ⟨e, he, hx⟩ := List.mem_flatMap.1 hx
      obtain ⟨q, hq, rfl, hb⟩ := hd e he
      exact clJ_sound hdc k q.1 (hdc q hq (hi q hq hb)) x hx
theorem put_self (a : Act) (t : Nat) : a.put (some t) (a.tmps.getD t undef) = a := by
  obtain ⟨t1, t2⟩ := a
  unfold Act.put
  dsimp only
  congr 1
  apply Array.ext_getElem?
  intro i
  rw [Array.getElem?_setIfInBounds]
  split
  · next h => subst h; split
              · next h => simp [h]
              · next h => rw [Array.getElem?_eq_none (by omega)]
  · rfl
theorem puts_self (a : Act) : ∀ J : List (Nat × Nat), puts a J (fun t => a.tmps.getD t undef) = a
  | [] => rfl
  | p :: J => by rw [puts, puts_self a J]; exact put_self a p.2
theorem put_put (a : Act) (t : Nat) (u v : Value) : (a.put (some t) u).put (some t) v = a.put (some t) v := by
  unfold Act.put
  dsimp only
  congr 1
  rw [Array.setIfInBounds_setIfInBounds]
theorem puts_other (a : Act) : ∀ (J : List (Nat × Nat)) (V : Nat → Value) (t : Nat) (v : Value), t ∉ J.map (·.2) → puts a J (updV V t v) = puts a J V
  | [], _, _, _, _ => rfl
  | p :: J, V, t, v, h => by
    simp only [List.map_cons, List.mem_cons, not_or] at h
    rw [puts, puts, puts_other a J V t v h.2]
    congr 1
    unfold updV
    rw [if_neg (Ne.symm h.1)]
theorem puts_put (a : Act) : ∀ (J : List (Nat × Nat)) (V : Nat → Value) (t : Nat) (v : Value), (J.map (·.2)).Nodup → t ∈ J.map (·.2) → (puts a J V).put (some t) v = puts a J (updV V t v)
  | [], _, _, _, _, h => by cases h
  | p :: J, V, t, v, hn, h => by
    simp only [List.map_cons, List.nodup_cons] at hn
    by_cases ht : t = p.2
    · subst ht
      rw [puts, puts, put_put, puts_other a J V _ v hn.1]
      congr 1
      unfold updV
      rw [if_pos rfl]
    · have h' : t ∈ J.map (·.2) := by
        rcases List.mem_cons.1 h with h | h
        · exact absurd h ht
        · exact h
      rw [puts, puts, Act.put_comm _ _ _ (fun d hd hd' => by injection hd with hd; injection hd' with hd'; omega), puts_put a J V t v hn.2 h']
      congr 1
      unfold updV
      rw [if_neg (Ne.symm ht)]

theorem getD_ft {l : Array Bool} {e : Nat} (h : e < l.size) (d d' : Bool) : l.getD e d = l.getD e d' := by simp [h]

theorem grow_aux {G : World → World → Prop} (hrefl : ∀ w, G w w) {pure : Nat → Bool} (htrans : ∀ {a b c}, G a b → G b c → G a c) {J : List (Nat × Nat)} {R : Nat → (Nat → Value) → World → Prop} {n : Nat} {listed : Array Bool} {a : Act} {w : World}
    (hS : ∀ w1, G w w1 → S w1) (hstab : ∀ p ∈ J, ∀ V V' w1 w2, R p.1 V w1 → V' p.2 = V p.2 → (∀ q ∈ J, (bindsOf md ops p.1).contains q.1 = true → V' q.2 = V q.2) → G w1 w2 → R p.1 V' w2)
    (hc1 : ∀ p ∈ J, listed.getD p.1 true = false ∧ (∃ o, ops[p.1]? = some o) ∧ ∀ e ∈ bindsOf md ops p.1, listed.getD e false = true ∨ ∃ q ∈ J, q.1 = e ∧ e < p.1)
    (hc2 : (J.map (·.2)).Nodup) (hc3 : (J.map (·.1)).Nodup)
    (hc4 : ∀ i, i < ops.size → listed.getD i true = true ∨ (∃ q ∈ J, q.1 = i) ∨ (∃ e ∈ bindsOf md ops i, listed.getD e false = false ∧ ∀ q ∈ J, q.1 ≠ e) ∨ ∀ q ∈ J, pure q.1 = true ∨ q.1 ∈ clJ md ops J J.length i)
    (hc5 : Region.noSelect ops = true) (hc6 : ∀ p ∈ J, pure p.1 = true → freeJ md ops listed p.1 = true ∧ (ops[p.1]?).map (·.dst) = some (some p.2))
    (hQ : ∀ p ∈ J, pure p.1 = true → ∀ v c a w, Q (.panic c) (a.put (some p.2) v) w → Q (.panic c) a w)
    (hpure : ∀ p ∈ J, pure p.1 = true → ∀ V w1, G w w1 → (∀ q ∈ J, q.1 ∈ bindsOf md ops p.1 → R q.1 V w1) → ∃ v, (∀ o, ops[p.1]? = some o → YieldsIf P ops S o v (puts a J V)) ∧ R p.1 (updV V p.2 v) w1)
    (hstep : ∀ p ∈ J, pure p.1 = false → ∀ V w1, G w w1 → (∀ q ∈ J, q.1 ∈ bindsOf md ops p.1 → R q.1 V w1) → wpOp P ops Q p.1 (fun a' w' => ∃ v, a' = (puts a J V).put (some p.2) v ∧ R p.1 (updV V p.2 v) w' ∧ G w1 w') (puts a J V) w1)
    (hend : ∀ V w1 l, G w w1 → (∀ q ∈ J, R q.1 V w1) → l = J.foldl (fun l q => l.setIfInBounds q.1 true) listed → wpAnyH P md ops Q S n l (puts a J V) w1) :
    ∀ (k : Nat) (l : Array Bool) (V : Nat → Value) (w1 : World), G w w1 → l.size = listed.size → (∀ i, (∀ q ∈ J, q.1 ≠ i) → l[i]? = listed[i]?) → (∀ q ∈ J, l.getD q.1 true = true → R q.1 V w1) → (∀ q ∈ J, l.getD q.1 true = true → ∀ p ∈ J, p.1 ∈ bindsOf md ops q.1 → l.getD p.1 true = true) →
      (J.filter fun q => !l.getD q.1 true).length = k → wpAnyH P md ops Q S (k + n) l (puts a J V) w1 := by
  have hlt : ∀ p ∈ J, p.1 < listed.size := fun p hp => by
    have := (hc1 p hp).1
    rcases Nat.lt_or_ge p.1 listed.size with h | h
    · exact h
    · simp [Array.getElem?_eq_none h] at this
  intro k
  induction k with
  | zero =>
    intro l V w1 hG hs ho hR hdc hk
    have hall : ∀ q ∈ J, l.getD q.1 true = true := fun q hq => by
      have := List.filter_eq_nil_iff.1 (List.length_eq_zero_iff.1 hk) q hq
      simpa using this
    have hfold : ∀ (K : List (Nat × Nat)) (m : Array Bool) (i : Nat), (K.foldl (fun l q => l.setIfInBounds q.1 true) m)[i]? = if (∃ q ∈ K, q.1 = i) ∧ i < m.size then some true else m[i]? := by
      intro K
      induction K with
      | nil => intro m i; simp
      | cons q K ih =>
        intro m i
        rw [List.foldl_cons, ih]
        by_cases h1 : (∃ q ∈ K, q.1 = i) ∧ i < m.size
        · rw [if_pos ⟨h1.1, by simpa using h1.2⟩, if_pos ⟨by obtain ⟨⟨x, hx, e⟩, _⟩ := h1; exact ⟨x, by simp [hx], e⟩, h1.2⟩]
        · rw [if_neg (by simpa using h1), Array.getElem?_setIfInBounds]
          by_cases h2 : q.1 = i
          · subst h2
            by_cases h3 : q.1 < m.size
            · rw [if_pos rfl, if_pos h3, if_pos ⟨⟨q, by simp, rfl⟩, h3⟩]
            · rw [if_pos rfl, if_neg h3, if_neg (fun h => h3 h.2), Array.getElem?_eq_none (by omega)]
          · rw [if_neg h2, if_neg]
            rintro ⟨⟨x, hx, e⟩, h4⟩
            rcases List.mem_cons.1 hx with rfl | hx
            · exact h2 e
            · exact h1 ⟨⟨x, hx, e⟩, h4⟩
    have hl : l = J.foldl (fun l q => l.setIfInBounds q.1 true) listed := by
      apply Array.ext_getElem?
      intro i
      rw [hfold]
      by_cases h : ∃ q ∈ J, q.1 = i
      · obtain ⟨q, hq, rfl⟩ := h
        have h1 := hlt q hq
        rw [if_pos ⟨⟨q, hq, rfl⟩, h1⟩]
        have h2 := hall q hq
        have h3 : q.1 < l.size := by omega
        rw [Array.getElem?_eq_getElem h3]
        simpa [h3] using h2
      · rw [if_neg (fun h' => h h'.1)]
        exact ho i fun q hq e => h ⟨q, hq, e⟩
    rw [Nat.zero_add]
    exact hend V w1 l hG (fun q hq => hR q hq (hall q hq)) hl
  | succ k ih =>
    intro l V w1 hG hs ho hR hdc hk
    have hsame : ∀ e d, (∀ q ∈ J, q.1 ≠ e) → l.getD e d = listed.getD e d := fun e d h => by
      rw [Array.getD_eq_getD_getElem?, Array.getD_eq_getD_getElem?, ho e h]
    have hex : ∃ p ∈ J, l.getD p.1 true = false := by
      have : 0 < (J.filter fun q => !l.getD q.1 true).length := by omega
      obtain ⟨p, hp⟩ := List.exists_mem_of_length_pos this
      rw [List.mem_filter] at hp
      exact ⟨p, hp.1, by simpa using hp.2⟩
    have hmin : ∀ m : Nat, (∃ p ∈ J, p.1 ≤ m ∧ l.getD p.1 true = false) → ∃ p ∈ J, l.getD p.1 true = false ∧ ∀ q ∈ J, q.1 < p.1 → l.getD q.1 true = true := by
      intro m
      induction m using Nat.strongRecOn with
      | ind m ihm =>
        rintro ⟨p, hp, hpm, hpf⟩
        by_cases h : ∀ q ∈ J, q.1 < p.1 → l.getD q.1 true = true
        · exact ⟨p, hp, hpf, h⟩
        · have : ∃ q ∈ J, q.1 < p.1 ∧ l.getD q.1 true = false := by
            refine Classical.byContradiction fun hn => h fun q hq hlt => ?_
            cases hh : l.getD q.1 true
            · exact absurd ⟨q, hq, hlt, hh⟩ hn
            · rfl
          obtain ⟨q, hq, hqp, hqf⟩ := this
          exact ihm q.1 (by omega) ⟨q, hq, Nat.le_refl _, hqf⟩
    have hfirst : ∀ p ∈ J, l.getD p.1 true = false → (∀ q ∈ J, q.1 < p.1 → l.getD q.1 true = true) → p.1 ∈ Region.ready md ops l := by
      intro p hp hf hbelow
      obtain ⟨_, ⟨o, hpo⟩, hdep⟩ := hc1 p hp
      refine mem_ready.2 ⟨hf, o, hpo, fun e he hb => ?_⟩
      have hin : e.on ∈ bindsOf md ops p.1 := by
        unfold bindsOf
        rw [hpo]
        exact List.mem_map.2 ⟨e, List.mem_filter.2 ⟨by simpa using he, hb⟩, rfl⟩
      rcases hdep e.on hin with h | ⟨q, hq, h1, h2⟩
      · by_cases hj : ∃ q ∈ J, q.1 = e.on
        · obtain ⟨q, hq, h1⟩ := hj
          have := (hc1 q hq).1
          rw [h1, getD_ft (by have := hlt q hq; omega) true false] at this
          rw [this] at h; cases h
        · rw [hsame e.on false fun q hq h1 => hj ⟨q, hq, h1⟩]; exact h
      · have := hbelow q hq (by omega)
        rw [h1, getD_ft (by have := hlt q hq; omega) true false] at this
        exact this
    have hready : Region.ready md ops l ≠ [] := by
      obtain ⟨p0, hp0, hf0⟩ := hex
      obtain ⟨p, hp, hf, hbelow⟩ := hmin p0.1 ⟨p0, hp0, Nat.le_refl _, hf0⟩
      intro hnil
      have := hfirst p hp hf hbelow
      rw [hnil] at this; cases this
    have hbinG : ∀ i ∈ Region.ready md ops l, ∀ e ∈ bindsOf md ops i, l.getD e false = true := fun i hi e he => by
      obtain ⟨hun, o, hio, hdep⟩ := mem_ready.1 hi
      unfold bindsOf at he
      rw [hio] at he
      obtain ⟨x, hx, rfl⟩ := List.mem_map.1 he
      obtain ⟨hx1, hx2⟩ := List.mem_filter.1 hx
      exact hdep x (by simpa using hx1) hx2
    have hinj2 : ∀ x ∈ J, ∀ y ∈ J, x.2 = y.2 → x = y := by
      have hinj : ∀ (K : List (Nat × Nat)), (K.map (·.2)).Nodup → ∀ x ∈ K, ∀ y ∈ K, x.2 = y.2 → x = y := by
        intro K
        induction K with
        | nil => intro _ x hx; cases hx
        | cons z K ihK =>
          intro hn x hx y hy e
          simp only [List.map_cons, List.nodup_cons] at hn
          rcases List.mem_cons.1 hx with rfl | hx' <;> rcases List.mem_cons.1 hy with rfl | hy'
          · rfl
          · exact absurd (List.mem_map.2 ⟨y, hy', e.symm⟩) hn.1
          · exact absurd (List.mem_map.2 ⟨x, hx', e⟩) hn.1
          · exact ihK hn.2 x hx' y hy' e
      exact hinj J hc2
    have next : ∀ p ∈ J, p.1 ∈ Region.ready md ops l → ∀ v w', G w1 w' → R p.1 (updV V p.2 v) w' → S w' ∧ wpAnyH P md ops Q S (k + n) (l.setIfInBounds p.1 true) (puts a J (updV V p.2 v)) w' := by
      intro p hp hi v w' hG1 hRp
      have hun := (mem_ready.1 hi).1
      have hbin := hbinG p.1 hi
      have hps : p.1 < l.size := by rw [hs]; exact hlt p hp
      refine ⟨hS _ (htrans hG hG1), ih (l.setIfInBounds p.1 true) (updV V p.2 v) w' (htrans hG hG1) (by simpa using hs) (fun i h => ?_) (fun q hq hl => ?_) (fun q hq hl x hx hxb => ?_) ?_⟩
      · rw [Array.getElem?_setIfInBounds_ne (h p hp)]
        exact ho i h
      · by_cases hqp : q.1 = p.1
        · have hq2 : q = p := by
            have hinj : ∀ (K : List (Nat × Nat)), (K.map (·.1)).Nodup → ∀ x ∈ K, ∀ y ∈ K, x.1 = y.1 → x = y := by
              intro K
              induction K with
              | nil => intro _ x hx; cases hx
              | cons z K ihK =>
                intro hn x hx y hy e
                simp only [List.map_cons, List.nodup_cons] at hn
                rcases List.mem_cons.1 hx with rfl | hx' <;> rcases List.mem_cons.1 hy with rfl | hy'
                · rfl
                · exact absurd (List.mem_map.2 ⟨y, hy', e.symm⟩) hn.1
                · exact absurd (List.mem_map.2 ⟨x, hx', e⟩) hn.1
                · exact ihK hn.2 x hx' y hy' e
            exact hinj J hc3 q hq p hp hqp
          subst hq2
          exact hRp
        · have hl' : l.getD q.1 true = true := by
            rw [Array.getD_eq_getD_getElem?, Array.getElem?_setIfInBounds_ne (Ne.symm hqp), ← Array.getD_eq_getD_getElem?] at hl
            exact hl
          have hsl : q.2 ≠ p.2 := by
            intro e
            exact hqp (by rw [hinj2 q hq p hp e])
          refine hstab q hq V _ _ _ (hR q hq hl') (by unfold updV; rw [if_neg hsl]) (fun x hx hxb => ?_) hG1
          have hxl := hdc q hq hl' x hx (by simpa using hxb)
          have hxp : x ≠ p := fun e => by rw [e, hun] at hxl; cases hxl
          unfold updV
          rw [if_neg fun e => hxp (hinj2 x hx p hp e)]
      · by_cases hxp : x.1 = p.1
        · rw [hxp, Array.getD_eq_getD_getElem?, Array.getElem?_setIfInBounds, if_pos rfl, if_pos hps]; rfl
        · rw [Array.getD_eq_getD_getElem?, Array.getElem?_setIfInBounds_ne (Ne.symm hxp), ← Array.getD_eq_getD_getElem?]
          by_cases hqp : q.1 = p.1
          · rw [hqp] at hxb
            have := hbin x.1 hxb
            rw [getD_ft (by have := hlt x hx; omega) true false]
            exact this
          · rw [Array.getD_eq_getD_getElem?, Array.getElem?_setIfInBounds_ne (Ne.symm hqp), ← Array.getD_eq_getD_getElem?] at hl
            exact hdc q hq hl x hx hxb
      · have hcount : ∀ (K : List (Nat × Nat)), (K.map (·.1)).Nodup → p ∈ K → (K.filter fun q => !l.getD q.1 true).length = (K.filter fun q => !(l.setIfInBounds p.1 true).getD q.1 true).length + 1 := by
          have hget : ∀ q : Nat × Nat, q.1 ≠ p.1 → (l.setIfInBounds p.1 true).getD q.1 true = l.getD q.1 true := fun q h => by
            rw [Array.getD_eq_getD_getElem?, Array.getElem?_setIfInBounds_ne (Ne.symm h), ← Array.getD_eq_getD_getElem?]
          have hself : (l.setIfInBounds p.1 true).getD p.1 true = true := by
            rw [Array.getD_eq_getD_getElem?, Array.getElem?_setIfInBounds, if_pos rfl, if_pos hps]; rfl
          intro K
          induction K with
          | nil => intro _ h; cases h
          | cons z K ihK =>
            intro hn hpz
            simp only [List.map_cons, List.nodup_cons] at hn
            by_cases hz : z = p
            · subst hz
              have hrest : (K.filter fun q => !(l.setIfInBounds z.1 true).getD q.1 true) = K.filter fun q => !l.getD q.1 true := by
                apply List.filter_congr
                intro q hq
                rw [hget q fun e => hn.1 (List.mem_map.2 ⟨q, hq, e⟩)]
              rw [List.filter_cons, List.filter_cons, hself, hun, hrest]
              rfl
            · have hpK : p ∈ K := by
                rcases List.mem_cons.1 hpz with h | h
                · exact absurd h.symm hz
                · exact h
              have hne : z.1 ≠ p.1 := fun e => hn.1 (List.mem_map.2 ⟨p, hpK, e.symm⟩)
              rw [List.filter_cons, List.filter_cons, hget z hne]
              have hK := ihK hn.2 hpK
              cases hzz : l.getD z.1 true
              · simp only [Bool.not_false, if_true, List.length_cons, hK]
              · simp only [Bool.not_true, Bool.false_eq_true, if_false, hK]
        have := hcount J hc3 hp
        omega
    have hdeps : ∀ p ∈ J, p.1 ∈ Region.ready md ops l → ∀ q ∈ J, q.1 ∈ bindsOf md ops p.1 → R q.1 V w1 := fun p hp hi q hq hb => hR q hq (by
      have := hbinG p.1 hi q.1 hb
      rw [getD_ft (by have := hlt q hq; omega) true false]
      exact this)
    rw [Nat.add_right_comm]
    by_cases hb : ∃ p ∈ J, pure p.1 = true ∧ p.1 ∈ Region.ready md ops l
    · obtain ⟨p, hp, hpp, hi⟩ := hb
      obtain ⟨_, ⟨o, hpo⟩, _⟩ := hc1 p hp
      obtain ⟨hfr, hds⟩ := hc6 p hp hpp
      obtain ⟨v, hy, hRv⟩ := hpure p hp hpp V w1 hG (hdeps p hp hi)
      have hd : o.dst = some p.2 := by rw [hpo] at hds; simpa using hds
      obtain ⟨_, hn⟩ := next p hp hi v w1 (hrefl _) hRv
      rw [← puts_put a J V p.2 v hc2 (List.mem_map.2 ⟨p, hp, rfl⟩), ← hd] at hn
      refine wpAnyH_first hpo (Region.noSelect_spec hc5) (by rw [hd]; exact hQ p hp hpp v) (k + n) l _ _ ?_ hi (hy o hpo) (hS _ hG) hn
      intro j oj hj hne hul hno
      refine freeJ_spec hpo hfr j oj hj hne ?_ (fun hd => by have := hbinG p.1 hi j hd; rw [getD_ft (by
          rcases Nat.lt_or_ge j l.size with h | h
          · exact h
          · simp [Array.getElem?_eq_none h] at hul) false true, hul] at this; cases this) hno
      by_cases hjj : ∃ q ∈ J, q.1 = j
      · obtain ⟨q, hq, rfl⟩ := hjj
        exact (hc1 q hq).1
      · rw [← hsame j true fun q hq e => hjj ⟨q, hq, e⟩]; exact hul
    · refine ⟨fun h => absurd h hready, fun i hi => ?_⟩
      obtain ⟨hun, o, hio, hdep⟩ := mem_ready.1 hi
      have hij : ∃ p ∈ J, p.1 = i := by
        rcases hc4 i (Array.getElem?_eq_some_iff.1 hio).1 with h | h | ⟨e, he, hf, hne⟩ | h
        · refine Classical.byContradiction fun hn => ?_
          rw [hsame i true fun q hq e => hn ⟨q, hq, e⟩] at hun
          rw [h] at hun; cases hun
        · exact h
        · have := hbinG i hi e he
          rw [hsame e false hne, hf] at this; cases this
        · exfalso
          have hall : ∀ x ∈ clJ md ops J J.length i, l.getD x true = true := clJ_sound hdc J.length i fun p hp hpb => by
            have := hbinG i hi p.1 hpb
            rw [getD_ft (by have := hlt p hp; omega) true false]
            exact this
          obtain ⟨p0, hp0, hf0⟩ := hex
          obtain ⟨p, hp, hf, hbelow⟩ := hmin p0.1 ⟨p0, hp0, Nat.le_refl _, hf0⟩
          rcases h p hp with h | h
          · exact hb ⟨p, hp, h, hfirst p hp hf hbelow⟩
          · rw [hall p.1 h] at hf; cases hf
      obtain ⟨p, hp, rfl⟩ := hij
      have hpf : pure p.1 = false := by
        cases hpp : pure p.1
        · rfl
        · exact absurd ⟨p, hp, hpp, hi⟩ hb
      refine wpOp_mono ?_ (hstep p hp hpf V w1 hG (hdeps p hp hi))
      rintro a' w' ⟨v, rfl, hRp, hG1⟩
      rw [puts_put a J V p.2 v hc2 (List.mem_map.2 ⟨p, hp, rfl⟩)]
      exact next p hp hi v w' hG1 hRp

/-- The operations J (each with its slot) only add (G), whatever their order ('pure': those that look at no world); all others wait for all of them. -/
theorem wpAnyH_grow (G : World → World → Prop) (hrefl : ∀ w, G w w) (htrans : ∀ {a b c}, G a b → G b c → G a c) (J : List (Nat × Nat)) (pure : Nat → Bool) (R : Nat → (Nat → Value) → World → Prop) {n fuel : Nat} {listed : Array Bool} {a : Act} {w : World}
    (hchk : growB md ops listed J pure = true) (hfuel : fuel = J.length + n) (hS : ∀ w1, G w w1 → S w1)
    (hQ : ∀ p ∈ J, pure p.1 = true → ∀ v c a w, Q (.panic c) (a.put (some p.2) v) w → Q (.panic c) a w)
    (hstab : ∀ p ∈ J, ∀ V V' w1 w2, R p.1 V w1 → V' p.2 = V p.2 → (∀ q ∈ J, (bindsOf md ops p.1).contains q.1 = true → V' q.2 = V q.2) → G w1 w2 → R p.1 V' w2)
    (hpure : ∀ p ∈ J, pure p.1 = true → ∀ V w1, G w w1 → (∀ q ∈ J, (bindsOf md ops p.1).contains q.1 = true → R q.1 V w1) → ∃ o v, ops[p.1]? = some o ∧ YieldsIf P ops S o v (puts a J V) ∧ R p.1 (updV V p.2 v) w1)
    (hstep : ∀ p ∈ J, pure p.1 = false → ∀ V w1, G w w1 → (∀ q ∈ J, (bindsOf md ops p.1).contains q.1 = true → R q.1 V w1) → wpOp P ops Q p.1 (fun a' w' => ∃ v, a' = (puts a J V).put (some p.2) v ∧ R p.1 (updV V p.2 v) w' ∧ G w1 w') (puts a J V) w1)
    (hend : ∀ V w1, G w w1 → (∀ q ∈ J, R q.1 V w1) → wpAnyH P md ops Q S n (J.foldl (fun l q => l.setIfInBounds q.1 true) listed) (puts a J V) w1) :
    wpAnyH P md ops Q S fuel listed a w := by
  subst hfuel
  simp only [growB, Bool.and_eq_true, List.all_eq_true, decide_eq_true_eq, beq_iff_eq, Bool.or_eq_true, List.any_eq_true, List.mem_range, Bool.not_eq_true'] at hchk
  obtain ⟨⟨⟨⟨⟨h1, h2⟩, h3⟩, h4⟩, h5⟩, h6⟩ := hchk
  have hc1 : ∀ p ∈ J, listed.getD p.1 true = false ∧ (∃ o, ops[p.1]? = some o) ∧ ∀ e ∈ bindsOf md ops p.1, listed.getD e false = true ∨ ∃ q ∈ J, q.1 = e ∧ e < p.1 := fun p hp => by
    obtain ⟨⟨ha, hb⟩, hc⟩ := h1 p hp
    exact ⟨ha, Option.isSome_iff_exists.1 hb, hc⟩
  have hc4 : ∀ i, i < ops.size → listed.getD i true = true ∨ (∃ q ∈ J, q.1 = i) ∨ (∃ e ∈ bindsOf md ops i, listed.getD e false = false ∧ ∀ q ∈ J, q.1 ≠ e) ∨ ∀ q ∈ J, pure q.1 = true ∨ q.1 ∈ clJ md ops J J.length i := fun i hi => by
    rcases h4 i hi with ((h | ⟨q, hq, h⟩) | ⟨e, he, hf, hn⟩) | h
    · exact .inl h
    · exact .inr (.inl ⟨q, hq, h⟩)
    · exact .inr (.inr (.inl ⟨e, he, hf, fun q hq hqe => by
        have : (J.any fun q => q.1 == e) = true := List.any_eq_true.2 ⟨q, hq, by simpa using hqe⟩
        rw [hn] at this; cases this⟩))
    · exact .inr (.inr (.inr fun q hq => (h q hq).imp id fun h => by simpa using h))
  have hc6 : ∀ p ∈ J, pure p.1 = true → freeJ md ops listed p.1 = true ∧ (ops[p.1]?).map (·.dst) = some (some p.2) := fun p hp hpp => by
    rcases h6 p hp with h | h
    · rw [hpp] at h; cases h
    · exact h
  have key := grow_aux (P := P) (ops := ops) (Q := Q) (md := md) (G := G) (R := R) (n := n) (a := a) (w := w) hrefl (fun h k => htrans h k) hS hstab hc1 h2 h3 hc4 h5 hc6 hQ (fun p hp hpp V w1 hG hd => by
      obtain ⟨o, v, ho, hy, hR⟩ := hpure p hp hpp V w1 hG fun q hq hb => hd q hq (by simpa using hb)
      exact ⟨v, fun o' ho' => by rw [ho] at ho'; injection ho' with e; rw [← e]; exact hy, hR⟩)
    (fun p hp hpf V w1 hG hd => hstep p hp hpf V w1 hG fun q hq hb => hd q hq (by simpa using hb)) (fun V w1 l hG hR hl => by rw [hl]; exact hend V w1 hG hR) J.length listed (fun t => a.tmps.getD t undef) w (hrefl w) rfl (fun _ _ => rfl)
    (fun q hq h => by rw [(hc1 q hq).1] at h; cases h) (fun q hq h => by rw [(hc1 q hq).1] at h; cases h) (by
      congr 1
      exact List.filter_eq_self.2 fun q hq => by rw [(hc1 q hq).1]; rfl)
  rw [puts_self] at key
  exact key

/-- One of them. -/
theorem grow_step {i : Nat} {o : Oper} {K : Act → World → Prop} {a : Act} {w : World} (ho : ops[i]? = some o)
    (h : ∀ K' : Act → World → Prop, Shut (∀ a w, K a w → K' a w) → if Region.wanted o (yielded ops a.tmps) = true then Oper.wp P o a w K' Q else K' (a.put o.dst undef) w) : wpOp P ops Q i K a w :=
  wpOp_step ho h
/-- Take number i first: the whole row. -/
theorem tk (i : Nat) {oi : Oper} {v : Value} {fuel : Nat} {listed : Array Bool} {a : Act} {w : World} (hi : ops[i]? = some oi := by rfl)
    (hs : Region.noSelect ops = true := by kernel_rfl) (hf : Region.free md ops listed i = true := by kernel_rfl) (hr : (Region.ready md ops listed).contains i = true := by kernel_rfl)
    (hQ : ∀ c a w, Q (.panic c) (a.put oi.dst v) w → Q (.panic c) a w := by exact fun _ _ _ h => h) (hw : Region.wanted oi (yielded ops a.tmps) = true := by rfl)
    (hv : ∀ w, S w → (execOp a.eval oi).run P w = .ok (.value v) w := by intro w' hSw; (try dsimp only at hSw); go_simp; (try with_reducible rfl)) (hS : S w := by assumption)
    (h : wpAnyH P md ops Q S fuel (listed.setIfInBounds i true) (a.put oi.dst v) w) : wpAnyH P md ops Q S (fuel + 1) listed a w :=
  wpAnyH_take hi hs hf hr hQ (.inl ⟨hw, hv⟩) hS h
end
end Go.Proofs.YtfgjehecjgebdaaGreat
/- A region that draws its order and whose last store, z, turns a cell that it loads: the loads first all the same. -/
namespace Go.Proofs.YtfgjehecjgebdaaGreat
section
variable {P:Program} {ops:Array Oper} {Q:Exit→Act→World→Prop} {md:Region.Mode} {C:World→Prop} {z:Nat}
def wpAnyZ (P:Program) (md:Region.Mode) (ops:Array Oper) (Q:Exit→Act→World→Prop) (C:World→Prop) (z:Nat):Nat→Array Bool→Act→World→Prop
 | 0,listed,a,w=>Region.ready md ops listed = []∧Q .normal a w
 | fuel + 1,listed,a,w =>
  (Region.ready md ops listed = []→Q .normal a w) ∧
  ∀i∈Region.ready md ops listed,wpOp P ops Q i (fun a' w'=>((listed.setIfInBounds i true).getD z true=false→C w')∧wpAnyZ P md ops Q C z fuel (listed.setIfInBounds i true) a' w') a w
theorem wpAny_of_z:∀(fuel:Nat) (listed:Array Bool) (a:Act) (w:World),wpAnyZ P md ops Q C z fuel listed a w→wpAny P md ops Q fuel listed a w
 | 0,_,_,_,h=>h
 | fuel + 1,_,_,_,h=>⟨h.1,fun i hi=>wpOp_mono (fun a' w' h'=>wpAny_of_z fuel _ a' w' h'.2) (h.2 i hi)⟩
theorem wpAnyZ_first {i:Nat} {oi:Oper} {v:Value} (hi:ops[i]? = some oi) (hsel:∀(j:Nat) (o:Oper) cs b,ops[j]? = some o→o.op ≠ .select cs b)
  (hQ:∀c a w,Q (.panic c) (a.put oi.dst v) w→Q (.panic c) a w) (hiz:i ≠ z) (hwait:∃oz,ops[z]? = some oz ∧ ∃e∈oz.after,Region.binds md e=true∧e.on=i) :
  ∀(fuel:Nat) (listed:Array Bool) (a:Act) (w:World),
   (∀j oj,ops[j]? = some oj→j ≠ i→listed.getD j true=false→(∀e∈oj.after,Region.binds md e=true→e.on ≠ i)→oi.apart ops oj=true) →
   i∈Region.ready md ops listed→YieldsIf P ops C oi v a→C w→listed.getD z true=false →
   wpAnyZ P md ops Q C z fuel (listed.setIfInBounds i true) (a.put oi.dst v) w→wpAnyZ P md ops Q C z (fuel + 1) listed a w:=by
 intro fuel
 induction fuel with
 | zero =>
  intro listed a w _ hr hy hC hz H
  refine⟨fun h=>(by rw[h] at hr;cases hr),fun j hj=>?_⟩
  by_cases hji:j=i
  ·subst hji;exact hy.wpOp hi hC ⟨fun _=>hC,H⟩
  ·have:=ready_mono hj hji
   rw[H.1] at this
   cases this
 | succ fuel ih =>
  intro listed a w hfree hr hy hC hz H
  refine⟨fun h=>(by rw[h] at hr;cases hr),fun j hj=>?_⟩
  by_cases hji:j=i
  ·subst hji;exact hy.wpOp hi hC ⟨fun _=>hC,H⟩
  ·have h1:=H.2 j (ready_mono hj hji)
   obtain⟨hjun,oj,hoj,hall⟩:=mem_ready.1 hj
   have hif:∀d,listed.getD i d=false:=fun d=>by
    have h0:=(mem_ready.1 hr).1
    rcases Nat.lt_or_ge i listed.size with h'|h'
    ·simp[h'] at h0⊢;exact h0
    ·simp[Array.getElem?_eq_none h'] at h0
   have hnot:∀e∈oj.after,Region.binds md e=true→e.on ≠ i:=fun e he hb heq=>by
    have h1:=hall e he hb
    rw[heq,hif] at h1
    cases h1
   have hjz:j ≠ z:=by
    rintro rfl
    obtain⟨oz,hoz,e,he,hb,heq⟩:=hwait
    rw[hoj] at hoz
    injection hoz with hoz
    subst hoz
    exact hnot e he hb heq
   have hzj:(listed.setIfInBounds j true).getD z true=false:=by rw[getD_set_ne true hjz];exact hz
   have hzi:((listed.setIfInBounds i true).setIfInBounds j true).getD z true=false:=by rw[getD_set_ne true hjz,getD_set_ne true hiz];exact hz
   have h2:=wpOp_putIf hoj (hfree j oj hoj hji hjun hnot) (fun cs b=>hsel i oi cs b hi) (fun cs b=>hsel j oj cs b hoj) hQ hy h1
   have hfree':∀k ok,ops[k]? = some ok→k ≠ i→(listed.setIfInBounds j true).getD k true=false →
     (∀e∈ok.after,Region.binds md e=true→e.on ≠ i)→oi.apart ops ok=true:=fun k ok hk hki hun hno=>by
    refine hfree k ok hk hki ?_ hno
    by_cases hjk:j=k
    ·subst hjk;exact hjun
    ·rw[getD_set_ne true hjk] at hun;exact hun
   refine wpOp_mono (fun a' w' h3=>⟨fun _=>h3.2.1 hzi,ih (listed.setIfInBounds j true) a' w' hfree' (ready_mono hr (Ne.symm hji)) h3.1 (h3.2.1 hzi) hzj ?_⟩) h2
   rw[Array.setIfInBounds_comm _ _ hji]
   exact h3.2.2
theorem wpAnyZ_take {i:Nat} {oi:Oper} {v:Value} {fuel:Nat} {listed:Array Bool} {a:Act} {w:World} (hi:ops[i]? = some oi)
  (hs:Region.noSelect ops=true) (hf:Region.free md ops listed i=true) (hr:(Region.ready md ops listed).contains i=true)
  (hQ:∀c a w,Q (.panic c) (a.put oi.dst v) w→Q (.panic c) a w) (hy:YieldsIf P ops C oi v a) (hC:C w)
  (hz:(listed.getD z true == false && (bindsOf md ops z).contains i && i != z)=true)
  (h:wpAnyZ P md ops Q C z fuel (listed.setIfInBounds i true) (a.put oi.dst v) w):wpAnyZ P md ops Q C z (fuel + 1) listed a w:=by
 simp only[Bool.and_eq_true,beq_iff_eq,bne_iff_ne] at hz
 refine wpAnyZ_first hi (Region.noSelect_spec hs) hQ hz.2 ?_ fuel listed a w (Region.free_spec hi hf) (by simpa using hr) hy hC hz.1.1 h
 have hc:i∈bindsOf md ops z:=by simpa using hz.1.2
 unfold bindsOf at hc
 cases ho:ops[z]? with
 | none=>rw[ho] at hc;cases hc
 | some oz =>
  rw[ho] at hc
  obtain⟨e,he,rfl⟩:=List.mem_map.1 hc
  obtain⟨h1,h2⟩:=List.mem_filter.1 he
  exact⟨oz,rfl,e,by simpa using h1,h2,rfl⟩
theorem wpAnyZ_one {i:Nat} {o:Oper} {fuel:Nat} {listed:Array Bool} {a:Act} {w:World} (hr:Region.ready md ops listed = [i]) (ho:ops[i]? = some o)
  (h:∀K':Act→World→Prop,Shut (∀a w,((listed.setIfInBounds i true).getD z true=false→C w)→wpAnyZ P md ops Q C z fuel (listed.setIfInBounds i true) a w→K' a w)→if Region.wanted o (yielded ops a.tmps)=true then Oper.wp P o a w K' Q else K' (a.put o.dst undef) w) :
  wpAnyZ P md ops Q C z (fuel + 1) listed a w:=by
 refine⟨fun h0=>(by rw[hr] at h0;cases h0),fun j hj=>?_⟩
 rw[hr,List.mem_singleton] at hj
 subst hj
 exact wpOp_step ho (fun K' hK=>h K' (fun a w hC hW=>hK a w ⟨hC,hW⟩))
theorem wpAnyZ_done {listed:Array Bool} {a:Act} {w:World} (hr:Region.ready md ops listed = []) (h:Q .normal a w):∀fuel,wpAnyZ P md ops Q C z fuel listed a w
 | 0=>⟨hr,h⟩
 | _ + 1=>⟨fun _=>h,by rw[hr];simp⟩
theorem wp_region_z (z:Nat) (C:World→Prop) {id:Nat} {a:Act} {w:World} (hm:P.follows .mixedOrders=true) (hC:C w.drew)
  (h:C w.drew→wpAnyZ P .any ops Q C z ops.size (Array.replicate ops.size false) a w.drew):(Code.region id ops true).wp P Q a w :=
 wp_region_any hm (wpAny_of_z _ _ _ _ (h hC))
theorem tz {C:World→Prop} {z:Nat} (i:Nat) {oi:Oper} {v:Value} {fuel:Nat} {listed:Array Bool} {a:Act} {w:World} (hi:ops[i]? = some oi:=by rfl)
  (hs:Region.noSelect ops=true:=by kernel_rfl) (hf:Region.free md ops listed i=true:=by kernel_rfl) (hr:(Region.ready md ops listed).contains i=true:=by kernel_rfl)
  (hQ:∀c a w,Q (.panic c) (a.put oi.dst v) w→Q (.panic c) a w:=by exact fun _ _ _ h=>h) (hw:Region.wanted oi (yielded ops a.tmps)=true:=by rfl)
  (hv:∀w,C w→(execOp a.eval oi).run P w = .ok (.value v) w:=by intro w' hSw;(try dsimp only at hSw);go_simp;(try with_reducible rfl)) (hC:C w:=by assumption)
  (hz:(listed.getD z true == false && (bindsOf md ops z).contains i && i != z)=true:=by kernel_rfl)
  (h:wpAnyZ P md ops Q C z fuel (listed.setIfInBounds i true) (a.put oi.dst v) w):wpAnyZ P md ops Q C z (fuel + 1) listed a w :=
 wpAnyZ_take hi hs hf hr hQ (.inl ⟨hw,hv⟩) hC hz h
end
end Go.Proofs.YtfgjehecjgebdaaGreat
