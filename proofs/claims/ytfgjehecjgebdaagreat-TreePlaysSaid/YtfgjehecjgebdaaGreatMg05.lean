/- Codec, Out: Text, U, N, S, by their contracts. -/
import Derived.Test.YtfgjehecjgebdaaGreatProg
import Derived.Test.YtfgjehecjgebdaaGreatMg04
import Derived.Deep.RegionHeld3
import Derived.Deep.RegionLaw
namespace Go.Proofs.YtfgjehecjgebdaaGreat
open Go.RowKit
def B8 (x:UInt8):Value:=.int .u8 x.toNat
theorem und_bytes2:Tryz.prog.underlying 177=some (.slice 5):=by kernel_rfl
theorem info_u82:(Tryz.prog.info? 5).map (fun i=>(i.zero,i.size,i.bytes))=some (some (.int .u8 0),1,1):=by kernel_rfl
structure IsOut (w:World) (o:Nat) (v:Value) (bs:List UInt8):Prop where
 head:w.heap[o]? = some (.cells #[v] 198 (0,0))
 row:w.ownsRow 0 5 1 v bs.length (bs.map B8)
structure OutTo (w:World) (o:Nat) (v:Value) (w':World) (v':Value) (bs':List UInt8):Prop where
 out:IsOut w' o v' bs'
 kept:Kept (fun k=>k=o∨v.ownBlock=some k) w w'
 own:∀k,v'.ownBlock=some k→v.ownBlock=some k∨w.heap.size≤k
theorem OutTo.refl {w o v bs} (h:IsOut w o v bs):OutTo w o v w v bs:=⟨h,Kept.refl _ _,fun _ h=>.inl h⟩
theorem OutTo.trans {w o v w1 v1 b1 w2 v2 b2} (h:OutTo w o v w1 v1 b1) (k:OutTo w1 o v1 w2 v2 b2):OutTo w o v w2 v2 b2:=by
 refine⟨k.out,h.kept.then k.kept ?_,?_⟩
 ·rintro i hi (rfl|e)
  ·exact .inl rfl
  ·rcases h.own i e with e|e
   ·exact .inr e
   ·omega
 ·intro i e
  rcases k.own i e with e|e
  ·exact h.own i e
  ·exact .inr (Nat.le_trans h.kept.size e)
theorem IsOut.ne {w o v bs g cs e f} (h:IsOut w o v bs) (hg:w.heap[g]? = some (.cells cs e f)) (h1:e ≠ 198) (h2:e ≠ 5):¬(g=o∨v.ownBlock=some g):=by
 rintro(rfl|e1)
 ·have:=hg.symm.trans h.head
  simp at this
  exact h1 this.2.1
 ·rcases h.row.2 with⟨rfl,_⟩|⟨g',cap,cur,rfl,_,hh,_⟩
  ·simp[Value.ownBlock] at e1
  ·simp[Value.ownBlock] at e1
   subst e1
   have:=hg.symm.trans hh
   simp at this
   exact h2 this.2.1
theorem IsOut.neRow {w o v bs g e xs} (h:IsOut w o v bs) (hg:RowIs w g e xs) (h1:e ≠ 198) (h2:e ≠ 5):¬(g=o∨v.ownBlock=some g):=by
 obtain⟨cs,f,hg,_⟩:=hg
 exact h.ne hg h1 h2
theorem IsOut.kept {w w' o v bs} {S:Nat→Prop} (h:IsOut w o v bs) (k:Kept S w w') (ho:¬S o) (hv:∀g,v.ownBlock=some g → ¬S g):IsOut w' o v bs :=
 ⟨k.heap h.head ho,k.own h.row hv⟩
theorem IsOut.keptF {w w' o v bs} (h:IsOut w o v bs) (k:Kept (fun _=>False) w w'):IsOut w' o v bs:=h.kept k id (fun _ _=>id)
theorem OutTo.behind {w W o v bs w2 v2 b2} (h:IsOut w o v bs) (k:Kept (fun _=>False) w W) (t:OutTo W o v w2 v2 b2):OutTo w o v w2 v2 b2 :=
 (⟨h.keptF k,k.mono fun _ _ f=>f.elim,fun _ h=>.inl h⟩:OutTo w o v W v bs).trans t
theorem out_app {w o v bs W w1 v1 xs m} (h:IsOut w o v bs) (k0:Kept (fun _=>False) w W) (hm:m=xs.length) (hown:w1.ownsRow 0 5 1 v1 (bs.length + m) (bs.map B8 ++ xs.map B8)) (hg:W.grownBy w1 v.ownBlock)
  (hat:v1.ownBlock=v.ownBlock∨v1.ownBlock=some W.heap.size):w1.heap[o]? = some (.cells #[v] 198 (0,0))∧OutTo w o v (w1.setCell ⟨o,0,none⟩ v1) v1 (bs ++ xs):=by
 subst hm
 have hno:v.ownBlock ≠ some o:=by
  intro e
  rcases h.row.2 with⟨rfl,_⟩|⟨g',cap,cur,rfl,_,hh,_⟩
  ·simp[Value.ownBlock] at e
  ·simp[Value.ownBlock] at e
   subst e
   have:=hh.symm.trans h.head
   simp at this
 have h0:W.heap[o]? = some (.cells #[v] 198 (0,0)):=k0.heap h.head id
 have h1:w1.heap[o]? = some (.cells #[v] 198 (0,0)):=(hg.block o (lt_heap h0) (fun e=>hno e.symm)).trans h0
 have hk:Kept (fun k=>k=o∨v.ownBlock=some k) w w1 :=
  (k0.mono fun _ _ f=>f.elim).grown hg fun k hk=>.inl (.inr hk)
 refine⟨h1,⟨⟨?_,?_⟩,hk.setCell (.inl (.inl rfl)) _,?_⟩⟩
 ·rw[heap_set h1];rfl
 ·have hne:v1.ownBlock ≠ some (⟨o,0,none⟩:Addr).block:=by
   rcases hat with e|e
   ·rw[e];exact hno
   ·rw[e];intro e2;simp at e2
    have:=lt_heap h0
    omega
  have:=ownsRow_setCell_other hown (a:=⟨o,0,none⟩) hne v1
  rw[List.length_append,List.map_append]
  exact this
 ·intro k hk
  rcases hat with e|e
  ·rw[e] at hk;exact .inl hk
  ·rw[e] at hk;simp at hk;subst hk;exact .inr k0.size
def ba (l:List UInt8):ByteArray:=⟨l.toArray⟩
theorem ba_size (l:List UInt8):(ba l).size=l.length:=by simp[ba,ByteArray.size]
theorem ba_append (x y:List UInt8):ba (x ++ y)=ba x ++ ba y:=by
 apply ByteArray.ext
 simp[ba]
theorem run_zeros (m:Nat) (hm:m≤100000):∃O:Obj,(∀w:World,(Instr.makeSlice 177 (.int .i64 (m:Int)) (.int .i64 (m:Int))).run Tryz.prog w = .ok (.slice (some ⟨w.heap.size,0,none⟩) m m) (w.alloc O)) ∧
  (∀w:World,(convert 177 9 (.slice (some ⟨w.heap.size,0,none⟩) m m)).run Tryz.prog (w.alloc O) = .ok (.string (ba (List.replicate m 0))) (w.alloc O)):=by
 refine⟨.cells (List.replicate m (.int .u8 0)).toArray 5,fun w=>run_make_n w und_bytes2 info_u82 rfl m (by omega) (by unfold maxLen;omega),fun w=>?_⟩
 have h:=run_conv_row (P:=Tryz.prog) (src:=177) (dst:=9) und_bytes2 (by kernel_rfl) (by kernel_rfl) (ys:=List.replicate m 0) (more := []) (cap:=m) (t:=5) (w:=w.alloc (.cells (List.replicate m (.int .u8 0)).toArray 5)) (g:=w.heap.size) (by
  have:=heap_new w (.cells (List.replicate m (.int .u8 0)).toArray 5)
  simpa[B] using this)
 rw[List.length_replicate] at h
 rw[h]
 simp[bstr,ba]
theorem OutText_calls {w o v bs} (h:IsOut w o v bs):Calls Tryz.prog 110 #[.pointer (some ⟨o,0,none⟩)] w fun e w'=>e = .returned (.string (ba bs))∧w=w':=by
 have hc:w.cell? ⟨o,0,none⟩=some v:=by rw[cell_heap h.head];rfl
 rcases h.row.2 with⟨rfl,h0⟩|⟨g,cap,cur,rfl,_,hg,hn,_,hsz,htk⟩
 ·have hcv:=run_convert_bytes_nil (P:=Tryz.prog) w 177 5 und_bytes2 (by kernel_rfl) 0 0 9 (by kernel_rfl)
  have hb:bs = []:=List.eq_nil_of_length_eq_zero h0
  subst hb
  clear h h0
  go_enter Tryz.func110,Tryz.ntmps110
  go_wp2
  go_ret
  exact⟨rfl,rfl⟩
 ·have hcv:(convert 177 9 (.slice (some ⟨g,0,none⟩) bs.length cap)).run Tryz.prog w = .ok (.string (ba bs)) w:=by
   have h1:=run_convert_bytes_arg (P:=Tryz.prog) w 177 5 und_bytes2 (by kernel_rfl) g 0 bs.length cap (bs.map fun x=>(x.toNat:Int)) (by simp) (by
    intro i hi
    rw[Nat.zero_add,cell_of_row w g i cur _ _ hg]
    have h2:=congrArg (fun l=>l[i]?) htk
    simp only[List.getElem?_take,Nat.mul_one,if_pos hi] at h2
    rw[←Array.getElem?_toList,h2]
    simp[B8,List.getD,hi]) 9 (by kernel_rfl)
   rw[h1]
   simp[strOfNums,ba,Function.comp_def]
  clear h hg htk
  go_enter Tryz.func110,Tryz.ntmps110
  go_wp2
  go_ret
  exact⟨rfl,rfl⟩
end Go.Proofs.YtfgjehecjgebdaaGreat
/- Plain: a device of sectors, as chapter 3 has it. -/
namespace Go.Proofs.YtfgjehecjgebdaaGreat
open Go.RowKit

/-- A device: its sectors, the writes that are loose (oldest first), how many calls until the power goes, whether it is gone. -/
structure Dev where
  secs : List (List UInt8)
  cache : List (Nat × List UInt8)
  left : Int
  down : Bool

def zero64 : List UInt8 := List.replicate 64 0
def dev0 (n : Nat) : Dev := ⟨List.replicate n zero64, [], -1, false⟩

/-- One call more: is it made, and what stands behind it. -/
def Dev.call (D : Dev) : Bool × Dev :=
  if D.down then (false, D) else if D.left = 0 then (false, { D with down := true }) else if 0 < D.left then (true, { D with left := D.left - 1 }) else (true, D)

/-- A sector as it was written last. -/
def Dev.text (D : Dev) (i : Nat) : List UInt8 := match D.cache.reverse.find? (fun p => p.1 == i) with | some p => p.2 | none => D.secs.getD i []

def pad64 (t : List UInt8) : List UInt8 := t ++ List.replicate (64 - t.length) 0
def settle (s : List (List UInt8)) (c : List (Nat × List UInt8)) : List (List UInt8) := c.foldl (fun s p => s.set p.1 p.2) s

def Dev.read (D : Dev) (at_ : Int) : List UInt8 × Int :=
  if at_ < 0 ∨ (D.secs.length : Int) ≤ at_ then ([], 4) else if D.down then ([], 16) else (D.text at_.toNat, 0)
def Dev.write (D : Dev) (at_ : Int) (t : List UInt8) : Int × Dev :=
  if at_ < 0 ∨ (D.secs.length : Int) ≤ at_ ∨ 64 < t.length then (4, D) else if D.call.1 then (0, { D.call.2 with cache := D.cache ++ [(at_.toNat, pad64 t)] }) else (16, D.call.2)
def Dev.flush (D : Dev) : Int × Dev :=
  if D.call.1 then (0, { D.call.2 with secs := settle D.secs D.cache, cache := [] }) else (16, D.call.2)

/-- The writes of which the numbers are among those kept. -/
def kept (keep : List Int) (c : List (Nat × List UInt8)) : List (Nat × List UInt8) := ((c.zipIdx).filter fun p => decide ((p.2 : Int) ∈ keep)).map (·.1)
structure Dev.Good (D : Dev) : Prop where
  one : 0 < D.secs.length
  most : D.secs.length ≤ 65536
  secs : ∀ s ∈ D.secs, s.length = 64
  cache : ∀ p ∈ D.cache, p.1 < D.secs.length ∧ p.2.length = 64
  left : -9223372036854775808 ≤ D.left ∧ D.left ≤ 9223372036854775807

theorem call_secs (D : Dev) : D.call.2.secs = D.secs := by unfold Dev.call; split <;> try rfl
                                                           split <;> try rfl
                                                           split <;> rfl
theorem call_cache (D : Dev) : D.call.2.cache = D.cache := by unfold Dev.call; split <;> try rfl
                                                              split <;> try rfl
                                                              split <;> rfl
theorem Dev.Good.called {D : Dev} (h : D.Good) : D.call.2.Good := by
  have hl : -9223372036854775808 ≤ D.call.2.left ∧ D.call.2.left ≤ 9223372036854775807 := by
    have := h.left
    unfold Dev.call
    split
    · exact this
    · split
      · exact this
      · split
        · simp only; omega
        · exact this
  exact ⟨by rw [call_secs]; exact h.one, by rw [call_secs]; exact h.most, by rw [call_secs]; exact h.secs, by rw [call_secs, call_cache]; exact h.cache, hl⟩
theorem settle_len (s : List (List UInt8)) (c : List (Nat × List UInt8)) : (settle s c).length = s.length := by
  unfold settle
  induction c generalizing s with
  | nil => rfl
  | cons x t ih => simp only [List.foldl_cons]; rw [ih]; simp
theorem settle_snoc (s : List (List UInt8)) (c : List (Nat × List UInt8)) (p : Nat × List UInt8) : settle s (c ++ [p]) = (settle s c).set p.1 p.2 := by simp [settle]
theorem pad64_len (t : List UInt8) (h : t.length ≤ 64) : (pad64 t).length = 64 := by simp [pad64]; omega
theorem dev0_good (n : Nat) (h0 : 0 < n) (h : n ≤ 65536) : (dev0 n).Good := ⟨by simp [dev0]; omega, by simp [dev0]; omega, by intro s hs; simp [dev0] at hs; rw [hs.2]; simp [zero64], by simp [dev0], by simp [dev0]⟩
end Go.Proofs.YtfgjehecjgebdaaGreat
