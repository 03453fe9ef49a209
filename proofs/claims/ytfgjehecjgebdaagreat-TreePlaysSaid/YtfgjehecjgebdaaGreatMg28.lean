/- Pages: Layout.Check, Total; Super.text. -/
import Derived.Test.YtfgjehecjgebdaaGreatMg24
import Derived.Test.YtfgjehecjgebdaaGreatMg14
namespace Go.Proofs.YtfgjehecjgebdaaGreat
open Go.RowKit
def layV (p g:Nat):Value:=.agg #[.int .i64 p,.int .i64 g]
structure LayGood (p g:Nat):Prop where
 p1:4≤p
 p2:p≤128
 g1:4≤g
 g2:g≤4096
theorem LayCheck_calls {p g:Nat} (h:LayGood p g) (w:World):Calls Tryz.prog 79 #[layV p g] w fun e w'=>e = .returned (.int .i64 0)∧Kept (fun _=>False) w w':=by
 obtain⟨p1,p2,g1,g2⟩:=h
 unfold layV
 have h1:decide ((p:Int) < 4)=false:=by simp;omega
 have h2:decide ((128:Int) < p)=false:=by simp;omega
 have h3:decide ((g:Int) < 4)=false:=by simp;omega
 have h4:decide ((4096:Int) < g)=false:=by simp;omega
 go_enter Tryz.func79,Tryz.ntmps79
 go_wp2
 go_ret
 exact⟨rfl,(Kept.refl _ _).alloc _⟩
theorem LayTotal_calls {p g:Nat} (h:LayGood p g) (w:World):Calls Tryz.prog 60 #[layV p g] w fun e w'=>e = .returned (.int .i64 (2 + 4 * p + g:Nat))∧Kept (fun _=>False) w w':=by
 obtain⟨p1,p2,g1,g2⟩:=h
 unfold layV
 have HT:Hid ((2 + 4 * (p:Int) + g)=((2 + 4 * p + g:Nat):Int)):=by simp only[Hid];omega
 go_enter Tryz.func60,Tryz.ntmps60
 go_wp2
 go_ret
 exact⟨by rw[←HT.out];rfl,(Kept.refl _ _).alloc _⟩
structure Sup where
 gen:Nat
 root:Int
 log:Nat
 next:Nat
def supV (s:Sup):Value:=.agg #[.int .i64 s.gen,.int .i64 s.root,.int .i64 s.log,.int .i64 s.next]
structure Sup.Good (s:Sup):Prop where
 r1 : -1≤s.root
 r2:s.root < 128
 l1:1≤s.log
 l2:s.log≤1099511627776
 n2:s.next≤1099511627776
def byB (l:List Nat):List UInt8:=(bys l).map UInt8.ofNat
theorem bstr_byB (l:List Nat):bstr (bys l)=ba (byB l):=rfl
def supB (s:Sup) (l:List Nat):List UInt8:=encNs [s.root + 1,(s.log:Int),(s.next:Int)] ++ encSs [byB l]
theorem byB_len (l:List Nat) (h:l.length≤128):(byB l).length≤16:=by simp[byB,bys_len];omega
theorem supB_len {s:Sup} (h:s.Good) {l:List Nat} (hl:l.length≤128):(supB s l).length≤44∧(encNs [s.root + 1,(s.log:Int),(s.next:Int)]).length≤44:=by
 have h0:=byB_len l hl
 have:=h.r1;have:=h.r2;have:=h.l2;have:=h.n2
 have e1:=nb_le (s.root + 1).toNat 1 (by omega)
 have e2:=nb_le s.log 6 (by omega)
 have e3:=nb_le s.next 6 (by omega)
 have e4:=nb_le (byB l).length 1 (by omega)
 simp only[supB,encNs,encSs,encS,encN,List.length_append,List.flatMap_cons,List.flatMap_nil,List.length_nil,encU_len,Int.toNat_natCast]
 omega
set_option maxRecDepth 100000 in
theorem SupText_calls {w b c l} (h:IsSp w b c l) (s:Sup) (hs:s.Good):Calls Tryz.prog 73 #[supV s,.pointer (some ⟨b,0,none⟩)] w fun e w'=>e = .returned (.string (ba (supB s l)))∧Kept (fun _=>False) w w':=by
 have HSP:Hid (∀W,Kept (fun _=>False) w W→Calls Tryz.prog 40 #[.pointer (some ⟨b,0,none⟩)] W fun e w'=>e = .returned (.string (ba (byB l)))∧Kept (fun _=>False) W w'):=fun W hW=>by
  have:=Text_calls (⟨hW.heap h.head id,hW.heap h.row id,h.le,h.len⟩:IsSp W b c l)
  rw[bstr_byB] at this
  exact this
 have HL:=Lib.hid (supB_len hs h.len)
 have HBL:=Lib.hid (byB_len l h.len)
 obtain⟨gen,root,log,next⟩:=s
 obtain⟨r1,r2,l1,l2,n2⟩:=hs
 simp only at r1 r2 l1 l2 n2
 have HSB:Hid (supB ⟨gen,root,log,next⟩ l=encNs [root + 1,(log:Int),(next:Int)] ++ encSs [byB l]):=rfl
 have hNl:Hid (∀x ∈ [root + 1,(log:Int),(next:Int)], -9223372036854775808≤x∧x≤9223372036854775807):=by
  intro x hx
  simp at hx
  rcases hx with rfl|rfl|rfl<;>omega
 unfold supV
 simp only at HL⊢
 clear h
 have HB1:Hid (∃q,q=byB l):=⟨_,rfl⟩
 obtain⟨bl,hbl⟩:=HB1.out
 rw[←hbl] at HSP HSB HBL
 clear hbl HB1
 have hN:Hid ((encNs [root + 1,(log:Int),(next:Int)]).length≤44):=HL.out.2
 clear HL
 go_enter Tryz.func73,Tryz.ntmps73
 go_wp2_with fail
 obtain⟨W,hW⟩:∃W,W=(w.alloc (.cells #[.int .i64 gen,.int .i64 root,.int .i64 log,.int .i64 next] 78)).alloc (.cells #[.slice none 0 0] 198):=⟨_,rfl⟩
 rw[←hW]
 have hsz:W.heap.size=w.heap.size + 2:=by rw[hW];simp
 have ho:IsOut W (w.heap.size + 1) (.slice none 0 0) []:=by rw[hW];exact⟨heap_newAt (by simp) _,World.ownsRow_nil _ _ _ _⟩
 have HO:=Lib.hid ho
 have KW:Hid (Kept (fun _=>False) w W):=by rw[hW];exact((Kept.refl _ _).alloc _).alloc _
 have HSZ:=Lib.hid hsz
 clear hW hsz ho
 refine(N_calls (l := [root + 1,(log:Int),(next:Int)]) (HO.out.keptF ((Kept.refl _ _).alloc _)) (fun _=>⟨rfl,RowIs.newAt (by have:=HSZ.out;omega) _ _⟩) hNl.out (by simp) (by simp)).mono ?_
 rintro e w1 ⟨rfl,v1,h1⟩
 rw[List.nil_append] at h1
 have H1:=Lib.hid (OutTo.behind HO.out ((Kept.refl _ _).alloc _) h1)
 have K1:Hid (Kept (fun _=>False) w w1):=by
  have hwl:=KW.out.size
  exact KW.out.then H1.out.kept (by rintro i hi (e|e);omega;simp[Value.ownBlock] at e)
 clear h1
 go_wp2_with fail
 refine(HSP.out w1 K1.out).mono ?_
 rintro e w2 ⟨rfl,k2⟩
 have H2:=Lib.hid (H1.out.out.keptF k2)
 have K2:Hid (Kept (fun _=>False) w w2):=K1.out.trans k2
 have HT2:Hid (OutTo W (w.heap.size + 1) (.slice none 0 0) w2 v1 (encNs [root + 1,(log:Int),(next:Int)])):=H1.out.trans ⟨H2.out,k2.mono fun _ _ f=>f.elim,fun _ h=>.inl h⟩
 clear k2
 go_wp2_with fail
 refine(S_calls (l := [bl]) (H2.out.keptF ((Kept.refl _ _).alloc _)) (fun _=>⟨rfl,RowIs.newAt (by simp) [.string (ba bl)] _⟩) (by have:=HBL.out;intro x hx;simp at hx;subst hx;omega) (by simp) (by have:=hN.out;omega)).mono ?_
 rintro e w3 ⟨rfl,v3,h3⟩
 have H3:=Lib.hid (HT2.out.trans (OutTo.behind H2.out ((Kept.refl _ _).alloc _) h3))
 have K3:Hid (Kept (fun _=>False) w w3):=by
  have hwl:=KW.out.size
  exact KW.out.then H3.out.kept (by rintro i hi (e|e);omega;simp[Value.ownBlock] at e)
 clear h3
 have c4:=OutText_calls H3.out.out
 rw[←HSB.out] at c4
 obtain⟨tx,htx⟩:∃tx,tx=ba (supB ⟨gen,root,log,next⟩ l):=⟨_,rfl⟩
 rw[←htx] at c4
 have C4:=Lib.hid c4
 have HTX:=Lib.hid htx
 clear c4 htx
 go_wp2_with fail
 refine C4.out.mono ?_
 rintro e w4 ⟨rfl,rfl⟩
 go_wp2_with fail
 go_ret
 exact⟨by rw[←HTX.out];rfl,K3.out⟩
end Go.Proofs.YtfgjehecjgebdaaGreat
