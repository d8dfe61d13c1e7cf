/- Parts of the proof: DrawG, LatD, DrawH, DrawI, DrawJ, DrawK, DrawM, PowI, DrawL, CmpW, Rot, EqW, PowP, PowR, DrawR, DrawT, DrawC, Rgg, TwI, Lst, Quo, Frame, MarkG, MarkGS, QuoM. -/
import Derived.Test.YteobmaambgmdbaaGreatN02
import Derived.Test.YteobmaambgmdbaaGreatN06
import Derived.Test.YteobmaambgmdbaaGreatN05
import Derived.Test.YteobmaambgmdbaaGreatN01
import Derived.Test.YteobmaambgmdbaaGreatN03
import Derived.Outline
import Derived.Deep.RegionHeld3
import Derived.ProofKit
import Derived.OpenShut
import Derived.ShutString
import Derived.ChangeOld
import Derived.Lib.SmallJoins
namespace Go.Proofs.YteobmaambgmdbaaGreat
set_option maxRecDepth 20000
set_option linter.unusedVariables false
set_option linter.unusedSimpArgs false
open Go.RowKit
theorem OwE.trP {p base:Nat} {w w':World} {v:Value} {es:List EdD} (h:OwE w base v es) (ht:Tr p (p+1) w w') (hp:p<base):OwE w' base v es:=
 h.keep fun b hb=>ht.block b (h.1.lt b hb).2 (by have:=(h.1.lt b hb).1;omega)
theorem OwG.trP {p base:Nat} {w w':World} {v:Value} {g:GrD} (h:OwG w base v g) (ht:Tr p (p+1) w w') (hp:p<base):OwG w' base v g:=by
 obtain⟨s,hv,h1,h2,ho⟩:=h
 exact⟨s,hv,h1,h2,ho.trP ht hp⟩
theorem GBx.trP {p q base c:Nat} {A:Option Addr} {g:GrD} {w w':World} (h:GBx w q base A c g) (ht:Tr p (p+1) w w') (hp:p<base) (hq:p≠q):GBx w' q base A c g:=
 h.keep ht.size fun b hb=>by
  rcases hb with rfl | hb
  ·exact ht.block _ h.lt (by omega)
  ·exact ht.block b (h.ow.1.lt b hb).2 (by have:=(h.ow.1.lt b hb).1;omega)
theorem CBx.trP {p q:Nat} {x y z:Value} {w w':World} (h:CBx w q x y z) (ht:Tr p (p+1) w w') (hq:p≠q):CBx w' q x y z:=by
 have hp:=ht.block q h.lt (by omega)
 exact⟨(World.cell?_of_block (w:=w) hp).trans h.c0,(World.cell?_of_block (w:=w) hp).trans h.c1,(World.cell?_of_block (w:=w) hp).trans h.c2,fun j=>(World.frozen?_of_block (w:=w) hp).trans (h.fz j),Nat.lt_of_lt_of_le h.lt ht.size⟩
structure DrI (p:Nat) (A:Option Addr) (cap:Nat) (cs:List Int) (w0 W:World):Prop where
 tr:Tr p (p+1) w0 W
 cur:Cur p A cap cs W
section
variable {p cap:Nat} {A:Option Addr} {cs:List Int} {w0 W W':World}
theorem DrI.refl (h:Cur p A cap cs w0):DrI p A cap cs w0 w0:=⟨⟨rfl,rfl,rfl,Nat.le_refl _,fun _ _ _=>rfl⟩,h⟩
theorem DrI.to (h:DrI p A cap cs w0 W) (ht:Tr p (p+1) W W') (hc:Cur p A cap cs W'):DrI p A cap cs w0 W':=⟨h.tr.trans ht,hc⟩
theorem DrI.bel (h:DrI p A cap cs w0 W) (hb:Below W.heap.size W W'):DrI p A cap cs w0 W':=⟨h.tr.bel2 hb,h.cur.below hb⟩
theorem DrI.hi (h:DrI p A cap cs w0 W) (h0:Cur p A cap cs w0) {B:Nat} (hB:w0.heap.size≤B) (hb:Below B W W'):DrI p A cap cs w0 W':=by
 refine⟨⟨hb.os.trans h.tr.os,hb.tape.trans h.tr.tape,hb.output.trans h.tr.output,Nat.le_trans h.tr.size hb.size,fun k hk hn=>(hb.block k (by omega)).trans (h.tr.block k hk hn)⟩,?_⟩
 refine h.cur.tr (lo:=B) (hi:=W.heap.size) ⟨hb.os,hb.tape,hb.output,hb.size,fun k hk hn=>hb.block k (by omega)⟩ (by have:=h0.lt;omega) fun hl b off e=> ?_
 obtain⟨b',off',e',_,hlt,_⟩:=h0.at_ hl
 rw[e] at e'
 injection e' with e'
 injection e' with e1
 omega
theorem DrI.trans {w1:World} (h:DrI p A cap cs w0 w1) (h':DrI p A cap cs w1 W):DrI p A cap cs w0 W:=⟨h.tr.trans h'.tr,h'.cur⟩
end
theorem CBx.setv {w:World} {p:Nat} {x y z:Value} (h:CBx w p x y z) (a b c:Value):CBx (((w.setCell ⟨p,0,none⟩ a).setCell ⟨p,1,none⟩ b).setCell ⟨p,2,none⟩ c) p a b c:=by
 obtain⟨e0,e1,e2⟩:=cells3F a b c h.c0 h.c1 h.c2
 exact⟨e0,e1,e2,fun j=>by rw[World.frozen?_setCell,World.frozen?_setCell,World.frozen?_setCell];exact h.fz j,by simpa using h.lt⟩
theorem CBx.any {w:World} {p q:Nat} {x y z:Value} (h:CBx w p x y z) (a b c:Value): ∃x y z,CBx (((w.setCell ⟨q,0,none⟩ a).setCell ⟨q,1,none⟩ b).setCell ⟨q,2,none⟩ c) p x y z:=by
 by_cases e:p=q
 ·subst e;exact⟨_,_,_,h.setv a b c⟩
 ·exact⟨_,_,_,h.other e⟩
theorem gr_put {g:GrD} {e:EdD} (hg:grB g=true) (he:(0≤e.1∧e.1<g.2.1)∧(1≤e.2.1∧e.2.1≤g.1)∧(0≤e.2.2∧e.2.2<g.2.1)) (hl:g.2.2.length<120):grB (g.1,g.2.1,insF cmpE g.2.2 e)=true:=by
 obtain⟨h1,h2,h3,h4⟩:=grB_parts hg
 have hs:=gr_srt hg
 refine grB_of h1 h2 (by have:=insF_len (c:=cmpE) g.2.2 e;simp only;omega) ?_ fun x hx=> ?_
 ·simp only;rw[insF_eq];exact insR_srt cmpE_ord e g.2.2 hs
 ·simp only at hx
  rw[insF_eq] at hx
  rcases(insR_mem e g.2.2 cmpE_ord x).1 hx with rfl | hx
  ·exact he
  ·exact edge_of_gr hg hx
theorem edgeOk_of {r n:Int} {e:EdD} (hn:1≤n∧n≤40) (h:(0≤e.1∧e.1<n)∧(1≤e.2.1∧e.2.1≤r)∧(0≤e.2.2∧e.2.2<n)):edgeOk r n e=true:=by
 have hw:wrap64 (n-1)=n-1:=by unfold wrap64;omega
 obtain⟨⟨a1,a2⟩,⟨b1,b2⟩,c1,c2⟩:=h
 unfold edgeOk
 rw[hw]
 simp only[Bool.and_eq_true]
 exact⟨⟨inB_iff.2 ⟨by omega,by omega⟩,inB_iff.2 ⟨by omega,by omega⟩⟩,inB_iff.2 ⟨by omega,by omega⟩⟩
set_option maxRecDepth 100000 in
set_option maxHeartbeats 4000000 in
theorem l4Graph_any (p:Nat) (A:Option Addr) (cap:Nat) (cs:List Int) (w:World) (h:Cur p A cap cs w):
  Calls Tryz.prog 126 #[.pointer (some ⟨p,0,none⟩)] w fun e w'=> ∃v g,e= .returned v∧OwG w' w.heap.size v g∧(grB g=true∧g.2.2.length≤8)∧Cur p A cap cs w'∧Tr p (p+1) w w':=by
 have H:=hDD h
 have hp:=h.lt
 clear h
 go_enter Tryz.func126,Tryz.ntmps126
 go_wp2_with fail
 obtain⟨W0,hW0⟩: ∃W,W=w.alloc (Obj.cells #[Value.int IntKind.i64 0,Value.int IntKind.i64 0, .slice none 0 0] 26):=⟨_,rfl⟩
 rw[←hW0]
 obtain⟨xb,b0,s0⟩:=CBx.new hW0
 clear hW0
 have XB:=hDD xb
 have I0:Hid (DrI p A cap cs w W0):=hDD ((DrI.refl H.out).bel b0)
 clear xb b0
 have RA:Hid (RdI (W0.alloc (Obj.cells #[.int .i64 1, .int .i64 2, .int .i64 2, .int .i64 2, .int .i64 3] 3)) (.slice (some ⟨W0.heap.size,0,none⟩) 5 5) [1,2,2,2,3]):=hDD (OwI_lit W0 [1,2,2,2,3] (by intro y hy;simp at hy;rcases hy with rfl | rfl | rfl<;>(unfold I64;omega)) (by simp) (Nat.le_refl _)).rd
 have IA:=hDD (I0.out.bel ((Below.refl _ _).alloc (Nat.le_refl _) (Obj.cells #[.int .i64 1, .int .i64 2, .int .i64 2, .int .i64 2, .int .i64 3] 3)))
 have XA:=hDD (XB.out.below ((Below.refl _ _).alloc (Nat.le_refl _) (Obj.cells #[.int .i64 1, .int .i64 2, .int .i64 2, .int .i64 2, .int .i64 3] 3)))
 have hneA:(Value.slice (some ⟨W0.heap.size,0,none⟩) 5 5).ownBlock≠some p:=fun e=>by simp[Value.ownBlock] at e;omega
 rw[←s0]
 (with_reducible refine(l1PickInt_any p A cap cs _ [1,2,2,2,3] _ IA.out.cur RA.out hneA (by simp) (by simp)).mono ?_)
 rintro e w1 ⟨r,rfl,hr,c1,t1⟩
 have I1:=hDD (IA.out.to t1 c1)
 have X1:=hDD (XA.out.trP t1 (by omega))
 have hr1:1≤r:=by simp at hr;omega
 have hr3:r≤3:=by simp at hr;omega
 clear c1 t1 IA RA hr hneA XA I0 XB
 go_wp2_with fail
 refine(l1Below_any p A cap cs 5 _ I1.out.cur (by omega) (by omega)).mono ?_
 rintro e w2 ⟨n0,rfl,⟨n1,n2⟩,c2,t2⟩
 have I2:=hDD (I1.out.to t2 c2)
 have X2:=hDD (X1.out.trP t2 (by omega))
 obtain⟨N,hN⟩: ∃N,N=1+n0:=⟨_,rfl⟩
 have hN1:1≤N:=by omega
 have hN5:N≤5:=by omega
 have hwN:IntKind.i64.wrap (1+n0)=N:=by rw[IntKind.wrap_i64];omega
 clear c2 t2 I1 X1
 go_wp2_with fail
 rw[←hN]
 obtain⟨W3,hW3⟩: ∃W,W=w2.alloc (Obj.cells #[Value.int IntKind.i64 r,Value.int IntKind.i64 N, .slice none 0 0] 26):=⟨_,rfl⟩
 have g3:GBx W3 w2.heap.size (w.heap.size+1) none 0 (r,N,[]):=GBx.new (base:=w.heap.size+1) (m:=(r,N,[])) OwE.nil (show I64 r from⟨by omega,by omega⟩) (show I64 N from⟨by omega,by omega⟩) hW3
 obtain⟨_,b3,s3⟩:=CBx.new hW3
 rw[←hW3]
 have G3:=hDD g3
 have I3:=hDD (I2.out.bel b3)
 have X3:=hDD (X2.out.below b3)
 have hs2:=X2.out.lt
 have hgr3:grB (r,N,[])=true:=grB_of ⟨hr1,hr3⟩ ⟨hN1,by simp only;omega⟩ (by simp) List.Pairwise.nil (fun _ h=>by cases h)
 have HGR3:=hDD hgr3
 clear hW3 g3 b3 I2 X2 hN hwN hgr3
 generalize hb:w2.heap.size=b at*
 clear hb
 refine(l1Below_any p A cap cs 9 _ I3.out.cur (by omega) (by omega)).mono ?_
 rintro e w4 ⟨k0,rfl,⟨k1,k2⟩,c4,t4⟩
 have I4:=hDD (I3.out.to t4 c4)
 have X4:=hDD (X3.out.trP t4 (by omega))
 have G4:=hDD (G3.out.trP t4 (by omega) (by omega))
 clear c4 t4 I3 X3 G3
 go_wp2
 go_loopw [4,5] (fun nv _ wr=> ∃(k:Int) (g:GrD) (Ar:Option Addr) (cr:Nat),nv= .int .i64 k∧0≤k∧k+g.2.2.length≤8∧grB g=true∧GBx wr b (w.heap.size+1) Ar cr g∧CBx wr w.heap.size (.int .i64 0) (.int .i64 0) (.slice none 0 0)∧DrI p A cap cs w wr) (fun nv _ _=>(intOf nv).toNat)
 case atStart=>exact⟨k0,_,none,0,rfl,k1,by simp;omega,HGR3.out,G4.out,X4.out,I4.out⟩
 case round=>
  obtain⟨k,⟨g1,M,es⟩,Ar,cr,rfl,hk0,hkl,hgr,hG,hX,hI⟩:=hrel
  have HGR:=hDD hgr
  have HG:=hDD hG
  have HX:=hDD hX
  have HI:=hDD hI
  obtain⟨q1,q2,_,_⟩:=grB_parts hgr
  simp only at q1 q2 hkl
  have hsr:=hI.tr.size
  have hbr:=hG.lt
  have HGT:Hid (∀W',Tr p (p+1) wr W'→GBx W' b (w.heap.size+1) Ar cr (g1,M,es)):=hDD fun W' ht=>hG.trP ht (by omega) (by omega)
  have x0:=hX.c0
  have x1:=hX.c1
  have x2:=hX.c2
  have y0:=hG.c0
  have y1:=hG.c1
  have y2:=hG.c2
  have f0:=hX.fz 0
  have f1:=hX.fz 1
  have f2:=hX.fz 2
  simp only at y0 y1 y2
  clear hgr hG hX hI
  by_cases hlt:0<k
  ·clear x0 x1 x2 y0 y1 y2 f0 f1 f2
   go_wp2_with fail
   refine wp_region_gen [.val (.pointer (some ⟨p,0,none⟩)), .val (.pointer (some ⟨b,1,none⟩)), .val (.int .i64 M), .pur (fun _ v=> ∃x:Int,v= .int .i64 x∧0≤x∧x<M), .val (.pointer (some ⟨p,0,none⟩)), .val (.pointer (some ⟨b,0,none⟩)), .val (.int .i64 g1), .pur (fun _ v=> ∃x:Int,v= .int .i64 x∧0≤x∧x<g1), .pur (fun _ v=> ∃x:Int,v= .int .i64 x∧1≤x∧x≤g1), .val (.pointer (some ⟨p,0,none⟩)), .val (.pointer (some ⟨b,1,none⟩)), .val (.int .i64 M), .pur (fun _ v=> ∃x:Int,v= .int .i64 x∧0≤x∧x<M), .pur (fun _ v=> ∃x y z:Int,v= .agg #[.int .i64 x, .int .i64 y, .int .i64 z]∧(0≤x∧x<M)∧(1≤y∧y≤g1)∧(0≤z∧z<M)), .mem (fun _ W v=> ∃q x y z,v= .pointer (some ⟨q,0,none⟩)∧wr.heap.size≤q∧CBx W q x y z), .mem (fun us W _=> ∃(q:Nat) (x y z:Int),us 14= .pointer (some ⟨q,0,none⟩)∧wr.heap.size≤q∧CBx W q (.int .i64 x) (.int .i64 y) (.int .i64 z)∧(0≤x∧x<M)∧(1≤y∧y≤g1)∧(0≤z∧z<M))]
    [none,none,none,some (fun W W'=>Tr p (p+1) W W'∧Cur p A cap cs W'),none,none,none,some (fun W W'=>Tr p (p+1) W W'∧Cur p A cap cs W'),none,none,none,none,some (fun W W'=>Tr p (p+1) W W'∧Cur p A cap cs W'),none,some (fun W W'=>Below W.heap.size W W'),some (fun W W'=> ∃q x y z,wr.heap.size≤q∧W'=((W.setCell ⟨q,0,none⟩ x).setCell ⟨q,1,none⟩ y).setCell ⟨q,2,none⟩ z)]
    (DrI p A cap cs wr) [(14,3),(14,7),(14,12),(14,15)] (by kernel_rfl) (by kernel_rfl) (by rfl) (by rfl)
    ((DrI.refl HI.out.cur).bel (Below.refl _ _).drew)
    ⟨fun _ _ h t=>h.to t.1 t.2,fun _ _ h t=>h.to t.1 t.2,fun _ _ h t=>h.to t.1 t.2,fun _ _ h t=>h.bel t,fun _ _ h ⟨q,x,y,z,hq,e⟩=>by rw[e];exact h.hi HI.out.cur (Nat.le_refl _) (set3_below x y z (Below.refl _ _) hq),trivial⟩
    ⟨fun _ _ _ _ _ _ t ⟨q,x,y,z,e,hq,c⟩=>⟨q,x,y,z,e,hq,c.trP t.1 (by omega)⟩,fun _ _ _ _ _ _ t ⟨q,x,y,z,e,hq,c⟩=>⟨q,x,y,z,e,hq,c.trP t.1 (by omega)⟩,fun _ _ _ _ _ _ t ⟨q,x,y,z,e,hq,c⟩=>⟨q,x,y,z,e,hq,c.trP t.1 (by omega)⟩,fun _ _ _ _ _ _ ⟨q',a,b,c',_,e'⟩ ⟨q,x,y,z,e,hq,c⟩=>(by rw[e'];obtain⟨x',y',z',h'⟩:=c.any (q:=q') a b c';exact⟨q,x',y',z',e,hq,h'⟩),trivial⟩ (fun vs=> ?_)
   refine⟨fun W' K' Q0 hI hD hK=> ?_,?_⟩
   ·skip
    go_simp
    exact hK.out _ _ rfl rfl
   simp only[Act.put,List.setIfInBounds_toArray,List.set_cons_zero,List.set_cons_succ,Sg.pick,Nat.reduceAdd]
   refine⟨fun W' K' Q0 hI hD hK=> ?_,?_⟩
   ·have z1:=(HGT.out W' hI.out.tr).c1
    go_simp
    exact hK.out _ _ rfl rfl
   simp only[Act.put,List.setIfInBounds_toArray,List.set_cons_zero,List.set_cons_succ,Sg.pick,Nat.reduceAdd]
   refine⟨fun W' K' Q0 hI hD hK=> ?_,?_⟩
   ·have z1:=(HGT.out W' hI.out.tr).c1
    go_simp
    exact hK.out _ _ rfl rfl
   simp only[Act.put,List.setIfInBounds_toArray,List.set_cons_zero,List.set_cons_succ,Sg.pick,Nat.reduceAdd]
   refine⟨fun W' K' Q0 hI hD hK=> ?_,?_⟩
   ·skip
    go_simp
    (refine(l1Below_any p A cap cs M _ hI.out.cur (by omega) (by omega)).mono ?_;rintro e w' ⟨x,rfl,hx,c,t⟩;exact hK.out _ _ ⟨t,c⟩ ⟨x,rfl,hx⟩)
   simp only[Act.put,List.setIfInBounds_toArray,List.set_cons_zero,List.set_cons_succ,Sg.pick,Nat.reduceAdd]
   refine⟨fun W' K' Q0 hI hD hK=> ?_,?_⟩
   ·skip
    go_simp
    exact hK.out _ _ rfl rfl
   simp only[Act.put,List.setIfInBounds_toArray,List.set_cons_zero,List.set_cons_succ,Sg.pick,Nat.reduceAdd]
   refine⟨fun W' K' Q0 hI hD hK=> ?_,?_⟩
   ·have z1:=(HGT.out W' hI.out.tr).c0
    go_simp
    exact hK.out _ _ rfl rfl
   simp only[Act.put,List.setIfInBounds_toArray,List.set_cons_zero,List.set_cons_succ,Sg.pick,Nat.reduceAdd]
   refine⟨fun W' K' Q0 hI hD hK=> ?_,?_⟩
   ·have z1:=(HGT.out W' hI.out.tr).c0
    go_simp
    exact hK.out _ _ rfl rfl
   simp only[Act.put,List.setIfInBounds_toArray,List.set_cons_zero,List.set_cons_succ,Sg.pick,Nat.reduceAdd]
   refine⟨fun W' K' Q0 hI hD hK=> ?_,?_⟩
   ·skip
    go_simp
    (refine(l1Below_any p A cap cs g1 _ hI.out.cur (by omega) (by omega)).mono ?_;rintro e w' ⟨x,rfl,hx,c,t⟩;exact hK.out _ _ ⟨t,c⟩ ⟨x,rfl,hx⟩)
   simp only[Act.put,List.setIfInBounds_toArray,List.set_cons_zero,List.set_cons_succ,Sg.pick,Nat.reduceAdd]
   refine⟨fun W' K' Q0 hI hD hK=> ?_,?_⟩
   ·obtain⟨x7,e7,h7⟩:=(show ∃x:Int,vs 7= .int .i64 x∧0≤x∧x<g1 from hD.out 7 (by kernel_rfl))
    have hw7:IntKind.i64.wrap (1+x7)=1+x7:=(by rw[IntKind.wrap_i64];omega)
    rw[e7] at hK⊢
    go_simp
    exact hK.out _ _ rfl ⟨1+x7,rfl,by omega,by omega⟩
   simp only[Act.put,List.setIfInBounds_toArray,List.set_cons_zero,List.set_cons_succ,Sg.pick,Nat.reduceAdd]
   refine⟨fun W' K' Q0 hI hD hK=> ?_,?_⟩
   ·skip
    go_simp
    exact hK.out _ _ rfl rfl
   simp only[Act.put,List.setIfInBounds_toArray,List.set_cons_zero,List.set_cons_succ,Sg.pick,Nat.reduceAdd]
   refine⟨fun W' K' Q0 hI hD hK=> ?_,?_⟩
   ·have z1:=(HGT.out W' hI.out.tr).c1
    go_simp
    exact hK.out _ _ rfl rfl
   simp only[Act.put,List.setIfInBounds_toArray,List.set_cons_zero,List.set_cons_succ,Sg.pick,Nat.reduceAdd]
   refine⟨fun W' K' Q0 hI hD hK=> ?_,?_⟩
   ·have z1:=(HGT.out W' hI.out.tr).c1
    go_simp
    exact hK.out _ _ rfl rfl
   simp only[Act.put,List.setIfInBounds_toArray,List.set_cons_zero,List.set_cons_succ,Sg.pick,Nat.reduceAdd]
   refine⟨fun W' K' Q0 hI hD hK=> ?_,?_⟩
   ·skip
    go_simp
    (refine(l1Below_any p A cap cs M _ hI.out.cur (by omega) (by omega)).mono ?_;rintro e w' ⟨x,rfl,hx,c,t⟩;exact hK.out _ _ ⟨t,c⟩ ⟨x,rfl,hx⟩)
   simp only[Act.put,List.setIfInBounds_toArray,List.set_cons_zero,List.set_cons_succ,Sg.pick,Nat.reduceAdd]
   refine⟨fun W' K' Q0 hI hD hK=> ?_,?_⟩
   ·obtain⟨x3,e3,h3⟩:=(show ∃x:Int,vs 3= .int .i64 x∧0≤x∧x<M from hD.out 3 (by kernel_rfl))
    obtain⟨x8,e8,h8⟩:=(show ∃x:Int,vs 8= .int .i64 x∧1≤x∧x≤g1 from hD.out 8 (by kernel_rfl))
    obtain⟨x12,e12,h12⟩:=(show ∃x:Int,vs 12= .int .i64 x∧0≤x∧x<M from hD.out 12 (by kernel_rfl))
    rw[e3,e8,e12] at hK⊢
    go_simp
    exact hK.out _ _ rfl ⟨x3,x8,x12,rfl,h3,h8,h12⟩
   simp only[Act.put,List.setIfInBounds_toArray,List.set_cons_zero,List.set_cons_succ,Sg.pick,Nat.reduceAdd]
   refine⟨fun W' K' Q0 hI hD hK=> ?_,?_⟩
   ·skip
    go_simp
    exact hK.out _ _ ((Below.refl _ _).alloc (Nat.le_refl _) _) ⟨_,_,_,_,rfl,hI.out.tr.size,(CBx.new rfl).1⟩
   simp only[Act.put,List.setIfInBounds_toArray,List.set_cons_zero,List.set_cons_succ,Sg.pick,Nat.reduceAdd]
   refine⟨fun W' K' Q0 hI hD hK=> ?_,?_⟩
   ·obtain⟨q,a0,a1,a2,e14,hq,hc⟩:=(show ∃q x y z,vs 14= .pointer (some ⟨q,0,none⟩)∧wr.heap.size≤q∧CBx W' q x y z from hD.out 14 (by kernel_rfl))
    obtain⟨x,y,z,e13,hx⟩:=(show ∃x y z:Int,vs 13= .agg #[.int .i64 x, .int .i64 y, .int .i64 z]∧(0≤x∧x<M)∧(1≤y∧y≤g1)∧(0≤z∧z<M) from hD.out 13 (by kernel_rfl))
    rw[e13,e14] at hK⊢
    have z0:=hc.c0
    have z1:=hc.c1
    have z2:=hc.c2
    have u0:=hc.fz 0
    have u1:=hc.fz 1
    have u2:=hc.fz 2
    go_simp
    exact hK.out undef _ ⟨q,_,_,_,hq,rfl⟩ ⟨q,x,y,z,(mask_at (by kernel_rfl)).trans e14,hq,hc.setv _ _ _,hx⟩
   simp only[Act.put,List.setIfInBounds_toArray,List.set_cons_zero,List.set_cons_succ,Sg.pick,Nat.reduceAdd]
   intro W9 hI9 hD9
   obtain⟨q,x,y,z,e14,hq,hc,hx,hy,hz⟩:=(show ∃(q:Nat) (x y z:Int),maskV _ 15 vs 14= .pointer (some ⟨q,0,none⟩)∧wr.heap.size≤q∧CBx W9 q (.int .i64 x) (.int .i64 y) (.int .i64 z)∧(0≤x∧x<M)∧(1≤y∧y≤g1)∧(0≤z∧z<M) from hD9.out 15 (by decide))
   rw[mask_at (by kernel_rfl)] at e14
   rw[e14]
   have G9:=hDD (HGT.out W9 hI9.out.tr)
   have X9:=hDD (HX.out.trP hI9.out.tr (by omega))
   have HAD:=hDD (specAddEdge_any (.agg #[.int .i64 g1, .int .i64 M, .slice Ar es.length cr]) (g1,M,es) (x,y,z) W9 G9.out.arg ⟨⟨by simp only;omega,by simp only;omega⟩,⟨by simp only;omega,by simp only;omega⟩,⟨by simp only;omega,by simp only;omega⟩⟩ HGR.out (edgeOk_of q2 ⟨hx,hy,hz⟩) (by simp only;omega))
   have HG2:Hid (grB (g1,M,insF cmpE es (x,y,z))=true):=hDD (gr_put HGR.out ⟨hx,hy,hz⟩ (by simp only;omega))
   have hl2:(insF cmpE es (x,y,z)).length≤es.length+1:=insF_len (c:=cmpE) es (x,y,z)
   unfold edV at HAD
   simp only at HAD
   generalize insF cmpE es (x,y,z)=es2 at*
   generalize decide (es.length<es2.length)=dd at*
   have z0:=G9.out.c0
   have z1:=G9.out.c1
   have z2:=G9.out.c2
   have v0:=hc.c0
   have v1:=hc.c1
   have v2:=hc.c2
   simp only at z0 z1 z2
   clear hD9 e14
   go_wp2_with fail
   refine HAD.out.mono ?_
   rintro e w10 ⟨r10,rfl,o10,b10⟩
   obtain⟨s10,rfl,hi1,hi2,oe10⟩:=o10
   obtain⟨A10,c10,rfl,_⟩:=oe10.form
   simp only at oe10 hi1 hi2⊢
   clear z0 z1 z2 v0 v1 v2 HAD
   have G10:=hDD (G9.out.below b10)
   have X10:=hDD (X9.out.below b10)
   have I10:=hDD (HI.out.trans (hI9.out.bel b10))
   have hs9:=hI9.out.tr.size
   have O10:=hDD oe10
   have z0:=G10.out.c0
   have z1:=G10.out.c1
   have z2:=G10.out.c2
   have f0:=G10.out.fz 0
   have f1:=G10.out.fz 1
   have f2:=G10.out.fz 2
   simp only at z0 z1 z2
   have hwk:IntKind.i64.wrap (k-1)=k-1:=by rw[IntKind.wrap_i64];omega
   clear oe10 b10 hI9
   go_wp2
   go_roundw
   case rel=>
    refine⟨k-1,(g1,M,es2),A10,c10,by go_num,by omega,by simp only;omega,HG2.out,?_,X10.out.other (by omega),?_⟩
    ·exact(G10.out.set (m:=(g1,M,es2)) O10.out (fun b hb=>by have:=(O10.out.1.lt b hb).1;omega) hi1 hi2).mono (by omega)
    ·exact I10.out.hi H.out (Nat.le_refl _) (set3_below _ _ _ (Below.refl _ _) (by omega))
   case measure=>(simp[intOf];omega)
  ·go_wp2
   have XF:=HX.out.setv (.int .i64 g1) (.int .i64 M) (.slice Ar es.length cr)
   have e0:=XF.c0
   have e1:=XF.c1
   have e2:=XF.c2
   have IF:=HI.out.hi H.out (Nat.le_refl _) (set3_below (.int .i64 g1) (.int .i64 M) (.slice Ar es.length cr) (Below.refl _ _) (Nat.le_refl w.heap.size))
   exact bodyPost_ret (v:= .agg #[.int .i64 g1, .int .i64 M, .slice Ar es.length cr]) (by simp[results,Tryz.results126,go_sem,e0,e1,e2]) rfl ⟨_,rfl,g1,M,es,⟨_,rfl,HG.out.i1,HG.out.i2,(HG.out.ow.keep fun c hc=>set3_heap _ _ _ _ _ (by have:=(HG.out.ow.1.lt c hc).1;omega)).mono (by omega)⟩,⟨HGR.out,by omega⟩,IF.cur,IF.tr⟩
theorem GBx.rk {w:World} {p base:Nat} {A:Option Addr} {c:Nat} {g:GrD} (h:GBx w p base A c g) {z:Int} (hz:I64 z):GBx (w.setCell ⟨p,0,none⟩ (.int .i64 z)) p base A c (z,g.2.1,g.2.2):=
 ⟨World.cell?_setCell_same _ _ _ h.c0,(World.cell?_setCell_other _ _ _ _ (by simp)).trans h.c1,(World.cell?_setCell_other _ _ _ _ (by simp)).trans h.c2,fun j=>by rw[World.frozen?_setCell];exact h.fz j,h.ow.keep fun b hb=>Below.heap_setCell _ _ _ b (h.ne b hb),h.ne,hz,h.i2,by simpa using h.lt⟩
theorem CBx.one {w:World} {p q j:Nat} {x y z v:Value} (h:CBx w p x y z) (hne:p≠q):CBx (w.setCell ⟨q,j,none⟩ v) p x y z:=by
 have hp:(w.setCell ⟨q,j,none⟩ v).heap[p]? =w.heap[p]? :=Below.heap_setCell _ _ _ p hne
 exact⟨(World.cell?_of_block (w:=w) hp).trans h.c0,(World.cell?_of_block (w:=w) hp).trans h.c1,(World.cell?_of_block (w:=w) hp).trans h.c2,fun j=>(World.frozen?_of_block (w:=w) hp).trans (h.fz j),by simpa using h.lt⟩
theorem CBx.set2 {w:World} {p:Nat} {x y z:Value} (h:CBx w p x y z) (v:Value):CBx (w.setCell ⟨p,2,none⟩ v) p x y v:=
 ⟨(World.cell?_setCell_other _ _ _ _ (by simp)).trans h.c0,(World.cell?_setCell_other _ _ _ _ (by simp)).trans h.c1,World.cell?_setCell_same _ _ _ h.c2,fun j=>by rw[World.frozen?_setCell];exact h.fz j,by simpa using h.lt⟩
theorem CBx.grown {w w':World} {p:Nat} {x y z:Value} {row:Option Nat} (h:CBx w p x y z) (hg:w.grownBy w' row) (hr: ∀b,row=some b→b≠p):CBx w' p x y z:=by
 have hp:=hg.block p h.lt fun e=>hr p e.symm rfl
 exact⟨(World.cell?_of_block (w:=w) hp).trans h.c0,(World.cell?_of_block (w:=w) hp).trans h.c1,(World.cell?_of_block (w:=w) hp).trans h.c2,fun j=>(World.frozen?_of_block (w:=w) hp).trans (h.fz j),Nat.lt_of_lt_of_le h.lt hg.size⟩
theorem CBx.edC {w:World} {p:Nat} {x y z:Int} (h:CBx w p (.int .i64 x) (.int .i64 y) (.int .i64 z)): ∀j u,(edC (x,y,z))[j]? =some u→w.cell? ⟨p,j,none⟩=some u
 | 0,u,e=>by rw[h.c0];exact e
 | 1,u,e=>by rw[h.c1];exact e
 | 2,u,e=>by rw[h.c2];exact e
 | n+3,u,e=>by simp[Go.Proofs.YteobmaambgmdbaaGreat.edC] at e
theorem DrI.grow {p cap:Nat} {A:Option Addr} {cs:List Int} {w0 W W':World} {row:Option Nat} (h:DrI p A cap cs w0 W) (h0:Cur p A cap cs w0) (hg:W.grownBy W' row) (hr: ∀b,row=some b→w0.heap.size≤b):DrI p A cap cs w0 W':=⟨h.tr.grow2 hg hr,h.cur.new h0 hg hr⟩
set_option maxRecDepth 100000 in
set_option maxHeartbeats 4000000 in
theorem l4Any_any (p:Nat) (A:Option Addr) (cap:Nat) (cs:List Int) (w:World) (h:Cur p A cap cs w):
  Calls Tryz.prog 124 #[.pointer (some ⟨p,0,none⟩)] w fun e w'=> ∃v g,e= .returned v∧OwG w' w.heap.size v g∧g.2.2.length≤9∧Cur p A cap cs w'∧Tr p (p+1) w w':=by
 have H:=hDD h
 have hp:=h.lt
 clear h
 go_enter Tryz.func124,Tryz.ntmps124
 go_wp2_with fail
 obtain⟨W0,hW0⟩: ∃W,W=w.alloc (Obj.cells #[Value.int IntKind.i64 0,Value.int IntKind.i64 0, .slice none 0 0] 26):=⟨_,rfl⟩
 rw[←hW0]
 obtain⟨xb,b0,s0⟩:=CBx.new hW0
 clear hW0
 have XB:=hDD xb
 have I0:Hid (DrI p A cap cs w W0):=hDD ((DrI.refl H.out).bel b0)
 clear xb b0
 refine(l4Graph_any p A cap cs _ I0.out.cur).mono ?_
 rintro e w1 ⟨v1,⟨g1,M,es⟩,rfl,⟨s1,rfl,hi1,hi2,oe1⟩,⟨_,hl1⟩,c1,t1⟩
 obtain⟨A1,cap1,rfl,_⟩:=oe1.form
 simp only at hi1 hi2 oe1 hl1⊢
 have I1:=hDD (I0.out.to t1 c1)
 have X1:=hDD (XB.out.trP t1 (by omega))
 have hs1:=t1.size
 have OE1:=hDD oe1
 clear c1 t1 oe1 I0 XB
 go_wp2_with fail
 obtain⟨W2,hW2⟩: ∃W,W=w1.alloc (Obj.cells #[Value.int IntKind.i64 g1,Value.int IntKind.i64 M, .slice A1 es.length cap1] 26):=⟨_,rfl⟩
 have g2:=GBx.new (m:=(g1,M,es)) OE1.out hi1 hi2 hW2
 obtain⟨_,b2,s2⟩:=CBx.new hW2
 rw[←hW2]
 rw[s0] at g2
 have G2:=hDD g2
 have I2:=hDD (I1.out.bel b2)
 have X2:=hDD (X1.out.below b2)
 have hb0:w.heap.size<w1.heap.size:=X1.out.lt
 clear hW2 g2 b2 I1 X1 OE1
 generalize hb:w1.heap.size=b at*
 clear hb
 refine(l1Below_any p A cap cs 14 _ I2.out.cur (by omega) (by omega)).mono ?_
 rintro e w3 ⟨y,rfl,⟨y0,y1⟩,c3,t3⟩
 have I3:=hDD (I2.out.to t3 c3)
 have X3:=hDD (X2.out.trP t3 (by omega))
 have G3:=hDD (G2.out.trP t3 (by omega) (by omega))
 clear c3 t3 I2 X2 G2
 have hyc:y=0∨y=1∨y=2∨(¬y=0∧ ¬y=1∧ ¬y=2):=by omega
 rcases hyc with rfl | rfl | rfl | ⟨n0,n1,n2⟩
 ·skip
  have RA:Hid (RdI (w3.alloc (Obj.cells #[.int .i64 (-1), .int .i64 0, .int .i64 1, .int .i64 41] 3)) (.slice (some ⟨w3.heap.size,0,none⟩) 4 4) [-1,0,1,41]):=hDD (OwI_lit w3 [-1,0,1,41] (by intro y hy;simp at hy;unfold I64;omega) (by simp) (Nat.le_refl _)).rd
  have IA:=hDD (I3.out.bel ((Below.refl _ _).alloc (Nat.le_refl _) (Obj.cells #[.int .i64 (-1), .int .i64 0, .int .i64 1, .int .i64 41] 3)))
  have XA:=hDD (X3.out.below ((Below.refl _ _).alloc (Nat.le_refl _) (Obj.cells #[.int .i64 (-1), .int .i64 0, .int .i64 1, .int .i64 41] 3)))
  have GA:=hDD (G3.out.below ((Below.refl _ _).alloc (Nat.le_refl _) (Obj.cells #[.int .i64 (-1), .int .i64 0, .int .i64 1, .int .i64 41] 3)))
  have hneA:(Value.slice (some ⟨w3.heap.size,0,none⟩) 4 4).ownBlock≠some p:=fun e=>by simp[Value.ownBlock] at e;have:=I3.out.tr.size;omega
  go_wp2_with fail
  (with_reducible refine(l1PickInt_any p A cap cs _ [-1,0,1,41] _ IA.out.cur RA.out hneA (by simp) (by simp)).mono ?_)
  rintro e w4 ⟨z,rfl,hz,c4,t4⟩
  have hzI:I64 z:=by simp at hz;unfold I64;omega
  have I4:=hDD (IA.out.to t4 c4)
  have X4:=hDD (XA.out.trP t4 (by omega))
  have G4:=hDD (GA.out.trP t4 (by omega) (by omega))
  clear c4 t4 hz IA XA GA RA hneA
  have y0:=G4.out.c0
  have y1:=G4.out.c1
  have y2:=G4.out.c2
  simp only at y0 y1 y2
  have x0:=X4.out.c0
  have f0:=X4.out.fz 0
  have x1:=X4.out.c1
  have f1:=X4.out.fz 1
  have x2:=X4.out.c2
  have f2:=X4.out.fz 2
  have q0:=G4.out.fz 0
  have q1:=G4.out.fz 1
  go_wp2
  have hset:GBx (w4.setCell ⟨b,1,none⟩ (.int .i64 z)) b (w.heap.size+1) A1 cap1 (g1,z,es):=G4.out.sz hzI
  have X5:=hDD (X4.out.one (q:=b) (j:=1) (v:= .int .i64 z) (by omega))
  have G5:=hDD hset
  have I5:=hDD (I4.out.hi H.out (Nat.le_refl _) ((Below.refl w.heap.size w4).setCell (p:=⟨b,1,none⟩) (by show w.heap.size≤b;omega) (.int .i64 z)))
  have XF:=X5.out.setv (.int .i64 g1) (.int .i64 z) (.slice A1 es.length cap1)
  have e0:=XF.c0
  have e1:=XF.c1
  have e2:=XF.c2
  have IF:=I5.out.hi H.out (Nat.le_refl _) (set3_below (.int .i64 g1) (.int .i64 z) (.slice A1 es.length cap1) (Below.refl _ _) (Nat.le_refl w.heap.size))
  exact bodyPost_ret (v:= .agg #[.int .i64 g1, .int .i64 z, .slice A1 es.length cap1]) (by simp[results,Tryz.results124,go_sem,e0,e1,e2]) rfl ⟨_,(g1,z,es),rfl,⟨_,rfl,G5.out.i1,G5.out.i2,(G5.out.ow.keep fun c hc=>set3_heap _ _ _ _ _ (by have:=(G5.out.ow.1.lt c hc).1;omega)).mono (by omega)⟩,by simp only;omega,IF.cur,IF.tr⟩
 ·skip
  have RA:Hid (RdI (w3.alloc (Obj.cells #[.int .i64 0, .int .i64 1, .int .i64 4] 3)) (.slice (some ⟨w3.heap.size,0,none⟩) 3 3) [0,1,4]):=hDD (OwI_lit w3 [0,1,4] (by intro y hy;simp at hy;unfold I64;omega) (by simp) (Nat.le_refl _)).rd
  have IA:=hDD (I3.out.bel ((Below.refl _ _).alloc (Nat.le_refl _) (Obj.cells #[.int .i64 0, .int .i64 1, .int .i64 4] 3)))
  have XA:=hDD (X3.out.below ((Below.refl _ _).alloc (Nat.le_refl _) (Obj.cells #[.int .i64 0, .int .i64 1, .int .i64 4] 3)))
  have GA:=hDD (G3.out.below ((Below.refl _ _).alloc (Nat.le_refl _) (Obj.cells #[.int .i64 0, .int .i64 1, .int .i64 4] 3)))
  have hneA:(Value.slice (some ⟨w3.heap.size,0,none⟩) 3 3).ownBlock≠some p:=fun e=>by simp[Value.ownBlock] at e;have:=I3.out.tr.size;omega
  go_wp2_with fail
  (with_reducible refine(l1PickInt_any p A cap cs _ [0,1,4] _ IA.out.cur RA.out hneA (by simp) (by simp)).mono ?_)
  rintro e w4 ⟨z,rfl,hz,c4,t4⟩
  have hzI:I64 z:=by simp at hz;unfold I64;omega
  have I4:=hDD (IA.out.to t4 c4)
  have X4:=hDD (XA.out.trP t4 (by omega))
  have G4:=hDD (GA.out.trP t4 (by omega) (by omega))
  clear c4 t4 hz IA XA GA RA hneA
  have y0:=G4.out.c0
  have y1:=G4.out.c1
  have y2:=G4.out.c2
  simp only at y0 y1 y2
  have x0:=X4.out.c0
  have f0:=X4.out.fz 0
  have x1:=X4.out.c1
  have f1:=X4.out.fz 1
  have x2:=X4.out.c2
  have f2:=X4.out.fz 2
  have q0:=G4.out.fz 0
  have q1:=G4.out.fz 1
  go_wp2
  have hset:GBx (w4.setCell ⟨b,0,none⟩ (.int .i64 z)) b (w.heap.size+1) A1 cap1 (z,M,es):=G4.out.rk hzI
  have X5:=hDD (X4.out.one (q:=b) (j:=0) (v:= .int .i64 z) (by omega))
  have G5:=hDD hset
  have I5:=hDD (I4.out.hi H.out (Nat.le_refl _) ((Below.refl w.heap.size w4).setCell (p:=⟨b,0,none⟩) (by show w.heap.size≤b;omega) (.int .i64 z)))
  have XF:=X5.out.setv (.int .i64 z) (.int .i64 M) (.slice A1 es.length cap1)
  have e0:=XF.c0
  have e1:=XF.c1
  have e2:=XF.c2
  have IF:=I5.out.hi H.out (Nat.le_refl _) (set3_below (.int .i64 z) (.int .i64 M) (.slice A1 es.length cap1) (Below.refl _ _) (Nat.le_refl w.heap.size))
  exact bodyPost_ret (v:= .agg #[.int .i64 z, .int .i64 M, .slice A1 es.length cap1]) (by simp[results,Tryz.results124,go_sem,e0,e1,e2]) rfl ⟨_,(z,M,es),rfl,⟨_,rfl,G5.out.i1,G5.out.i2,(G5.out.ow.keep fun c hc=>set3_heap _ _ _ _ _ (by have:=(G5.out.ow.1.lt c hc).1;omega)).mono (by omega)⟩,by simp only;omega,IF.cur,IF.tr⟩
 ·go_wp2_with fail
  have hrw:Hid (∀c,(Value.slice A1 es.length cap1).ownBlock=some c→w.heap.size+1≤c∧c<w3.heap.size):=hDD fun c hc=>G3.out.ow.1.lt c hc
  have hb3:=G3.out.lt
  have hnb:=hDD G3.out.ne
  refine wp_region_genH [.val (.pointer (some ⟨b,2,none⟩)), .val (.slice A1 es.length cap1), .val (.pointer (some ⟨p,0,none⟩)), .pur (fun _ v=> ∃x:Int,v= .int .i64 x∧0≤x∧x<4), .pur (fun _ v=> ∃x:Int,v= .agg #[.int .i64 x, .int .i64 1, .int .i64 0]∧0≤x∧x<4), .mem (fun _ W v=> ∃(q:Nat) (x:Int),v= .slice (some ⟨q,0,none⟩) 1 1∧w3.heap.size≤q∧CBx W q (.int .i64 x) (.int .i64 1) (.int .i64 0)∧0≤x∧x<4),
    .mem (fun _ W v=> ∃A' c' ms,v= .slice A' ms.length c'∧ms.length=es.length+1∧OwE W (w.heap.size+1) v ms∧(∀c,v.ownBlock=some c→c≠b)∧ ∃z,CBx W b (.int .i64 g1) (.int .i64 M) z), .val (.pointer (some ⟨b,2,none⟩)), .mem (fun _ W _=> ∃A' c' ms,ms.length=es.length+1∧GBx W b (w.heap.size+1) A' c' (g1,M,ms))]
   [none,none,none,some (fun W W'=>Tr p (p+1) W W'∧Cur p A cap cs W'),none,some (fun W W'=>Below W.heap.size W W'),some (fun W W'=>W.grownBy W' (Value.slice A1 es.length cap1).ownBlock),none,some (fun W W'=> ∃v,W'=W.setCell ⟨b,2,none⟩ v)]
   (fun W=>DrI p A cap cs w W∧w3.heap.size≤W.heap.size∧CBx W w.heap.size (.int .i64 0) (.int .i64 0) (.slice none 0 0)) (fun W=>GBx W b (w.heap.size+1) A1 cap1 (g1,M,es)) [6,8] [(5,6),(5,8),(6,8)] (by kernel_rfl) (by kernel_rfl) (by rfl) (by rfl)
   ⟨I3.out.bel (Below.refl _ _).drew,Nat.le_refl _,X3.out.below (Below.refl _ _).drew⟩ (G3.out.below (Below.refl _ _).drew)
   ⟨fun _ _ h t=>⟨h.1.to t.1 t.2,Nat.le_trans h.2.1 t.1.size,h.2.2.trP t.1 (by omega)⟩,fun _ _ h t=>⟨h.1.bel t,Nat.le_trans h.2.1 t.size,h.2.2.below t⟩,fun _ _ h t=>⟨h.1.grow H.out t (fun c hc=>by have:=(hrw.out c hc).1;omega),Nat.le_trans h.2.1 t.size,h.2.2.grown t (fun c hc=>by have:=(hrw.out c hc).1;omega)⟩,fun W _ h ⟨v,e⟩=>by subst e;exact⟨h.1.hi H.out (Nat.le_refl _) ((Below.refl w.heap.size W).setCell (p:=⟨b,2,none⟩) (by show w.heap.size≤b;omega) v),by simpa using h.2.1,h.2.2.one (by omega)⟩,trivial⟩
   ⟨.inr fun _ _ _ h t=>h.trP t.1 (by omega) (by omega), .inr fun _ _ _ h t=>h.below t, .inl (by simp), .inl (by simp),trivial⟩
   ⟨fun _ _ _ _ _ _ t ⟨q,x,e,hq,c,hx⟩=>⟨q,x,e,hq,c.grown t (fun c' hc'=>by have:=(hrw.out c' hc').2;omega),hx⟩,fun _ _ _ _ _ _ ⟨u,t⟩ ⟨q,x,e,hq,c,hx⟩=>by subst t;exact⟨q,x,e,hq,c.one (by omega),hx⟩,fun _ _ _ _ _ _ ⟨u,t⟩ ⟨A',c',e,hv,hl,o,hn,z,c⟩=>by subst t;exact⟨A',c',e,hv,hl,o.keep fun d hd=>Below.heap_setCell _ _ _ d (hn d hd),hn,_,c.set2 u⟩,trivial⟩ (fun vs=> ?_)
  refine⟨fun W' K' Q0 hI hD hK=> ?_,?_⟩
  ·skip
   go_simp
   exact hK.out _ _ rfl rfl
  simp only[Act.put,List.setIfInBounds_toArray,List.set_cons_zero,List.set_cons_succ,Sg.pick,Nat.reduceAdd]
  refine⟨fun W' K' Q0 hI hD hK=> ?_,?_⟩
  ·have z2:=(hI.out.2 (by kernel_rfl)).c2
   go_simp
   exact hK.out _ _ rfl rfl
  simp only[Act.put,List.setIfInBounds_toArray,List.set_cons_zero,List.set_cons_succ,Sg.pick,Nat.reduceAdd]
  refine⟨fun W' K' Q0 hI hD hK=> ?_,?_⟩
  ·skip
   go_simp
   exact hK.out _ _ rfl rfl
  simp only[Act.put,List.setIfInBounds_toArray,List.set_cons_zero,List.set_cons_succ,Sg.pick,Nat.reduceAdd]
  refine⟨fun W' K' Q0 hI hD hK=> ?_,?_⟩
  ·skip
   go_simp
   (refine(l1Below_any p A cap cs 4 _ hI.out.1.1.cur (by omega) (by omega)).mono ?_;rintro e w' ⟨x,rfl,hx,c,t⟩;exact hK.out _ _ ⟨t,c⟩ ⟨x,rfl,hx⟩)
  simp only[Act.put,List.setIfInBounds_toArray,List.set_cons_zero,List.set_cons_succ,Sg.pick,Nat.reduceAdd]
  refine⟨fun W' K' Q0 hI hD hK=> ?_,?_⟩
  ·obtain⟨x3,e3,h3⟩:=(show ∃x:Int,vs 3= .int .i64 x∧0≤x∧x<4 from hD.out 3 (by kernel_rfl))
   rw[e3] at hK⊢
   go_simp
   exact hK.out _ _ rfl ⟨x3,rfl,h3⟩
  simp only[Act.put,List.setIfInBounds_toArray,List.set_cons_zero,List.set_cons_succ,Sg.pick,Nat.reduceAdd]
  refine⟨fun W' K' Q0 hI hD hK=> ?_,?_⟩
  ·obtain⟨x4,e4,h4⟩:=(show ∃x:Int,vs 4= .agg #[.int .i64 x, .int .i64 1, .int .i64 0]∧0≤x∧x<4 from hD.out 4 (by kernel_rfl))
   rw[e4] at hK⊢
   go_simp
   exact hK.out _ _ ((Below.refl _ _).alloc (Nat.le_refl _) _) ⟨_,x4,rfl,hI.out.1.2.1,(CBx.new rfl).1,h4⟩
  simp only[Act.put,List.setIfInBounds_toArray,List.set_cons_zero,List.set_cons_succ,Sg.pick,Nat.reduceAdd]
  refine⟨fun W' K' Q0 hI hD hK=> ?_,?_⟩
  ·obtain⟨q5,x5,e5,hq5,hc5,hx5⟩:=(show ∃(q:Nat) (x:Int),vs 5= .slice (some ⟨q,0,none⟩) 1 1∧w3.heap.size≤q∧CBx W' q (.int .i64 x) (.int .i64 1) (.int .i64 0)∧0≤x∧x<4 from hD.out 5 (by kernel_rfl))
   rw[e5] at hK⊢
   have hG:=hI.out.2 (by kernel_rfl)
   refine wp_push_edge (.tmp 23) (.tmp 27) rfl (w.heap.size+1) _ es hG.ow rfl q5 (x5,1,0) rfl hc5.edC ⟨⟨by simp only;omega,by simp only;omega⟩,⟨by simp only;omega,by simp only;omega⟩,⟨by simp only;omega,by simp only;omega⟩⟩ (by omega) (by have:=hI.out.1.2.1;omega) ?_
   intro v' w' o g pl
   obtain⟨A',c',rfl,_⟩:=o.form
   exact hK.out _ _ g ⟨A',c',_,rfl,by simp,o,(fun c hc=>pl.elim (fun q=>hnb.out c (q▸hc)) (fun q=>by rw[q] at hc;injection hc with hc;have:=hI.out.1.2.1;omega)),_,hG.cbx.grown g hnb.out⟩
  simp only[Act.put,List.setIfInBounds_toArray,List.set_cons_zero,List.set_cons_succ,Sg.pick,Nat.reduceAdd]
  refine⟨fun W' K' Q0 hI hD hK=> ?_,?_⟩
  ·skip
   go_simp
   exact hK.out _ _ rfl rfl
  simp only[Act.put,List.setIfInBounds_toArray,List.set_cons_zero,List.set_cons_succ,Sg.pick,Nat.reduceAdd]
  refine⟨fun W' K' Q0 hI hD hK=> ?_,?_⟩
  ·obtain⟨A',c',e,e6,hl,o,hn,z,hc⟩:=(show ∃A' c' ms,vs 6= .slice A' ms.length c'∧ms.length=es.length+1∧OwE W' (w.heap.size+1) (vs 6) ms∧(∀c,(vs 6).ownBlock=some c→c≠b)∧ ∃z,CBx W' b (.int .i64 g1) (.int .i64 M) z from hD.out 6 (by kernel_rfl))
   rw[e6] at hK o hn⊢
   have HL:=hDD hl
   clear hl
   have z2:=hc.c2
   have u2:=hc.fz 2
   go_simp
   exact hK.out undef _ ⟨_,rfl⟩ ⟨A',c',e,HL.out,⟨(hc.set2 _).c0,(hc.set2 _).c1,(hc.set2 _).c2,(hc.set2 _).fz,o.keep fun d hd=>Below.heap_setCell _ _ _ d (hn d hd),hn,G3.out.i1,G3.out.i2,(hc.set2 _).lt⟩⟩
  simp only[Act.put,List.setIfInBounds_toArray,List.set_cons_zero,List.set_cons_succ,Sg.pick,Nat.reduceAdd]
  intro W9 hI9 hD9
  obtain⟨A9,c9,ms,hl9,g9⟩:=(show ∃A' c' ms,ms.length=es.length+1∧GBx W9 b (w.heap.size+1) A' c' (g1,M,ms) from hD9.out 8 (by decide))
  have G9:=hDD g9
  have I9:=hDD hI9.out.1.1
  have X9:=hDD hI9.out.1.2.2
  have HL9:=hDD hl9
  clear hI9 hD9 g9 hl9
  have y0:=G9.out.c0
  have y1:=G9.out.c1
  have y2:=G9.out.c2
  simp only at y0 y1 y2
  have x0:=X9.out.c0
  have f0:=X9.out.fz 0
  have x1:=X9.out.c1
  have f1:=X9.out.fz 1
  have x2:=X9.out.c2
  have f2:=X9.out.fz 2
  go_wp2
  have XF:=X9.out.setv (.int .i64 g1) (.int .i64 M) (.slice A9 ms.length c9)
  have e0:=XF.c0
  have e1:=XF.c1
  have e2:=XF.c2
  have IF:=I9.out.hi H.out (Nat.le_refl _) (set3_below (.int .i64 g1) (.int .i64 M) (.slice A9 ms.length c9) (Below.refl _ _) (Nat.le_refl w.heap.size))
  exact bodyPost_ret (v:= .agg #[.int .i64 g1, .int .i64 M, .slice A9 ms.length c9]) (by simp[results,Tryz.results124,go_sem,e0,e1,e2]) rfl ⟨_,rfl,g1,M,ms,⟨_,rfl,G9.out.i1,G9.out.i2,(G9.out.ow.keep fun c hc=>set3_heap _ _ _ _ _ (by have:=(G9.out.ow.1.lt c hc).1;omega)).mono (by omega)⟩,by have:=HL9.out;omega,IF.cur,IF.tr⟩
 ·skip
  have y0:=G3.out.c0
  have y1:=G3.out.c1
  have y2:=G3.out.c2
  simp only at y0 y1 y2
  have x0:=X3.out.c0
  have f0:=X3.out.fz 0
  have x1:=X3.out.c1
  have f1:=X3.out.fz 1
  have x2:=X3.out.c2
  have f2:=X3.out.fz 2
  go_wp2
  have XF:=X3.out.setv (.int .i64 g1) (.int .i64 M) (.slice A1 es.length cap1)
  have e0:=XF.c0
  have e1:=XF.c1
  have e2:=XF.c2
  have IF:=I3.out.hi H.out (Nat.le_refl _) (set3_below (.int .i64 g1) (.int .i64 M) (.slice A1 es.length cap1) (Below.refl _ _) (Nat.le_refl w.heap.size))
  exact bodyPost_ret (v:= .agg #[.int .i64 g1, .int .i64 M, .slice A1 es.length cap1]) (by simp[results,Tryz.results124,go_sem,e0,e1,e2]) rfl ⟨_,(g1,M,es),rfl,⟨_,rfl,G3.out.i1,G3.out.i2,(G3.out.ow.keep fun c hc=>set3_heap _ _ _ _ _ (by have:=(G3.out.ow.1.lt c hc).1;omega)).mono (by omega)⟩,by simp only;omega,IF.cur,IF.tr⟩
end Go.Proofs.YteobmaambgmdbaaGreat
namespace Go.Proofs.YteobmaambgmdbaaGreat
set_option maxRecDepth 20000
set_option linter.unusedVariables false
set_option linter.unusedSimpArgs false
open Go.RowKit
def trunc (w:World) (N:Nat):World:= {w with heap:=w.heap.extract 0 N}
theorem trunc_size (w:World) (N:Nat) (h:N≤w.heap.size):(trunc w N).heap.size=N:=by
 show(w.heap.extract 0 N).size=N
 simp;omega
theorem trunc_at (w:World) (N b:Nat) (hb:b<N) (h:N≤w.heap.size):(trunc w N).heap[b]? =w.heap[b]? :=by
 show(w.heap.extract 0 N)[b]? =w.heap[b]?
 rw[Array.getElem?_extract]
 simp;omega
theorem push_rows {lo N:Nat} {w:World} {v:Value} {L:List (List Int)} {ops:Array Oper} {rest:List Oper} {o:Oper} {a:Act} {Q:Exit→Act→World→Prop} (hgd:o.guard=none) (s x:Operand)
  (ho:o.op= .call {callee:= .builtin .append,args:= #[s,x],argTypes:= #[38,38]})
  (hown:OwII lo N v L w) (hlo:lo≤N) (hN:N≤w.heap.size) (hs:a.eval s=v) (b:Nat) (z:Value) (d:List Int) {base:Nat} (hx:a.eval x= .slice (some ⟨b,0,none⟩) 1 1)
  (hel:OwI w base z d) (hbase:N≤base) (hc:w.cell? ⟨b,0,none⟩=some z) (hz:z.oneCell'=true) (hl:L.length≤1073741824)
  (h: ∀v' w',OwII lo w'.heap.size v' (L++ [d]) w'→w.grownBy w' v.ownBlock→wpList Tryz.prog ops Q rest (a.put o.dst v') w'):
  wpList Tryz.prog ops Q (o::rest) a w:=by
 have hsz:=trunc_size w N hN
 refine push_ints (w0:=trunc w N) hgd s x ho (lo:=lo) ?_ (by rw[hsz];exact hlo) ?_ hs b z d hx hel (by rw[hsz];exact hbase) hc hz hl h
 ·rw[hsz]
  exact hown.keep EI.stable fun b _ hb=>trunc_at w N b hb hN
 ·rw[hsz]
  exact⟨rfl,rfl,rfl,by rw[hsz];exact hN,fun b hb=>(trunc_at w N b hb hN).symm⟩
theorem OwII.trP {p lo hi:Nat} {w w':World} {v:Value} {L:List (List Int)} (h:OwII lo hi v L w) (ht:Tr p (p+1) w w') (hp:p<lo) (hh:hi≤w.heap.size):OwII lo hi v L w':=
 h.keep EI.stable fun b h1 h2=>ht.block b (by omega) (by omega)
theorem OwII_any {lo hi:Nat} {v:Value} {L:List (List Int)} {w:World} (h:OwII lo hi v L w): ∃A m c,v= .slice A m c:=by
 obtain⟨A,c,hv,_⟩:=h.len
 exact⟨A,_,c,hv⟩
end Go.Proofs.YteobmaambgmdbaaGreat
namespace Go.Proofs.YteobmaambgmdbaaGreat
set_option maxRecDepth 20000
set_option linter.unusedVariables false
set_option linter.unusedSimpArgs false
open Go.RowKit
def WdL (r:Int) (n:Nat) (L:List (List Int)):Prop:= ∀x∈L,x.length≤n∧letR r x∧redP x
set_option maxHeartbeats 2000000 in
theorem l6Words_any (p:Nat) (A:Option Addr) (cap:Nat) (cs:List Int) (r:Int) (w:World) (h:Cur p A cap cs w) (hr1:1≤r) (hr3:r≤3):
  Calls Tryz.prog 159 #[.pointer (some ⟨p,0,none⟩), .int .i64 r] w fun e w'=> ∃(v:Value) (L:List (List Int)),e= .returned v∧OwII w.heap.size w'.heap.size v L w'∧(L.length≤3∧WdL r 5 L)∧Cur p A cap cs w'∧Tr p (p+1) w w':=by
 have H:=hDD h
 have hp:=h.lt
 clear h
 have O1:Hid (OwII w.heap.size (w.heap.size+1) (.slice (some ⟨w.heap.size,0,none⟩) 0 0) [] (w.alloc (.cells #[] 27))):=hDD (OwII_lit w (Nat.le_refl _))
 have I1:Hid (DrI p A cap cs w (w.alloc (.cells #[] 27))):=hDD ((DrI.refl H.out).bel ((Below.refl _ _).alloc (Nat.le_refl _) _))
 go_enter Tryz.func159,Tryz.ntmps159
 go_wp2_with fail
 refine(l1Below_any p A cap cs 4 _ I1.out.cur (by omega) (by omega)).mono ?_
 rintro e w2 ⟨k0,rfl,⟨k00,k05⟩,c2,t2⟩
 have I2:=hDD (I1.out.to t2 c2)
 have O2:=hDD ((O1.out.trP t2 hp (by simp)).widen (Nat.le_refl _) (by have:=t2.size;simpa using this))
 clear c2 t2 O1 I1
 go_wp2
 go_loopw [5,6,7] (fun rv nv _ wr=> ∃(k:Int) (L:List (List Int)),nv= .int .i64 k∧0≤k∧k+L.length≤3∧WdL r 5 L∧OwII w.heap.size wr.heap.size rv L wr∧DrI p A cap cs w wr)
  (fun _ nv _ _=>(intOf nv).toNat)
 case atStart=>exact⟨k0,[],rfl,k00,by simp;omega,fun r hr=>(by cases hr),O2.out,I2.out⟩
 case round=>
  obtain⟨k,L,rfl,hk0,hkm,hL,hO,hI⟩:=hrel
  have HL:=hDD hL
  have HO:=hDD hO
  have HI:=hDD hI
  have hsz:=hI.tr.size
  obtain⟨Ar,cr,rfl,_⟩:=hO.len
  clear hO hI hL
  by_cases hlt:0<k
  ·go_wp2_with fail
   refine(l2Of_any p A cap cs r 5 _ HI.out.cur hr1 hr3 (by omega) (by omega)).mono ?_
   rintro e w3 ⟨xv,xs,rfl,ox,⟨hxl,hxr,hxp⟩,c3,t3⟩
   have I3:=hDD (HI.out.to t3 c3)
   have O3:=hDD (HO.out.trP t3 hp (Nat.le_refl _))
   have HX:Hid (xs.length≤5∧letR r xs∧redP xs):=hDD ⟨by omega,hxr,hxp⟩
   have V3:=hDD ox
   obtain⟨Av,mv,cv,rfl⟩:=ox.any2
   have hs3:=t3.size
   have hwk:IntKind.i64.wrap (k-1)=k-1:=by rw[IntKind.wrap_i64];omega
   clear c3 t3 ox hxr hxp hxl
   go_wp2_with (at_builtin;refine push_rows rfl (.tmp 18) (.tmp 20) rfl (O3.out.keep (w':=w3.alloc (.cells #[.slice Av mv cv] 27)) EI.stable fun b _ hb=>Below.heap_alloc w3 _ b (by omega)) hsz (by simp;omega) rfl _ _ xs rfl (V3.out.alloc _) (Nat.le_refl _) (cell_new1 _ _ _) rfl (by omega) ?_;intro v6 w6 o6 g6;have O6:=hDD o6;have G6:=hDD g6;obtain⟨A6,m6,c6,rfl⟩:=OwII_any o6;clear o6 g6)
   have I6:=hDD ((I3.out.bel ((Below.refl _ _).alloc (Nat.le_refl _) (.cells #[.slice Av mv cv] 27))).grow H.out G6.out fun b hb=>(HO.out.lt hb).1)
   go_roundw
   case rel=>
    refine⟨k-1,_,by go_num,by omega,by simp;omega,fun r hr=> ?_,O6.out,I6.out⟩
    rcases List.mem_append.1 hr with hr | hr
    ·exact HL.out r hr
    ·rw[List.mem_singleton] at hr
     rw[hr]
     exact HX.out
   case measure=>(simp[intOf];omega)
  ·go_wp2
   exact bodyPost_ret (v:= .slice Ar L.length cr) (by simp[results,Tryz.results159,go_sem]) rfl ⟨_,rfl,L,HO.out,⟨by omega,HL.out⟩,HI.out.cur,HI.out.tr⟩
theorem lenLL_succ (L:List (List Int)) (k:Nat) (h:k<L.length):lenLL (L.take (k+1))=lenLL (L.take k)+L[k].length:=by
 unfold lenLL
 rw[List.take_succ_eq_append_getElem h,List.map_append,List.sum_append]
 simp only[List.map_cons,List.map_nil,List.sum_cons,List.sum_nil,Nat.add_zero]
theorem lenLL_takeA (L:List (List Int)) (k:Nat):lenLL (L.take k)≤lenLL L:=by
 unfold lenLL
 conv=>rhs;rw[←List.take_append_drop k L,List.map_append,List.sum_append]
 omega
set_option maxHeartbeats 1000000 in
theorem specTotalLength_any (v:Value) (L:List (List Int)) (w:World) (h:RdII w v L) (hl:L.length≤1073741824) (hn:lenLL L≤1073741824):
  Calls Tryz.prog 203 #[v] w fun e w'=>e= .returned (.int .i64 (lenLL L))∧w=w':=by
 have H:=hDD h
 obtain⟨A,cap,rfl,hcap,hm,_⟩:=h.form
 unfold maxLen at hm
 clear h
 go_enter Tryz.func203,Tryz.ntmps203
 go_wp2
 go_loopw [3,4] (fun n i wr=> ∃k:Nat,k≤L.length∧i= .int .i64 k∧n= .int .i64 (lenLL (L.take k))∧w=wr) (fun _ i _=>L.length-(intOf i).toNat)
 case atStart=>exact⟨0,Nat.zero_le _,rfl,rfl,rfl⟩
 case round=>
  obtain⟨k,hk,rfl,rfl,rfl⟩:=hrel
  by_cases hlt:k<L.length
  ·obtain⟨b,off,A1,cap1,rfl,hb,hc,_,_,hr⟩:=H.out.at hlt
   have HS:=hDD (lenLL_succ L k hlt)
   have hs:=HS.out
   have ht:=lenLL_takeA L (k+1)
   have hkI:(k:Int)<(L.length:Int):=by omega
   clear hr
   generalize L[k]=x at*
   have hwa:IntKind.i64.wrap ((lenLL (L.take k):Int)+(x.length:Int))=((lenLL (L.take k)+x.length:Nat):Int):=by rw[IntKind.wrap_i64];omega
   generalize lenLL (L.take k)=m at*
   clear hs ht
   go_wp2
   go_roundw
   case rel=>exact⟨k+1,by omega,by go_num,by rw[HS.out];go_num,trivial⟩
   case measure=>(first | omega | (simp[intOf];omega))
  ·obtain rfl:k=L.length:=by omega
   rw[List.take_length]
   obtain⟨m,hm'⟩: ∃m,m=lenLL L:=⟨_,rfl⟩
   rw[←hm']
   have HM:=hDD hm'
   clear hm'
   go_wp2
   exact bodyPost_ret (v:= .int .i64 m) (by simp[results,Tryz.results203,go_sem]) rfl ⟨by rw[HM.out],rfl⟩
def areW (r:Int) (L:List (List Int)):Bool:=L.all (wordB r)&&(inB r 1 3&&(decide (L.length≤6)&&decide (lenLL L<40)))
set_option maxHeartbeats 1000000 in
theorem specAreWords_any (r:Int) (v:Value) (L:List (List Int)) (w:World) (h:RdII w v L) (hl:L.length≤1073741824) (hn:lenLL L≤1073741824) (hx: ∀x∈L,x.length≤1073741824):
  Calls Tryz.prog 185 #[.int .i64 r,v] w fun e w'=>e= .returned (.bool (areW r L))∧ ∃n,w'=w.drewN n:=by
 have H:=hDD h
 have HX:=hDD hx
 obtain⟨A,cap,rfl,hcap,hm,_⟩:=h.form
 unfold maxLen at hm
 have HR:Hid (areW r L=(L.all (wordB r)&&(inB r 1 3&&(decide (L.length≤6)&&decide (lenLL L<40))))):=hDD rfl
 generalize areW r L=res at*
 clear h hx
 go_enter Tryz.func185,Tryz.ntmps185
 go_wp2
 go_loopw [5] (fun i wr=> ∃k:Nat,k≤L.length∧i= .int .i64 k∧(∀x∈L.take k,wordB r x=true)∧ ∃n,wr=w.drewN n) (fun i _=>L.length-(intOf i).toNat)
 case atStart=>exact⟨0,Nat.zero_le _,rfl,by simp,0,rfl⟩
 case round=>
  obtain⟨k,hk,rfl,hno,n,rfl⟩:=hrel
  have HNO:=hDD hno
  clear hno
  by_cases hlt:k<L.length
  ·obtain⟨b,off,A1,cap1,rfl,hb,hc,_,_,hr⟩:=H.out.at hlt
   have HT:Hid (L.take (k+1)=L.take k++ [L[k]]):=hDD (List.take_succ_eq_append_getElem hlt)
   have HM:=hDD (List.getElem_mem hlt)
   have HRD:=hDD hr
   have hkI:(k:Int)<(L.length:Int):=by omega
   clear hr
   generalize L[k]=x at*
   have hxl:=HX.out x HM.out
   rcases e1:wordB r x with _ | _
   ·have HE:=hDD fun w (h:ArgI w (.slice A1 x.length cap1) x)=>specIsWord_any r _ x w h hxl
    rw[e1] at HE
    have HF:Hid (res=false):=hDD (by
     rw[HR.out]
     have:L.all (wordB r)=false:=by
      rw[List.all_eq_false]
      exact⟨x,HM.out,by simp[e1]⟩
     rw[this];rfl)
    clear e1 hxl
    go_wp2_with (go_at_call 11;refine(HE.out _ (HRD.out.drewN n).arg).mono ?_;rintro e w1 ⟨rfl,n1,rfl⟩)
    rw[HF.out]
    exact bodyPost_ret (v:= .bool false) (by simp[results,Tryz.results185,go_sem]) rfl ⟨rfl,_,rfl⟩
   ·have HE:=hDD fun w (h:ArgI w (.slice A1 x.length cap1) x)=>specIsWord_any r _ x w h hxl
    rw[e1] at HE
    have HW:=hDD e1
    clear e1 hxl
    go_wp2_with (go_at_call 11;refine(HE.out _ (HRD.out.drewN n).arg).mono ?_;rintro e w1 ⟨rfl,n1,rfl⟩)
    go_roundw
    case rel=>exact⟨k+1,by omega,by go_num,fun y hy=>by
     rw[HT.out] at hy
     rcases List.mem_append.1 hy with hy | hy
     ·exact HNO.out y hy
     ·rw[List.mem_singleton.1 hy];exact HW.out,_,rfl⟩
    case measure=>(first | omega | (simp[intOf];omega))
  ·obtain rfl:k=L.length:=by omega
   have HA:Hid (L.all (wordB r)=true):=hDD (by rw[List.all_eq_true];have:=HNO.out;rwa [List.take_length] at this)
   have HR2:Hid (res=(inB r 1 3&&(decide (L.length≤6)&&decide (lenLL L<40)))):=hDD (by rw[HR.out,HA.out,Bool.true_and])
   rcases e1:inB r 1 3 with _ | _
   ·have HF:Hid (res=false):=hDD (by rw[HR2.out,e1];rfl)
    go_wp2_with (go_at_call 68;refine(l1In_any _ _ _ _).mono ?_;rintro e w' ⟨rfl,rfl⟩)
    rw[HF.out]
    exact bodyPost_ret (v:= .bool false) (by simp[results,Tryz.results185,go_sem]) rfl ⟨rfl,_,rfl⟩
   ·by_cases h6:L.length≤6
    ·have HF:Hid (res=decide (lenLL L<40)):=hDD (by rw[HR2.out,e1,decide_eq_true h6];rfl)
     have h6I:(L.length:Int)≤6:=by omega
     have HTL:=hDD (fun w (h:RdII w (.slice A L.length cap) L)=>specTotalLength_any _ L w h hl hn)
     generalize lenLL L=m at*
     go_wp2_with (first | (go_at_call 68;refine(l1In_any _ _ _ _).mono ?_;rintro e w' ⟨rfl,rfl⟩) | (go_at_call 203;refine(HTL.out _ (H.out.drewN n)).mono ?_;rintro e w' ⟨rfl,rfl⟩))
     rw[HF.out]
     by_cases h40:m<40
     ·have h40I:(m:Int)<40:=by omega
      exact bodyPost_ret (v:= .bool true) (by simp[results,Tryz.results185,go_sem,h40I]) rfl ⟨by rw[decide_eq_true h40],_,rfl⟩
     ·have h40I: ¬(m:Int)<40:=by omega
      exact bodyPost_ret (v:= .bool false) (by simp[results,Tryz.results185,go_sem,h40I]) rfl ⟨by rw[decide_eq_false h40],_,rfl⟩
    ·have HF:Hid (res=false):=hDD (by rw[HR2.out,e1,decide_eq_false h6];rfl)
     have h6I: ¬(L.length:Int)≤6:=by omega
     go_wp2_with (go_at_call 68;refine(l1In_any _ _ _ _).mono ?_;rintro e w' ⟨rfl,rfl⟩)
     rw[HF.out]
     exact bodyPost_ret (v:= .bool false) (by simp[results,Tryz.results185,go_sem]) rfl ⟨rfl,_,rfl⟩
end Go.Proofs.YteobmaambgmdbaaGreat
namespace Go.Proofs.YteobmaambgmdbaaGreat
set_option maxRecDepth 20000
set_option linter.unusedVariables false
set_option linter.unusedSimpArgs false
open Go.RowKit
set_option maxHeartbeats 4000000 in
theorem specAddPath_nil (v y:Value) (g:GrD) (a b:Int) (w:World) (h:ArgG w v g) (ht:RdI w y []) (hg:grB g=true) (ha:0≤a∧a<g.2.1) (hb:0≤b∧b<g.2.1):
  Calls Tryz.prog 103 #[v, .int .i64 a,y, .int .i64 b] w fun x w'=> ∃r,x= .returned (.tuple #[r, .bool false])∧OwG w' w.heap.size r g∧Below w.heap.size w w':=by
 have HG:=hDD h
 have HY:=hDD ht
 have HGR:=hDD hg
 have HW:=hDD (show wordB g.1 []=true by unfold wordB;rw[inB_iff.2 (grB_parts hg).1];rfl)
 have HA:=hDD ha
 have HBV:=hDD hb
 obtain⟨h13,h40,h120,_⟩:=grB_parts hg
 obtain⟨s,rfl,hi1,hi2,hga⟩:=h
 obtain⟨A,cap,rfl⟩:=hga.form
 obtain⟨T,tc,rfl,_⟩:=ht.arg
 obtain⟨g1,N,es⟩:=g
 simp only at*
 clear hga hg ha hb
 go_enter Tryz.func103,Tryz.ntmps103
 go_wp2_with fail
 obtain⟨W1,hW1⟩: ∃W,W=w.alloc (Obj.cells #[Value.int IntKind.i64 g1,Value.int IntKind.i64 N, .slice A es.length cap] 26):=⟨_,rfl⟩
 rw[←hW1]
 obtain⟨hs1,b1,hc1,_⟩:=gbox hW1
 obtain⟨W,hW⟩: ∃W,W=W1.alloc (Obj.cells #[Value.int IntKind.i64 0,Value.int IntKind.i64 0, .slice none 0 0] 26):=⟨_,rfl⟩
 rw[←hW]
 obtain⟨hs2,b2,hc2,hf2⟩:=gbox hW
 have hsW:W.heap.size=w.heap.size+2:=by omega
 have HC1:=hDD hc1
 have HC2:=hDD hc2
 have HF2:=hDD hf2
 have BX1:=hDD b1
 have BX2:=hDD b2
 have BX:Hid (Below w.heap.size w W):=hDD (b1.trans (b2.mono (by omega)))
 have HCL:Hid (∀w',Below (w.heap.size+2) W w'→w'.cell? ⟨w.heap.size,0,none⟩=some (.int .i64 g1)∧w'.cell? ⟨w.heap.size,1,none⟩=some (.int .i64 N)∧w'.cell? ⟨w.heap.size,2,none⟩=some (.slice A es.length cap)):=hDD fun w' hb=>HC1.out w' ((BX2.out.mono (by omega)).trans (hb.mono (by omega)))
 have HRC:Hid (∀w',Below (w.heap.size+2) W w'→(w'.cell? ⟨w.heap.size+1,0,none⟩=some (.int .i64 0)∧w'.cell? ⟨w.heap.size+1,1,none⟩=some (.int .i64 0)∧w'.cell? ⟨w.heap.size+1,2,none⟩=some (.slice none 0 0))∧ ∀j,w'.frozen? ⟨w.heap.size+1,j,none⟩=false):=hDD fun w' hb=>by
  have e:Below (W1.heap.size+1) W w':=hb.mono (by omega)
  have h1:=HC2.out w' e
  have h2:=fun j=>HF2.out j w' e
  rw[hs1] at h1 h2
  exact⟨h1,h2⟩
 have HAG:Hid (∀w',Below (w.heap.size+2) W w'→ArgG w' (.agg #[.int .i64 g1, .int .i64 N, .slice A es.length cap]) (g1,N,es)):=hDD fun w' hb=>HG.out.below (BX.out.trans (hb.mono (by omega)))
 have HAT:Hid (∀w',Below (w.heap.size+2) W w'→RdI w' (.slice T 0 tc) []):=hDD fun w' hb=>HY.out.below (BX.out.trans (hb.mono (by omega)))
 clear hW1 hW hc1 hc2 hf2 b1 b2 HC1 HC2 HF2 BX1 BX2 hs1 hs2
 obtain⟨q0,q1,q2⟩:=HCL.out W ((Below.refl W.heap.size W).mono (by omega))
 refine(l4Copy_any _ (g1,N,es) W (HAG.out W ((Below.refl W.heap.size W).mono (by omega))) (by simp only;omega)).mono ?_
 clear q0 q1 q2
 rintro e w5 ⟨r,rfl,o5,b5⟩
 have hs5:=b5.size
 have B5:Hid (Below (w.heap.size+2) W w5):=hDD (b5.mono (by omega))
 obtain⟨s1,rfl,_,_,oe5⟩:=o5
 obtain⟨A1,c1,rfl,_⟩:=oe5.form
 simp only at*
 clear b5
 have b6':Below w5.heap.size w5 (w5.alloc (Obj.cells #[Value.int IntKind.i64 g1,Value.int IntKind.i64 N, .slice A1 es.length c1] 26)):=(Below.refl _ _).alloc (Nat.le_refl _) _
 obtain⟨q0,q1,q2⟩:=HCL.out _ (B5.out.trans (b6'.mono (by omega)))
 clear b6'
 go_wp2_with fail
 clear q0 q1 q2
 obtain⟨W6,hW6⟩: ∃W,W=w5.alloc (Obj.cells #[Value.int IntKind.i64 g1,Value.int IntKind.i64 N, .slice A1 es.length c1] 26):=⟨_,rfl⟩
 have GB6:=hDD (GBx.new (m:=(g1,N,es)) oe5 hi1 hi2 hW6)
 obtain⟨hs6,b6,_,_⟩:=gbox hW6
 rw[←hW6]
 have B6:Hid (Below (w.heap.size+2) W W6):=hDD (B5.out.trans (b6.mono (by omega)))
 clear hW6 b6 oe5
 obtain⟨p,hp⟩: ∃p,p=w5.heap.size:=⟨_,rfl⟩
 rw[←hp] at GB6⊢
 have hpw:w.heap.size+2≤p:=by omega
 have hp6:p<W6.heap.size:=by omega
 clear hp hs6 hs5
 have HIG:=hDD (specIsGraph_any _ (g1,N,es) W6 (HAG.out W6 B6.out))
 rw[HGR.out] at HIG
 refine HIG.out.mono ?_
 clear HIG
 rintro e w7 ⟨rfl,b7⟩
 have B7:=hDD (B6.out.trans (b7.mono (by have:=B6.out.size;omega)))
 have GB7:=hDD (GB6.out.below b7)
 clear b7
 obtain⟨q0,q1,q2⟩:=HCL.out w7 B7.out
 have E1:inB a 0 (N-1)=true:=by unfold inB;simp;have:=HA.out;omega
 have E2:inB b 0 (N-1)=true:=by unfold inB;simp;have:=HBV.out;omega
 have EW:=hDD (specIsWord_any g1 _ [] w7 (HAT.out w7 B7.out).arg (by simp))
 rw[HW.out] at EW
 go_wp2_with (go_at_call 68;refine(l1In_any _ _ _ _).mono ?_;rintro e w' ⟨rfl,rfl⟩)
 refine EW.out.mono ?_
 clear EW E1 E2 q0 q1 q2
 rintro e w8 ⟨rfl,nd,rfl⟩
 obtain⟨w8,hw8⟩: ∃W,W=w7.drewN nd:=⟨_,rfl⟩
 rw[←hw8]
 have B8:Hid (Below (w.heap.size+2) W w8):=hDD (by rw[hw8];exact bel_drewN B7.out _)
 have GB8:Hid (GBx w8 p W.heap.size A1 c1 (g1,N,es)):=hDD (by rw[hw8];exact GB7.out.below (bel_drewN (Below.refl _ _) _))
 clear hw8
 obtain⟨q0,q1,q2⟩:=HCL.out w8 B8.out
 have z0:=GB8.out.c0
 have z1:=GB8.out.c1
 have z2:=GB8.out.c2
 simp only at z0 z1 z2
 obtain⟨⟨r0,r1,r2⟩,hrf⟩:=HRC.out w8 B8.out
 have rf0:=hrf 0
 have rf1:=hrf 1
 have rf2:=hrf 2
 clear hrf
 go_wp2
 obtain⟨e0,e1,e2⟩:=cells3F (.int .i64 g1) (.int .i64 N) (.slice A1 es.length c1) r0 r1 r2
 have bw:Below w.heap.size w (((w8.setCell ⟨w.heap.size+1,0,none⟩ (.int .i64 g1)).setCell ⟨w.heap.size+1,1,none⟩ (.int .i64 N)).setCell ⟨w.heap.size+1,2,none⟩ (.slice A1 es.length c1)):=set3_below _ _ _ (BX.out.trans (B8.out.mono (by omega))) (by omega)
 have ow:OwE (((w8.setCell ⟨w.heap.size+1,0,none⟩ (.int .i64 g1)).setCell ⟨w.heap.size+1,1,none⟩ (.int .i64 N)).setCell ⟨w.heap.size+1,2,none⟩ (.slice A1 es.length c1)) W.heap.size (.slice A1 es.length c1) es:=GB8.out.ow.keep fun b hb=>set3_heap _ _ _ _ _ (by have:=(GB8.out.ow.1.lt b hb).1;omega)
 exact bodyPost_ret (v:= .tuple #[.agg #[.int .i64 g1, .int .i64 N, .slice A1 es.length c1], .bool false]) (by simp[results,Tryz.results103,go_sem,e0,e1,e2]) rfl ⟨_,rfl,⟨.slice A1 es.length c1,rfl,hi1,hi2,ow.mono (by omega)⟩,bw⟩
def petG (g:GrD) (t:List Int):GrD:=if t= [] then g else if addOk g t=true then addG g 0 0 t else g
def petB (g:GrD) (t:List Int):Bool:=if t= [] then false else addOk g t
theorem petG_ok {g:GrD} {t:List Int} (hg:grB g=true) (hw:wordB g.1 t=true):grB (petG g t)=true∧(petG g t).1=g.1∧(petG g t).2.2.length≤g.2.2.length+t.length:=by
 have hr:=(grB_parts hg).2.1
 unfold petG
 split
 ·exact⟨hg,rfl,by omega⟩
 ·rename_i h0
  have h0':t.length≠0:=fun q=>h0 (List.eq_nil_of_length_eq_zero q)
  split
  ·rename_i hok
   refine⟨addG_gr hg (by omega) (by omega) hw h0' hok,rfl,?_⟩
   have h1:=srt_len (c:=cmpE) (g.2.2++pthL g.2.1.toNat 0 0 t t.length)
   rw[List.length_append,pthL_len] at h1
   exact h1
  ·exact⟨hg,rfl,by omega⟩
theorem addPath0_any (v y:Value) (g:GrD) (t:List Int) (w:World) (h:ArgG w v g) (ht:RdI w y t) (hg:grB g=true) (hw:wordB g.1 t=true) (hl:t.length≤1073741824):
  Calls Tryz.prog 103 #[v, .int .i64 0,y, .int .i64 0] w fun x w'=> ∃r,x= .returned (.tuple #[r, .bool (petB g t)])∧OwG w' w.heap.size r (petG g t)∧Below w.heap.size w w':=by
 have hr:=(grB_parts hg).2.1
 by_cases h0:t= []
 ·subst h0
  refine(specAddPath_nil v y g 0 0 w h ht hg (by omega) (by omega)).mono fun x w' ⟨r,e,o,b⟩=>⟨r,e,?_,b⟩
  unfold petG;rw[if_pos rfl];exact o
 ·refine(specAddPath_any v y g 0 0 t w h ht hg (by omega) (by omega) hw (fun q=>h0 (List.eq_nil_of_length_eq_zero q)) hl).mono fun x w' ⟨r,e,o,b⟩=>⟨r,?_,?_,b⟩
  ·unfold petB;rw[if_neg h0];exact e
  ·unfold petG;rw[if_neg h0];exact o
set_option maxHeartbeats 2000000 in
theorem specAddPetal_any (v y:Value) (g:GrD) (t:List Int) (w:World) (h:ArgG w v g) (ht:RdI w y t) (hg:grB g=true) (hw:wordB g.1 t=true) (hl:t.length≤1073741824):
  Calls Tryz.prog 186 #[v,y] w fun x w'=> ∃r,x= .returned (.tuple #[r, .bool (petB g t)])∧OwG w' w.heap.size r (petG g t)∧Below w.heap.size w w':=by
 have HP:=hDD (fun W v (h:ArgG W v g) (h':RdI W y t)=>addPath0_any v y g t W h h' hg hw hl)
 generalize petG g t=pg at*
 generalize petB g t=o at*
 have HG:=hDD h
 have HY:=hDD ht
 obtain⟨s,rfl,hi1,hi2,hga⟩:=h
 obtain⟨A,cap,rfl⟩:=hga.form
 obtain⟨T,tc,rfl,_⟩:=ht.arg
 obtain⟨g1,N,es⟩:=g
 obtain⟨p1,p2,ps⟩:=pg
 simp only at*
 clear hga hg hw
 go_enter Tryz.func186,Tryz.ntmps186
 go_wp2_with fail
 obtain⟨W1,hW1⟩: ∃W,W=w.alloc (Obj.cells #[Value.int IntKind.i64 g1,Value.int IntKind.i64 N, .slice A es.length cap] 26):=⟨_,rfl⟩
 rw[←hW1]
 obtain⟨_,b1,s1⟩:=CBx.new hW1
 obtain⟨W2,hW2⟩: ∃W,W=W1.alloc (Obj.cells #[Value.int IntKind.i64 0,Value.int IntKind.i64 0, .slice none 0 0] 26):=⟨_,rfl⟩
 rw[←hW2]
 obtain⟨x2,b2,s2⟩:=CBx.new hW2
 rw[s1] at x2
 have X2:=hDD x2
 have B2:Hid (Below w.heap.size w W2):=hDD (b1.trans (b2.mono (by omega)))
 clear hW1 hW2 b1 b2 x2
 refine(HP.out W2 _ (HG.out.below B2.out) (HY.out.below B2.out)).mono ?_
 rintro e w3 ⟨r,rfl,⟨s3,rfl,hj1,hj2,oe3⟩,b3⟩
 obtain⟨A3,c3,rfl,_⟩:=oe3.form
 simp only at hj1 hj2 oe3⊢
 have O3:=hDD oe3
 have X3:=hDD (X2.out.below b3)
 have B3:=hDD (B2.out.trans (b3.mono (by omega)))
 have hs3:=b3.size
 clear oe3 b3 X2 B2
 have u0:=X3.out.c0
 have u1:=X3.out.c1
 have u2:=X3.out.c2
 have f0:=X3.out.fz 0
 have f1:=X3.out.fz 1
 have f2:=X3.out.fz 2
 have hlt:=X3.out.lt
 go_wp2
 have XF:=X3.out.setv (.int .i64 p1) (.int .i64 p2) (.slice A3 ps.length c3)
 have BF:=set3_below (.int .i64 p1) (.int .i64 p2) (.slice A3 ps.length c3) B3.out (show w.heap.size≤w.heap.size+1 by omega)
 have OF:OwE (((w3.setCell ⟨w.heap.size+1,0,none⟩ (.int .i64 p1)).setCell ⟨w.heap.size+1,1,none⟩ (.int .i64 p2)).setCell ⟨w.heap.size+1,2,none⟩ (.slice A3 ps.length c3)) W2.heap.size (.slice A3 ps.length c3) ps:=O3.out.keep fun c hc=>set3_heap _ _ _ _ _ (by have:=(O3.out.1.lt c hc).1;omega)
 have hsF:=set3_size w3 (w.heap.size+1) (.int .i64 p1) (.int .i64 p2) (.slice A3 ps.length c3)
 generalize ((w3.setCell ⟨w.heap.size+1,0,none⟩ (.int .i64 p1)).setCell ⟨w.heap.size+1,1,none⟩ (.int .i64 p2)).setCell ⟨w.heap.size+1,2,none⟩ (.slice A3 ps.length c3)=w5 at*
 have bz:Below w5.heap.size w5 (w5.alloc (Obj.cells #[Value.int IntKind.i64 p1,Value.int IntKind.i64 p2, .slice A3 ps.length c3] 26)):=(Below.refl _ _).alloc (Nat.le_refl _) _
 have e0:=(XF.below bz).c0
 have e1:=(XF.below bz).c1
 have e2:=(XF.below bz).c2
 exact bodyPost_ret (v:= .tuple #[.agg #[.int .i64 p1, .int .i64 p2, .slice A3 ps.length c3], .bool o]) (by simp[results,Tryz.results186,go_sem,e0,e1,e2]) rfl ⟨_,rfl,⟨_,rfl,hj1,hj2,(OF.below bz).mono (by omega)⟩,BF.trans (bz.mono (by omega))⟩
end Go.Proofs.YteobmaambgmdbaaGreat
namespace Go.Proofs.YteobmaambgmdbaaGreat
set_option maxRecDepth 20000
set_option linter.unusedVariables false
set_option linter.unusedSimpArgs false
open Go.RowKit
def isT (W:World) (q:Nat) (t:TypeId):Prop:= ∃arr fr,W.heap[q]? =some (.cells arr t fr)
theorem isT.lt {W:World} {q:Nat} {t:TypeId} (h:isT W q t):q<W.heap.size:=by
 obtain⟨_,_,h⟩:=h
 rcases Nat.lt_or_ge q W.heap.size with h' | h'
 ·exact h'
 ·rw[Array.getElem?_eq_none h'] at h;cases h
theorem isT.new (w:World) (arr:Array Value) (t:TypeId):isT (w.alloc (.cells arr t)) w.heap.size t:=⟨arr,(0,0),by show(w.heap.push _)[w.heap.size]? =_;simp⟩
theorem isT.below {W W':World} {q:Nat} {t:TypeId} (h:isT W q t) (hb:Below W.heap.size W W'):isT W' q t:=by
 have:=h.lt
 obtain⟨a,f,h⟩:=h
 exact⟨a,f,(hb.block q this).trans h⟩
theorem isT.set {W:World} {q:Nat} {t:TypeId} (h:isT W q t) (a:Addr) (v:Value):isT (W.setCell a v) q t:=by
 obtain⟨c,f,h⟩:=h
 by_cases e:a.block=q
 ·subst e
  refine⟨if a.spot.isSome then c else c.setIfInBounds a.off v,f,?_⟩
  show(W.heap.modify a.block _)[a.block]? =_
  rw[Array.getElem?_modify,if_pos rfl,h]
  rfl
 ·refine⟨c,f,?_⟩
  show(W.heap.modify a.block _)[q]? =_
  rw[Array.getElem?_modify,if_neg e,h]
theorem OwE.notG {W:World} {base q:Nat} {v:Value} {es:List EdD} (h:OwE W base v es) (hq:isT W q 26): ∀b,v.ownBlock=some b→b≠q:=fun b hb e=>by
 subst e
 obtain⟨c,f,hq⟩:=hq
 rcases h.1.2 with ⟨hv,_⟩ | ⟨g,cap,cur,hv,_,hh,_⟩
 ·rw[hv] at hb;cases hb
 ·rw[hv] at hb
  have:g=b:=by simpa[Value.ownBlock] using hb
  subst this
  rw[hh] at hq
  injection hq with hq
  injection hq with _ e2 _
  exact absurd e2 (by decide)
def floF (r:Int) (L:List (List Int)):GrD:=L.foldl petG (r,1,[])
theorem areW_parts {r:Int} {L:List (List Int)} (h:areW r L=true):(∀x∈L,wordB r x=true)∧(1≤r∧r≤3)∧L.length≤6∧lenLL L<40:=by
 unfold areW at h
 simp only[Bool.and_eq_true,List.all_eq_true,decide_eq_true_eq] at h
 exact⟨h.1,inB_iff.1 h.2.1,h.2.2.1,h.2.2.2⟩
theorem flo_ok {r:Int} {L:List (List Int)} (hr:1≤r∧r≤3) (h: ∀x∈L,wordB r x=true): ∀k,k≤L.length→grB ((L.take k).foldl petG (r,1,[]))=true∧((L.take k).foldl petG (r,1,[])).1=r
 | 0,_=>⟨grB_of hr ⟨show(1:Int)≤1 by decide,show(1:Int)≤40 by decide⟩ (by simp) List.Pairwise.nil (fun _ h=>by cases h),rfl⟩
 | k+1,hk=>by
   have ih:=flo_ok hr h k (by omega)
   rw[List.take_succ_eq_append_getElem (by omega),List.foldl_append]
   have hx:=h _ (List.getElem_mem (show k<L.length by omega))
   rw[←ih.2] at hx
   have:=petG_ok ih.1 hx
   exact⟨this.1,this.2.1.trans ih.2⟩
theorem isT.set3 {W:World} {q:Nat} {t:TypeId} (h:isT W q t) (p:Nat) (a b c:Value):isT (((W.setCell ⟨p,0,none⟩ a).setCell ⟨p,1,none⟩ b).setCell ⟨p,2,none⟩ c) q t:=((h.set _ _).set _ _).set _ _
theorem len_mem_LL {x:List Int}: ∀ {L:List (List Int)},x∈L→x.length≤lenLL L
 | a::L,h=>by
   unfold lenLL
   simp only[List.map_cons,List.sum_cons]
   rcases List.mem_cons.1 h with rfl | h
   ·omega
   ·have:=len_mem_LL h
    unfold lenLL at this
    omega
set_option maxRecDepth 100000 in
set_option maxHeartbeats 4000000 in
theorem specFlowerOf_any (r:Int) (v:Value) (L:List (List Int)) (w:World) (h:RdII w v L) (hW:areW r L=true):
  Calls Tryz.prog 168 #[.int .i64 r,v] w fun x w'=> ∃rv,x= .returned (.tuple #[rv, .bool true])∧OwG w' w.heap.size rv (floF r L)∧Below w.heap.size w w':=by
 obtain⟨hwd,hr,hL6,hL40⟩:=areW_parts hW
 have hlen: ∀x∈L,x.length≤1073741824:=fun x hx=>by
  have:=len_mem_LL hx
  omega
 have HWD:=hDD hwd
 have HLN:=hDD hlen
 have HFO:=hDD (fun k hk=>flo_ok hr hwd k hk)
 have HAW:=hDD (fun W (h:RdII W v L)=>specAreWords_any r v L W h (by omega) (by omega) hlen)
 rw[hW] at HAW
 have H:=hDD h
 have hrI:I64 r:=⟨by omega,by omega⟩
 have hinr:inB r 1 3=true:=inB_iff.2 hr
 have HNG:=hDD (fun W=>specNewGraph_any r W hrI)
 rw[hinr] at HNG
 simp only[if_true] at HNG
 obtain⟨A,cap,rfl,hcap,hm,_⟩:=h.form
 unfold maxLen at hm
 clear h hW hwd hlen hinr
 go_enter Tryz.func168,Tryz.ntmps168
 go_wp2_with fail
 obtain⟨W0,hW0⟩: ∃W,W=w.alloc (Obj.cells #[Value.int IntKind.i64 0,Value.int IntKind.i64 0, .slice none 0 0] 26):=⟨_,rfl⟩
 rw[←hW0]
 obtain⟨xb,b0,s0⟩:=CBx.new hW0
 clear hW0
 have XB:=hDD xb
 have B0:=hDD b0
 clear xb b0
 refine(HAW.out _ (H.out.below B0.out)).mono ?_
 rintro e w1 ⟨rfl,nd,rfl⟩
 obtain⟨w1,hw1⟩: ∃W,W=W0.drewN nd:=⟨_,rfl⟩
 rw[←hw1]
 have bd:Below W0.heap.size W0 w1:=by rw[hw1];exact bel_drewN (Below.refl _ _) _
 have X1:=hDD (XB.out.below bd)
 have B1:=hDD (B0.out.trans (bd.mono (by omega)))
 have hs1:=bd.size
 clear hw1 bd XB B0 HAW
 go_wp2_with fail
 refine(HNG.out w1).mono ?_
 rintro e w2 ⟨rfl,b2⟩
 have X2:=hDD (X1.out.below b2)
 have B2:=hDD (B1.out.trans (b2.mono (by omega)))
 have hs2:=b2.size
 clear b2 X1 B1 HNG
 go_wp2_with fail
 obtain⟨W3,hW3⟩: ∃W,W=w2.alloc (Obj.cells #[Value.int IntKind.i64 r,Value.int IntKind.i64 1, .slice none 0 0] 26):=⟨_,rfl⟩
 have g3:GBx W3 w2.heap.size (w.heap.size+1) none 0 (r,1,[]):=GBx.new (base:=w.heap.size+1) (m:=(r,1,[])) OwE.nil hrI (show I64 1 from⟨by omega,by omega⟩) hW3
 obtain⟨_,b3,s3⟩:=CBx.new hW3
 rw[←hW3]
 have G3:=hDD g3
 have X3:=hDD (X2.out.below b3)
 have B3:=hDD (B2.out.trans (b3.mono (by omega)))
 clear hW3 g3 b3 X2 B2
 generalize hb:w2.heap.size=b at*
 have hbw:w.heap.size+1≤b:=by omega
 clear hb hs2 hs1
 go_loopw [8] (fun nv wr=> ∃(k:Nat) (Ar:Option Addr) (cr:Nat),k≤L.length∧nv= .int .i64 k∧GBx wr b (w.heap.size+1) Ar cr ((L.take k).foldl petG (r,1,[]))∧CBx wr w.heap.size (.int .i64 0) (.int .i64 0) (.slice none 0 0)∧Below w.heap.size w wr) (fun nv _=>L.length-(intOf nv).toNat)
 case atStart=>exact⟨0,none,0,Nat.zero_le _,rfl,G3.out,X3.out,B3.out⟩
 case round=>
  obtain⟨k,Ar,cr,hk,rfl,hG,hX,hB⟩:=hrel
  have HGO:=hDD (HFO.out k hk)
  have HG:=hDD hG
  have HX:=hDD hX
  have HB:=hDD hB
  have hsr:=hB.size
  have hbr:=hG.lt
  clear hG hX hB
  by_cases hlt:k<L.length
  ·obtain⟨lb,off,A1,cap1,rfl,hlb,hc,_,_,hrd⟩:=(H.out.below HB.out).at hlt
   have HRD:=hDD hrd
   have HC:=hDD hc
   have HT:Hid ((L.take (k+1)).foldl petG (r,1,[])=petG ((L.take k).foldl petG (r,1,[])) L[k]):=hDD (by rw[List.take_succ_eq_append_getElem hlt,List.foldl_append];rfl)
   have HM:=hDD (List.getElem_mem hlt)
   have hkI:(k:Int)<(L.length:Int):=by omega
   clear hrd hc
   generalize (L.take k).foldl petG (r,1,[])=g at*
   generalize L[k]=x at*
   have hxl:=HLN.out x HM.out
   have HPE:=hDD (fun W v (h:ArgG W v g) (h':RdI W (.slice A1 x.length cap1) x)=>specAddPetal_any v _ g x W h h' HGO.out.1 (by rw[HGO.out.2];exact HWD.out x HM.out) hxl)
   generalize petG g x=pg at*
   generalize petB g x=o at*
   obtain⟨g1,M,es⟩:=g
   obtain⟨p1,p2,ps⟩:=pg
   simp only at*
   go_wp2_with fail
   refine wp_region_gen [.val (.agg #[.int .i64 g1, .int .i64 M, .slice Ar es.length cr]), .val (.slice (some ⟨lb,off,none⟩) L.length cap), .val (.int .i64 k), .val (.pointer (some ⟨lb,off+k,none⟩)), .val (.slice A1 x.length cap1),
     .mem (fun _ W v=> ∃A' c',v= .tuple #[.agg #[.int .i64 p1, .int .i64 p2, .slice A' ps.length c'], .bool o]∧I64 p1∧I64 p2∧OwE W wr.heap.size (.slice A' ps.length c') ps),
     .pur (fun us v=>v=us 5), .pur (fun us v=> ∃A' c',us 5= .tuple #[.agg #[.int .i64 p1, .int .i64 p2, .slice A' ps.length c'], .bool o]∧v= .agg #[.int .i64 p1, .int .i64 p2, .slice A' ps.length c']), .pur (fun _ v=>v= .bool o),
     .mem (fun _ W v=> ∃q x y z,v= .pointer (some ⟨q,0,none⟩)∧wr.heap.size≤q∧CBx W q x y z∧isT W q 26),
     .mem (fun us W _=> ∃q A' c',us 9= .pointer (some ⟨q,0,none⟩)∧wr.heap.size≤q∧us 5= .tuple #[.agg #[.int .i64 p1, .int .i64 p2, .slice A' ps.length c'], .bool o]∧CBx W q (.int .i64 p1) (.int .i64 p2) (.slice A' ps.length c')),
     .pur (fun _ v=>v= .bool o)]
    [none,none,none,none,none,some (fun W W'=>Below W.heap.size W W'),none,none,none,some (fun W W'=>Below W.heap.size W W'),some (fun W W'=> ∃q x y z,wr.heap.size≤q∧isT W q 26∧W'=((W.setCell ⟨q,0,none⟩ x).setCell ⟨q,1,none⟩ y).setCell ⟨q,2,none⟩ z),none]
    (fun W=>Below wr.heap.size wr W) [(5,9),(5,10),(9,5),(9,10)] (by kernel_rfl) (by kernel_rfl) (by rfl) (by rfl)
    (Below.refl _ _).drew
    ⟨fun _ _ h t=>h.trans (t.mono h.size),fun _ _ h t=>h.trans (t.mono h.size),fun _ _ h ⟨q,x,y,z,hq,_,e⟩=>by rw[e];exact set3_below x y z h hq,trivial⟩
    ⟨fun _ _ _ _ _ _ t ⟨A',c',e,i1,i2,o⟩=>⟨A',c',e,i1,i2,o.below t⟩,
     fun _ _ _ _ _ _ ⟨q,_,_,_,_,hq,e'⟩ ⟨A',c',e,i1,i2,o⟩=>by rw[e'];exact⟨A',c',e,i1,i2,o.keep fun d hd=>set3_heap _ _ _ _ _ (o.notG hq d hd)⟩,
     fun _ _ _ _ _ _ t ⟨q,x,y,z,e,hq,c,ht⟩=>⟨q,x,y,z,e,hq,c.below t,ht.below t⟩,
     fun _ _ _ _ _ _ ⟨q',a,b,c',_,_,e'⟩ ⟨q,x,y,z,e,hq,c,ht⟩=>(by rw[e'];obtain⟨x',y',z',h'⟩:=c.any (q:=q') a b c';exact⟨q,x',y',z',e,hq,h',ht.set3 _ _ _ _⟩),trivial⟩ (fun vs=> ?_)
   refine⟨fun W' K' Q0 hI hD hK=> ?_,?_⟩
   ·have z0:=(HG.out.below hI.out).c0
    have z1:=(HG.out.below hI.out).c1
    have z2:=(HG.out.below hI.out).c2
    go_simp
    exact hK.out _ _ rfl rfl
   simp only[Act.put,List.setIfInBounds_toArray,List.set_cons_zero,List.set_cons_succ,Sg.pick,Nat.reduceAdd]
   refine⟨fun W' K' Q0 hI hD hK=> ?_,?_⟩
   ·skip
    go_simp
    exact hK.out _ _ rfl rfl
   simp only[Act.put,List.setIfInBounds_toArray,List.set_cons_zero,List.set_cons_succ,Sg.pick,Nat.reduceAdd]
   refine⟨fun W' K' Q0 hI hD hK=> ?_,?_⟩
   ·skip
    go_simp
    exact hK.out _ _ rfl rfl
   simp only[Act.put,List.setIfInBounds_toArray,List.set_cons_zero,List.set_cons_succ,Sg.pick,Nat.reduceAdd]
   refine⟨fun W' K' Q0 hI hD hK=> ?_,?_⟩
   ·skip
    go_simp
    exact hK.out _ _ rfl rfl
   simp only[Act.put,List.setIfInBounds_toArray,List.set_cons_zero,List.set_cons_succ,Sg.pick,Nat.reduceAdd]
   refine⟨fun W' K' Q0 hI hD hK=> ?_,?_⟩
   ·have z0:=(hI.out.cell (p:=⟨lb,off+k,none⟩) hlb).trans HC.out
    go_simp
    exact hK.out _ _ rfl rfl
   simp only[Act.put,List.setIfInBounds_toArray,List.set_cons_zero,List.set_cons_succ,Sg.pick,Nat.reduceAdd]
   refine⟨fun W' K' Q0 hI hD hK=> ?_,?_⟩
   ·skip
    go_simp
    refine(HPE.out _ _ (HG.out.below hI.out).arg (HRD.out.below hI.out)).mono ?_;rintro e w' ⟨rv,rfl,⟨s,rfl,i1,i2,oe⟩,b'⟩;obtain⟨A',c',rfl,_⟩:=oe.form;exact hK.out _ _ b' ⟨A',c',rfl,i1,i2,oe.mono hI.out.size⟩
   simp only[Act.put,List.setIfInBounds_toArray,List.set_cons_zero,List.set_cons_succ,Sg.pick,Nat.reduceAdd]
   refine⟨fun W' K' Q0 hI hD hK=> ?_,?_⟩
   ·skip
    go_simp
    exact hK.out _ _ rfl rfl
   simp only[Act.put,List.setIfInBounds_toArray,List.set_cons_zero,List.set_cons_succ,Sg.pick,Nat.reduceAdd]
   refine⟨fun W' K' Q0 hI hD hK=> ?_,?_⟩
   ·obtain⟨A',c',e5,_⟩:=(show ∃A' c',vs 5= .tuple #[.agg #[.int .i64 p1, .int .i64 p2, .slice A' ps.length c'], .bool o]∧I64 p1∧I64 p2∧OwE W' wr.heap.size (.slice A' ps.length c') ps from hD.out 5 (by kernel_rfl))
    have e6:=(show vs 6=maskV _ 6 vs 5 from hD.out 6 (by kernel_rfl))
    rw[mask_at (by kernel_rfl),e5] at e6
    rw[e6,e5] at hK⊢
    go_simp
    exact hK.out _ _ rfl ⟨A',c',(mask_at (by kernel_rfl)).trans e5,rfl⟩
   simp only[Act.put,List.setIfInBounds_toArray,List.set_cons_zero,List.set_cons_succ,Sg.pick,Nat.reduceAdd]
   refine⟨fun W' K' Q0 hI hD hK=> ?_,?_⟩
   ·obtain⟨A',c',e5,_⟩:=(show ∃A' c',vs 5= .tuple #[.agg #[.int .i64 p1, .int .i64 p2, .slice A' ps.length c'], .bool o]∧I64 p1∧I64 p2∧OwE W' wr.heap.size (.slice A' ps.length c') ps from hD.out 5 (by kernel_rfl))
    have e6:=(show vs 6=maskV _ 6 vs 5 from hD.out 6 (by kernel_rfl))
    rw[mask_at (by kernel_rfl),e5] at e6
    rw[e6,e5] at hK⊢
    go_simp
    exact hK.out _ _ rfl rfl
   simp only[Act.put,List.setIfInBounds_toArray,List.set_cons_zero,List.set_cons_succ,Sg.pick,Nat.reduceAdd]
   refine⟨fun W' K' Q0 hI hD hK=> ?_,?_⟩
   ·skip
    go_simp
    exact hK.out _ _ ((Below.refl _ _).alloc (Nat.le_refl _) _) ⟨_,_,_,_,rfl,hI.out.size,(CBx.new rfl).1,isT.new _ _ _⟩
   simp only[Act.put,List.setIfInBounds_toArray,List.set_cons_zero,List.set_cons_succ,Sg.pick,Nat.reduceAdd]
   refine⟨fun W' K' Q0 hI hD hK=> ?_,?_⟩
   ·obtain⟨q,a0,a1,a2,e9,hq,hc,ht⟩:=(show ∃q x y z,vs 9= .pointer (some ⟨q,0,none⟩)∧wr.heap.size≤q∧CBx W' q x y z∧isT W' q 26 from hD.out 9 (by kernel_rfl))
    obtain⟨A',c',e5,e7⟩:=(show ∃A' c',maskV _ 7 vs 5= .tuple #[.agg #[.int .i64 p1, .int .i64 p2, .slice A' ps.length c'], .bool o]∧vs 7= .agg #[.int .i64 p1, .int .i64 p2, .slice A' ps.length c'] from hD.out 7 (by kernel_rfl))
    rw[mask_at (by kernel_rfl)] at e5
    rw[e7,e9,e5] at hK⊢
    have z0:=hc.c0
    have z1:=hc.c1
    have z2:=hc.c2
    have u0:=hc.fz 0
    have u1:=hc.fz 1
    have u2:=hc.fz 2
    go_simp
    exact hK.out undef _ ⟨q,_,_,_,hq,ht,rfl⟩ ⟨q,A',c',(mask_at (by kernel_rfl)).trans e9,hq,(mask_at (by kernel_rfl)).trans e5,hc.setv _ _ _⟩
   simp only[Act.put,List.setIfInBounds_toArray,List.set_cons_zero,List.set_cons_succ,Sg.pick,Nat.reduceAdd]
   refine⟨fun W' K' Q0 hI hD hK=> ?_,?_⟩
   ·have e8:=(show vs 8= .bool o from hD.out 8 (by kernel_rfl))
    rw[e8] at hK⊢
    go_simp
    exact hK.out _ _ rfl rfl
   simp only[Act.put,List.setIfInBounds_toArray,List.set_cons_zero,List.set_cons_succ,Sg.pick,Nat.reduceAdd]
   intro W9 hI9 hD9
   obtain⟨q,A9,c9,e9,hq,e5,hc⟩:=(show ∃q A' c',maskV _ 10 vs 9= .pointer (some ⟨q,0,none⟩)∧wr.heap.size≤q∧maskV _ 10 vs 5= .tuple #[.agg #[.int .i64 p1, .int .i64 p2, .slice A' ps.length c'], .bool o]∧CBx W9 q (.int .i64 p1) (.int .i64 p2) (.slice A' ps.length c') from hD9.out 10 (by decide))
   rw[mask_at (by kernel_rfl)] at e9 e5
   obtain⟨A',c',e5',i1,i2,oe⟩:=(show ∃A' c',vs 5= .tuple #[.agg #[.int .i64 p1, .int .i64 p2, .slice A' ps.length c'], .bool o]∧I64 p1∧I64 p2∧OwE W9 wr.heap.size (.slice A' ps.length c') ps from hD9.out 5 (by decide))
   rw[e5] at e5'
   injection e5' with e5'
   simp at e5'
   obtain⟨rfl,rfl⟩:=e5'
   rw[e9]
   have I9:=hDD hI9.out
   have OE:=hDD oe
   have G9:=hDD (HG.out.below I9.out)
   have X9:=hDD (HX.out.below I9.out)
   clear hD9 hI9 oe e5 e9
   have z0:=G9.out.c0
   have z1:=G9.out.c1
   have z2:=G9.out.c2
   have f0:=G9.out.fz 0
   have f1:=G9.out.fz 1
   have f2:=G9.out.fz 2
   have v0:=hc.c0
   have v1:=hc.c1
   have v2:=hc.c2
   simp only at z0 z1 z2
   go_wp2
   go_roundw
   case rel=>
    refine⟨k+1,A9,c9,by omega,by go_num,?_,X9.out.other (by omega),set3_below _ _ _ (HB.out.trans (I9.out.mono hsr)) (by omega)⟩
    rw[HT.out]
    exact(G9.out.set (m:=(p1,p2,ps)) OE.out (fun b' hb'=>by have:=(OE.out.1.lt b' hb').1;omega) i1 i2).mono (by omega)
   case measure=>(first | omega | (simp[intOf];omega))
  ·obtain rfl:k=L.length:=by omega
   rw[List.take_length] at HG HGO
   have HF:Hid (floF r L=L.foldl petG (r,1,[])):=hDD rfl
   generalize L.foldl petG (r,1,[])=g at*
   obtain⟨g1,M,es⟩:=g
   have x0:=HX.out.c0
   have x1:=HX.out.c1
   have x2:=HX.out.c2
   have f0:=HX.out.fz 0
   have f1:=HX.out.fz 1
   have f2:=HX.out.fz 2
   have y0:=HG.out.c0
   have y1:=HG.out.c1
   have y2:=HG.out.c2
   simp only at y0 y1 y2
   go_wp2
   have XF:=HX.out.setv (.int .i64 g1) (.int .i64 M) (.slice Ar es.length cr)
   have e0:=XF.c0
   have e1:=XF.c1
   have e2:=XF.c2
   exact bodyPost_ret (v:= .tuple #[.agg #[.int .i64 g1, .int .i64 M, .slice Ar es.length cr], .bool true]) (by simp[results,Tryz.results168,go_sem,e0,e1,e2]) rfl ⟨_,rfl,by rw[HF.out];exact⟨_,rfl,HG.out.i1,HG.out.i2,(HG.out.ow.keep fun c hc=>set3_heap _ _ _ _ _ (by have:=(HG.out.ow.1.lt c hc).1;omega)).mono (by omega)⟩,set3_below _ _ _ HB.out (Nat.le_refl _)⟩
end Go.Proofs.YteobmaambgmdbaaGreat
namespace Go.Proofs.YteobmaambgmdbaaGreat
set_option maxRecDepth 20000
set_option linter.unusedVariables false
set_option linter.unusedSimpArgs false
open Go.RowKit
theorem floF_ok {r:Int} {L:List (List Int)} (h:areW r L=true):grB (floF r L)=true:=by
 obtain⟨hwd,hr,_,_⟩:=areW_parts h
 have:=(flo_ok hr hwd L.length (Nat.le_refl _)).1
 rwa [List.take_length] at this
theorem sub_ok {r:Int} {L:List (List Int)} (h:areW r L=true):coreB (coreG (floF r L))=true:=coreB_coreG (floF_ok h)
theorem areW_of {r:Int} {L:List (List Int)} (hr1:1≤r) (hr3:r≤3) (hl:L.length≤6) (h:WdL r 5 L):areW r L=true:=by
 unfold areW
 rw[inB_iff.2 ⟨hr1,hr3⟩,decide_eq_true hl]
 have h1:L.all (wordB r)=true:=by
  rw[List.all_eq_true]
  intro x hx
  obtain⟨_,hlr,hred⟩:=h x hx
  exact wordB_true (inB_iff.2 ⟨hr1,hr3⟩) (by have:=(h x hx).1;omega) fun i hi=>okAt_red hred (fun y hy=>by
   obtain⟨y0,y1,y2⟩:=hlr y hy
   unfold letB
   rw[show wrap64 (-r)= -r from IntWalk.wrap64_in _ ⟨by omega,by omega⟩,inB_iff.2 ⟨by omega,y2⟩]
   simpa using y0) i hi
 have h2:lenLL L≤5*L.length:=by
  unfold lenLL
  clear h1 hl
  induction L with
  | nil=>simp
  | cons a l ih=>
    have h1:=(h a List.mem_cons_self).1
    have h2:=ih fun x hx=>h x (List.mem_cons_of_mem _ hx)
    simp only[List.map_cons,List.sum_cons,List.length_cons]
    omega
 rw[h1,decide_eq_true (by omega)]
 rfl
set_option maxHeartbeats 4000000 in
theorem specSubgroupOf_any (r:Int) (v:Value) (L:List (List Int)) (w:World) (h:RdII w v L) (hW:areW r L=true):
  Calls Tryz.prog 158 #[.int .i64 r,v] w fun x w'=> ∃rv,x= .returned (.tuple #[rv, .bool true])∧OwG w' w.heap.size rv (coreG (floF r L))∧Below w.heap.size w w':=by
 have H:=hDD h
 have HFL:=hDD (fun W (h:RdII W v L)=>specFlowerOf_any r v L W h hW)
 have HGR:=hDD (floF_ok hW)
 obtain⟨A,cap,rfl,hcap,hm,_⟩:=h.form
 clear h hW
 generalize floF r L=pg at*
 have HCO:=hDD (fun W v (h:ArgG W v pg)=>specCoreGraph_any v pg W h HGR.out)
 generalize coreG pg=qg at*
 obtain⟨p1,p2,ps⟩:=pg
 obtain⟨q1,q2,qs⟩:=qg
 go_enter Tryz.func158,Tryz.ntmps158
 go_wp2_with fail
 obtain⟨W0,hW0⟩: ∃W,W=w.alloc (Obj.cells #[Value.int IntKind.i64 0,Value.int IntKind.i64 0, .slice none 0 0] 26):=⟨_,rfl⟩
 rw[←hW0]
 obtain⟨xb,b0,s0⟩:=CBx.new hW0
 clear hW0
 have XB:=hDD xb
 have B0:=hDD b0
 clear xb b0
 refine(HFL.out _ (H.out.below B0.out)).mono ?_
 rintro e w1 ⟨rv,rfl,⟨s1,rfl,i1,i2,oe1⟩,b1⟩
 obtain⟨A1,c1,rfl,_⟩:=oe1.form
 simp only at i1 i2 oe1⊢
 have X1:=hDD (XB.out.below b1)
 have B1:=hDD (B0.out.trans (b1.mono (by omega)))
 have OE1:=hDD oe1
 have hs1:=b1.size
 clear oe1 b1 XB B0 HFL
 go_wp2_with fail
 obtain⟨W2,hW2⟩: ∃W,W=w1.alloc (Obj.cells #[Value.int IntKind.i64 p1,Value.int IntKind.i64 p2, .slice A1 ps.length c1] 26):=⟨_,rfl⟩
 rw[←hW2]
 have g2:=GBx.new (m:=(p1,p2,ps)) OE1.out i1 i2 hW2
 obtain⟨_,b2,s2⟩:=CBx.new hW2
 have G2:=hDD g2
 have X2:=hDD (X1.out.below b2)
 have B2:=hDD (B1.out.trans (b2.mono (by omega)))
 clear hW2 g2 b2 X1 B1 OE1
 refine(HCO.out W2 _ G2.out.arg).mono ?_
 rintro e w3 ⟨rv,rfl,⟨s3,rfl,j1,j2,oe3⟩,b3⟩
 obtain⟨A3,c3,rfl,_⟩:=oe3.form
 simp only at j1 j2 oe3⊢
 have X3:=hDD (X2.out.below b3)
 have B3:=hDD (B2.out.trans (b3.mono (by omega)))
 have OE3:=hDD oe3
 clear oe3 b3 X2 B2
 have u0:=X3.out.c0
 have u1:=X3.out.c1
 have u2:=X3.out.c2
 have f0:=X3.out.fz 0
 have f1:=X3.out.fz 1
 have f2:=X3.out.fz 2
 go_wp2
 have XF:=X3.out.setv (.int .i64 q1) (.int .i64 q2) (.slice A3 qs.length c3)
 have e0:=XF.c0
 have e1:=XF.c1
 have e2:=XF.c2
 exact bodyPost_ret (v:= .tuple #[.agg #[.int .i64 q1, .int .i64 q2, .slice A3 qs.length c3], .bool true]) (by simp[results,Tryz.results158,go_sem,e0,e1,e2]) rfl ⟨_,rfl,⟨_,rfl,j1,j2,(OE3.out.keep fun c hc=>set3_heap _ _ _ _ _ (by have:=(OE3.out.1.lt c hc).1;omega)).mono (by omega)⟩,set3_below _ _ _ B3.out (Nat.le_refl _)⟩
set_option maxHeartbeats 4000000 in
theorem l9Sub_any (p:Nat) (A:Option Addr) (cap:Nat) (cs:List Int) (w:World) (h:Cur p A cap cs w):
  Calls Tryz.prog 137 #[.pointer (some ⟨p,0,none⟩)] w fun e w'=> ∃v g,e= .returned v∧OwG w' w.heap.size v g∧coreB g=true∧Cur p A cap cs w'∧Tr p (p+1) w w':=by
 have H:=hDD h
 have hp:=h.lt
 clear h
 go_enter Tryz.func137,Tryz.ntmps137
 go_wp2_with fail
 obtain⟨W0,hW0⟩: ∃W,W=w.alloc (Obj.cells #[Value.int IntKind.i64 0,Value.int IntKind.i64 0, .slice none 0 0] 26):=⟨_,rfl⟩
 rw[←hW0]
 obtain⟨xb,b0,s0⟩:=CBx.new hW0
 clear hW0
 have XB:=hDD xb
 have I0:Hid (DrI p A cap cs w W0):=hDD ((DrI.refl H.out).bel b0)
 clear xb b0
 have RA:Hid (RdI (W0.alloc (Obj.cells #[.int .i64 1, .int .i64 2, .int .i64 2, .int .i64 2, .int .i64 2, .int .i64 3] 3)) (.slice (some ⟨W0.heap.size,0,none⟩) 6 6) [1,2,2,2,2,3]):=hDD (OwI_lit W0 [1,2,2,2,2,3] (by intro y hy;simp at hy;rcases hy with rfl | rfl | rfl<;>(unfold I64;omega)) (by simp) (Nat.le_refl _)).rd
 have IA:=hDD (I0.out.bel ((Below.refl _ _).alloc (Nat.le_refl _) (Obj.cells #[.int .i64 1, .int .i64 2, .int .i64 2, .int .i64 2, .int .i64 2, .int .i64 3] 3)))
 have XA:=hDD (XB.out.below ((Below.refl _ _).alloc (Nat.le_refl _) (Obj.cells #[.int .i64 1, .int .i64 2, .int .i64 2, .int .i64 2, .int .i64 2, .int .i64 3] 3)))
 have hneA:(Value.slice (some ⟨W0.heap.size,0,none⟩) 6 6).ownBlock≠some p:=fun e=>by simp[Value.ownBlock] at e;omega
 rw[←s0]
 (with_reducible refine(l1PickInt_any p A cap cs _ [1,2,2,2,2,3] _ IA.out.cur RA.out hneA (by simp) (by simp)).mono ?_)
 rintro e w1 ⟨r,rfl,hr,c1,t1⟩
 have I1:=hDD (IA.out.to t1 c1)
 have X1:=hDD (XA.out.trP t1 (by omega))
 have hr1:1≤r:=by simp at hr;omega
 have hr3:r≤3:=by simp at hr;omega
 clear c1 t1 IA RA hr hneA XA I0 XB
 go_wp2_with fail
 refine(l6Words_any p A cap cs r _ I1.out.cur hr1 hr3).mono ?_
 rintro e w2 ⟨v2,L,rfl,o2,⟨hL3,hWD⟩,c2,t2⟩
 have hW:=areW_of hr1 hr3 (by omega) hWD
 have HSU:=hDD (specSubgroupOf_any r v2 L w2 o2.rd hW)
 have HCB:=hDD (sub_ok hW)
 have I2:=hDD (I1.out.to t2 c2)
 have X2:=hDD (X1.out.trP t2 (by omega))
 obtain⟨A2,m2,cp2,rfl⟩:=OwII_any o2
 clear c2 t2 o2 hWD hW I1 X1
 generalize coreG (floF r L)=qg at*
 obtain⟨q1,q2,qs⟩:=qg
 go_wp2_with fail
 refine HSU.out.mono ?_
 rintro e w3 ⟨rv,rfl,⟨s3,rfl,j1,j2,oe3⟩,b3⟩
 obtain⟨A3,c3,rfl,_⟩:=oe3.form
 simp only at j1 j2 oe3⊢
 have X3:=hDD (X2.out.below b3)
 have I3:=hDD (I2.out.bel b3)
 have OE3:=hDD oe3
 have hs2:=X2.out.lt
 have hs3:=b3.size
 clear oe3 b3 X2 I2 HSU
 obtain⟨W4,hW4⟩: ∃W,W=w3.alloc (Obj.cells #[Value.int IntKind.i64 q1,Value.int IntKind.i64 q2, .slice A3 qs.length c3] 26):=⟨_,rfl⟩
 have g4:=GBx.new (m:=(q1,q2,qs)) OE3.out j1 j2 hW4
 obtain⟨_,b4,s4⟩:=CBx.new hW4
 have X4:=X3.out.below b4
 have u0:=X4.c0
 have u1:=X4.c1
 have u2:=X4.c2
 have f0:=X4.fz 0
 have f1:=X4.fz 1
 have f2:=X4.fz 2
 rw[hW4] at u0 u1 u2 f0 f1 f2
 have G4:=hDD g4
 have I4:=hDD (I3.out.bel b4)
 have HX4:=hDD X4
 clear g4 b4 X4
 go_wp2
 rw[←hW4]
 have XF:=HX4.out.setv (.int .i64 q1) (.int .i64 q2) (.slice A3 qs.length c3)
 have e0:=XF.c0
 have e1:=XF.c1
 have e2:=XF.c2
 have IF:=I4.out.hi H.out (Nat.le_refl _) (set3_below (.int .i64 q1) (.int .i64 q2) (.slice A3 qs.length c3) (Below.refl _ _) (Nat.le_refl w.heap.size))
 exact bodyPost_ret (v:= .agg #[.int .i64 q1, .int .i64 q2, .slice A3 qs.length c3]) (by simp[results,Tryz.results137,go_sem,e0,e1,e2]) rfl ⟨_,rfl,q1,q2,qs,⟨_,rfl,j1,j2,(G4.out.ow.keep fun c hc=>set3_heap _ _ _ _ _ (by have:=(G4.out.ow.1.lt c hc).1;omega)).mono (by omega)⟩,HCB.out,IF.cur,IF.tr⟩
set_option maxHeartbeats 4000000 in
theorem l9Any_any (p:Nat) (A:Option Addr) (cap:Nat) (cs:List Int) (w:World) (h:Cur p A cap cs w):
  Calls Tryz.prog 105 #[.pointer (some ⟨p,0,none⟩)] w fun e w'=> ∃v g,e= .returned v∧OwG w' w.heap.size v g∧g.2.2.length≤120∧Cur p A cap cs w'∧Tr p (p+1) w w':=by
 have H:=hDD h
 have hp:=h.lt
 clear h
 go_enter Tryz.func105,Tryz.ntmps105
 go_wp2_with fail
 obtain⟨W0,hW0⟩: ∃W,W=w.alloc (Obj.cells #[Value.int IntKind.i64 0,Value.int IntKind.i64 0, .slice none 0 0] 26):=⟨_,rfl⟩
 rw[←hW0]
 obtain⟨xb,b0,s0⟩:=CBx.new hW0
 clear hW0
 have XB:=hDD xb
 have I0:Hid (DrI p A cap cs w W0):=hDD ((DrI.refl H.out).bel b0)
 clear xb b0
 refine(l1Once_any p A cap cs 8 _ I0.out.cur (by omega) (by omega)).mono ?_
 rintro e w1 ⟨x,rfl,c1,t1⟩
 have I1:=hDD (I0.out.to t1 c1)
 have X1:=hDD (XB.out.trP t1 (by omega))
 have hs1:=X1.out.lt
 clear c1 t1 I0 XB
 rcases x with _ | _
 ·go_wp2_with fail
  refine(l9Sub_any p A cap cs _ I1.out.cur).mono ?_
  rintro e w2 ⟨v2,⟨q1,q2,qs⟩,rfl,⟨s2,rfl,j1,j2,oe2⟩,hcb,c2,t2⟩
  have hl:qs.length≤120:=(grB_parts (coreB_grB hcb)).2.2.1
  clear hcb
  obtain⟨A2,cp2,rfl,_⟩:=oe2.form
  simp only at j1 j2 oe2⊢
  have I2:=hDD (I1.out.to t2 c2)
  have X2:=hDD (X1.out.trP t2 (by omega))
  have OE2:=hDD oe2
  clear c2 t2 oe2 I1 X1
  have u0:=X2.out.c0
  have u1:=X2.out.c1
  have u2:=X2.out.c2
  have f0:=X2.out.fz 0
  have f1:=X2.out.fz 1
  have f2:=X2.out.fz 2
  go_wp2
  have XF:=X2.out.setv (.int .i64 q1) (.int .i64 q2) (.slice A2 qs.length cp2)
  have e0:=XF.c0
  have e1:=XF.c1
  have e2:=XF.c2
  have IF:=I2.out.hi H.out (Nat.le_refl _) (set3_below (.int .i64 q1) (.int .i64 q2) (.slice A2 qs.length cp2) (Below.refl _ _) (Nat.le_refl w.heap.size))
  exact bodyPost_ret (v:= .agg #[.int .i64 q1, .int .i64 q2, .slice A2 qs.length cp2]) (by simp[results,Tryz.results105,go_sem,e0,e1,e2]) rfl ⟨_,rfl,q1,q2,qs,⟨_,rfl,j1,j2,(OE2.out.keep fun c hc=>set3_heap _ _ _ _ _ (by have:=(OE2.out.1.lt c hc).1;omega)).mono (by omega)⟩,hl,IF.cur,IF.tr⟩
 ·go_wp2_with fail
  refine(l4Any_any p A cap cs _ I1.out.cur).mono ?_
  rintro e w2 ⟨v2,⟨q1,q2,qs⟩,rfl,⟨s2,rfl,j1,j2,oe2⟩,hl,c2,t2⟩
  obtain⟨A2,cp2,rfl,_⟩:=oe2.form
  simp only at j1 j2 oe2 hl⊢
  have I2:=hDD (I1.out.to t2 c2)
  have X2:=hDD (X1.out.trP t2 (by omega))
  have OE2:=hDD oe2
  clear c2 t2 oe2 I1 X1
  have u0:=X2.out.c0
  have u1:=X2.out.c1
  have u2:=X2.out.c2
  have f0:=X2.out.fz 0
  have f1:=X2.out.fz 1
  have f2:=X2.out.fz 2
  go_wp2
  have XF:=X2.out.setv (.int .i64 q1) (.int .i64 q2) (.slice A2 qs.length cp2)
  have e0:=XF.c0
  have e1:=XF.c1
  have e2:=XF.c2
  have IF:=I2.out.hi H.out (Nat.le_refl _) (set3_below (.int .i64 q1) (.int .i64 q2) (.slice A2 qs.length cp2) (Below.refl _ _) (Nat.le_refl w.heap.size))
  exact bodyPost_ret (v:= .agg #[.int .i64 q1, .int .i64 q2, .slice A2 qs.length cp2]) (by simp[results,Tryz.results105,go_sem,e0,e1,e2]) rfl ⟨_,rfl,q1,q2,qs,⟨_,rfl,j1,j2,(OE2.out.keep fun c hc=>set3_heap _ _ _ _ _ (by have:=(OE2.out.1.lt c hc).1;omega)).mono (by omega)⟩,by omega,IF.cur,IF.tr⟩
end Go.Proofs.YteobmaambgmdbaaGreat
namespace Go.Proofs.YteobmaambgmdbaaGreat
set_option maxRecDepth 20000
set_option linter.unusedVariables false
set_option linter.unusedSimpArgs false
open Go.RowKit
def rgL (N:Int) (l:List Int):Prop:= ∀y∈l,0≤y∧y<N
theorem rgL.i64 {N:Int} {l:List Int} (h:rgL N l) (hN:N≤5):I64s l:=fun y hy=>by have:=h y hy;exact⟨by omega,by omega⟩
set_option maxRecDepth 100000 in
set_option maxHeartbeats 8000000 in
theorem l12Finite_any (p:Nat) (A:Option Addr) (cap:Nat) (cs:List Int) (w:World) (h:Cur p A cap cs w):
  Calls Tryz.prog 104 #[.pointer (some ⟨p,0,none⟩)] w fun e w'=> ∃v g,e= .returned v∧OwG w' w.heap.size v g∧coreB g=true∧Cur p A cap cs w'∧Tr p (p+1) w w':=by
 have H:=hDD h
 have hp:=h.lt
 clear h
 go_enter Tryz.func104,Tryz.ntmps104
 go_wp2_with fail
 obtain⟨W0,hW0⟩: ∃W,W=w.alloc (Obj.cells #[Value.int IntKind.i64 0,Value.int IntKind.i64 0, .slice none 0 0] 26):=⟨_,rfl⟩
 rw[←hW0]
 obtain⟨xb,b0,s0⟩:=CBx.new hW0
 clear hW0
 have XB:=hDD xb
 have I0:Hid (DrI p A cap cs w W0):=hDD ((DrI.refl H.out).bel b0)
 clear xb b0
 have RA:Hid (RdI (W0.alloc (Obj.cells #[.int .i64 1, .int .i64 2, .int .i64 2, .int .i64 2, .int .i64 3] 3)) (.slice (some ⟨W0.heap.size,0,none⟩) 5 5) [1,2,2,2,3]):=hDD (OwI_lit W0 [1,2,2,2,3] (by intro y hy;simp at hy;rcases hy with rfl | rfl | rfl<;>(unfold I64;omega)) (by simp) (Nat.le_refl _)).rd
 have IA:=hDD (I0.out.bel ((Below.refl _ _).alloc (Nat.le_refl _) (Obj.cells #[.int .i64 1, .int .i64 2, .int .i64 2, .int .i64 2, .int .i64 3] 3)))
 have XA:=hDD (XB.out.below ((Below.refl _ _).alloc (Nat.le_refl _) (Obj.cells #[.int .i64 1, .int .i64 2, .int .i64 2, .int .i64 2, .int .i64 3] 3)))
 have hneA:(Value.slice (some ⟨W0.heap.size,0,none⟩) 5 5).ownBlock≠some p:=fun e=>by simp[Value.ownBlock] at e;omega
 rw[←s0]
 (with_reducible refine(l1PickInt_any p A cap cs _ [1,2,2,2,3] _ IA.out.cur RA.out hneA (by simp) (by simp)).mono ?_)
 rintro e w1 ⟨r,rfl,hr,c1,t1⟩
 have I1:=hDD (IA.out.to t1 c1)
 have X1:=hDD (XA.out.trP t1 (by omega))
 have hr1:1≤r:=by simp at hr;omega
 have hr3:r≤3:=by simp at hr;omega
 clear c1 t1 IA RA hr hneA XA I0 XB
 go_wp2_with fail
 refine(l1Below_any p A cap cs 5 _ I1.out.cur (by omega) (by omega)).mono ?_
 rintro e w2 ⟨n0,rfl,⟨n1,n2⟩,c2,t2⟩
 have I2:=hDD (I1.out.to t2 c2)
 have X2:=hDD (X1.out.trP t2 (by omega))
 obtain⟨N,hN⟩: ∃N,N=1+n0:=⟨_,rfl⟩
 have hN1:1≤N:=by omega
 have hN5:N≤5:=by omega
 have hwN:IntKind.i64.wrap (1+n0)=N:=by rw[IntKind.wrap_i64];omega
 clear c2 t2 I1 X1
 go_wp2_with fail
 rw[←hN]
 obtain⟨W3,hW3⟩: ∃W,W=w2.alloc (Obj.cells #[Value.int IntKind.i64 r,Value.int IntKind.i64 N, .slice none 0 0] 26):=⟨_,rfl⟩
 have g3:GBx W3 w2.heap.size (w.heap.size+1) none 0 (r,N,[]):=GBx.new (base:=w.heap.size+1) (m:=(r,N,[])) OwE.nil (show I64 r from⟨by omega,by omega⟩) (show I64 N from⟨by omega,by omega⟩) hW3
 obtain⟨_,b3,s3⟩:=CBx.new hW3
 rw[←hW3]
 have G3:=hDD g3
 have I3:=hDD (I2.out.bel b3)
 have X3:=hDD (X2.out.below b3)
 have hs2:=X2.out.lt
 have hgr3:grB (r,N,[])=true:=grB_of ⟨hr1,hr3⟩ ⟨hN1,by simp only;omega⟩ (by simp) List.Pairwise.nil (fun _ h=>by cases h)
 have HGR3:=hDD hgr3
 clear hW3 g3 b3 I2 X2 hN hwN hgr3
 generalize hb:w2.heap.size=b at*
 clear hb
 go_loopw [6] (fun nv wr=> ∃(x:Int) (es:List EdD) (Ar:Option Addr) (cr:Nat),nv= .int .i64 x∧1≤x∧x≤r+1∧(es.length:Int)≤(x-1)*5∧grB (r,N,es)=true∧GBx wr b (w.heap.size+1) Ar cr (r,N,es)∧CBx wr w.heap.size (.int .i64 0) (.int .i64 0) (.slice none 0 0)∧DrI p A cap cs w wr) (fun nv _=>(r+1-intOf nv).toNat)
 case atStart=>exact⟨1,[],none,0,rfl,by omega,by omega,by simp,HGR3.out,G3.out,X3.out,I3.out⟩
 case round=>
  obtain⟨x,es,Ar,cr,rfl,hx1,hxr,hel,hgr,hG,hX,hI⟩:=hrel
  have HGR:=hDD hgr
  have HG:=hDD hG
  have HX:=hDD hX
  have HI:=hDD hI
  have hsr:=hI.tr.size
  have hbr:=hG.lt
  clear hgr hG hX hI
  generalize wr=wo at*
  by_cases hlt:x≤r
  ·have O1:Hid (OwI (wo.alloc (.cells #[] 3)) wo.heap.size (.slice (some ⟨wo.heap.size,0,none⟩) 0 0) []):=hDD (OwI_lit wo [] I64s_nil (by simp) (Nat.le_refl _))
   go_wp2
   go_loopw [7,8] (fun lv nv wr=> ∃(k:Int) (l:List Int),nv= .int .i64 k∧0≤k∧k≤N∧(l.length:Int)=k∧rgL N l∧OwI wr wo.heap.size lv l∧Below wo.heap.size wo wr) (fun _ nv _=>(N-intOf nv).toNat)
   case atStart=>exact⟨0,[],rfl,by omega,by omega,rfl,(fun y hy=>by cases hy),O1.out,(Below.refl _ _).alloc (Nat.le_refl _) _⟩
   case round=>
    obtain⟨k,l,rfl,hk0,hkN,hll,hrg,hO,hB⟩:=hrel
    have HRG:=hDD hrg
    have HO:=hDD hO
    have HB:=hDD hB
    have hsb:=hB.size
    obtain⟨Al,cl,rfl,hcl,hml,hnl,_⟩:=hO.form
    clear hrg hO hB
    by_cases hkl:k<N
    ·have HKI:Hid (I64 k):=hDD ⟨by omega,by omega⟩
     go_wp2_with (at_builtin;refine push_int rfl (.tmp 31) (.tmp 33) rfl _ _ _ (OwI.alloc HO.out _) rfl _ _ rfl (cell_new1 _ _ _) HKI.out (by first | omega | (simp<;>omega)) (by first | omega | (simp<;>omega)) ?_;intro v1 wv1 o1 g1 p1)
     go_roundw
     case rel=>exact⟨k+1,l++ [k],by go_num,by omega,by omega,by simp;omega,(fun y hy=>by
      rcases List.mem_append.1 hy with hy | hy
      ·exact HRG.out y hy
      ·rw[List.mem_singleton.1 hy];omega),o1,bel_push HB.out hsb HO.out.1 (Nat.le_refl _) g1⟩
     case measure=>(simp[intOf];omega)
    ·obtain rfl:N=k:=by omega
     have G4:=hDD (HG.out.belowAt HB.out hbr (fun c hc=>(HG.out.ow.1.lt c hc).2))
     have X4:=hDD (HX.out.belowAt HB.out (by omega))
     have I4:=hDD (HI.out.bel HB.out)
     generalize wr=wq at*
     go_wp2
     go_loopw [7,9] (fun lv nv wr=> ∃(k:Int) (l:List Int) (es:List EdD) (Ar:Option Addr) (cr:Nat),nv= .int .i64 k∧0≤k∧k≤N∧(l.length:Int)=N-k∧rgL N l∧OwI wr wo.heap.size lv l∧(es.length:Int)≤(x-1)*5+k∧grB (r,N,es)=true∧GBx wr b (w.heap.size+1) Ar cr (r,N,es)∧CBx wr w.heap.size (.int .i64 0) (.int .i64 0) (.slice none 0 0)∧DrI p A cap cs w wr∧wo.heap.size≤wr.heap.size) (fun _ nv _=>(N-intOf nv).toNat)
     case atStart=>exact⟨0,l,es,Ar,cr,rfl,by omega,by omega,by omega,HRG.out,HO.out,by omega,HGR.out,G4.out,X4.out,I4.out,hsb⟩
     case round=>
      clear G4 X4 I4 HO HRG HB HGR HG HX HI hel hll hcl hml hnl hkl O1
      obtain⟨k,l,es,Ar,cr,rfl,hk0,hkN,hll,hrg,hO,hel,hgr,hG,hX,hI,hsw⟩:=hrel
      have HRG:=hDD hrg
      have HO:=hDD hO
      have HGR:=hDD hgr
      have HG:=hDD hG
      have HX:=hDD hX
      have HI:=hDD hI
      obtain⟨Al,cl,rfl,hcl,hml,hnl,hat⟩:=hO.form
      have HAT:=hDD hat
      have hbq:=hG.lt
      have HLK:=hDD hll
      clear hrg hO hgr hG hX hI hat
      by_cases hkl:k<N
      ·obtain⟨lg,rfl,hlg1,hlg2⟩:=HAT.out (by omega)
       have hl1:0<(l.length:Int):=by omega
       have hl5:(l.length:Int)≤5:=by omega
       clear hll
       go_wp2_with fail
       refine(l1Below_any p A cap cs l.length _ HI.out.cur (by omega) (by omega)).mono ?_
       rintro e w5 ⟨j0,rfl,hj,c5,t5⟩
       obtain⟨j,rfl⟩: ∃j:Nat,j0=j:=⟨j0.toNat,by omega⟩
       have hjl:j<l.length:=by omega
       have hjI:(j:Int)<(l.length:Int):=by omega
       have I5:=hDD (HI.out.to t5 c5)
       have X5:=hDD (HX.out.trP t5 (by omega))
       have G5:=hDD (HG.out.trP t5 (by omega) (by omega))
       have O5:=hDD (HO.out.trP t5 (by omega))
       have hs5:=t5.size
       have hcj:=O5.out.cellAt j hjl
       have HY:=hDD (HRG.out l[j] (List.getElem_mem hjl))
       have HRE:Hid (rgL N (l.take j++l.drop (j+1))):=hDD fun y hy=>by
        rcases List.mem_append.1 hy with hy | hy
        ·exact HRG.out y (List.mem_of_mem_take hy)
        ·exact HRG.out y (List.mem_of_mem_drop hy)
       have HLL:Hid (((l.take j++l.drop (j+1)).length:Int)=l.length-1):=hDD (by simp;omega)
       clear c5 t5 HI HX HG HO HAT HRG
       generalize l[j]=y at*
       have HPU:=hDD (fun W (h:ArgE W (.slice Ar es.length cr) es)=>l4Put_any _ es (k,x,y) W h ⟨⟨by simp only;omega,by simp only;omega⟩,⟨by simp only;omega,by simp only;omega⟩,⟨by simp only;have:=HY.out;omega,by simp only;have:=HY.out;omega⟩⟩ (by omega))
       unfold edV at HPU
       simp only at HPU
       have HG2:Hid (grB (r,N,insF cmpE es (k,x,y))=true):=hDD (gr_put HGR.out ⟨⟨by simp only;omega,by simp only;omega⟩,⟨by simp only;omega,by simp only;omega⟩,HY.out⟩ (by simp only;omega))
       have hl2:(insF cmpE es (k,x,y)).length≤es.length+1:=insF_len (c:=cmpE) es (k,x,y)
       generalize insF cmpE es (k,x,y)=es2 at*
       go_wp2_with fail
       refine wp_region_genH [.val (.pointer (some ⟨b,2,none⟩)), .val (.slice Ar es.length cr), .val (.int .i64 k), .val (.int .i64 x), .val (.slice (some ⟨lg,0,none⟩) l.length cl), .val (.int .i64 j), .val (.pointer (some ⟨lg,j,none⟩)), .val (.int .i64 y), .val (.agg #[.int .i64 k, .int .i64 x, .int .i64 y]), .mem (fun _ W v=> ∃A' c',v= .slice A' es2.length c'∧OwE W w5.heap.size v es2), .val (.pointer (some ⟨b,2,none⟩)), .mem (fun us W _=> ∃Wp A' c',Below w5.heap.size w5 Wp∧OwE Wp w5.heap.size (.slice A' es2.length c') es2∧W=Wp.setCell ⟨b,2,none⟩ (.slice A' es2.length c'))]
        [none,none,none,none,none,none,none,none,none,some (fun W W'=>Below W.heap.size W W'),none,some (fun W W'=> ∃v,W'=W.setCell ⟨b,2,none⟩ v)]
        (fun _=>True) (fun W=>Below w5.heap.size w5 W) [11] [(9,11)] (by kernel_rfl) (by kernel_rfl) (by rfl) (by rfl)
        trivial (Below.refl _ _).drew
        ⟨fun _ _ _ _=>trivial,fun _ _ _ _=>trivial,trivial⟩
        ⟨.inr fun _ _ _ h t=>h.trans (t.mono h.size), .inl (by simp),trivial⟩
        ⟨fun _ _ _ _ _ _ ⟨u,t⟩ ⟨A',c',e,o⟩=>by subst t;exact⟨A',c',e,o.keep fun d hd=>Below.heap_setCell _ _ _ d (show d≠b by have:=(o.1.lt d hd).1;omega)⟩,trivial⟩ (fun vs=> ?_)
       refine⟨fun W' K' Q0 hI hD hK=> ?_,?_⟩
       ·skip
        go_simp
        exact hK.out _ _ rfl rfl
       simp only[Act.put,List.setIfInBounds_toArray,List.set_cons_zero,List.set_cons_succ,Sg.pick,Nat.reduceAdd]
       refine⟨fun W' K' Q0 hI hD hK=> ?_,?_⟩
       ·have z2:=(G5.out.below (hI.out.2 (by kernel_rfl))).c2
        go_simp
        exact hK.out _ _ rfl rfl
       simp only[Act.put,List.setIfInBounds_toArray,List.set_cons_zero,List.set_cons_succ,Sg.pick,Nat.reduceAdd]
       refine⟨fun W' K' Q0 hI hD hK=> ?_,?_⟩
       ·skip
        go_simp
        exact hK.out _ _ rfl rfl
       simp only[Act.put,List.setIfInBounds_toArray,List.set_cons_zero,List.set_cons_succ,Sg.pick,Nat.reduceAdd]
       refine⟨fun W' K' Q0 hI hD hK=> ?_,?_⟩
       ·skip
        go_simp
        exact hK.out _ _ rfl rfl
       simp only[Act.put,List.setIfInBounds_toArray,List.set_cons_zero,List.set_cons_succ,Sg.pick,Nat.reduceAdd]
       refine⟨fun W' K' Q0 hI hD hK=> ?_,?_⟩
       ·skip
        go_simp
        exact hK.out _ _ rfl rfl
       simp only[Act.put,List.setIfInBounds_toArray,List.set_cons_zero,List.set_cons_succ,Sg.pick,Nat.reduceAdd]
       refine⟨fun W' K' Q0 hI hD hK=> ?_,?_⟩
       ·skip
        go_simp
        exact hK.out _ _ rfl rfl
       simp only[Act.put,List.setIfInBounds_toArray,List.set_cons_zero,List.set_cons_succ,Sg.pick,Nat.reduceAdd]
       refine⟨fun W' K' Q0 hI hD hK=> ?_,?_⟩
       ·skip
        go_simp
        exact hK.out _ _ rfl rfl
       simp only[Act.put,List.setIfInBounds_toArray,List.set_cons_zero,List.set_cons_succ,Sg.pick,Nat.reduceAdd]
       refine⟨fun W' K' Q0 hI hD hK=> ?_,?_⟩
       ·have z0:=((hI.out.2 (by kernel_rfl)).cell (p:=⟨lg,j,none⟩) (by show lg<_;omega)).trans hcj
        go_simp
        exact hK.out _ _ rfl rfl
       simp only[Act.put,List.setIfInBounds_toArray,List.set_cons_zero,List.set_cons_succ,Sg.pick,Nat.reduceAdd]
       refine⟨fun W' K' Q0 hI hD hK=> ?_,?_⟩
       ·skip
        go_simp
        exact hK.out _ _ rfl rfl
       simp only[Act.put,List.setIfInBounds_toArray,List.set_cons_zero,List.set_cons_succ,Sg.pick,Nat.reduceAdd]
       refine⟨fun W' K' Q0 hI hD hK=> ?_,?_⟩
       ·skip
        go_simp
        refine(HPU.out _ (G5.out.below (hI.out.2 (by kernel_rfl))).ow.arg).mono ?_;rintro e w' ⟨rv,rfl,oe,b'⟩;obtain⟨A',c',rfl,_⟩:=oe.form;exact hK.out _ _ b' ⟨A',c',rfl,oe.mono (hI.out.2 (by kernel_rfl)).size⟩
       simp only[Act.put,List.setIfInBounds_toArray,List.set_cons_zero,List.set_cons_succ,Sg.pick,Nat.reduceAdd]
       refine⟨fun W' K' Q0 hI hD hK=> ?_,?_⟩
       ·skip
        go_simp
        exact hK.out _ _ rfl rfl
       simp only[Act.put,List.setIfInBounds_toArray,List.set_cons_zero,List.set_cons_succ,Sg.pick,Nat.reduceAdd]
       refine⟨fun W' K' Q0 hI hD hK=> ?_,?_⟩
       ·obtain⟨A',c',e9,o⟩:=(show ∃A' c',vs 9= .slice A' es2.length c'∧OwE W' w5.heap.size (vs 9) es2 from hD.out 9 (by kernel_rfl))
        rw[e9] at hK o⊢
        have hG:=G5.out.below (hI.out.2 (by kernel_rfl))
        have z2:=hG.c2
        have u2:=hG.fz 2
        go_simp
        exact hK.out undef _ ⟨_,rfl⟩ ⟨W',A',c',hI.out.2 (by kernel_rfl),o,rfl⟩
       simp only[Act.put,List.setIfInBounds_toArray,List.set_cons_zero,List.set_cons_succ,Sg.pick,Nat.reduceAdd]
       intro W9 hI9 hD9
       obtain⟨Wp,A9,c9,bp,op,hW9⟩:=(show ∃Wp A' c',Below w5.heap.size w5 Wp∧OwE Wp w5.heap.size (.slice A' es2.length c') es2∧W9=Wp.setCell ⟨b,2,none⟩ (.slice A' es2.length c') from hD9.out 11 (by decide))
       have G9:=hDD (((G5.out.below bp).put (ms:=es2) op (fun c hc=>by have:=(op.1.lt c hc).1;omega)).mono (show w.heap.size+1≤w5.heap.size by omega))
       have X9:=hDD ((X5.out.below bp).one (q:=b) (j:=2) (v:= .slice A9 es2.length c9) (by omega))
       have I9:=hDD ((I5.out.bel bp).hi H.out (Nat.le_refl _) ((Below.refl w.heap.size Wp).setCell (p:=⟨b,2,none⟩) (by show w.heap.size≤b;omega) (.slice A9 es2.length c9)))
       have O9:=hDD ((O5.out.below bp).far (p:=⟨b,2,none⟩) (by show b<wo.heap.size;exact hbr) (.slice A9 es2.length c9))
       have hs9:w5.heap.size≤W9.heap.size:=by rw[hW9];simpa using bp.size
       simp only at G9
       rw[←hW9] at G9 X9 I9 O9
       clear hI9 hD9 hW9 op bp G5 X5 I5 O5 HPU hcj
       generalize W9=w9 at*
       have HH:=hDD (O9.out.rd.head (k:=j) rfl (by omega))
       have z1:(0:Int)≤(j:Int):=by omega
       have z2:(j:Int)≤(cl:Int):=by omega
       have z3:(j:Int)+1≤(l.length:Int):=by omega
       have z4:(j:Int)≤(l.length:Int):=by omega
       have z5:(0:Int)≤(j:Int)+1:=by omega
       have z6:(j:Int)+1≤(cl:Int):=by omega
       have z7:((j:Int)+1).toNat=j+1:=by omega
       have zw:IntKind.i64.wrap ((j:Int)+1)=(j:Int)+1:=by rw[IntKind.wrap_i64];omega
       have HD:Hid (RdI w9 (.slice (if cl=j+1 then some ⟨lg,0,none⟩ else some ⟨lg,j+1,none⟩) (l.length-(j+1)) (cl-(j+1))) (l.drop (j+1))):=hDD (by
        have:=O9.out.rd.cut (k:=j+1) rfl (by omega)
        simpa[Addr.add_lit] using this)
       have E9:Hid (OwI (w9.drew.alloc (.cells #[] 3)) w9.heap.size (.slice (some ⟨w9.heap.size,0,none⟩) 0 0) []):=hDD (OwI_lit w9.drew [] I64s_nil (by simp) (Nat.le_refl _))
       have BA0:Hid (Below w9.heap.size w9 (w9.drew.alloc (.cells #[] 3))):=hDD (((Below.refl _ _).drew).alloc (Nat.le_refl _) (.cells #[] 3))
       have HH0:=hDD (HH.out.below BA0.out)
       have hhl:(l.take j).length=j:=by rw[List.length_take];omega
       have hdl:(l.drop (j+1)).length=l.length-(j+1):=List.length_drop
       have HRE2:=HRE.out
       have HLL2:=HLL.out
       have hlj:l.length-(j+1)≤5:=by omega
       obtain⟨la,hla⟩: ∃a,a=l.take j:=⟨_,rfl⟩
       obtain⟨lb,hlb⟩: ∃a,a=l.drop (j+1):=⟨_,rfl⟩
       rw[←hla] at HH HH0 hhl HRE2 HLL2
       rw[←hlb] at HD hdl HRE2 HLL2
       have HRE:=hDD HRE2
       have HLL:=hDD HLL2
       clear hla hlb HRE2 HLL2
       go_wp2_with fail
       go_region_held3 (fun w'=>True) (trivial)
        (first
         | (refine step_append_ints rfl (.tmp 55) (.tmp 58) rfl w9.heap.size _ [] E9.out (by rfl) _ la HH0.out (by rfl) (by simp only[List.length_nil];omega) BA0.out.size ?_;intro va wa oa ga pa;rw[List.nil_append] at oa;have BA:Hid (Below w9.heap.size w9 wa):=hDD (BA0.out.grown ga BA0.out.size (fun c hc=>(E9.out.1.lt c hc).1));have OA:=hDD oa;clear oa ga pa)
         | (refine step_append_ints rfl (.tmp 59) (.tmp 63) rfl w9.heap.size _ la OA.out (by rfl) _ lb (HD.out.below BA.out) (by rfl) (by omega) BA.out.size ?_;intro vb wb ob gb pb;have BB:Hid (Below w9.heap.size w9 wb):=hDD (BA.out.grown gb BA.out.size (fun c hc=>(OA.out.1.lt c hc).1));have OB:=hDD ob;clear ob gb pb OA BA))
       obtain⟨Ab,mb,cb,rfl⟩:=OB.out.any2
       go_wp2
       go_roundw
       case rel=>exact⟨k+1,la++lb,es2,A9,c9,by go_num,by omega,by omega,by have:=HLL.out;have:=HLK.out;omega,HRE.out,OB.out.mono (by omega),by omega,HG2.out,G9.out.below BB.out,X9.out.below BB.out,I9.out.bel BB.out,by have:=BB.out.size;omega⟩
       case measure=>(simp[intOf];omega)
      ·obtain rfl:k=N:=by omega
       have hwx:IntKind.i64.wrap (x+1)=x+1:=by rw[IntKind.wrap_i64];omega
       go_wp2
       go_roundw
       case rel=>exact⟨x+1,es,Ar,cr,by go_num,by omega,by omega,by omega,HGR.out,HG.out,HX.out,HI.out⟩
       case measure=>(simp[intOf];omega)
  ·have HCO:=hDD (fun W v (h:ArgG W v (r,N,es))=>specCoreGraph_any v (r,N,es) W h HGR.out)
   have HCB:=hDD (coreB_coreG HGR.out)
   generalize coreG (r,N,es)=qg at*
   obtain⟨q1,q2,qs⟩:=qg
   have y0:=HG.out.c0
   have y1:=HG.out.c1
   have y2:=HG.out.c2
   simp only at y0 y1 y2
   go_wp2_with fail
   refine(HCO.out wo _ HG.out.arg).mono ?_
   rintro e w2 ⟨v2,rfl,⟨s2,rfl,j1,j2,oe2⟩,b2⟩
   obtain⟨A2,cp2,rfl,_⟩:=oe2.form
   simp only at j1 j2 oe2⊢
   have I2:=hDD (HI.out.bel b2)
   have X2:=hDD (HX.out.below b2)
   have OE2:=hDD oe2
   clear b2 oe2
   have u0:=X2.out.c0
   have u1:=X2.out.c1
   have u2:=X2.out.c2
   have f0:=X2.out.fz 0
   have f1:=X2.out.fz 1
   have f2:=X2.out.fz 2
   go_wp2
   have XF:=X2.out.setv (.int .i64 q1) (.int .i64 q2) (.slice A2 qs.length cp2)
   have e0:=XF.c0
   have e1:=XF.c1
   have e2:=XF.c2
   have IF:=I2.out.hi H.out (Nat.le_refl _) (set3_below (.int .i64 q1) (.int .i64 q2) (.slice A2 qs.length cp2) (Below.refl _ _) (Nat.le_refl w.heap.size))
   exact bodyPost_ret (v:= .agg #[.int .i64 q1, .int .i64 q2, .slice A2 qs.length cp2]) (by simp[results,Tryz.results104,go_sem,e0,e1,e2]) rfl ⟨_,rfl,q1,q2,qs,⟨_,rfl,j1,j2,(OE2.out.keep fun c hc=>set3_heap _ _ _ _ _ (by have:=(OE2.out.1.lt c hc).1;omega)).mono (by omega)⟩,HCB.out,IF.cur,IF.tr⟩
end Go.Proofs.YteobmaambgmdbaaGreat
namespace Go.Proofs.YteobmaambgmdbaaGreat
set_option maxRecDepth 20000
set_option linter.unusedVariables false
set_option linter.unusedSimpArgs false
open Go.RowKit
theorem coreB_foldB {g:GrD} (h:coreB g=true):foldB g=true:=by
 unfold coreB at h
 simp only[Bool.and_eq_true] at h
 exact h.1.1
end Go.Proofs.YteobmaambgmdbaaGreat
namespace Go.Proofs.YteobmaambgmdbaaGreat
set_option maxRecDepth 20000
set_option linter.unusedVariables false
set_option linter.unusedSimpArgs false
open Go.RowKit
def WdR (r:Int) (n:Nat) (xs:List Int):Prop:=xs.length≤n∧letR r xs
end Go.Proofs.YteobmaambgmdbaaGreat
namespace Go.Proofs.YteobmaambgmdbaaGreat
set_option maxRecDepth 20000
set_option linter.unusedVariables false
set_option linter.unusedSimpArgs false
open Go.RowKit
end Go.Proofs.YteobmaambgmdbaaGreat
namespace Go.Proofs.YteobmaambgmdbaaGreat
set_option maxRecDepth 20000
set_option linter.unusedVariables false
set_option linter.unusedSimpArgs false
open Go.RowKit
end Go.Proofs.YteobmaambgmdbaaGreat
namespace Go.Proofs.YteobmaambgmdbaaGreat
set_option maxRecDepth 20000
set_option linter.unusedVariables false
set_option linter.unusedSimpArgs false
open Go.RowKit
end Go.Proofs.YteobmaambgmdbaaGreat
namespace Go.Proofs.YteobmaambgmdbaaGreat
set_option maxRecDepth 20000
set_option linter.unusedVariables false
set_option linter.unusedSimpArgs false
open Go.RowKit
section
variable {g:GrD} (hg:grB g=true) (hf:Fol g.2.2) {w:List Int} (hw: ∀y∈w,Lt3 y) {s:Int×List Int} (hs:okS g s)
include hg hw
include hf
include hs
end
section
variable {g:GrD} (hg:grB g=true) (hf:Fol g.2.2)
include hg hf
end
section
variable {es:List EdD} {c:List Int} {v:Int}
end
end Go.Proofs.YteobmaambgmdbaaGreat
namespace Go.Proofs.YteobmaambgmdbaaGreat
set_option maxRecDepth 20000
set_option linter.unusedVariables false
set_option linter.unusedSimpArgs false
open Go.RowKit
end Go.Proofs.YteobmaambgmdbaaGreat
namespace Go.Proofs.YteobmaambgmdbaaGreat
set_option maxRecDepth 20000
set_option linter.unusedVariables false
set_option linter.unusedSimpArgs false
open Go.RowKit
theorem Tr.bw {p B:Nat} {w W W':World} (hb:Below B w W) (ht:Tr p (p+1) W W') (hp:B≤p) (hB:B≤W.heap.size):Below B w W':=
 ⟨ht.os.trans hb.os,ht.tape.trans hb.tape,ht.output.trans hb.output,Nat.le_trans hb.size ht.size,fun k hk=>(ht.block k (by omega) (by omega)).trans (hb.block k hk)⟩
set_option maxHeartbeats 4000000 in
theorem l12Any_any (p:Nat) (A:Option Addr) (cap:Nat) (cs:List Int) (w:World) (h:Cur p A cap cs w):
  Calls Tryz.prog 56 #[.pointer (some ⟨p,0,none⟩)] w fun e w'=> ∃v g,e= .returned v∧OwG w' w.heap.size v g∧g.2.2.length≤120∧Cur p A cap cs w'∧Tr p (p+1) w w':=by
 have H:=hDD h
 have hp:=h.lt
 clear h
 go_enter Tryz.func56,Tryz.ntmps56
 go_wp2_with fail
 obtain⟨W0,hW0⟩: ∃W,W=w.alloc (Obj.cells #[Value.int IntKind.i64 0,Value.int IntKind.i64 0, .slice none 0 0] 26):=⟨_,rfl⟩
 rw[←hW0]
 obtain⟨xb,b0,s0⟩:=CBx.new hW0
 clear hW0
 have XB:=hDD xb
 have I0:Hid (DrI p A cap cs w W0):=hDD ((DrI.refl H.out).bel b0)
 clear xb b0
 refine(l1Once_any p A cap cs 2 _ I0.out.cur (by omega) (by omega)).mono ?_
 rintro e w1 ⟨x,rfl,c1,t1⟩
 have I1:=hDD (I0.out.to t1 c1)
 have X1:=hDD (XB.out.trP t1 (by omega))
 have hs1:=X1.out.lt
 clear c1 t1 I0 XB
 have END: ∀w2 q1 q2 qs A2 cp2,DrI p A cap cs w w2→CBx w2 w.heap.size (.int .i64 0) (.int .i64 0) (.slice none 0 0)→OwE w2 w1.heap.size (.slice A2 (List.length (α:=EdD) qs) cp2) qs→I64 q1→I64 q2→qs.length≤120→
   ∃W,W=((w2.setCell ⟨w.heap.size,0,none⟩ (.int .i64 q1)).setCell ⟨w.heap.size,1,none⟩ (.int .i64 q2)).setCell ⟨w.heap.size,2,none⟩ (.slice A2 qs.length cp2)∧CBx W w.heap.size (.int .i64 q1) (.int .i64 q2) (.slice A2 qs.length cp2)∧DrI p A cap cs w W∧OwG W w.heap.size (.agg #[.int .i64 q1, .int .i64 q2, .slice A2 qs.length cp2]) (q1,q2,qs):=fun w2 q1 q2 qs A2 cp2 hI hX hO h1 h2 _=>
  ⟨_,rfl,hX.setv _ _ _,hI.hi H.out (Nat.le_refl _) (set3_below _ _ _ (Below.refl _ _) (Nat.le_refl w.heap.size)),_,rfl,h1,h2,(hO.keep fun c hc=>set3_heap _ _ _ _ _ (by have:=(hO.1.lt c hc).1;omega)).mono (by omega)⟩
 have HEND:=hDD END
 clear END
 rcases x with _ | _
 ·go_wp2_with fail
  refine(l9Any_any p A cap cs _ I1.out.cur).mono ?_
  rintro e w2 ⟨v2,⟨q1,q2,qs⟩,rfl,⟨s2,rfl,j1,j2,oe2⟩,hl,c2,t2⟩
  obtain⟨A2,cp2,rfl,_⟩:=oe2.form
  simp only at j1 j2 oe2 hl⊢
  have X2:=hDD (X1.out.trP t2 (by omega))
  have HE:=hDD (HEND.out w2 q1 q2 qs A2 cp2 (I1.out.to t2 c2) X2.out oe2 j1 j2 hl)
  clear c2 t2 oe2 I1 X1
  have u0:=X2.out.c0
  have u1:=X2.out.c1
  have u2:=X2.out.c2
  have f0:=X2.out.fz 0
  have f1:=X2.out.fz 1
  have f2:=X2.out.fz 2
  go_wp2
  obtain⟨W,hW,XF,IF,OF⟩:=HE.out
  rw[←hW]
  have e0:=XF.c0
  have e1:=XF.c1
  have e2:=XF.c2
  exact bodyPost_ret (v:= .agg #[.int .i64 q1, .int .i64 q2, .slice A2 qs.length cp2]) (by simp[results,Tryz.results56,go_sem,e0,e1,e2]) rfl ⟨_,rfl,q1,q2,qs,OF,hl,IF.cur,IF.tr⟩
 ·go_wp2_with fail
  refine(l12Finite_any p A cap cs _ I1.out.cur).mono ?_
  rintro e w2 ⟨v2,⟨q1,q2,qs⟩,rfl,⟨s2,rfl,j1,j2,oe2⟩,hcb,c2,t2⟩
  have hl:qs.length≤120:=(grB_parts (coreB_grB hcb)).2.2.1
  obtain⟨A2,cp2,rfl,_⟩:=oe2.form
  simp only at j1 j2 oe2⊢
  have X2:=hDD (X1.out.trP t2 (by omega))
  have HE:=hDD (HEND.out w2 q1 q2 qs A2 cp2 (I1.out.to t2 c2) X2.out oe2 j1 j2 hl)
  clear c2 t2 oe2 I1 X1 hcb
  have u0:=X2.out.c0
  have u1:=X2.out.c1
  have u2:=X2.out.c2
  have f0:=X2.out.fz 0
  have f1:=X2.out.fz 1
  have f2:=X2.out.fz 2
  go_wp2
  obtain⟨W,hW,XF,IF,OF⟩:=HE.out
  rw[←hW]
  have e0:=XF.c0
  have e1:=XF.c1
  have e2:=XF.c2
  exact bodyPost_ret (v:= .agg #[.int .i64 q1, .int .i64 q2, .slice A2 qs.length cp2]) (by simp[results,Tryz.results56,go_sem,e0,e1,e2]) rfl ⟨_,rfl,q1,q2,qs,OF,hl,IF.cur,IF.tr⟩
end Go.Proofs.YteobmaambgmdbaaGreat
namespace Go.Proofs.YteobmaambgmdbaaGreat
set_option maxRecDepth 20000
set_option linter.unusedVariables false
set_option linter.unusedSimpArgs false
open Go.RowKit
theorem argC_below {w W:World} {v:Value} {cs:List Int} (h:ArgC w v cs) (hb:Below w.heap.size w W):ArgC W v cs:=by
 obtain⟨A,cap,e,h1,h2,h3,h4⟩:=h
 exact⟨A,cap,e,h1,h2,h3,fun h0=>by
  obtain⟨b,off,hA,hc⟩:=h4 h0
  exact⟨b,off,hA,fun i hi=>(hb.cell (p:=⟨b,off+i,none⟩) (lt_cell (hc 0 h0))).trans (hc i hi)⟩⟩
set_option maxHeartbeats 4000000 in
theorem drawCon_any (v:Value) (cs:List Int) (w:World) (h:ArgC w v cs) (hl:cs.length≤1048576):
  Calls Tryz.prog 44 #[v] w fun e w'=> ∃gv g,e= .returned gv∧OwG w' w.heap.size gv g∧g.2.2.length≤120∧Below w.heap.size w w':=by
 have H:=hDD h
 have HN:=hDD (fun W (h:ArgC W v cs)=>l1New_any v cs W h hl)
 have HBW:=hDD (fun W (hb:Below w.heap.size w W)=>argC_below h hb)
 clear h
 go_enter Tryz.func44,Tryz.ntmps44
 go_wp2_with fail
 obtain⟨W0,hW0⟩: ∃W,W=w.alloc (Obj.cells #[Value.int IntKind.i64 0,Value.int IntKind.i64 0, .slice none 0 0] 26):=⟨_,rfl⟩
 rw[←hW0]
 obtain⟨xb,b0,s0⟩:=CBx.new hW0
 clear hW0
 have XB:=hDD xb
 have B0:=hDD b0
 clear xb b0
 refine(HN.out W0 (HBW.out _ B0.out)).mono ?_
 rintro e w1 ⟨p,A,cap,rfl,c1,hp,b1⟩
 have X1:=hDD (XB.out.below b1)
 have B1:=hDD (B0.out.trans (b1.mono (by omega)))
 have hs1:=b1.size
 have I1:=hDD (DrI.refl c1)
 have hpl:=c1.lt
 clear b1 c1 XB B0 HN HBW
 go_wp2_with fail
 refine(l12Any_any p A cap cs w1 I1.out.cur).mono ?_
 rintro e w2 ⟨v2,⟨q1,q2,qs⟩,rfl,⟨s2,rfl,j1,j2,oe2⟩,hql,c2,t2⟩
 obtain⟨A2,cp2,rfl,_⟩:=oe2.form
 simp only at j1 j2 oe2 hql⊢
 have I2:=hDD (I1.out.to t2 c2)
 have X2:=hDD (X1.out.trP t2 (by omega))
 have OE2:=hDD oe2
 have hs2:=t2.size
 clear c2 t2 oe2 X1
 have u0:=X2.out.c0
 have u1:=X2.out.c1
 have u2:=X2.out.c2
 have f0:=X2.out.fz 0
 have f1:=X2.out.fz 1
 have f2:=X2.out.fz 2
 go_wp2
 have XF:=X2.out.setv (.int .i64 q1) (.int .i64 q2) (.slice A2 qs.length cp2)
 have e0:=XF.c0
 have e1:=XF.c1
 have e2:=XF.c2
 exact bodyPost_ret (v:= .agg #[.int .i64 q1, .int .i64 q2, .slice A2 qs.length cp2]) (by simp[results,Tryz.results44,go_sem,e0,e1,e2]) rfl ⟨_,rfl,q1,q2,qs,⟨_,rfl,j1,j2,(OE2.out.keep fun c hc=>set3_heap _ _ _ _ _ (by have:=(OE2.out.1.lt c hc).1;omega)).mono (by omega)⟩,hql,set3_below _ _ _ (Tr.bw B1.out I2.out.tr (by omega) (by omega)) (Nat.le_refl _)⟩
end Go.Proofs.YteobmaambgmdbaaGreat
namespace Go.Proofs.YteobmaambgmdbaaGreat
set_option maxRecDepth 20000
set_option linter.unusedVariables false
set_option linter.unusedSimpArgs false
open Go.RowKit
set_option maxRecDepth 100000 in
set_option maxHeartbeats 8000000 in
theorem drawCnj_any (v:Value) (cs:List Int) (w:World) (h:ArgC w v cs) (hl:cs.length≤1048576):
  Calls Tryz.prog 54 #[v] w fun e w'=> ∃gv wv g xs,e= .returned (.tuple #[gv,wv])∧OwG w' w.heap.size gv g∧g.2.2.length≤120∧OwI w' w.heap.size wv xs∧WdR (max 1 (min g.1 3)) 200 xs∧Below w.heap.size w w':=by
 have H:=hDD h
 have HN:=hDD (fun W (h:ArgC W v cs)=>l1New_any v cs W h hl)
 have HBW:=hDD (fun W (hb:Below w.heap.size w W)=>argC_below h hb)
 clear h
 go_enter Tryz.func54,Tryz.ntmps54
 go_wp2_with fail
 obtain⟨W0,hW0⟩: ∃W,W=w.alloc (Obj.cells #[Value.int IntKind.i64 0,Value.int IntKind.i64 0, .slice none 0 0] 26):=⟨_,rfl⟩
 rw[←hW0]
 obtain⟨xb,b0,s0⟩:=CBx.new hW0
 clear hW0
 have XB:=hDD xb
 have B0:=hDD b0
 clear xb b0
 refine(HN.out W0 (HBW.out _ B0.out)).mono ?_
 rintro e w1 ⟨p,A,cap,rfl,c1,hp,b1⟩
 have X1:=hDD (XB.out.below b1)
 have B1:=hDD (B0.out.trans (b1.mono (by omega)))
 have hs1:=b1.size
 have I1:=hDD (DrI.refl c1)
 have hpl:=c1.lt
 clear b1 c1 XB B0 HN HBW
 go_wp2_with fail
 refine(l12Any_any p A cap cs w1 I1.out.cur).mono ?_
 rintro e w2 ⟨v2,⟨q1,q2,qs⟩,rfl,⟨s2,rfl,j1,j2,oe2⟩,hql,c2,t2⟩
 obtain⟨A2,cp2,rfl,_⟩:=oe2.form
 simp only at j1 j2 oe2 hql⊢
 have I2:=hDD (I1.out.to t2 c2)
 have X2:=hDD (X1.out.trP t2 (by omega))
 have OE2:=hDD oe2
 have hs2:=t2.size
 clear c2 t2 oe2 X1
 go_wp2_with fail
 obtain⟨W3,hW3⟩: ∃W,W=w2.alloc (Obj.cells #[Value.int IntKind.i64 q1,Value.int IntKind.i64 q2, .slice A2 qs.length cp2] 26):=⟨_,rfl⟩
 have g3:=GBx.new (m:=(q1,q2,qs)) OE2.out j1 j2 hW3
 obtain⟨_,b3,s3⟩:=CBx.new hW3
 rw[←hW3]
 have G3:=hDD g3
 have X3:=hDD (X2.out.below b3)
 have I3:=hDD (I2.out.bel b3)
 have B3:=hDD (Tr.bw B1.out I3.out.tr (by omega) (by omega))
 clear hW3 g3 b3 I2 X2 OE2
 generalize hb:w2.heap.size=b at*
 have hbw:w.heap.size<b:=by omega
 clear hb
 go_wp2_with fail
 refine wp_region_genH [.val (.agg #[.int .i64 q1, .int .i64 q2, .slice A2 qs.length cp2]), .val (.pointer (some ⟨p,0,none⟩)), .val (.pointer (some ⟨b,0,none⟩)), .val (.int .i64 q1), .val (.int .i64 (min q1 3)), .val (.int .i64 (max 1 (min q1 3))), .mem (fun _ W v=> ∃xs A c,v= .slice A xs.length c∧OwI W w1.heap.size v xs∧WdR (max 1 (min q1 3)) 200 xs), .mem (fun _ W _=>CBx W w.heap.size (.int .i64 q1) (.int .i64 q2) (.slice A2 qs.length cp2)), .pur (fun us v=>v=us 6)]
  [none,none,none,none,none,none,some (fun W W'=>Tr p (p+1) W W'∧Cur p A cap cs W'),some (fun W W'=> ∃x y z,W'=((W.setCell ⟨w.heap.size,0,none⟩ x).setCell ⟨w.heap.size,1,none⟩ y).setCell ⟨w.heap.size,2,none⟩ z),none]
  (fun W=>Below w.heap.size w W∧GBx W b w1.heap.size A2 cp2 (q1,q2,qs)∧w1.heap.size≤W.heap.size∧ ∃x y z,CBx W w.heap.size x y z) (fun W=>Cur p A cap cs W) [7] [(6,7)] (by kernel_rfl) (by kernel_rfl) (by rfl) (by rfl)
  ⟨B3.out.drew,G3.out.below (Below.refl _ _).drew,(show w1.heap.size≤W3.heap.size by omega),_,_,_,X3.out.below (Below.refl _ _).drew⟩ (I3.out.cur.below (Below.refl _ _).drew)
  ⟨fun _ _ h t=>⟨Tr.bw h.1 t.1 (by omega) (by have:=h.2.2.1;omega),h.2.1.trP t.1 (by omega) (by omega),Nat.le_trans h.2.2.1 t.1.size,by obtain⟨x,y,z,hx⟩:=h.2.2.2;exact⟨x,y,z,hx.trP t.1 (by omega)⟩⟩,
   fun W _ h ⟨x,y,z,e⟩=>by
    subst e
    obtain⟨x',y',z',hx⟩:=h.2.2.2
    exact⟨set3_below _ _ _ h.1 (Nat.le_refl _),h.2.1.keep (by rw[set3_size];exact Nat.le_refl _) fun c hc=>set3_heap _ _ _ _ _ (hc.elim (fun e=>by omega) fun e=>by have:=(h.2.1.ow.1.lt c e).1;omega),by rw[set3_size];exact h.2.2.1,_,_,_,hx.setv _ _ _⟩,trivial⟩
  ⟨.inr fun _ _ _ h t=>t.2, .inl (by simp),trivial⟩ ⟨fun _ _ _ _ _ _ ⟨x,y,z,t⟩ h=>by subst t;obtain⟨xs,A,c,e,o,hl⟩:=h;exact⟨xs,A,c,e,o.keepB fun c hc=>set3_heap _ _ _ _ _ (by have:=(o.1.lt c hc).1;omega),hl⟩,trivial⟩ (fun vs=> ?_)
 refine⟨fun W' K' Q0 hI hD hK=> ?_,?_⟩
 ·have z0:=hI.out.1.2.1.c0
  have z1:=hI.out.1.2.1.c1
  have z2:=hI.out.1.2.1.c2
  go_simp
  exact hK.out _ _ rfl rfl
 simp only[Act.put,List.setIfInBounds_toArray,List.set_cons_zero,List.set_cons_succ,Sg.pick,Nat.reduceAdd]
 refine⟨fun W' K' Q0 hI hD hK=> ?_,?_⟩
 ·skip
  go_simp
  exact hK.out _ _ rfl rfl
 simp only[Act.put,List.setIfInBounds_toArray,List.set_cons_zero,List.set_cons_succ,Sg.pick,Nat.reduceAdd]
 refine⟨fun W' K' Q0 hI hD hK=> ?_,?_⟩
 ·skip
  go_simp
  exact hK.out _ _ rfl rfl
 simp only[Act.put,List.setIfInBounds_toArray,List.set_cons_zero,List.set_cons_succ,Sg.pick,Nat.reduceAdd]
 refine⟨fun W' K' Q0 hI hD hK=> ?_,?_⟩
 ·have z0:=hI.out.1.2.1.c0
  go_simp
  exact hK.out _ _ rfl rfl
 simp only[Act.put,List.setIfInBounds_toArray,List.set_cons_zero,List.set_cons_succ,Sg.pick,Nat.reduceAdd]
 refine⟨fun W' K' Q0 hI hD hK=> ?_,?_⟩
 ·skip
  go_simp
  exact hK.out _ _ rfl rfl
 simp only[Act.put,List.setIfInBounds_toArray,List.set_cons_zero,List.set_cons_succ,Sg.pick,Nat.reduceAdd]
 refine⟨fun W' K' Q0 hI hD hK=> ?_,?_⟩
 ·skip
  go_simp
  exact hK.out _ _ rfl rfl
 simp only[Act.put,List.setIfInBounds_toArray,List.set_cons_zero,List.set_cons_succ,Sg.pick,Nat.reduceAdd]
 refine⟨fun W' K' Q0 hI hD hK=> ?_,?_⟩
 ·skip
  go_simp
  refine(l2Of_any p A cap cs (max 1 (min q1 3)) 5 _ (hI.out.2 (by kernel_rfl)) (by omega) (by omega) (by omega) (by omega)).mono ?_;rintro e w' ⟨wv,ys,rfl,oy,hy,c,t⟩;obtain⟨Ay,cy,rfl,_⟩:=oy.form;exact hK.out _ _ ⟨t,c⟩ ⟨ys,Ay,cy,rfl,oy.mono hI.out.1.2.2.1,by have:=hy.1;omega,hy.2.1⟩
 simp only[Act.put,List.setIfInBounds_toArray,List.set_cons_zero,List.set_cons_succ,Sg.pick,Nat.reduceAdd]
 refine⟨fun W' K' Q0 hI hD hK=> ?_,?_⟩
 ·obtain⟨x',y',z',hx⟩:=hI.out.1.2.2.2
  have z0:=hx.c0
  have z1:=hx.c1
  have z2:=hx.c2
  have u0:=hx.fz 0
  have u1:=hx.fz 1
  have u2:=hx.fz 2
  go_simp
  exact hK.out undef _ ⟨_,_,_,rfl⟩ (hx.setv _ _ _)
 simp only[Act.put,List.setIfInBounds_toArray,List.set_cons_zero,List.set_cons_succ,Sg.pick,Nat.reduceAdd]
 refine⟨fun W' K' Q0 hI hD hK=> ?_,?_⟩
 ·obtain⟨x6,Aa6,ca6,e6,o6,l6⟩:=(show ∃xs A c,vs 6= .slice A xs.length c∧OwI W' w1.heap.size (vs 6) xs∧WdR (max 1 (min q1 3)) 200 xs from hD.out 6 (by kernel_rfl))
  rw[e6] at hK⊢
  go_simp
  exact hK.out _ _ rfl ((mask_at (by kernel_rfl)).trans e6).symm
 simp only[Act.put,List.setIfInBounds_toArray,List.set_cons_zero,List.set_cons_succ,Sg.pick,Nat.reduceAdd]
 intro W9 hI9 hD9
 obtain⟨x6,Aa6,ca6,e6,o6,l6⟩:=(show ∃xs A c,vs 6= .slice A xs.length c∧OwI W9 w1.heap.size (vs 6) xs∧WdR (max 1 (min q1 3)) 200 xs from hD9.out 6 (by decide))
 have e8:=(show vs 8=maskV _ 8 vs 6 from hD9.out 8 (by decide))
 have hX9:=(show CBx W9 w.heap.size (.int .i64 q1) (.int .i64 q2) (.slice A2 qs.length cp2) from hD9.out 7 (by decide))
 rw[mask_at (by kernel_rfl),e6] at e8
 rw[e6] at o6
 rw[e8]
 have O9:=hDD o6
 have G9:=hDD hI9.out.1.2.1
 have B9:=hDD hI9.out.1.1
 have e0:=hX9.c0
 have e1:=hX9.c1
 have e2:=hX9.c2
 clear hD9 hI9 e8 e6 o6
 go_wp2
 exact bodyPost_ret (v:= .tuple #[.agg #[.int .i64 q1, .int .i64 q2, .slice A2 qs.length cp2], .slice Aa6 x6.length ca6]) (by simp[results,Tryz.results54,go_sem,e0,e1,e2]) rfl ⟨_,_,(q1,q2,qs),x6,rfl,⟨_,rfl,j1,j2,G9.out.ow.mono (by omega)⟩,hql,O9.out.mono (by omega),l6,B9.out⟩
end Go.Proofs.YteobmaambgmdbaaGreat
namespace Go.Proofs.YteobmaambgmdbaaGreat
set_option maxRecDepth 20000
set_option linter.unusedVariables false
set_option linter.unusedSimpArgs false
open Go.RowKit
def freG (l:List Oper):Bool:=
 Region.noSelect l.toArray&&(List.range l.length).all fun i=>match l[i]? with
  | none=>true
  | some o=>(o.after.all fun e=> !Region.binds .any e||decide (e.on<i))&&
    ((List.range l.length).all fun k=>match l[k]? with
      | none=>true
      | some o'=>(decide (i=k)|| !(o.dst==o'.dst)||o.dst.isNone)&&
        (match o'.dst with
         | none=>true
         | some t=> !(o.looksAt l.toArray).contains t||reachB l l.length i k||reachB l l.length k i))
def ObwG (G:List Nat) (P:Program) (J:Nat→World→Prop) (l:List Oper) (L:List Sg) (T:List (Option (World→World→Prop))) (vs:Nat→Value) (Q:Exit→Act→World→Prop):List Oper→List Sg→Nat→Act→Prop
 | [],_,_,b=> ∀W',Hid (J l.length W')→Hid (∀j,j<l.length→(sgA L j).R (maskV l j vs) W' (vs j))→Q .normal b W'
 | _::_,[],_,_=>False
 | o::r,s::ss,k,b=>(match G.contains k with
   | true=>True
   | false=>(∀W K Q0,Hid (J k W)→Hid (∀j,reachB l l.length k j=true→(sgA L j).R (maskV l j vs) W (vs j))→Hid (∀v W',tnA T k W W'→s.R (maskV l k vs) W' v→K (b.put o.dst v) W')→o.wp P b W K Q0))∧ObwG G P J l L T vs Q r ss (k+1) (b.put o.dst (s.pick (vs k)))
def gdB (l:List Oper) (L:List Sg) (G:List Nat):Bool:=(List.range l.length).all fun i=>match l[i]? with
 | none=>true
 | some o=>match o.guard with
   | none=> !G.contains i
   | some (j,want)=>reachB l l.length i j&&(match (l[j]?).bind (·.dst) with | some _=>true | none=>false)&&(match sgA L j with | .val (.bool b)=>(b==want)== !G.contains i | _=>false)
def GOff (L:List Sg) (T:List (Option (World→World→Prop))):List Nat→Prop
 | []=>True
 | i::r=>(sgA L i= .val undef∧T.getD i none=none)∧GOff L T r
theorem GOff.at {L:List Sg} {T:List (Option (World→World→Prop))}: ∀ {G:List Nat},GOff L T G→ ∀i,G.contains i=true→sgA L i= .val undef∧T.getD i none=none
 | [],_,_,h=>by cases h
 | j::r,h,i,hi=>by
   simp only[List.contains_cons,Bool.or_eq_true,beq_iff_eq] at hi
   rcases hi with rfl | hi
   ·exact h.1
   ·exact GOff.at h.2 i hi
theorem actV_keep {S:Nat→Bool} {vs:Nat→Value} {d:Tmp}: ∀(r:List Oper) (k:Nat) (b:Act),(∀o∈r,o.dst≠some d)→(actV S vs r k b).tmps[d]? =b.tmps[d]?
 | [],_,_,_=>rfl
 | o::r,k,b,h=>by
   unfold actV
   rw[actV_keep r (k+1) _ fun o' ho'=>h o' (by simp[ho'])]
   split
   ·have:=h o (by simp)
    cases hd:o.dst with
    | none=>rfl
    | some e=>
      rw[hd] at this
      simp only[Act.put]
      rw[Array.getElem?_setIfInBounds_ne (fun q=>this (by rw[q]))]
   ·rfl
theorem actV_get {S:Nat→Bool} {vs:Nat→Value} {d:Tmp}: ∀(r:List Oper) (k:Nat) (b:Act) (i:Nat) (o:Oper),r[i]? =some o→o.dst=some d→S (k+i)=true→(∀j o2,r[j]? =some o2→j≠i→o2.dst≠some d)→d<b.tmps.size→(actV S vs r k b).tmps[d]? =some (vs (k+i))
 | [],_,_,_,_,h,_,_,_,_=>by simp at h
 | o'::r,k,b,0,o,h,hd,hS,hu,hz=>by
   obtain rfl:o'=o:=by simpa using h
   rw[Nat.add_zero] at hS⊢
   unfold actV
   rw[hS,actV_keep r (k+1) _ fun o2 ho2=>by
    obtain⟨j,hj⟩:=List.getElem?_of_mem ho2
    exact hu (j+1) o2 (by simpa using hj) (by omega)]
   simp only[if_true,hd,Act.put]
   rw[Array.getElem?_setIfInBounds_self_of_lt hz]
 | o'::r,k,b,i+1,o,h,hd,hS,hu,hz=>by
   unfold actV
   rw[actV_get r (k+1) _ i o (by simpa using h) hd (by rwa [show k+1+i=k+(i+1) by omega]) (fun j o2 hj hji=>hu (j+1) o2 (by simpa using hj) (by omega)) (by split<;>(try simp only[put_size])<;>exact hz)]
   rw[show k+1+i=k+(i+1) by omega]
section
variable {l:List Oper}
theorem freG_parts (h:freG l=true):Region.noSelect l.toArray=true∧ ∀i o,l[i]? =some o→(∀e∈o.after,Region.binds .any e=true→e.on<i)∧(∀k o',l[k]? =some o'→i≠k→ ∀d,o.dst=some d→o'.dst≠some d)∧
  ∀k o' t,l[k]? =some o'→o'.dst=some t→t∈o.looksAt l.toArray→reachB l l.length i k=true∨reachB l l.length k i=true:=by
 unfold freG at h
 rw[Bool.and_eq_true,List.all_eq_true] at h
 refine⟨h.1,fun i o ho=> ?_⟩
 have hi:i<l.length:=(List.getElem?_eq_some_iff.1 ho).1
 have h1:=h.2 i (List.mem_range.2 hi)
 rw[ho] at h1
 simp only[Bool.and_eq_true,List.all_eq_true,List.mem_range] at h1
 obtain⟨h3,h4⟩:=h1
 refine⟨fun e he hb=> ?_,fun k o' hk hik d hd hd'=> ?_,fun k o' t hk ht hl=> ?_⟩
 ·have:=Array.all_eq_true_iff_forall_mem.1 h3 e he
  rw[hb] at this
  simpa using this
 ·have h5:=h4 k ((List.getElem?_eq_some_iff.1 hk).1)
  rw[hk] at h5
  simp only[Bool.and_eq_true,Bool.or_eq_true,decide_eq_true_eq] at h5
  rcases h5.1 with (h6 | h6) | h6
  ·exact hik h6
  ·rw[hd,hd'] at h6;simp at h6
  ·rw[hd] at h6;simp at h6
 ·have h5:=h4 k ((List.getElem?_eq_some_iff.1 hk).1)
  rw[hk] at h5
  simp only[Bool.and_eq_true] at h5
  have h6:=h5.2
  rw[ht] at h6
  simp only[Bool.or_eq_true,Bool.not_eq_true'] at h6
  rcases h6 with (h6 | h6) | h6
  ·rw[List.contains_iff_mem.2 hl] at h6;cases h6
  ·exact .inl h6
  ·exact .inr h6
theorem reach_ltG (hB:freG l=true): ∀(f i j:Nat),reachB l f i j=true→j<i
 | 0,_,_,h=>by cases h
 | f+1,i,j,h=>by
   unfold reachB at h
   cases ho:l[i]? with
   | none=>rw[ho] at h;cases h
   | some o=>
     rw[ho] at h
     simp only[List.any_eq_true,Array.mem_toList_iff,Bool.and_eq_true,Bool.or_eq_true,beq_iff_eq] at h
     obtain⟨e,he,hb,h⟩:=h
     have h1:=((freG_parts hB).2 i o ho).1 e he hb
     rcases h with h | h
     ·omega
     ·have:=reach_ltG hB f e.on j h;omega
end
section
variable {P:Program} {I Hs:World→Prop} {D:List Nat} {J:Nat→World→Prop} {l:List Oper} {L:List Sg} {T:List (Option (World→World→Prop))} {w:World} {a:Act} {Q:Exit→Act→World→Prop} {G:List Nat}
theorem obwG_at {vs:Nat→Value} (hvs: ∀j,j<l.length→(sgA L j).pick (vs j)=vs j): ∀(r:List Oper) (ss:List Sg) (k:Nat) (b:Act),(∀j,r[j]? =l[k+j]?)→(∀j,ss.getD j (.val undef)=sgA L (k+j))→ObwG G P J l L T vs Q r ss k b→
  (∀i o,r[i]? =some o→G.contains (k+i)=false→ ∀W K Q0,Hid (J (k+i) W)→Hid (∀j,reachB l l.length (k+i) j=true→(sgA L j).R (maskV l j vs) W (vs j))→Hid (∀v W',tnA T (k+i) W W'→(sgA L (k+i)).R (maskV l (k+i) vs) W' v→K ((actV (fun j=>decide (j<k+i)) vs r k b).put o.dst v) W')→o.wp P (actV (fun j=>decide (j<k+i)) vs r k b) W K Q0)∧
  (∀W',Hid (J l.length W')→Hid (∀j,j<l.length→(sgA L j).R (maskV l j vs) W' (vs j))→Q .normal (actV (fun _=>true) vs r k b) W')
 | [],_,_,_,_,_,h=>⟨fun i o ho _=>by simp at ho,h⟩
 | _::_,[],_,_,_,_,h=>h.elim
 | o::r,s::ss,k,b,hr,hs,h=>by
   obtain⟨h1,h2⟩:=h
   have hs0:s=sgA L k:=by simpa using hs 0
   have hk:k<l.length:=by
    have:=hr 0
    rw[Nat.add_zero] at this
    exact(List.getElem?_eq_some_iff.1 this.symm).1
   rw[hs0,hvs k hk] at h2
   have hn:=obwG_at hvs r ss (k+1) _ (fun j=>by have:=hr (j+1);rw[show k+(j+1)=k+1+j by omega] at this;simpa using this) (fun j=>by have:=hs (j+1);rw[show k+(j+1)=k+1+j by omega] at this;simpa using this) h2
   refine⟨fun i o' ho' hG'=> ?_,?_⟩
   ·cases i with
    | zero=>
      obtain rfl:o=o':=by simpa using ho'
      have e:actV (fun j=>decide (j<k+0)) vs (o::r) k b=b:=by
       unfold actV
       rw[decide_eq_false (by omega)]
       have: ∀(r:List Oper) (k2:Nat) (b:Act),k≤k2→actV (fun j=>decide (j<k+0)) vs r k2 b=b:=by
        intro r
        induction r with
        | nil=>intros;rfl
        | cons o r ih=>
          intro k2 b hk2
          unfold actV
          rw[decide_eq_false (by omega)]
          exact ih (k2+1) b (by omega)
       exact this r (k+1) b (by omega)
      rw[Nat.add_zero] at hG'
      rw[e,Nat.add_zero,←hs0]
      rw[hG'] at h1
      exact h1
    | succ i=>
      have e:k+(i+1)=k+1+i:=by omega
      rw[e] at hG'
      have:=hn.1 i o' (by simpa using ho') hG'
      rw[e]
      unfold actV
      rw[decide_eq_true (by omega)]
      exact this
   ·exact hn.2
theorem gen_anyG (hB:freG l=true) (hgB:gdB l L G=true) (hGo:GOff L T G) (hsz: ∀(i:Nat) (o:Oper),l[i]? =some o→ ∀t,o.dst=some t→t<a.tmps.size)
  (hIT: ∀t,some t∈T→ ∀W W',I W→t W W'→I W') (hHT:ItD I Hs D T 0 T) (hst:Stb I L T (clG l L T)) (h: ∀vs,ObwG G P (JH I Hs l D) l L T vs Q l L 0 a): ∀(fuel:Nat) (listed:Array Bool) (vs:Nat→Value) (W:World),
  ((List.range l.length).filter fun j=> !listed.getD j false).length=fuel→Cl l.toArray listed→I W→((∀d∈D,listed.getD d false=false)→Hs W)→(∀j,j<l.length→(sgA L j).pick (vs j)=vs j)→(∀j,listed.getD j false=true→(sgA L j).R (maskV l j vs) W (vs j))→
  wpAny P .any l.toArray Q fuel listed (actV (fun j=>listed.getD j false) vs l 0 a) W:=by
 have hI: ∀k W W',I W→tnA T k W W'→I W':=fun k W W' hi ht=>by
  unfold tnA at ht
  cases e:T.getD k none with
  | none=>rw[e] at ht;rw[show W'=W from ht];exact hi
  | some t=>
    rw[e] at ht
    refine hIT t ?_ W W' hi ht
    rw[List.getD_eq_getElem?_getD] at e
    cases e2:T[k]? with
    | none=>rw[e2] at e;cases e
    | some q=>rw[e2] at e;simp only[Option.getD_some] at e;subst e;exact List.mem_of_getElem? e2
 have hH: ∀k W W',I W→k∉D→Hs W→tnA T k W W'→Hs W':=fun k W W' hi hk hs ht=>by
  unfold tnA at ht
  cases e:T.getD k none with
  | none=>rw[e] at ht;rw[show W'=W from ht];exact hs
  | some t=>
    rw[e] at ht
    rw[List.getD_eq_getElem?_getD] at e
    cases e2:T[k]? with
    | none=>rw[e2] at e;cases e
    | some q=>
      rw[e2] at e;simp only[Option.getD_some] at e;subst e
      rcases hHT.at k t e2 with h | h
      ·rw[Nat.zero_add] at h;exact absurd h hk
      ·exact h W W' hi hs ht
 have all: ∀(listed:Array Bool) (vs:Nat→Value) (W:World),Cl l.toArray listed→I W→((∀d∈D,listed.getD d false=false)→Hs W)→(∀j,j<l.length→(sgA L j).pick (vs j)=vs j)→(∀j,listed.getD j false=true→(sgA L j).R (maskV l j vs) W (vs j))→(∀j,j<l.length→listed.getD j false=true)→Q .normal (actV (fun j=>listed.getD j false) vs l 0 a) W:=fun listed vs W hc hb hd hp hr hl=>by
  have:=(obwG_at hp l L 0 a (fun j=>by rw[Nat.zero_add]) (fun j=>by rw[Nat.zero_add];rfl) (h vs)).2 W (hDD ⟨hb,fun ok=>hd fun d hd'=>by
   have h1:=List.all_eq_true.1 ok d hd'
   simp only[Bool.or_eq_true,beq_iff_eq] at h1
   rcases h1 with h1 | h1
   ·rw[Array.getD_eq_getD_getElem?,Array.getElem?_eq_none (by rw[hc.1,h1];simp)];rfl
   ·have h2:=reach_ltG hB _ _ _ h1
    rw[Array.getD_eq_getD_getElem?,Array.getElem?_eq_none (by rw[hc.1];simp;omega)];rfl⟩) (hDD fun j hj=>hr j (hl j hj))
  rwa [actV_congr (S':=fun _=>true) (vs':=vs) l 0 a fun j hj=>by rw[Nat.zero_add];exact⟨hl j hj,fun _=>rfl⟩]
 have none_ready: ∀(listed:Array Bool),Cl l.toArray listed→Region.ready .any l.toArray listed= []→ ∀j,j<l.length→listed.getD j false=true:=fun listed hc hr j=>by
  induction j using Nat.strongRecOn with
  | _ j ih=>
    intro hj
    by_cases q:listed.getD j false=true
    ·exact q
    ·exfalso
     have:j∈Region.ready .any l.toArray listed:=by
      rw[mem_ready]
      refine⟨by rw[getD_tf (by rw[hc.1];simpa using hj)];simpa using q,l[j],by simp[hj],fun e he hb=> ?_⟩
      have:=((freG_parts hB).2 j l[j] (List.getElem?_eq_getElem hj)).1 e he hb
      exact ih e.on this (by omega)
     rw[hr] at this
     cases this
 intro fuel
 induction fuel with
 | zero=>
   intro listed vs W hf hc hb hd hp hr
   have hl: ∀j,j<l.length→listed.getD j false=true:=fun j hj=>by
    have:=List.filter_eq_nil_iff.1 (List.eq_nil_of_length_eq_zero hf) j (List.mem_range.2 hj)
    simpa using this
   refine⟨?_,all listed vs W hc hb hd hp hr hl⟩
   cases hq:Region.ready .any l.toArray listed with
   | nil=>rfl
   | cons i r=>
     obtain⟨h1,o,ho,_⟩:=mem_ready.1 (show i∈Region.ready .any l.toArray listed by rw[hq];simp)
     have hi:i<l.length:=by simpa using (Array.getElem?_eq_some_iff.1 ho).1
     rw[getD_tf (by rw[hc.1];simpa using hi),hl i hi] at h1
     cases h1
 | succ fuel ih=>
   intro listed vs W hf hc hb hd hp hr
   refine⟨fun h0=>all listed vs W hc hb hd hp hr (none_ready listed hc h0),fun i hi=> ?_⟩
   obtain⟨h1,o,ho,hdeps⟩:=mem_ready.1 hi
   have ho':l[i]? =some o:=by simpa using ho
   have hil:i<l.length:=(List.getElem?_eq_some_iff.1 ho').1
   have his:i<listed.size:=by rw[hc.1];simpa using hil
   have hif:listed.getD i false=false:=by rw[←getD_tf his];exact h1
   obtain⟨_,hdst,hlook⟩:=(freG_parts hB).2 i o ho'
   have hsel:=fun (cs:Array SelectCase) (b:Bool)=>Region.noSelect_spec (freG_parts hB).1 i o cs b ho
   have hob0:=(obwG_at hp l L 0 a (fun j=>by rw[Nat.zero_add]) (fun j=>by rw[Nat.zero_add];rfl) (h vs)).1 i o ho'
   rw[Nat.zero_add] at hob0
   have hlst: ∀j,reachB l l.length i j=true→listed.getD j false=true:=fun j hj=>reach_listed hc l.length i j (fun o2 ho2 e he hb=>by rw[ho'] at ho2;injection ho2 with ho2;subst ho2;exact hdeps e he hb) hj
   have hno: ∀j,listed.getD j false=true→reachB l l.length j i=false:=fun j hj=>by
    cases q:reachB l l.length j i with
    | false=>rfl
    | true=>
      have:=reach_listed hc l.length j i (fun o2 ho2 e he hb=>hc.2 j o2 (by simpa using ho2) hj e he hb) q
      rw[hif] at this
      cases this
   have hwant:Region.wanted o (yielded l.toArray (actV (fun j=>listed.getD j false) vs l 0 a).tmps)= !G.contains i:=by
    have h1:=List.all_eq_true.1 hgB i (List.mem_range.2 hil)
    rw[ho'] at h1
    cases hq:o.guard with
    | none=>
      simp only[hq] at h1
      rw[wanted_none hq,h1]
    | some p=>
      obtain⟨j,want⟩:=p
      simp only[hq,Bool.and_eq_true] at h1
      obtain⟨⟨h2,h3⟩,h4⟩:=h1
      have hjl:=hlst j h2
      cases hlj:l[j]? with
      | none=>rw[hlj] at h3;cases h3
      | some oj=>
        cases hdj:oj.dst with
        | none=>rw[hlj] at h3;simp only[Option.bind_some,hdj] at h3;cases h3
        | some d=>
          have hrj:=hr j hjl
          have hjn:j<l.length:=(List.getElem?_eq_some_iff.1 hlj).1
          have hy:yielded l.toArray (actV (fun j=>listed.getD j false) vs l 0 a).tmps j=(match vs j with | .bool b=>some b | _=>none):=by
           have hg:=actV_get (S:=fun j=>listed.getD j false) (vs:=vs) (d:=d) l 0 a j oj hlj hdj (by rw[Nat.zero_add];exact hjl) (fun m o2 hm hmj=>((freG_parts hB).2 j oj hlj).2.1 m o2 hm (fun e=>hmj e.symm) d hdj) (hsz j oj hlj d hdj)
           rw[Nat.zero_add] at hg
           unfold yielded
           simp only[List.getElem?_toArray,hlj,Option.bind_some,hdj,hg]
           cases vs j<;>rfl
          cases hsj:sgA L j with
          | pur q=>rw[hsj] at h4;cases h4
          | mem q=>rw[hsj] at h4;cases h4
          | val c=>
            rw[hsj] at h4 hrj
            have hvj:vs j=c:=hrj
            cases c with
            | bool b=>
              unfold Region.wanted
              rw[hq]
              simp only[hy,hvj]
              simp only[beq_iff_eq] at h4
              rw[←h4]
              cases b<;>cases want<;>rfl
            | _=>cases h4
   have tail: ∀v W',tnA T i W W'→(sgA L i).R (maskV l i vs) W' v→wpAny P .any l.toArray Q fuel (listed.setIfInBounds i true) ((actV (fun j=>listed.getD j false) vs l 0 a).put o.dst v) W':=fun v W' hbv hv=>by
    have e:=actV_set (S:=fun j=>listed.getD j false) (vs:=vs) (v:=v) l 0 a i o ho' (by rw[Nat.zero_add];exact hif) fun j o2 hj hij d hd=>hdst j o2 hj hij d hd
    rw[Nat.zero_add] at e
    rw[e]
    rw[actV_congr (S':=fun j=>(listed.setIfInBounds i true).getD j false) (vs':=fun j=>if j=i then v else vs j) l 0 a fun j hj=>⟨by
     rw[Nat.zero_add]
     by_cases q:j=i
     ·subst q;simp[his]
     ·rw[decide_eq_false q,Bool.or_false,getD_set_ne false (fun e=>q e.symm)],fun _=>rfl⟩]
    have hset: ∀j,(listed.setIfInBounds i true).getD j false=true→j≠i→listed.getD j false=true:=fun j hj q=>by
     rwa [getD_set_ne false (fun e=>q e.symm)] at hj
    have hmask: ∀j,reachB l l.length j i=false→maskV l j (fun m=>if m=i then v else vs m)=maskV l j vs:=fun j hj=>by
     funext m
     unfold maskV
     by_cases q:m=i
     ·subst q;rw[if_neg (by simp[hj]),if_neg (by simp[hj])]
     ·simp only[if_neg q]
    have hii:reachB l l.length i i=false:=by
     cases q:reachB l l.length i i with
     | false=>rfl
     | true=>have:=reach_ltG hB _ _ _ q;omega
    have hI':I W':=hI i W W' hb hbv
    refine ih (listed.setIfInBounds i true) _ W' ?_ (hc.set hi) hI' (fun hd'=> ?_) (fun j hj=> ?_) (fun j hj=> ?_)
    ·have:=nlisted_set his hif l.length hil
     omega
    ·have hni:i∉D:=fun hm=>by have:=hd' i hm;simp[his] at this
     exact hH i W W' hb hni (hd fun d hdm=>by
      have hne:i≠d:=fun e=>hni (e▸hdm)
      have:=hd' d hdm
      rwa [getD_set_ne false hne] at this) hbv
    ·by_cases q:j=i
     ·subst q;simp only[if_true];exact Sg.pick_of _ _ hv
     ·simp only[if_neg q];exact hp j hj
    ·by_cases q:j=i
     ·subst q;simp only[if_true];rw[hmask _ hii];exact hv
     ·simp only[if_neg q]
      have hjl:=hset j hj q
      rw[hmask j (hno j hjl)]
      have hjn:j<l.length:=by
       by_cases q:j<l.length
       ·exact q
       ·rw[Array.getD_eq_getD_getElem?,Array.getElem?_eq_none (by rw[hc.1];simpa using q)] at hjl
        cases hjl
      have hold:=hr j hjl
      cases hs:sgA L j with
      | val c=>rw[hs] at hold;exact hold
      | pur p=>rw[hs] at hold;exact hold
      | mem p=>
        cases ht:T.getD i none with
        | none=>
          have:W'=W:=by unfold tnA at hbv;rw[ht] at hbv;exact hbv
          rw[this,←hs];exact hold
        | some t=>
          rw[←hs]
          refine hst.at (j,i) ?_ _ W W' _ hb hI' hbv hold
          unfold clG
          refine List.mem_flatMap.2 ⟨j,List.mem_range.2 hjn,List.mem_filterMap.2 ⟨i,List.mem_range.2 hil,?_⟩⟩
          rw[if_pos]
          simp only[hs,ht,Sg.isMem,Option.isSome_some,hno j hjl,Bool.not_false,Bool.and_true,Bool.true_and]
          simpa using q
   unfold wpOp
   simp only[ho]
   cases hGi:G.contains i with
   | true=>
     rw[hGi] at hwant
     rw[if_neg (by rw[hwant];decide)]
     obtain⟨hu,ht⟩:=hGo.at i hGi
     refine tail undef W ?_ ?_
     ·unfold tnA;rw[ht]
     ·rw[hu];rfl
   | false=>
   have hob:=hob0 hGi
   have hwp:=hob W (fun c W'=> ∃v,c=(actV (fun j=>decide (j<i)) vs l 0 a).put o.dst v∧(tnA T i W W'∧(sgA L i).R (maskV l i vs) W' v)) (fun e _ _=>e= .outgrown∧False) (hDD ⟨hb,fun ok=>hd fun d hd'=>by
    have h1:=List.all_eq_true.1 ok d hd'
    simp only[Bool.or_eq_true,beq_iff_eq] at h1
    rcases h1 with h1 | h1
    ·rw[h1];exact hif
    ·cases q:listed.getD d false with
     | false=>rfl
     | true=>have:=hno d q;rw[h1] at this;cases this⟩) (hDD fun j hj=>hr j (hlst j hj)) (hDD fun v W' hbv hv=>⟨v,rfl,hbv,hv⟩)
   rw[hGi] at hwant
   rw[if_pos (by rw[hwant];rfl)]
   refine .inl (wp_swap ?_ hwp (fun t ht=> ?_) fun v W' ⟨hbv,hv⟩=>tail v W' hbv hv)
   ·refine execOp_congr o (fun cs b e=>hsel cs b e) fun x hx=> ?_
    cases x with
    | tmp t=>
      refine actV_eval l 0 a a rfl rfl fun k o' hk hd=> ?_
      rw[Nat.zero_add]
      have ht:t∈o.looksAt l.toArray:=List.mem_append_left _ (List.mem_filterMap.2 ⟨.tmp t,by simpa using hx,rfl⟩)
      rcases hlook k o' t hk hd ht with q | q
      ·rw[hlst k q,decide_eq_true (reach_ltG hB _ _ _ q)]
      ·have hki:=reach_ltG hB _ _ _ q
       rw[decide_eq_false (by omega)]
       cases hkl:listed.getD k false with
       | false=>rfl
       | true=>
         exfalso
         have:=hno k hkl
         rw[q] at this
         cases this
    | const v=>rfl
    | global g=>rfl
    | func f=>rfl
   ·have: ∀(S:Nat→Bool) (r:List Oper) (k:Nat) (b:Act),(actV S vs r k b).tmps.size=b.tmps.size:=by
     intro S r
     induction r with
     | nil=>intros;rfl
     | cons o r ih=>intro k b;unfold actV;rw[ih];split;exact put_size _ _ _;rfl
    rw[this]
    exact hsz i o ho' t ht
theorem wp_region_genG {id:Nat} (G:List Nat) (L:List Sg) (T:List (Option (World→World→Prop))) (I Hs:World→Prop) (D:List Nat) (X:List (Nat×Nat)) (hm:P.follows .mixedOrders=true) (hB:freG l=true) (hgB:gdB l L G=true) (hGo:GOff L T G) (hX:clG l L T=X) (hsz:(l.all fun o=>match o.dst with | some t=>decide (t<a.tmps.size) | none=>true)=true)
  (hI0:I w.drew) (hH0:Hs w.drew) (hIT:Its I T) (hHT:ItD I Hs D T 0 T) (hst:Stb I L T X)
  (h: ∀vs,ObwG G P (JH I Hs l D) l L T vs Q l L 0 a):(Code.region id l.toArray true).wp P Q a w:=by
 refine wp_region_any hm ?_
 subst hX
 have hv: ∀j,j<l.length→(sgA L j).pick ((sgA L j).pick undef)=(sgA L j).pick undef:=fun j _=>by cases sgA L j<;>rfl
 have h0: ∀j,(Array.replicate l.toArray.size false).getD j false=false:=fun j=>by
  simp only[Array.getD_eq_getD_getElem?,Array.getElem?_replicate]
  split<;>rfl
 have:=gen_anyG (P:=P) (Q:=Q) (G:=G) hB hgB hGo (fun i o ho t ht=>by
  have:=List.all_eq_true.1 hsz o (List.mem_of_getElem? ho)
  rw[ht] at this
  simpa using this) hIT.at hHT hst h l.toArray.size (Array.replicate l.toArray.size false) (fun j=>(sgA L j).pick undef) w.drew (by
   have:(List.range l.length).filter (fun j=> !(Array.replicate l.toArray.size false).getD j false)=List.range l.length:=List.filter_eq_self.2 fun j _=>by rw[h0];rfl
   rw[this];simp) ⟨by simp,fun j o _ hj=>by rw[h0] at hj;cases hj⟩ hI0 (fun _=>hH0) hv (fun j hj=>by rw[h0] at hj;cases hj)
 have e:actV (fun j=>(Array.replicate l.toArray.size false).getD j false) (fun j=>(sgA L j).pick undef) l 0 a=a:=by
  have: ∀(r:List Oper) (k:Nat) (b:Act),actV (fun j=>(Array.replicate l.toArray.size false).getD j false) (fun j=>(sgA L j).pick undef) r k b=b:=by
   intro r
   induction r with
   | nil=>intros;rfl
   | cons o r ih=>intro k b;unfold actV;rw[h0];exact ih _ _
  exact this l 0 a
 rw[e] at this
 exact this
end
end Go.Proofs.YteobmaambgmdbaaGreat
namespace Go.Proofs.YteobmaambgmdbaaGreat
set_option maxRecDepth 20000
set_option linter.unusedVariables false
set_option linter.unusedSimpArgs false
open Go.RowKit
set_option maxHeartbeats 2000000 in
theorem implPathWordO_any (v:Value) (g:GrD) (y:Nat) (w:World) (h:ArgG w v g) (hf:foldB g=true) (hy:(y:Int)∈canO g):
  Calls Tryz.prog 123 #[v, .int .i64 0, .int .i64 y] w fun e w'=> ∃r,e= .returned (.tuple #[r, .bool true])∧OwI w' w.heap.size r (wdO g y)∧Below w.heap.size w w':=by
 have HG:=hDD h
 have HF:=hDD hf
 have hgr:=(foldB_parts hf).1
 obtain⟨h13,h40,h120,_⟩:=grB_parts hgr
 have hyr:=(canO_ok hgr).2.1 _ hy
 have HY:=hDD hy
 obtain⟨s,rfl,hi1,hi2,hga⟩:=h
 obtain⟨A,cap,rfl⟩:=hga.form
 obtain⟨g1,N,es⟩:=g
 simp only at*
 clear hga hf hgr hy
 have qT: ∀(w:World) (a:Option Addr) (n c n' c':Nat),(binOp .eql 27 (.slice a n c) (.slice none n' c')).run Tryz.prog w= .ok (.bool a.isNone) w:=fun w a n c n' c'=>Lib.run_eql_slice_nil w _ _ a n c n' c' Tryz.underlying27
 go_enter Tryz.func123,Tryz.ntmps123
 go_wp2_with fail
 obtain⟨W,hW⟩: ∃W,W=w.alloc (Obj.cells #[.int .i64 g1, .int .i64 N, .slice A es.length cap] 26):=⟨_,rfl⟩
 rw[←hW]
 obtain⟨xG,bG,sG⟩:=CBx.new hW
 clear hW
 have XG:=hDD xG
 have BX:=hDD bG
 have hsW:w.heap.size+1≤W.heap.size:=by omega
 clear xG bG sG
 have HA:Hid (∀w',Below W.heap.size W w'→ArgG w' (.agg #[.int .i64 g1, .int .i64 N, .slice A es.length cap]) (g1,N,es)):=hDD fun w' hb=>HG.out.below (BX.out.trans (hb.mono (by omega)))
 have HIF:=hDD (implIsFolded_any _ (g1,N,es) W (HA.out W (Below.refl _ _)))
 rw[HF.out] at HIF
 refine HIF.out.mono ?_
 clear HIF
 rintro e w1 ⟨rfl,b1⟩
 have B1:=hDD b1
 have hw1:=b1.size
 clear b1
 have HE1:Hid (inB 0 0 (wrap64 (N-1))=true):=hDD (by rw[IntWalk.wrap64_in _ ⟨by omega,by omega⟩];unfold inB;simp;omega)
 have HE2:Hid (inB (y:Int) 0 (wrap64 (N-1))=true):=hDD (by rw[IntWalk.wrap64_in _ ⟨by omega,by omega⟩];unfold inB;simp;omega)
 have uXG0:=(XG.out.below B1.out).c0
 have uXG1:=(XG.out.below B1.out).c1
 have uXG2:=(XG.out.below B1.out).c2
 go_wp2_with fail
 clear uXG0 uXG1 uXG2
 refine(grHas_any g1 N A es.length cap 0 w1).mono ?_
 rintro e w2 ⟨rfl,b2⟩
 rw[HE1.out]
 have B2:=hDD (B1.out.trans (b2.mono hw1))
 have hw2:=b2.size
 clear b2
 have uXG0:=(XG.out.below B2.out).c0
 have uXG1:=(XG.out.below B2.out).c1
 have uXG2:=(XG.out.below B2.out).c2
 go_wp2_with fail
 clear uXG0 uXG1 uXG2
 refine(grHas_any g1 N A es.length cap y w2).mono ?_
 rintro e w3 ⟨rfl,b3⟩
 rw[HE2.out]
 have B3:=hDD (B2.out.trans (b3.mono (by omega)))
 have hw3:=b3.size
 clear b3
 have uXG0:=(XG.out.below B3.out).c0
 have uXG1:=(XG.out.below B3.out).c1
 have uXG2:=(XG.out.below B3.out).c2
 go_wp2_with fail
 clear uXG0 uXG1 uXG2
 refine(treeX_any _ (g1,N,es) w3 (HA.out w3 B3.out) HF.out).mono ?_
 rintro e w4 ⟨r,P,rfl,hP,ht,_,b4⟩
 have B4:=hDD (B3.out.trans (b4.mono (by omega)))
 obtain⟨b,cb,hc,hown⟩:=ht.at_own (y:=y) (show y<N.toNat by omega) HY.out
 have hrd:=hown.mono (show w.heap.size≤P by omega)
 clear hown
 have HRD:=hDD hrd
 obtain⟨M,rfl⟩: ∃M:Nat,N=(M:Int):=⟨N.toNat,by omega⟩
 simp only[Int.toNat_natCast] at hc⊢
 have hyM:(y:Int)<(M:Int):=by omega
 obtain⟨ws,hws⟩: ∃ws,ws=wdO (g1,(M:Int),es) y:=⟨_,rfl⟩
 rw[←hws] at HRD hc
 have HWS:=hDD hws
 clear b4 ht hrd hws
 go_wp2
 exact bodyPost_ret (v:= .tuple #[.slice (some ⟨b,0,none⟩) ws.length cb, .bool true]) (by simp[results,Tryz.results123]) rfl ⟨_,rfl,by rw[←HWS.out];exact HRD.out,BX.out.trans (B4.out.mono (by omega))⟩
set_option maxHeartbeats 2000000 in
theorem implTreeWordO_any (v:Value) (g:GrD) (y:Nat) (w:World) (h:ArgG w v g) (hf:foldB g=true) (hy:(y:Int)∈canO g):
  Calls Tryz.prog 86 #[v, .int .i64 y] w fun e w'=> ∃r,e= .returned r∧OwI w' w.heap.size r (wdO g y)∧Below w.heap.size w w':=by
 have HG:=hDD h
 obtain⟨s,rfl,hi1,hi2,hga⟩:=h
 obtain⟨A,cap,rfl⟩:=hga.form
 obtain⟨g1,N,es⟩:=g
 simp only at*
 clear hga
 go_enter Tryz.func86,Tryz.ntmps86
 go_wp2_with fail
 obtain⟨W,hW⟩: ∃W,W=w.alloc (Obj.cells #[.int .i64 g1, .int .i64 N, .slice A es.length cap] 26):=⟨_,rfl⟩
 rw[←hW]
 obtain⟨xG,bG,sG⟩:=CBx.new hW
 clear hW
 have BX:=hDD bG
 have hsW:w.heap.size+1≤W.heap.size:=by omega
 clear xG bG sG
 refine(implPathWordO_any _ (g1,N,es) y W (HG.out.below BX.out) hf hy).mono ?_
 rintro e w1 ⟨r,rfl,hrd0,b1⟩
 have B1:=hDD b1
 have hrd:=hrd0.mono (show w.heap.size≤W.heap.size by omega)
 have HRD:=hDD hrd
 obtain⟨A1,c1,rfl,_⟩:=hrd.form
 clear b1 hrd
 obtain⟨ws,hws⟩: ∃ws,ws=wdO (g1,N,es) y:=⟨_,rfl⟩
 rw[←hws] at HRD⊢
 have HWS:=hDD hws
 clear hws
 go_wp2
 go_ret
 exact⟨_,rfl,by rw[←HWS.out];exact HRD.out,BX.out.trans (B1.out.mono (by omega))⟩
end Go.Proofs.YteobmaambgmdbaaGreat
namespace Go.Proofs.YteobmaambgmdbaaGreat
set_option maxRecDepth 20000
set_option linter.unusedVariables false
set_option linter.unusedSimpArgs false
open Go.RowKit
def inG (ds:List GrD) (d:GrD):Bool:=decide (d∈ds)
theorem inG_false {ds:List GrD} {d:GrD} (h: ∀j (hj:j<ds.length),ds[j]≠d):inG ds d=false:=by
 unfold inG
 rw[decide_eq_false_iff_not]
 intro hm
 obtain⟨j,hj,e⟩:=List.getElem_of_mem hm
 exact h j hj e
theorem inG_true {ds:List GrD} {d:GrD} (j:Nat) (hj:j<ds.length) (h:ds[j]=d):inG ds d=true:=by
 unfold inG
 rw[decide_eq_true_eq,←h]
 exact List.getElem_mem hj
set_option maxHeartbeats 1000000 in
theorem implIsListed_any (v u:Value) (ds:List GrD) (d:GrD) (w:World) (h:ArgGS w v ds) (h':ArgG w u d):
  Calls Tryz.prog 96 #[v,u] w fun e w'=>e= .returned (.bool (inG ds d))∧Below w.heap.size w w':=by
 have H:=hDD h
 have H':=hDD h'
 obtain⟨A,cap,rfl,hcap,hm,_⟩:=h
 unfold maxLen at hm
 obtain⟨s,rfl,_⟩:=h'
 go_enter Tryz.func96,Tryz.ntmps96
 go_wp2
 have hb:Below w.heap.size w (w.alloc (Obj.cells #[Value.int IntKind.i64 d.1,Value.int IntKind.i64 d.2.1,s] 26)):=(by repeat(first | exact Below.refl _ _ | (refine Below.setCell ?_ (by first | omega | (simp<;>omega)) _) | (refine bel_drewN ?_ _) | (refine Below.drew ?_) | (refine Below.alloc ?_ (by first | omega | (simp<;>omega)) _)))
 have q0:(w.alloc (Obj.cells #[Value.int IntKind.i64 d.1,Value.int IntKind.i64 d.2.1,s] 26)).cell? ⟨w.heap.size,0,none⟩=some (.int .i64 d.1):=by simp[go_sem]
 have q1:(w.alloc (Obj.cells #[Value.int IntKind.i64 d.1,Value.int IntKind.i64 d.2.1,s] 26)).cell? ⟨w.heap.size,1,none⟩=some (.int .i64 d.2.1):=by simp[go_sem]
 have q2:(w.alloc (Obj.cells #[Value.int IntKind.i64 d.1,Value.int IntKind.i64 d.2.1,s] 26)).cell? ⟨w.heap.size,2,none⟩=some s:=by simp[go_sem]
 have hs2:w.heap.size<(w.alloc (Obj.cells #[Value.int IntKind.i64 d.1,Value.int IntKind.i64 d.2.1,s] 26)).heap.size:=by simp
 generalize w.alloc (Obj.cells #[Value.int IntKind.i64 d.1,Value.int IntKind.i64 d.2.1,s] 26)=w2 at hb q0 q1 q2 hs2⊢
 have HB:=hDD hb
 have Q0:=hDD q0
 have Q1:=hDD q1
 have Q2:=hDD q2
 clear hb q0 q1 q2
 go_loopw [9] (fun i wr=> ∃k:Nat,k≤ds.length∧i= .int .i64 k∧(∀j (hj:j<ds.length),j<k→ds[j]≠d)∧Below w2.heap.size w2 wr) (fun i _=>ds.length-(intOf i).toNat)
 case atStart=>exact⟨0,Nat.zero_le _,rfl,fun j hj h=>absurd h (by omega),Below.refl _ _⟩
 case round=>
  obtain⟨k,hk,rfl,hall,hbel⟩:=hrel
  have HA:=hDD hall
  have HB2:=hDD hbel
  have HB3:=hDD (HB.out.trans (hbel.mono HB.out.size))
  have hsz:=hbel.size
  by_cases hlt:k<ds.length
  ·obtain⟨g,off,s',rfl,hg,c0,c1,c2,ha⟩:=(H.out.below HB3.out).at hlt
   have X1:=hDD ha
   have X2:=hDD (H'.out.below HB3.out)
   have HT:Hid (ds[k]=d→inG ds d=true):=hDD (inG_true k hlt)
   have HF:Hid (ds[k]≠d→ ∀j (hj:j<ds.length),j<k+1→ds[j]≠d):=hDD fun F j hj hjk=>by
    rcases Nat.lt_or_eq_of_le (Nat.le_of_lt_succ hjk) with h | rfl
    ·exact HA.out j hj h
    ·exact F
   have p0:=(hbel.cell (p:=⟨w.heap.size,0,none⟩) hs2).trans Q0.out
   have p1:=(hbel.cell (p:=⟨w.heap.size,1,none⟩) hs2).trans Q1.out
   have p2:=(hbel.cell (p:=⟨w.heap.size,2,none⟩) hs2).trans Q2.out
   have hws:w.heap.size<wr.heap.size:=by omega
   clear ha hall hbel
   generalize ds[k]=x at*
   obtain⟨A3,c3,rfl,_⟩:=X1.out.inner
   obtain⟨A4,c4,rfl,_⟩:=X2.out.inner
   go_wp2_with fail
   refine(implEqualGraphs_any _ _ x d _ (X1.out.below ((Below.refl _ _).alloc (Nat.le_refl _) _)) (X2.out.below ((Below.refl _ _).alloc (Nat.le_refl _) _))).mono ?_
   rintro e w9 ⟨rfl,b9⟩
   have B9:Hid (Below wr.heap.size wr w9):=hDD (((Below.refl _ _).alloc (Nat.le_refl _) _).trans (b9.mono (by simp)))
   clear b9
   rcases e2:decide (x=d) with _ | _
   ·go_wp2
    go_roundw
    case rel=>exact⟨k+1,by omega,by go_num,HF.out (by simpa using e2),HB2.out.trans (B9.out.mono hsz)⟩
    case measure=>simp[intOf];omega
   ·go_wp2
    go_ret
    exact⟨ret_bool (HT.out (by simpa using e2)).symm,HB3.out.trans (B9.out.mono (by omega))⟩
  ·obtain rfl:k=ds.length:=by omega
   have F:=hDD (inG_false (d:=d) fun j hj=>HA.out j hj hj)
   clear hall hbel
   go_wp2
   go_ret
   exact⟨ret_bool F.out.symm,HB3.out⟩
end Go.Proofs.YteobmaambgmdbaaGreat
namespace Go.Proofs.YteobmaambgmdbaaGreat
set_option maxRecDepth 20000
set_option linter.unusedVariables false
set_option linter.unusedSimpArgs false
open Go.RowKit
def addGs (l:List GrD) (x:GrD):List GrD:=if inG l x=true then l else l++ [x]
theorem addGs_len (l:List GrD) (x:GrD):(addGs l x).length≤l.length+1:=by
 unfold addGs
 split
 ·omega
 ·simp
theorem push_graph {lo:Nat} {w0 w:World} {v:Value} {L:List GrD} {ops:Array Oper} {rest:List Oper} {o:Oper} {a:Act} {Q:Exit→Act→World→Prop} (hgd:o.guard=none) (s x:Operand)
  (ho:o.op= .call {callee:= .builtin .append,args:= #[s,x],argTypes:= #[55,55]})
  (hown:OGS lo w0.heap.size v L w0) (hlo:lo≤w0.heap.size) (hbel:Below w0.heap.size w0 w) (hs:a.eval s=v) (b:Nat) (z:Value) (d:GrD) {base:Nat} (hx:a.eval x= .slice (some ⟨b,0,none⟩) 1 1)
  (hel:OwE w base z d.2.2) (hi1:I64 d.1) (hi2:I64 d.2.1) (hbase:w0.heap.size≤base) (hc: ∀j u,[Value.int .i64 d.1, .int .i64 d.2.1,z][j]? =some u→w.cell? ⟨b,j,none⟩=some u) (hz:z.oneCell'=true) (hl:L.length≤1073741824)
  (h: ∀v' w',OGS lo w'.heap.size v' (L++ [d]) w'→w.grownBy w' v.ownBlock→wpList Tryz.prog ops Q rest (a.put o.dst v') w'):
  wpList Tryz.prog ops Q (o::rest) a w:=by
 obtain⟨i0,hi0,hz0,hz1,hz2⟩:=info_parts graph_info
 refine push_own EG.stable hgd s x ho Tryz.underlying55 hi0 hz0 hz1 hz2 rfl (by decide) (by decide) hown hlo hbel hs b [.int .i64 d.1, .int .i64 d.2.1,z] d z.ownBlock.toList hx ⟨z,rfl,hi1,hi2,hel.mono (Nat.zero_le _),rfl⟩ rfl ?_ ?_ hc ?_ hl h
 ·cases z.ownBlock<;>simp
 ·intro k hk
  have:=hel.1.lt k (by simpa using hk)
  omega
 ·intro u hu
  simp at hu
  rcases hu with rfl | rfl | rfl
  ·rfl
  ·rfl
  ·exact hz
theorem gr_lit (w:World) (N:Nat) (hN:w.heap.size=N) (a b c:Value) (t:TypeId): ∀j u,[a,b,c][j]? =some u→(w.alloc (.cells #[a,b,c] t)).cell? ⟨N,j,none⟩=some u:=by
 subst hN
 intro j u hj
 match j,hj with
 | 0,hj=>simp at hj;subst hj;simp[go_sem]
 | 1,hj=>simp at hj;subst hj;simp[go_sem]
 | 2,hj=>simp at hj;subst hj;simp[go_sem]
theorem OGS_lit (w:World) (N:Nat) (hN:w.heap.size=N) {lo:Nat} (h:lo≤N):OGS lo (N+1) (.slice (some ⟨N,0,none⟩) 0 0) [] (w.alloc (.cells #[] 26)):=by
 subst hN
 refine OwnL.nil (by have:=World.ownsRow_lit (e:=26) (size:=3) (base:=0) w #[] 0 (Nat.zero_le _) (by unfold maxLen;omega) (by simp);simpa using this) fun b hb=> ?_
 simp[Value.ownBlock] at hb
 omega
end Go.Proofs.YteobmaambgmdbaaGreat
namespace Go.Proofs.YteobmaambgmdbaaGreat
set_option maxRecDepth 20000
set_option linter.unusedVariables false
set_option linter.unusedSimpArgs false
open Go.ChangeShapes Go.WideShapes Go.ChangeAt Go.RowKit
theorem laidOut:laidOutB Tryz.prog=true:=by kernel_rfl
theorem own:ownKnob Tryz.prog.godebug=none:=by kernel_rfl
end Go.Proofs.YteobmaambgmdbaaGreat
namespace Go.Proofs.YteobmaambgmdbaaGreat
set_option maxRecDepth 20000
set_option linter.unusedVariables false
set_option linter.unusedSimpArgs false
open Go.RowKit
theorem ArgE.same {w w':World} {v:Value} {es:List EdD} (h:ArgE w v es) (hs: ∀b,b<w.heap.size→w'.heap[b]? =w.heap[b]?):ArgE w' v es:=by
 obtain⟨A,cap,hv,hc,hm,hn,hr,hx⟩:=h
 refine⟨A,cap,hv,hc,hm,hn,hr,fun h0=> ?_⟩
 obtain⟨b,off,hA,hlt,hx⟩:=hx h0
 have hh:=hs b hlt
 refine⟨b,off,hA,?_,fun k hk=> ?_⟩
 ·rw[Array.getElem?_eq_getElem hlt] at hh
  exact lt_of_heap hh
 ·obtain⟨h1,h2,h3⟩:=hx k hk
  exact⟨(World.cell?_of_block (w:=w) hh).trans h1,(World.cell?_of_block (w:=w) hh).trans h2,(World.cell?_of_block (w:=w) hh).trans h3⟩
theorem ArgG.same {w w':World} {v:Value} {g:GrD} (h:ArgG w v g) (hs: ∀b,b<w.heap.size→w'.heap[b]? =w.heap[b]?):ArgG w' v g:=by
 obtain⟨s,hv,h1,h2,ha⟩:=h
 exact⟨s,hv,h1,h2,ha.same hs⟩
theorem ArgG.ob {w:World} {v:Value} {d:GrD} (h:ArgG w v d):Ob (Kept w fun w=>ArgG w v d) 0 w.heap.size w:=Kept.ob h
def OE (lo hi:Nat) (v:Value) (es:List EdD) (w:World):Prop:=OwE w lo v es∧ ∀b,v.ownBlock=some b→b<hi
theorem OE.loc {lo hi:Nat} {v:Value} {es:List EdD}:Loc (OE lo hi v es) lo hi:=by
 intro u u' hu hb
 exact⟨hu.1.keep fun b hv=>hb b (hu.1.1.lt b hv).1 (hu.2 b hv),hu.2⟩
theorem OwE.ob {w:World} {lo:Nat} {v:Value} {es:List EdD} (h:OwE w lo v es):Ob (OE lo w.heap.size v es) lo w.heap.size w:=
 ⟨⟨h,fun b hb=>(h.1.lt b hb).2⟩,OE.loc,Nat.le_refl _⟩
def OG (lo hi:Nat) (v:Value) (d:GrD) (w:World):Prop:= ∃s,v= .agg #[.int .i64 d.1, .int .i64 d.2.1,s]∧I64 d.1∧I64 d.2.1∧OE lo hi s d.2.2 w
theorem OG.arg {lo hi:Nat} {v:Value} {d:GrD} {w:World} (h:OG lo hi v d w):ArgG w v d:=by
 obtain⟨s,hv,h1,h2,ho⟩:=h
 exact⟨s,hv,h1,h2,ho.1.arg⟩
theorem OG.own {lo hi:Nat} {v:Value} {d:GrD} {w:World} (h:OG lo hi v d w):OwG w lo v d:=by
 obtain⟨s,hv,h1,h2,ho⟩:=h
 exact⟨s,hv,h1,h2,ho.1⟩
theorem OG.loc {lo hi:Nat} {v:Value} {d:GrD}:Loc (OG lo hi v d) lo hi:=by
 intro u u' hu hb
 obtain⟨s,hv,h1,h2,ho⟩:=hu
 exact⟨s,hv,h1,h2,OE.loc u u' ho hb⟩
theorem OwG.ob {w:World} {lo:Nat} {v:Value} {d:GrD} (h:OwG w lo v d):Ob (OG lo w.heap.size v d) lo w.heap.size w:=by
 obtain⟨s,hv,h1,h2,ho⟩:=h
 exact⟨⟨s,hv,h1,h2,ho.ob.holds⟩,OG.loc,Nat.le_refl _⟩
end Go.Proofs.YteobmaambgmdbaaGreat
namespace Go.Proofs.YteobmaambgmdbaaGreat
set_option maxRecDepth 20000
set_option linter.unusedVariables false
set_option linter.unusedSimpArgs false
open Go.RowKit
theorem ArgGS.same {w w':World} {v:Value} {ds:List GrD} (h:ArgGS w v ds) (hs: ∀b,b<w.heap.size→w'.heap[b]? =w.heap[b]?):ArgGS w' v ds:=by
 obtain⟨A,cap,hv,hc,hm,hx⟩:=h
 refine⟨A,cap,hv,hc,hm,fun h0=> ?_⟩
 obtain⟨b,off,hA,hlt,hx⟩:=hx h0
 have hh:=hs b hlt
 refine⟨b,off,hA,?_,fun k hk=> ?_⟩
 ·rw[Array.getElem?_eq_getElem hlt] at hh
  exact lt_of_heap hh
 ·obtain⟨s,h1,h2,h3,h4⟩:=hx k hk
  exact⟨s,(World.cell?_of_block (w:=w) hh).trans h1,(World.cell?_of_block (w:=w) hh).trans h2,(World.cell?_of_block (w:=w) hh).trans h3,h4.same hs⟩
theorem ArgGS.ob {w:World} {v:Value} {ds:List GrD} (h:ArgGS w v ds):Ob (Kept w fun w=>ArgGS w v ds) 0 w.heap.size w:=Kept.ob h
end Go.Proofs.YteobmaambgmdbaaGreat
namespace Go.Proofs.YteobmaambgmdbaaGreat
set_option maxRecDepth 20000
set_option linter.unusedVariables false
set_option linter.unusedSimpArgs false
open Go.RowKit
end Go.Proofs.YteobmaambgmdbaaGreat
