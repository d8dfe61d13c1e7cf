/- Parts of the proof: DrawV, Rgg, Ctn, PowQ, IdxZ, AddI, Dcl, IdxU, IdxP, NorP, PcP, MalP, Eul, ComP, Rgh, FrameB. -/
import Derived.Test.YtnjpoljbagfdnaaGreatP09
import Derived.Test.YtnjpoljbagfdnaaGreatP02
import Derived.Test.YtnjpoljbagfdnaaGreatP06
import Derived.Test.YtnjpoljbagfdnaaGreatP07
import Derived.Test.YtnjpoljbagfdnaaGreatP08
import Derived.Test.YtnjpoljbagfdnaaGreatP01
set_option maxRecDepth 100000
set_option maxHeartbeats 16000000
set_option linter.unusedVariables false
set_option linter.unusedSimpArgs false
namespace Go.Proofs.YtnjpoljbagfdnaaGreat
open Go.RowKit
open _root_.List renaming setIfInBounds_toArray→zaa,set_cons_zero→zab,set_cons_succ→zac,idxOf_lt_length_of_mem→zaf,range→zah,all_eq_true→zak,getElem?_eq_some_iff→zam,getElem_mem→zao,mem_range→zap,mem_of_getElem?→zaq,mem_filter→zat,getElem?_eq_getElem→zau,getElem_idxOf→zax,perm_ext_iff_of_nodup→zay,filter_eq_nil_iff→zaz,mem_map→zaC,eq_nil_of_length_eq_zero→zaD,filter_eq_self→zaE,mem_singleton→zaF,map_cons→zaI,sum_cons→zaJ,getD_eq_getElem?_getD→zaK,filter_cons→zaO,map_eq_nil_iff→zaQ,mem_filterMap→zaR,replicate→zaV
open _root_.Nat renaming le_refl→zad,zero_add→zal,add_zero→zaM
open Go.RowKit.Below renaming refl→zae
open Go.Act renaming put→zag
open _root_.Classical renaming byContradiction→zai
open _root_.Bool renaming and_eq_true→zaj,or_eq_true→zas,true_and→zaH,not_eq_true'→zaS,eq_iff_iff→zaU
open _root_.Array renaming replicate→zan,getD_eq_getD_getElem?→zar,getElem?_eq_none→zaA,getElem?_replicate→zaN
open _root_.Int renaming natCast_nonneg→zav,toNat_of_nonneg→zaw,add_sub_cancel→zaG,not_lt→zaL,mul_comm→zaP
open _root_.Option renaming getD_some→zaB,bind_some→zaT
theorem qKg (v:Value) (cs:List Int) (w:World) (h:ArgC w v cs) (hl:cs.length≤1048576):
  Calls Tryz.prog 74 #[v] w fun e w'=> ∃av bv a b,e= .returned (.tuple #[av,bv])∧OwG w' w.heap.size av a∧OwG w' w.heap.size bv b∧Below w.heap.size w w':=by
 have HN:=qA (fun W (h:ArgC W v cs)=>qIb v cs W h hl);have cJ:=qA (fun W (hb:Below w.heap.size w W)=>qFA h hb);go_enter Tryz.func74,Tryz.ntmps74
 go_wp2_with fail;obtain⟨W0,am⟩: ∃W,W=w.alloc (.cells #[.int .i64 0,.int .i64 0, .slice none 0 0] 26):=⟨_,rfl⟩;rw[←am];obtain⟨xb,b0,s0⟩:=CBx.new am;clear am;obtain⟨W1,an⟩: ∃W,W=W0.alloc (.cells #[.int .i64 0,.int .i64 0, .slice none 0 0] 26):=⟨_,rfl⟩;rw[←an];obtain⟨yb,b1,s1⟩:=CBx.new an;clear an;rw[s0] at yb s1;have X0:=qA (xb.below b1);have Y0:=qA yb;have B0:=qA (b0.trans (b1.mono tO));clear xb yb b0 b1;refine(HN.out W1 (cJ.out _ B0.out)).mono ?_
 rintro e w1 ⟨p,A,cap,rfl,c1,hp,b1⟩;have X2:=qA (X0.out.below b1);have Y2:=qA (Y0.out.below b1);have BZ:=qA (B0.out.trans (b1.mono tO));have aw:=b1.size;have lC:=c1.lt;have C2:=qA c1;clear b1 c1 X0 Y0 B0 HN s0;go_wp2_with fail;refine(qDu p A cap cs 2 _ C2.out tO tO).mono ?_
 rintro e w2 ⟨x,rfl,c2,t2⟩;replace X2:=qA (X2.out.trP t2 tO);replace Y2:=qA (Y2.out.trP t2 tO);replace BZ:=qA (Tr.bw BZ.out t2 tO tO);replace C2:=qA c2;have cT:=t2.size;clear c2 t2;cases x
 ·go_wp2_with fail;refine(qKv _ cs w2 (cJ.out _ BZ.out) hl).mono ?_
  rintro e w3 ⟨av,bv,⟨q1,q2,qs⟩,⟨r1,r2,rs⟩,rfl,⟨s2,rfl,j1,j2,cB⟩,⟨s3,rfl,k1,k2,aU⟩,b3⟩;obtain⟨A2,bF,rfl,_⟩:=cB.form;obtain⟨A3,cQ,rfl,_⟩:=aU.form;simp only at j1 j2 cB k1 k2 aU⊢
  replace X2:=qA (X2.out.below b3);replace Y2:=qA (Y2.out.below b3);replace BZ:=qA (BZ.out.trans (b3.mono tO));have eK:=qA (cB.mono (show w1.heap.size≤w2.heap.size from cT));have en:=qA (aU.mono (show w1.heap.size≤w2.heap.size from cT));have fS:=b3.size;clear b3 cB aU C2;obtain⟨WA,dK⟩: ∃W,W=w3.alloc (.cells #[.int .i64 q1,.int .i64 q2, .slice A2 qs.length bF] 26):=⟨_,rfl⟩;have gA:=GBx.new (m:=(q1,q2,qs)) eK.out j1 j2 dK;obtain⟨-,bA,sA⟩:=CBx.new dK;obtain⟨WB,dY⟩: ∃W,W=WA.alloc (.cells #[.int .i64 r1,.int .i64 r2, .slice A3 rs.length cQ] 26):=⟨_,rfl⟩;have gB:=GBx.new (m:=(r1,r2,rs)) (en.out.below bA) k1 k2 dY;obtain⟨-,bB,sB⟩:=CBx.new dY;have G:=qA (gA.below bB);have K:=qA gB;rw[sA] at K;replace X2:=qA ((X2.out.below bA).below bB);replace Y2:=qA ((Y2.out.below bA).below bB);replace BZ:=qA ((BZ.out.trans (bA.mono BZ.out.size)).trans (bB.mono (by have:=BZ.out.size;omega)));go_wp2_with fail;rw[←dK,←dY];clear dK dY gA gB bA bB eK en;generalize Dm:w3.heap.size=ba at*;refine qAK [.val (.agg #[.int .i64 q1, .int .i64 q2, .slice A2 qs.length bF]), .val (.agg #[.int .i64 r1, .int .i64 r2, .slice A3 rs.length cQ]), .mem (fun _ W _=>CBx W w.heap.size (.int .i64 q1) (.int .i64 q2) (.slice A2 qs.length bF)), .mem (fun _ W _=>CBx W (w.heap.size+1) (.int .i64 r1) (.int .i64 r2) (.slice A3 rs.length cQ))]
   [none,none,some (fun W W'=> ∃x y z,W'=((W.setCell ⟨w.heap.size,0,none⟩ x).setCell ⟨w.heap.size,1,none⟩ y).setCell ⟨w.heap.size,2,none⟩ z),some (fun W W'=> ∃x y z,W'=((W.setCell ⟨(w.heap.size+1),0,none⟩ x).setCell ⟨(w.heap.size+1),1,none⟩ y).setCell ⟨(w.heap.size+1),2,none⟩ z)]
   (fun W=>(Below w.heap.size w W)∧GBx W ba w1.heap.size A2 bF (q1,q2,qs)∧GBx W (ba+1) w1.heap.size A3 cQ (r1,r2,rs)∧(∃x y z,CBx W w.heap.size x y z)∧ ∃x y z,CBx W (w.heap.size+1) x y z) [(2,3)] tK tK (by rfl) (by rfl)
   ⟨BZ.out.drew,G.out.below (zae _ _).drew,K.out.below (zae _ _).drew,⟨_,_,_,X2.out.below (zae _ _).drew⟩,_,_,_,Y2.out.below (zae _ _).drew⟩
   ⟨fun W _ h t=>by
      obtain⟨x,y,z,e⟩:=t;subst e;obtain⟨h1,h2,h3,⟨x1,y1,z1,h4⟩,x2,y2,z2,h5⟩:=h;exact⟨qL _ _ _ h1 tO,h2.keep (by rw[qQ];exact zad _) fun c hc=>qK _ _ _ _ _ (hc.elim (fun e=>tO) fun e=>by have:=(h2.ow.1.lt c e).1;omega),h3.keep (by rw[qQ];exact zad _) fun c hc=>qK _ _ _ _ _ (hc.elim (fun e=>tO) fun e=>by have:=(h3.ow.1.lt c e).1;omega),h4.any _ _ _,h5.any _ _ _⟩,
     fun W _ h t=>by
      obtain⟨x,y,z,e⟩:=t;subst e;obtain⟨h1,h2,h3,⟨x1,y1,z1,h4⟩,x2,y2,z2,h5⟩:=h;exact⟨qL _ _ _ h1 tO,h2.keep (by rw[qQ];exact zad _) fun c hc=>qK _ _ _ _ _ (hc.elim (fun e=>tO) fun e=>by have:=(h2.ow.1.lt c e).1;omega),h3.keep (by rw[qQ];exact zad _) fun c hc=>qK _ _ _ _ _ (hc.elim (fun e=>tO) fun e=>by have:=(h3.ow.1.lt c e).1;omega),h4.any _ _ _,h5.any _ _ _⟩,trivial⟩
   ⟨fun _ _ _ _ _ _ t h=>by obtain⟨x,y,z,e⟩:=t;subst e;exact h.other tO,trivial⟩ (fun vs=> ?_)
  refine⟨fun W' _ _ hI hD hK=> ?_,?_⟩
  ·obtain⟨z0,z1,z2⟩:=hI.out.2.1.cs;go_simp;exact hK.out _ _ rfl rfl
  simp only[zag,zaa,zab,zac,Sg.pick,Nat.reduceAdd];refine⟨fun W' _ _ hI hD hK=> ?_,?_⟩
  ·obtain⟨z0,z1,z2⟩:=hI.out.2.2.1.cs;go_simp;exact hK.out _ _ rfl rfl
  simp only[zag,zaa,zab,zac,Sg.pick,Nat.reduceAdd];refine⟨fun W' _ _ hI hD hK=> ?_,?_⟩
  ·obtain⟨x',y',z',hx⟩:=hI.out.2.2.2.1;obtain⟨z0,z1,z2⟩:=hx.cs;have u0:=hx.fz 0;have u1:=hx.fz 1;have u2:=hx.fz 2;go_simp;exact hK.out undef _ ⟨_,_,_,rfl⟩ (hx.setv _ _ _)
  simp only[zag,zaa,zab,zac,Sg.pick,Nat.reduceAdd];refine⟨fun W' _ _ hI hD hK=> ?_,?_⟩
  ·obtain⟨x',y',z',hx⟩:=hI.out.2.2.2.2;obtain⟨z0,z1,z2⟩:=hx.cs;have u0:=hx.fz 0;have u1:=hx.fz 1;have u2:=hx.fz 2;go_simp;exact hK.out undef _ ⟨_,_,_,rfl⟩ (hx.setv _ _ _)
  simp only[zag,zaa,zab,zac,Sg.pick,Nat.reduceAdd];intro W9 hI9 hD9;have ev:=(show CBx W9 w.heap.size (.int .i64 q1) (.int .i64 q2) (.slice A2 qs.length bF) from hD9.out 2 (by decide));have eH:=(show CBx W9 (w.heap.size+1) (.int .i64 r1) (.int .i64 r2) (.slice A3 rs.length cQ) from hD9.out 3 (by decide));have J9:=qA hI9.out.1;have eD:=qA hI9.out.2.1;have eo:=qA hI9.out.2.2.1;obtain⟨e0,e1,e2⟩:=ev.cs;obtain⟨e3,e4,e5⟩:=eH.cs;clear hI9 hD9;go_wp2;exact bodyPost_ret (v:= .tuple #[.agg #[.int .i64 q1, .int .i64 q2, .slice A2 qs.length bF], .agg #[.int .i64 r1, .int .i64 r2, .slice A3 rs.length cQ]]) (by simp[results,Tryz.results74,go_sem,e0,e1,e2,e3,e4,e5]) rfl ⟨_,_,(q1,q2,qs),(r1,r2,rs),rfl,⟨_,rfl,eD.out.i1,eD.out.i2,eD.out.ow.mono tO⟩,⟨_,rfl,eo.out.i1,eo.out.i2,eo.out.ow.mono tO⟩,J9.out⟩
 ·go_wp2_with fail;refine(qCt p A cap cs _ C2.out).mono ?_
  rintro e w3 ⟨v2,⟨q1,q2,qs⟩,rfl,⟨s2,rfl,j1,j2,cB⟩,-,c3,t3⟩;obtain⟨A2,bF,rfl,_⟩:=cB.form;simp only at j1 j2 cB⊢
  replace X2:=qA (X2.out.trP t3 tO);replace Y2:=qA (Y2.out.trP t3 tO);replace BZ:=qA (Tr.bw BZ.out t3 tO tO);replace C2:=qA c3;have eK:=qA (cB.mono (show w1.heap.size≤w2.heap.size from cT));have fS:=t3.size;clear c3 t3 cB;obtain⟨W4,mZ⟩: ∃W,W=w3.alloc (.cells #[.int .i64 q1,.int .i64 q2, .slice A2 qs.length bF] 26):=⟨_,rfl⟩;have g4:=GBx.new (m:=(q1,q2,qs)) eK.out j1 j2 mZ;obtain⟨_,b4,s4⟩:=CBx.new mZ;have G:=qA g4;replace X2:=qA (X2.out.below b4);replace Y2:=qA (Y2.out.below b4);replace BZ:=qA (BZ.out.trans (b4.mono tO));replace C2:=qA (C2.out.below b4);go_wp2_with fail;rw[←mZ];clear mZ g4 b4 eK;generalize Dm:w3.heap.size=ba at*;refine(qCt p A cap cs _ C2.out).mono ?_
  rintro e w5 ⟨v3,⟨r1,r2,rs⟩,rfl,⟨s3,rfl,k1,k2,aU⟩,-,c5,t5⟩;obtain⟨A3,cQ,rfl,_⟩:=aU.form;simp only at k1 k2 aU⊢
  replace X2:=qA (X2.out.trP t5 tO);replace Y2:=qA (Y2.out.trP t5 tO);replace G:=qA (G.out.trP t5 tO tO);replace BZ:=qA (Tr.bw BZ.out t5 tO tO);replace C2:=qA c5;have en:=qA (aU.mono (show w1.heap.size≤W4.heap.size by omega));have gW:=t5.size;clear c5 t5 aU;obtain⟨W6,dW⟩: ∃W,W=w5.alloc (.cells #[.int .i64 r1,.int .i64 r2, .slice A3 rs.length cQ] 26):=⟨_,rfl⟩;have g6:=GBx.new (m:=(r1,r2,rs)) en.out k1 k2 dW;obtain⟨_,b6,s6⟩:=CBx.new dW;have K:=qA g6;replace X2:=qA (X2.out.below b6);replace Y2:=qA (Y2.out.below b6);replace G:=qA (G.out.below b6);replace BZ:=qA (BZ.out.trans (b6.mono tO));replace C2:=qA (C2.out.below b6);have Ck:=qA (qAh _ _ (q1,q2,qs) (r1,r2,rs) W6 G.out.arg K.out.arg);generalize DP:intF (q1,q2,qs) (r1,r2,rs)=gi at*;obtain⟨⟨i1,i2,is⟩,ok⟩:=gi;simp only at Ck
  clear DP;by_cases hr:q1=r1
  ·obtain⟨u0,u1,u2⟩:=G.out.cs;obtain⟨y0,y1,y2⟩:=K.out.cs;simp only at u0 u1 u2 y0 y1 y2
   rw[dW] at u0 u1 u2 y0 y1 y2;have kH:(q1==r1)=true:=by rw[beq_iff_eq];exact hr
   clear hr;go_wp2_with fail;rw[←dW];clear dW g6 b6 en u0 u1 u2 y0 y1 y2;generalize cA:w5.heap.size=bb at*;refine Ck.out.mono ?_;rintro e w7 ⟨v4,rfl,⟨s4,rfl,l1,l2,rh⟩,b7⟩;obtain⟨A4,xw,rfl,_⟩:=rh.form;simp only at l1 l2 rh⊢
   replace X2:=qA (X2.out.below b7);replace Y2:=qA (Y2.out.below b7);replace G:=qA (G.out.below b7);replace K:=qA (K.out.below b7);replace BZ:=qA (BZ.out.trans (b7.mono tO));replace C2:=qA (C2.out.below b7);have wX:=qA (rh.mono (show w1.heap.size≤W6.heap.size by omega));have lB:=b7.size;clear b7 rh Ck;obtain⟨W8,nt⟩: ∃W,W=w7.alloc (.cells #[.int .i64 i1,.int .i64 i2, .slice A4 is.length xw] 26):=⟨_,rfl⟩;have g8:=GBx.new (m:=(i1,i2,is)) wX.out l1 l2 nt;obtain⟨_,b8,s8⟩:=CBx.new nt;have J:=qA g8;replace X2:=qA (X2.out.below b8);replace Y2:=qA (Y2.out.below b8);replace G:=qA (G.out.below b8);replace K:=qA (K.out.below b8);replace BZ:=qA (BZ.out.trans (b8.mono tO));replace C2:=qA (C2.out.below b8);cases ok
   ·go_wp2_with fail;rw[←nt];clear nt g8 b8 wX;generalize aG:w7.heap.size=bi at*;refine qAK [.val (.agg #[.int .i64 q1, .int .i64 q2, .slice A2 qs.length bF]), .val (.agg #[.int .i64 r1, .int .i64 r2, .slice A3 rs.length cQ]), .mem (fun _ W _=>CBx W w.heap.size (.int .i64 q1) (.int .i64 q2) (.slice A2 qs.length bF)), .mem (fun _ W _=>CBx W (w.heap.size+1) (.int .i64 r1) (.int .i64 r2) (.slice A3 rs.length cQ))]
     [none,none,some (fun W W'=> ∃x y z,W'=((W.setCell ⟨w.heap.size,0,none⟩ x).setCell ⟨w.heap.size,1,none⟩ y).setCell ⟨w.heap.size,2,none⟩ z),some (fun W W'=> ∃x y z,W'=((W.setCell ⟨(w.heap.size+1),0,none⟩ x).setCell ⟨(w.heap.size+1),1,none⟩ y).setCell ⟨(w.heap.size+1),2,none⟩ z)]
     (fun W=>(Below w.heap.size w W)∧GBx W ba w1.heap.size A2 bF (q1,q2,qs)∧GBx W bb w1.heap.size A3 cQ (r1,r2,rs)∧(∃x y z,CBx W w.heap.size x y z)∧ ∃x y z,CBx W (w.heap.size+1) x y z) [(2,3)] tK tK (by rfl) (by rfl)
     ⟨BZ.out.drew,G.out.below (zae _ _).drew,K.out.below (zae _ _).drew,⟨_,_,_,X2.out.below (zae _ _).drew⟩,_,_,_,Y2.out.below (zae _ _).drew⟩
     ⟨fun W _ h t=>by
        obtain⟨x,y,z,e⟩:=t;subst e;obtain⟨h1,h2,h3,⟨x1,y1,z1,h4⟩,x2,y2,z2,h5⟩:=h;exact⟨qL _ _ _ h1 tO,h2.keep (by rw[qQ];exact zad _) fun c hc=>qK _ _ _ _ _ (hc.elim (fun e=>tO) fun e=>by have:=(h2.ow.1.lt c e).1;omega),h3.keep (by rw[qQ];exact zad _) fun c hc=>qK _ _ _ _ _ (hc.elim (fun e=>tO) fun e=>by have:=(h3.ow.1.lt c e).1;omega),h4.any _ _ _,h5.any _ _ _⟩,
       fun W _ h t=>by
        obtain⟨x,y,z,e⟩:=t;subst e;obtain⟨h1,h2,h3,⟨x1,y1,z1,h4⟩,x2,y2,z2,h5⟩:=h;exact⟨qL _ _ _ h1 tO,h2.keep (by rw[qQ];exact zad _) fun c hc=>qK _ _ _ _ _ (hc.elim (fun e=>tO) fun e=>by have:=(h2.ow.1.lt c e).1;omega),h3.keep (by rw[qQ];exact zad _) fun c hc=>qK _ _ _ _ _ (hc.elim (fun e=>tO) fun e=>by have:=(h3.ow.1.lt c e).1;omega),h4.any _ _ _,h5.any _ _ _⟩,trivial⟩
     ⟨fun _ _ _ _ _ _ t h=>by obtain⟨x,y,z,e⟩:=t;subst e;exact h.other tO,trivial⟩ (fun vs=> ?_)
    refine⟨fun W' _ _ hI hD hK=> ?_,?_⟩
    ·obtain⟨z0,z1,z2⟩:=hI.out.2.1.cs;go_simp;exact hK.out _ _ rfl rfl
    simp only[zag,zaa,zab,zac,Sg.pick,Nat.reduceAdd];refine⟨fun W' _ _ hI hD hK=> ?_,?_⟩
    ·obtain⟨z0,z1,z2⟩:=hI.out.2.2.1.cs;go_simp;exact hK.out _ _ rfl rfl
    simp only[zag,zaa,zab,zac,Sg.pick,Nat.reduceAdd];refine⟨fun W' _ _ hI hD hK=> ?_,?_⟩
    ·obtain⟨x',y',z',hx⟩:=hI.out.2.2.2.1;obtain⟨z0,z1,z2⟩:=hx.cs;have u0:=hx.fz 0;have u1:=hx.fz 1;have u2:=hx.fz 2;go_simp;exact hK.out undef _ ⟨_,_,_,rfl⟩ (hx.setv _ _ _)
    simp only[zag,zaa,zab,zac,Sg.pick,Nat.reduceAdd];refine⟨fun W' _ _ hI hD hK=> ?_,?_⟩
    ·obtain⟨x',y',z',hx⟩:=hI.out.2.2.2.2;obtain⟨z0,z1,z2⟩:=hx.cs;have u0:=hx.fz 0;have u1:=hx.fz 1;have u2:=hx.fz 2;go_simp;exact hK.out undef _ ⟨_,_,_,rfl⟩ (hx.setv _ _ _)
    simp only[zag,zaa,zab,zac,Sg.pick,Nat.reduceAdd];intro W9 hI9 hD9;have ev:=(show CBx W9 w.heap.size (.int .i64 q1) (.int .i64 q2) (.slice A2 qs.length bF) from hD9.out 2 (by decide));have eH:=(show CBx W9 (w.heap.size+1) (.int .i64 r1) (.int .i64 r2) (.slice A3 rs.length cQ) from hD9.out 3 (by decide));have J9:=qA hI9.out.1;have eD:=qA hI9.out.2.1;have eo:=qA hI9.out.2.2.1;obtain⟨e0,e1,e2⟩:=ev.cs;obtain⟨e3,e4,e5⟩:=eH.cs;clear hI9 hD9;go_wp2;exact bodyPost_ret (v:= .tuple #[.agg #[.int .i64 q1, .int .i64 q2, .slice A2 qs.length bF], .agg #[.int .i64 r1, .int .i64 r2, .slice A3 rs.length cQ]]) (by simp[results,Tryz.results74,go_sem,e0,e1,e2,e3,e4,e5]) rfl ⟨_,_,(q1,q2,qs),(r1,r2,rs),rfl,⟨_,rfl,eD.out.i1,eD.out.i2,eD.out.ow.mono tO⟩,⟨_,rfl,eo.out.i1,eo.out.i2,eo.out.ow.mono tO⟩,J9.out⟩
   ·go_wp2_with fail;rw[←nt];clear nt g8 b8 wX;generalize aG:w7.heap.size=bi at*;refine(qDu p A cap cs 2 _ C2.out tO tO).mono ?_
    rintro e w9 ⟨x,rfl,c9,t9⟩;replace X2:=qA (X2.out.trP t9 tO);replace Y2:=qA (Y2.out.trP t9 tO);replace G:=qA (G.out.trP t9 tO tO);replace K:=qA (K.out.trP t9 tO tO);replace J:=qA (J.out.trP t9 tO tO);replace BZ:=qA (Tr.bw BZ.out t9 tO tO);have kn:=t9.size;clear c9 t9 C2;cases x
    ·skip;go_wp2_with fail;refine qAK [.val (.agg #[.int .i64 q1, .int .i64 q2, .slice A2 qs.length bF]), .val (.agg #[.int .i64 r1, .int .i64 r2, .slice A3 rs.length cQ]), .mem (fun _ W _=>CBx W w.heap.size (.int .i64 q1) (.int .i64 q2) (.slice A2 qs.length bF)), .mem (fun _ W _=>CBx W (w.heap.size+1) (.int .i64 r1) (.int .i64 r2) (.slice A3 rs.length cQ))]
      [none,none,some (fun W W'=> ∃x y z,W'=((W.setCell ⟨w.heap.size,0,none⟩ x).setCell ⟨w.heap.size,1,none⟩ y).setCell ⟨w.heap.size,2,none⟩ z),some (fun W W'=> ∃x y z,W'=((W.setCell ⟨(w.heap.size+1),0,none⟩ x).setCell ⟨(w.heap.size+1),1,none⟩ y).setCell ⟨(w.heap.size+1),2,none⟩ z)]
      (fun W=>(Below w.heap.size w W)∧GBx W ba w1.heap.size A2 bF (q1,q2,qs)∧GBx W bb w1.heap.size A3 cQ (r1,r2,rs)∧(∃x y z,CBx W w.heap.size x y z)∧ ∃x y z,CBx W (w.heap.size+1) x y z) [(2,3)] tK tK (by rfl) (by rfl)
      ⟨BZ.out.drew,G.out.below (zae _ _).drew,K.out.below (zae _ _).drew,⟨_,_,_,X2.out.below (zae _ _).drew⟩,_,_,_,Y2.out.below (zae _ _).drew⟩
      ⟨fun W _ h t=>by
         obtain⟨x,y,z,e⟩:=t;subst e;obtain⟨h1,h2,h3,⟨x1,y1,z1,h4⟩,x2,y2,z2,h5⟩:=h;exact⟨qL _ _ _ h1 tO,h2.keep (by rw[qQ];exact zad _) fun c hc=>qK _ _ _ _ _ (hc.elim (fun e=>tO) fun e=>by have:=(h2.ow.1.lt c e).1;omega),h3.keep (by rw[qQ];exact zad _) fun c hc=>qK _ _ _ _ _ (hc.elim (fun e=>tO) fun e=>by have:=(h3.ow.1.lt c e).1;omega),h4.any _ _ _,h5.any _ _ _⟩,
        fun W _ h t=>by
         obtain⟨x,y,z,e⟩:=t;subst e;obtain⟨h1,h2,h3,⟨x1,y1,z1,h4⟩,x2,y2,z2,h5⟩:=h;exact⟨qL _ _ _ h1 tO,h2.keep (by rw[qQ];exact zad _) fun c hc=>qK _ _ _ _ _ (hc.elim (fun e=>tO) fun e=>by have:=(h2.ow.1.lt c e).1;omega),h3.keep (by rw[qQ];exact zad _) fun c hc=>qK _ _ _ _ _ (hc.elim (fun e=>tO) fun e=>by have:=(h3.ow.1.lt c e).1;omega),h4.any _ _ _,h5.any _ _ _⟩,trivial⟩
      ⟨fun _ _ _ _ _ _ t h=>by obtain⟨x,y,z,e⟩:=t;subst e;exact h.other tO,trivial⟩ (fun vs=> ?_)
     refine⟨fun W' _ _ hI hD hK=> ?_,?_⟩
     ·obtain⟨z0,z1,z2⟩:=hI.out.2.1.cs;go_simp;exact hK.out _ _ rfl rfl
     simp only[zag,zaa,zab,zac,Sg.pick,Nat.reduceAdd];refine⟨fun W' _ _ hI hD hK=> ?_,?_⟩
     ·obtain⟨z0,z1,z2⟩:=hI.out.2.2.1.cs;go_simp;exact hK.out _ _ rfl rfl
     simp only[zag,zaa,zab,zac,Sg.pick,Nat.reduceAdd];refine⟨fun W' _ _ hI hD hK=> ?_,?_⟩
     ·obtain⟨x',y',z',hx⟩:=hI.out.2.2.2.1;obtain⟨z0,z1,z2⟩:=hx.cs;have u0:=hx.fz 0;have u1:=hx.fz 1;have u2:=hx.fz 2;go_simp;exact hK.out undef _ ⟨_,_,_,rfl⟩ (hx.setv _ _ _)
     simp only[zag,zaa,zab,zac,Sg.pick,Nat.reduceAdd];refine⟨fun W' _ _ hI hD hK=> ?_,?_⟩
     ·obtain⟨x',y',z',hx⟩:=hI.out.2.2.2.2;obtain⟨z0,z1,z2⟩:=hx.cs;have u0:=hx.fz 0;have u1:=hx.fz 1;have u2:=hx.fz 2;go_simp;exact hK.out undef _ ⟨_,_,_,rfl⟩ (hx.setv _ _ _)
     simp only[zag,zaa,zab,zac,Sg.pick,Nat.reduceAdd];intro W9 hI9 hD9;have ev:=(show CBx W9 w.heap.size (.int .i64 q1) (.int .i64 q2) (.slice A2 qs.length bF) from hD9.out 2 (by decide));have eH:=(show CBx W9 (w.heap.size+1) (.int .i64 r1) (.int .i64 r2) (.slice A3 rs.length cQ) from hD9.out 3 (by decide));have J9:=qA hI9.out.1;have eD:=qA hI9.out.2.1;have eo:=qA hI9.out.2.2.1;obtain⟨e0,e1,e2⟩:=ev.cs;obtain⟨e3,e4,e5⟩:=eH.cs;clear hI9 hD9;go_wp2;exact bodyPost_ret (v:= .tuple #[.agg #[.int .i64 q1, .int .i64 q2, .slice A2 qs.length bF], .agg #[.int .i64 r1, .int .i64 r2, .slice A3 rs.length cQ]]) (by simp[results,Tryz.results74,go_sem,e0,e1,e2,e3,e4,e5]) rfl ⟨_,_,(q1,q2,qs),(r1,r2,rs),rfl,⟨_,rfl,eD.out.i1,eD.out.i2,eD.out.ow.mono tO⟩,⟨_,rfl,eo.out.i1,eo.out.i2,eo.out.ow.mono tO⟩,J9.out⟩
    ·skip;go_wp2_with fail;refine qAK [.val (.agg #[.int .i64 i1, .int .i64 i2, .slice A4 is.length xw]), .val (.agg #[.int .i64 q1, .int .i64 q2, .slice A2 qs.length bF]), .mem (fun _ W _=>CBx W w.heap.size (.int .i64 i1) (.int .i64 i2) (.slice A4 is.length xw)), .mem (fun _ W _=>CBx W (w.heap.size+1) (.int .i64 q1) (.int .i64 q2) (.slice A2 qs.length bF))]
      [none,none,some (fun W W'=> ∃x y z,W'=((W.setCell ⟨w.heap.size,0,none⟩ x).setCell ⟨w.heap.size,1,none⟩ y).setCell ⟨w.heap.size,2,none⟩ z),some (fun W W'=> ∃x y z,W'=((W.setCell ⟨(w.heap.size+1),0,none⟩ x).setCell ⟨(w.heap.size+1),1,none⟩ y).setCell ⟨(w.heap.size+1),2,none⟩ z)]
      (fun W=>(Below w.heap.size w W)∧GBx W bi w1.heap.size A4 xw (i1,i2,is)∧GBx W ba w1.heap.size A2 bF (q1,q2,qs)∧(∃x y z,CBx W w.heap.size x y z)∧ ∃x y z,CBx W (w.heap.size+1) x y z) [(2,3)] tK tK (by rfl) (by rfl)
      ⟨BZ.out.drew,J.out.below (zae _ _).drew,G.out.below (zae _ _).drew,⟨_,_,_,X2.out.below (zae _ _).drew⟩,_,_,_,Y2.out.below (zae _ _).drew⟩
      ⟨fun W _ h t=>by
         obtain⟨x,y,z,e⟩:=t;subst e;obtain⟨h1,h2,h3,⟨x1,y1,z1,h4⟩,x2,y2,z2,h5⟩:=h;exact⟨qL _ _ _ h1 tO,h2.keep (by rw[qQ];exact zad _) fun c hc=>qK _ _ _ _ _ (hc.elim (fun e=>tO) fun e=>by have:=(h2.ow.1.lt c e).1;omega),h3.keep (by rw[qQ];exact zad _) fun c hc=>qK _ _ _ _ _ (hc.elim (fun e=>tO) fun e=>by have:=(h3.ow.1.lt c e).1;omega),h4.any _ _ _,h5.any _ _ _⟩,
        fun W _ h t=>by
         obtain⟨x,y,z,e⟩:=t;subst e;obtain⟨h1,h2,h3,⟨x1,y1,z1,h4⟩,x2,y2,z2,h5⟩:=h;exact⟨qL _ _ _ h1 tO,h2.keep (by rw[qQ];exact zad _) fun c hc=>qK _ _ _ _ _ (hc.elim (fun e=>tO) fun e=>by have:=(h2.ow.1.lt c e).1;omega),h3.keep (by rw[qQ];exact zad _) fun c hc=>qK _ _ _ _ _ (hc.elim (fun e=>tO) fun e=>by have:=(h3.ow.1.lt c e).1;omega),h4.any _ _ _,h5.any _ _ _⟩,trivial⟩
      ⟨fun _ _ _ _ _ _ t h=>by obtain⟨x,y,z,e⟩:=t;subst e;exact h.other tO,trivial⟩ (fun vs=> ?_)
     refine⟨fun W' _ _ hI hD hK=> ?_,?_⟩
     ·obtain⟨z0,z1,z2⟩:=hI.out.2.1.cs;go_simp;exact hK.out _ _ rfl rfl
     simp only[zag,zaa,zab,zac,Sg.pick,Nat.reduceAdd];refine⟨fun W' _ _ hI hD hK=> ?_,?_⟩
     ·obtain⟨z0,z1,z2⟩:=hI.out.2.2.1.cs;go_simp;exact hK.out _ _ rfl rfl
     simp only[zag,zaa,zab,zac,Sg.pick,Nat.reduceAdd];refine⟨fun W' _ _ hI hD hK=> ?_,?_⟩
     ·obtain⟨x',y',z',hx⟩:=hI.out.2.2.2.1;obtain⟨z0,z1,z2⟩:=hx.cs;have u0:=hx.fz 0;have u1:=hx.fz 1;have u2:=hx.fz 2;go_simp;exact hK.out undef _ ⟨_,_,_,rfl⟩ (hx.setv _ _ _)
     simp only[zag,zaa,zab,zac,Sg.pick,Nat.reduceAdd];refine⟨fun W' _ _ hI hD hK=> ?_,?_⟩
     ·obtain⟨x',y',z',hx⟩:=hI.out.2.2.2.2;obtain⟨z0,z1,z2⟩:=hx.cs;have u0:=hx.fz 0;have u1:=hx.fz 1;have u2:=hx.fz 2;go_simp;exact hK.out undef _ ⟨_,_,_,rfl⟩ (hx.setv _ _ _)
     simp only[zag,zaa,zab,zac,Sg.pick,Nat.reduceAdd];intro W9 hI9 hD9;have ev:=(show CBx W9 w.heap.size (.int .i64 i1) (.int .i64 i2) (.slice A4 is.length xw) from hD9.out 2 (by decide));have eH:=(show CBx W9 (w.heap.size+1) (.int .i64 q1) (.int .i64 q2) (.slice A2 qs.length bF) from hD9.out 3 (by decide));have J9:=qA hI9.out.1;have eD:=qA hI9.out.2.1;have eo:=qA hI9.out.2.2.1;obtain⟨e0,e1,e2⟩:=ev.cs;obtain⟨e3,e4,e5⟩:=eH.cs;clear hI9 hD9;go_wp2;exact bodyPost_ret (v:= .tuple #[.agg #[.int .i64 i1, .int .i64 i2, .slice A4 is.length xw], .agg #[.int .i64 q1, .int .i64 q2, .slice A2 qs.length bF]]) (by simp[results,Tryz.results74,go_sem,e0,e1,e2,e3,e4,e5]) rfl ⟨_,_,(i1,i2,is),(q1,q2,qs),rfl,⟨_,rfl,eD.out.i1,eD.out.i2,eD.out.ow.mono tO⟩,⟨_,rfl,eo.out.i1,eo.out.i2,eo.out.ow.mono tO⟩,J9.out⟩
  ·have u0:=G.out.c0;have y0:=K.out.c0;simp only at u0 y0
   rw[dW] at u0 y0;have kH:(q1==r1)=false:=by rw[beq_eq_false_iff_ne];exact hr
   go_wp2_with fail;rw[←dW];clear dW g6 b6 en u0 y0 Ck;generalize cA:w5.heap.size=bb at*;refine qAK [.val (.agg #[.int .i64 q1, .int .i64 q2, .slice A2 qs.length bF]), .val (.agg #[.int .i64 r1, .int .i64 r2, .slice A3 rs.length cQ]), .mem (fun _ W _=>CBx W w.heap.size (.int .i64 q1) (.int .i64 q2) (.slice A2 qs.length bF)), .mem (fun _ W _=>CBx W (w.heap.size+1) (.int .i64 r1) (.int .i64 r2) (.slice A3 rs.length cQ))]
    [none,none,some (fun W W'=> ∃x y z,W'=((W.setCell ⟨w.heap.size,0,none⟩ x).setCell ⟨w.heap.size,1,none⟩ y).setCell ⟨w.heap.size,2,none⟩ z),some (fun W W'=> ∃x y z,W'=((W.setCell ⟨(w.heap.size+1),0,none⟩ x).setCell ⟨(w.heap.size+1),1,none⟩ y).setCell ⟨(w.heap.size+1),2,none⟩ z)]
    (fun W=>(Below w.heap.size w W)∧GBx W ba w1.heap.size A2 bF (q1,q2,qs)∧GBx W bb w1.heap.size A3 cQ (r1,r2,rs)∧(∃x y z,CBx W w.heap.size x y z)∧ ∃x y z,CBx W (w.heap.size+1) x y z) [(2,3)] tK tK (by rfl) (by rfl)
    ⟨BZ.out.drew,G.out.below (zae _ _).drew,K.out.below (zae _ _).drew,⟨_,_,_,X2.out.below (zae _ _).drew⟩,_,_,_,Y2.out.below (zae _ _).drew⟩
    ⟨fun W _ h t=>by
       obtain⟨x,y,z,e⟩:=t;subst e;obtain⟨h1,h2,h3,⟨x1,y1,z1,h4⟩,x2,y2,z2,h5⟩:=h;exact⟨qL _ _ _ h1 tO,h2.keep (by rw[qQ];exact zad _) fun c hc=>qK _ _ _ _ _ (hc.elim (fun e=>tO) fun e=>by have:=(h2.ow.1.lt c e).1;omega),h3.keep (by rw[qQ];exact zad _) fun c hc=>qK _ _ _ _ _ (hc.elim (fun e=>tO) fun e=>by have:=(h3.ow.1.lt c e).1;omega),h4.any _ _ _,h5.any _ _ _⟩,
      fun W _ h t=>by
       obtain⟨x,y,z,e⟩:=t;subst e;obtain⟨h1,h2,h3,⟨x1,y1,z1,h4⟩,x2,y2,z2,h5⟩:=h;exact⟨qL _ _ _ h1 tO,h2.keep (by rw[qQ];exact zad _) fun c hc=>qK _ _ _ _ _ (hc.elim (fun e=>tO) fun e=>by have:=(h2.ow.1.lt c e).1;omega),h3.keep (by rw[qQ];exact zad _) fun c hc=>qK _ _ _ _ _ (hc.elim (fun e=>tO) fun e=>by have:=(h3.ow.1.lt c e).1;omega),h4.any _ _ _,h5.any _ _ _⟩,trivial⟩
    ⟨fun _ _ _ _ _ _ t h=>by obtain⟨x,y,z,e⟩:=t;subst e;exact h.other tO,trivial⟩ (fun vs=> ?_)
   refine⟨fun W' _ _ hI hD hK=> ?_,?_⟩
   ·obtain⟨z0,z1,z2⟩:=hI.out.2.1.cs;go_simp;exact hK.out _ _ rfl rfl
   simp only[zag,zaa,zab,zac,Sg.pick,Nat.reduceAdd];refine⟨fun W' _ _ hI hD hK=> ?_,?_⟩
   ·obtain⟨z0,z1,z2⟩:=hI.out.2.2.1.cs;go_simp;exact hK.out _ _ rfl rfl
   simp only[zag,zaa,zab,zac,Sg.pick,Nat.reduceAdd];refine⟨fun W' _ _ hI hD hK=> ?_,?_⟩
   ·obtain⟨x',y',z',hx⟩:=hI.out.2.2.2.1;obtain⟨z0,z1,z2⟩:=hx.cs;have u0:=hx.fz 0;have u1:=hx.fz 1;have u2:=hx.fz 2;go_simp;exact hK.out undef _ ⟨_,_,_,rfl⟩ (hx.setv _ _ _)
   simp only[zag,zaa,zab,zac,Sg.pick,Nat.reduceAdd];refine⟨fun W' _ _ hI hD hK=> ?_,?_⟩
   ·obtain⟨x',y',z',hx⟩:=hI.out.2.2.2.2;obtain⟨z0,z1,z2⟩:=hx.cs;have u0:=hx.fz 0;have u1:=hx.fz 1;have u2:=hx.fz 2;go_simp;exact hK.out undef _ ⟨_,_,_,rfl⟩ (hx.setv _ _ _)
   simp only[zag,zaa,zab,zac,Sg.pick,Nat.reduceAdd];intro W9 hI9 hD9;have ev:=(show CBx W9 w.heap.size (.int .i64 q1) (.int .i64 q2) (.slice A2 qs.length bF) from hD9.out 2 (by decide));have eH:=(show CBx W9 (w.heap.size+1) (.int .i64 r1) (.int .i64 r2) (.slice A3 rs.length cQ) from hD9.out 3 (by decide));have J9:=qA hI9.out.1;have eD:=qA hI9.out.2.1;have eo:=qA hI9.out.2.2.1;obtain⟨e0,e1,e2⟩:=ev.cs;obtain⟨e3,e4,e5⟩:=eH.cs;clear hI9 hD9;go_wp2;exact bodyPost_ret (v:= .tuple #[.agg #[.int .i64 q1, .int .i64 q2, .slice A2 qs.length bF], .agg #[.int .i64 r1, .int .i64 r2, .slice A3 rs.length cQ]]) (by simp[results,Tryz.results74,go_sem,e0,e1,e2,e3,e4,e5]) rfl ⟨_,_,(q1,q2,qs),(r1,r2,rs),rfl,⟨_,rfl,eD.out.i1,eD.out.i2,eD.out.ow.mono tO⟩,⟨_,rfl,eo.out.i1,eo.out.i2,eo.out.ow.mono tO⟩,J9.out⟩
theorem qJL (v:Value) (cs:List Int) (w:World) (h:ArgC w v cs) (hl:cs.length≤1048576):
  Calls Tryz.prog 8 #[v] w fun e w'=> ∃av bv a b,e= .returned (.tuple #[av,bv])∧OwG w' w.heap.size av a∧OwG w' w.heap.size bv b∧Below w.heap.size w w':=by
 have cJ:=qA (fun W (hb:Below w.heap.size w W)=>qFA h hb);go_enter Tryz.func8,Tryz.ntmps8
 go_wp2_with fail;obtain⟨W0,am⟩: ∃W,W=w.alloc (.cells #[.int .i64 0,.int .i64 0, .slice none 0 0] 26):=⟨_,rfl⟩;rw[←am];obtain⟨xb,b0,s0⟩:=CBx.new am;clear am;obtain⟨W1,an⟩: ∃W,W=W0.alloc (.cells #[.int .i64 0,.int .i64 0, .slice none 0 0] 26):=⟨_,rfl⟩;rw[←an];obtain⟨yb,b1,s1⟩:=CBx.new an;clear an;rw[s0] at yb s1;have X0:=qA (xb.below b1);have Y0:=qA yb;have B0:=qA (b0.trans (b1.mono tO));clear xb yb b0 b1;refine(qKg _ cs W1 (cJ.out _ B0.out) hl).mono ?_
 rintro e w1 ⟨av,bv,⟨q1,q2,qs⟩,⟨r1,r2,rs⟩,rfl,⟨s2,rfl,j1,j2,cB⟩,⟨s3,rfl,k1,k2,aU⟩,b3⟩;obtain⟨A2,bF,rfl,_⟩:=cB.form;obtain⟨A3,cQ,rfl,_⟩:=aU.form;simp only at j1 j2 cB k1 k2 aU⊢
 have X2:=qA (X0.out.below b3);have Y2:=qA (Y0.out.below b3);have BZ:=qA (B0.out.trans (b3.mono tO));have eK:=qA cB;have en:=qA aU;have fS:=b3.size;clear b3 cB aU X0 Y0 B0;obtain⟨WA,dK⟩: ∃W,W=w1.alloc (.cells #[.int .i64 q1,.int .i64 q2, .slice A2 qs.length bF] 26):=⟨_,rfl⟩;have gA:=GBx.new (m:=(q1,q2,qs)) eK.out j1 j2 dK;obtain⟨-,bA,sA⟩:=CBx.new dK;obtain⟨WB,dY⟩: ∃W,W=WA.alloc (.cells #[.int .i64 r1,.int .i64 r2, .slice A3 rs.length cQ] 26):=⟨_,rfl⟩;have gB:=GBx.new (m:=(r1,r2,rs)) (en.out.below bA) k1 k2 dY;obtain⟨-,bB,sB⟩:=CBx.new dY;have G:=qA (gA.below bB);have K:=qA gB;rw[sA] at K;replace X2:=qA ((X2.out.below bA).below bB);replace Y2:=qA ((Y2.out.below bA).below bB);replace BZ:=qA ((BZ.out.trans (bA.mono BZ.out.size)).trans (bB.mono (by have:=BZ.out.size;omega)));go_wp2_with fail;rw[←dK,←dY];clear dK dY gA gB bA bB eK en;generalize Dm:w1.heap.size=ba at*;refine qAK [.val (.agg #[.int .i64 q1, .int .i64 q2, .slice A2 qs.length bF]), .val (.agg #[.int .i64 r1, .int .i64 r2, .slice A3 rs.length cQ]), .mem (fun _ W _=>CBx W w.heap.size (.int .i64 q1) (.int .i64 q2) (.slice A2 qs.length bF)), .mem (fun _ W _=>CBx W (w.heap.size+1) (.int .i64 r1) (.int .i64 r2) (.slice A3 rs.length cQ))]
  [none,none,some (fun W W'=> ∃x y z,W'=((W.setCell ⟨w.heap.size,0,none⟩ x).setCell ⟨w.heap.size,1,none⟩ y).setCell ⟨w.heap.size,2,none⟩ z),some (fun W W'=> ∃x y z,W'=((W.setCell ⟨(w.heap.size+1),0,none⟩ x).setCell ⟨(w.heap.size+1),1,none⟩ y).setCell ⟨(w.heap.size+1),2,none⟩ z)]
  (fun W=>(Below w.heap.size w W)∧GBx W ba W1.heap.size A2 bF (q1,q2,qs)∧GBx W (ba+1) W1.heap.size A3 cQ (r1,r2,rs)∧(∃x y z,CBx W w.heap.size x y z)∧ ∃x y z,CBx W (w.heap.size+1) x y z) [(2,3)] tK tK (by rfl) (by rfl)
  ⟨BZ.out.drew,G.out.below (zae _ _).drew,K.out.below (zae _ _).drew,⟨_,_,_,X2.out.below (zae _ _).drew⟩,_,_,_,Y2.out.below (zae _ _).drew⟩
  ⟨fun W _ h t=>by
     obtain⟨x,y,z,e⟩:=t;subst e;obtain⟨h1,h2,h3,⟨x1,y1,z1,h4⟩,x2,y2,z2,h5⟩:=h;exact⟨qL _ _ _ h1 tO,h2.keep (by rw[qQ];exact zad _) fun c hc=>qK _ _ _ _ _ (hc.elim (fun e=>tO) fun e=>by have:=(h2.ow.1.lt c e).1;omega),h3.keep (by rw[qQ];exact zad _) fun c hc=>qK _ _ _ _ _ (hc.elim (fun e=>tO) fun e=>by have:=(h3.ow.1.lt c e).1;omega),h4.any _ _ _,h5.any _ _ _⟩,
    fun W _ h t=>by
     obtain⟨x,y,z,e⟩:=t;subst e;obtain⟨h1,h2,h3,⟨x1,y1,z1,h4⟩,x2,y2,z2,h5⟩:=h;exact⟨qL _ _ _ h1 tO,h2.keep (by rw[qQ];exact zad _) fun c hc=>qK _ _ _ _ _ (hc.elim (fun e=>tO) fun e=>by have:=(h2.ow.1.lt c e).1;omega),h3.keep (by rw[qQ];exact zad _) fun c hc=>qK _ _ _ _ _ (hc.elim (fun e=>tO) fun e=>by have:=(h3.ow.1.lt c e).1;omega),h4.any _ _ _,h5.any _ _ _⟩,trivial⟩
  ⟨fun _ _ _ _ _ _ t h=>by obtain⟨x,y,z,e⟩:=t;subst e;exact h.other tO,trivial⟩ (fun vs=> ?_)
 refine⟨fun W' _ _ hI hD hK=> ?_,?_⟩
 ·obtain⟨z0,z1,z2⟩:=hI.out.2.1.cs;go_simp;exact hK.out _ _ rfl rfl
 simp only[zag,zaa,zab,zac,Sg.pick,Nat.reduceAdd];refine⟨fun W' _ _ hI hD hK=> ?_,?_⟩
 ·obtain⟨z0,z1,z2⟩:=hI.out.2.2.1.cs;go_simp;exact hK.out _ _ rfl rfl
 simp only[zag,zaa,zab,zac,Sg.pick,Nat.reduceAdd];refine⟨fun W' _ _ hI hD hK=> ?_,?_⟩
 ·obtain⟨x',y',z',hx⟩:=hI.out.2.2.2.1;obtain⟨z0,z1,z2⟩:=hx.cs;have u0:=hx.fz 0;have u1:=hx.fz 1;have u2:=hx.fz 2;go_simp;exact hK.out undef _ ⟨_,_,_,rfl⟩ (hx.setv _ _ _)
 simp only[zag,zaa,zab,zac,Sg.pick,Nat.reduceAdd];refine⟨fun W' _ _ hI hD hK=> ?_,?_⟩
 ·obtain⟨x',y',z',hx⟩:=hI.out.2.2.2.2;obtain⟨z0,z1,z2⟩:=hx.cs;have u0:=hx.fz 0;have u1:=hx.fz 1;have u2:=hx.fz 2;go_simp;exact hK.out undef _ ⟨_,_,_,rfl⟩ (hx.setv _ _ _)
 simp only[zag,zaa,zab,zac,Sg.pick,Nat.reduceAdd];intro W9 hI9 hD9;have ev:=(show CBx W9 w.heap.size (.int .i64 q1) (.int .i64 q2) (.slice A2 qs.length bF) from hD9.out 2 (by decide));have eH:=(show CBx W9 (w.heap.size+1) (.int .i64 r1) (.int .i64 r2) (.slice A3 rs.length cQ) from hD9.out 3 (by decide));have J9:=qA hI9.out.1;have eD:=qA hI9.out.2.1;have eo:=qA hI9.out.2.2.1;obtain⟨e0,e1,e2⟩:=ev.cs;obtain⟨e3,e4,e5⟩:=eH.cs;clear hI9 hD9;go_wp2;exact bodyPost_ret (v:= .tuple #[.agg #[.int .i64 q1, .int .i64 q2, .slice A2 qs.length bF], .agg #[.int .i64 r1, .int .i64 r2, .slice A3 rs.length cQ]]) (by simp[results,Tryz.results8,go_sem,e0,e1,e2,e3,e4,e5]) rfl ⟨_,_,(q1,q2,qs),(r1,r2,rs),rfl,⟨_,rfl,eD.out.i1,eD.out.i2,eD.out.ow.mono tO⟩,⟨_,rfl,eo.out.i1,eo.out.i2,eo.out.ow.mono tO⟩,J9.out⟩
def freG (l:List Oper):Bool:=
 Region.noSelect l.toArray&&(zah l.length).all fun i=>match l[i]? with
  | none=>true
  | some o=>(o.after.all fun e=> !Region.binds .any e||decide (e.on<i))&&
    ((zah l.length).all fun k=>match l[k]? with
      | none=>true
      | some o'=>(decide (i=k)|| !(o.dst==o'.dst)||o.dst.isNone)&&
        (match o'.dst with
         | none=>true
         | some t=> !(o.looksAt l.toArray).contains t||qAJ l l.length i k||qAJ l l.length k i))
def ObwG (G:List Nat) (P:Program) (J:Nat→World→Prop) (l:List Oper) (L:List Sg) (T:List (Option (World→World→Prop))) (vs:Nat→Value) (Q:Exit→Act→World→Prop):List Oper→List Sg→Nat→Act→Prop
 | [],_,_,b=> ∀W',Hid (J l.length W')→Hid (∀j,j<l.length→(sgA L j).R (qAo l j vs) W' (vs j))→Q .normal b W'
 | _::_,[],_,_=>False
 | o::r,s::ss,k,b=>(match G.contains k with
   | true=>True
   | false=>(∀W K Q0,Hid (J k W)→Hid (∀j,qAJ l l.length k j=true→(sgA L j).R (qAo l j vs) W (vs j))→Hid (∀v W',tnA T k W W'→s.R (qAo l k vs) W' v→K (b.put o.dst v) W')→o.wp P b W K Q0))∧ObwG G P J l L T vs Q r ss (k+1) (b.put o.dst (s.pick (vs k)))
def gdB (l:List Oper) (L:List Sg) (G:List Nat):Bool:=(zah l.length).all fun i=>match l[i]? with
 | none=>true
 | some o=>match o.guard with
   | none=> !G.contains i
   | some (j,want)=>qAJ l l.length i j&&(match (l[j]?).bind (·.dst) with | some _=>true | none=>false)&&(match sgA L j with | .val (.bool b)=>(b==want)== !G.contains i | _=>false)
def GOff (L:List Sg) (T:List (Option (World→World→Prop))):List Nat→Prop
 | []=>True
 | i::r=>(sgA L i= .val undef∧T.getD i none=none)∧GOff L T r
theorem GOff.at {L:List Sg} {T:List (Option (World→World→Prop))}: ∀ {G:List Nat},GOff L T G→ ∀i,G.contains i=true→sgA L i= .val undef∧T.getD i none=none
 | [],_,_,h=>by cases h
 | j::r,h,i,hi=>by
   simp only[List.contains_cons,zas,beq_iff_eq] at hi;rcases hi with rfl | hi
   ·exact h.1
   ·exact GOff.at h.2 i hi
theorem qIM {S:Nat→Bool} {vs:Nat→Value} {d:Tmp}: ∀(r:List Oper) (k:Nat) (b:Act),(∀o∈r,o.dst≠some d)→(actV S vs r k b).tmps[d]? =b.tmps[d]?
 | [],_,_,_=>rfl
 | o::r,k,b,h=>by
   unfold actV;rw[qIM r (k+1) _ fun o' cC=>h o' (by simp[cC])];split
   ·have:=h o (by simp)
    cases hd:o.dst with
    | none=>rfl
    | some e=>
      rw[hd] at this;simp only[zag];rw[Array.getElem?_setIfInBounds_ne (fun q=>this (by rw[q]))]
   ·rfl
theorem qKP {S:Nat→Bool} {vs:Nat→Value} {d:Tmp}: ∀(r:List Oper) (k:Nat) (b:Act) (i:Nat) (o:Oper),r[i]? =some o→o.dst=some d→S (k+i)=true→(∀j o2,r[j]? =some o2→j≠i→o2.dst≠some d)→d<b.tmps.size→(actV S vs r k b).tmps[d]? =some (vs (k+i))
 | [],_,_,_,_,h,_,_,_,_=>by simp at h
 | o'::r,k,b,0,o,h,hd,hS,hu,hz=>by
   obtain rfl:o'=o:=by simpa using h
   rw[zaM] at hS⊢;unfold actV;rw[hS,qIM r (k+1) _ fun o2 gt=>by
    obtain⟨j,hj⟩:=List.getElem?_of_mem gt;exact hu (j+1) o2 (by simpa using hj) tO]
   simp only[if_true,hd,zag];rw[Array.getElem?_setIfInBounds_self_of_lt hz]
 | o'::r,k,b,i+1,o,h,hd,hS,hu,hz=>by
   unfold actV;rw[qKP r (k+1) _ i o (by simpa using h) hd (by rwa [show k+1+i=k+(i+1) by omega]) (fun j o2 hj xa=>hu (j+1) o2 (by simpa using hj) tO) (by split<;>(try simp only[qFp])<;>exact hz)];rw[show k+1+i=k+(i+1) by omega]
section
variable {l:List Oper}
theorem qCn (h:freG l=true):Region.noSelect l.toArray=true∧ ∀i o,l[i]? =some o→(∀e∈o.after,Region.binds .any e=true→e.on<i)∧(∀k o',l[k]? =some o'→i≠k→ ∀d,o.dst=some d→o'.dst≠some d)∧
  ∀k o' t,l[k]? =some o'→o'.dst=some t→t∈o.looksAt l.toArray→qAJ l l.length i k=true∨qAJ l l.length k i=true:=by
 unfold freG at h;rw[zaj,zak] at h;refine⟨h.1,fun i o ho=> ?_⟩;have hi:i<l.length:=(zam.1 ho).1;have h1:=h.2 i (zap.2 hi);rw[ho] at h1;simp only[zaj,zak,zap] at h1;obtain⟨h3,h4⟩:=h1;refine⟨fun e he hb=> ?_,fun k o' hk hik d hd hd'=> ?_,fun k o' t hk ht hl=> ?_⟩
 ·have:=Array.all_eq_true_iff_forall_mem.1 h3 e he
  rw[hb] at this;simpa using this
 ·have h5:=h4 k ((zam.1 hk).1);rw[hk] at h5;simp only[zaj,zas,decide_eq_true_eq] at h5;rcases h5.1 with (h6 | h6) | h6
  ·exact hik h6
  ·rw[hd,hd'] at h6;simp at h6
  ·rw[hd] at h6;simp at h6
 ·have h5:=h4 k ((zam.1 hk).1);rw[hk] at h5;simp only[zaj] at h5;have h6:=h5.2;rw[ht] at h6;simp only[zas,zaS] at h6;rcases h6 with (h6 | h6) | h6
  ·rw[List.contains_iff_mem.2 hl] at h6;cases h6
  ·exact .inl h6
  ·exact .inr h6
theorem qDg (hB:freG l=true): ∀(f i j:Nat),qAJ l f i j=true→j<i
 | 0,_,_,h=>by cases h
 | f+1,i,j,h=>by
   unfold qAJ at h;cases ho:l[i]? with
   | none=>rw[ho] at h;cases h
   | some o=>
     rw[ho] at h;simp only[List.any_eq_true,Array.mem_toList_iff,zaj,zas,beq_iff_eq] at h;obtain⟨e,he,hb,h⟩:=h;have h1:=((qCn hB).2 i o ho).1 e he hb;rcases h with h | h
     ·omega
     ·have:=qDg hB f e.on j h;omega
end
section
variable {P:Program} {I Hs:World→Prop} {D:List Nat} {J:Nat→World→Prop} {l:List Oper} {L:List Sg} {T:List (Option (World→World→Prop))} {w:World} {a:Act} {Q:Exit→Act→World→Prop} {G:List Nat}
theorem qJN {vs:Nat→Value} (hvs: ∀j,j<l.length→(sgA L j).pick (vs j)=vs j): ∀(r:List Oper) (ss:List Sg) (k:Nat) (b:Act),(∀j,r[j]? =l[k+j]?)→(∀j,ss.getD j (.val undef)=sgA L (k+j))→ObwG G P J l L T vs Q r ss k b→
  (∀i o,r[i]? =some o→G.contains (k+i)=false→ ∀W K Q0,Hid (J (k+i) W)→Hid (∀j,qAJ l l.length (k+i) j=true→(sgA L j).R (qAo l j vs) W (vs j))→Hid (∀v W',tnA T (k+i) W W'→(sgA L (k+i)).R (qAo l (k+i) vs) W' v→K ((actV (fun j=>decide (j<k+i)) vs r k b).put o.dst v) W')→o.wp P (actV (fun j=>decide (j<k+i)) vs r k b) W K Q0)∧
  (∀W',Hid (J l.length W')→Hid (∀j,j<l.length→(sgA L j).R (qAo l j vs) W' (vs j))→Q .normal (actV (fun _=>true) vs r k b) W')
 | [],_,_,_,_,_,h=>⟨fun i o ho _=>by simp at ho,h⟩
 | _::_,[],_,_,_,_,h=>h.elim
 | o::r,s::ss,k,b,hr,hs,h=>by
   obtain⟨h1,h2⟩:=h;have aP:s=sgA L k:=by simpa using hs 0
   have hk:k<l.length:=by
    have:=hr 0
    rw[zaM] at this;exact(zam.1 this.symm).1
   rw[aP,hvs k hk] at h2;have hn:=qJN hvs r ss (k+1) _ (fun j=>by have:=hr (j+1);rw[show k+(j+1)=k+1+j by omega] at this;simpa using this) (fun j=>by have:=hs (j+1);rw[show k+(j+1)=k+1+j by omega] at this;simpa using this) h2;refine⟨fun i o' cC hG'=> ?_,?_⟩
   ·cases i with
    | zero=>
      obtain rfl:o=o':=by simpa using cC
      have e:actV (fun j=>decide (j<k+0)) vs (o::r) k b=b:=by
       unfold actV;rw[decide_eq_false tO];have: ∀(r:List Oper) (k2:Nat) (b:Act),k≤k2→actV (fun j=>decide (j<k+0)) vs r k2 b=b:=by
        intro r;induction r with
        | nil=>intros;rfl
        | cons o r ih=>
          intro k2 b iL;unfold actV;rw[decide_eq_false tO];exact ih (k2+1) b tO
       exact this r (k+1) b tO
      rw[zaM] at hG';rw[e,zaM,←aP];rw[hG'] at h1;exact h1
    | succ i=>
      have e:k+(i+1)=k+1+i:=tO;rw[e] at hG';have:=hn.1 i o' (by simpa using cC) hG'
      rw[e];unfold actV;rw[decide_eq_true tO];exact this
   ·exact hn.2
end
section
variable {g:GrD} (hg:grB g=true) (hf:Fol g.2.2)
include hg
include hf
end
theorem qDj {g:GrD} (hfi:finB g=true) {v x:Int} (hv:0≤v∧v<g.2.1) (hx:x∈qG g.1.toNat):0≤qF g.2.2 v x:=by
 unfold finB at hfi;simp only[zaj,decide_eq_true_eq] at hfi;have h0:misU g g.2.1.toNat= []:=zaD hfi.2;have key: ∀n:Nat,misU g n= []→ ∀k:Nat,k<n→misV g (k:Int) (qG g.1.toNat)= []:=by
  intro n;induction n with
  | zero=>intro _ k hk;omega
  | succ n ih=>
    intro h k hk;unfold misU at h;obtain⟨ha,hb⟩:=List.append_eq_nil_iff.1 h;rcases Nat.lt_or_ge k n with q | q
    ·exact ih ha k q
    ·have:k=n:=tO
     subst this;exact hb
 have:=key _ h0 v.toNat tO
 rw[zaw hv.1] at this;unfold misV at this;rw[zaQ,zaz] at this;have:=this x hx
 simp at this
 exact this
section
variable {g:GrD} {t:List Int}
def qOW (g:GrD):GrD:=(g.1,g.2.1+1,g.2.2)
def cjY (g:GrD) (t:List Int):GrD:=addG (qOW g) (qBG g.2.2 0 t).1 g.2.1 (t.drop (qBG g.2.2 0 t).2)
end
structure CjH (g:GrD) (t:List Int) (R:GrD×Bool):Prop where
 c0:qR g=false→R=((0,0,[]),false)
 c1:qAi g.1 t=false→R=((0,0,[]),false)
 c2:qR g=true→qAi g.1 t=true→(qBG g.2.2 0 t).2=t.length→R=(movG g (qBG g.2.2 0 t).1.toNat,true)
 c3:(qBG g.2.2 0 t).2<t.length→40≤g.2.1→R=((0,0,[]),false)
 c4:(qBG g.2.2 0 t).2<t.length→qEv (qOW g) (t.drop (qBG g.2.2 0 t).2)=false→R=((0,0,[]),false)
 c5:qR g=true→qAi g.1 t=true→(qBG g.2.2 0 t).2<t.length→g.2.1<40→qEv (qOW g) (t.drop (qBG g.2.2 0 t).2)=true→R=(movG (cjY g t) g.2.1.toNat,true)
section
variable {g:GrD} (hc:qR g=true)
include hc
theorem qz:grB g=true∧Fol g.2.2:=qE (qJX hc)
end
theorem qFI {g:GrD} (hg:grB g=true): ∀ {w:List Int} {v:Int},(∀x∈w,-3≤x∧x≤3)→0≤qY g.2.2 v w→ ∀x∈w,x∈qG g.1.toNat
 | [],_,_,_,x,hx=>by cases hx
 | y::w,v,hl,h,x,hx=>by
   rw[qS] at h;split at h
   ·exact absurd h (by decide)
   ·rename_i q
    rcases List.mem_cons.1 hx with e | e
    ·subst e;exact qBW hg (hl x (by simp)) (zaL.1 q)
    ·exact qFI hg (fun z hz=>hl z (by simp[hz])) h x e
theorem qJW {g:GrD} (hg:grB g=true) {w:List Int} (h: ∀x∈w,x∈qG g.1.toNat): ∀x∈w,Lt3 x:=fun x hx=>by
 have h1:=qX.1 (h x hx);have h2:=(qB hg).1;exact⟨tO,tO,tO⟩
theorem qBl {a b:GrD} (ha:qR a=true) (hb:qR b=true) (hr:a.1=b.1)
  (H: ∀w,(∀x∈w,Lt3 x)→NoB w→qY a.2.2 0 w=0→qY b.2.2 0 w=0):qAG a b=true:=by
 obtain⟨aL,cY⟩:=qz ha;rw[qGl];unfold qJU;rw[ha,hb,decide_eq_true hr,zaH,zaH,zaH];unfold basF;rw[if_pos ha,zak];intro w hw;obtain⟨e,he,rfl⟩:=zaC.1 hw;obtain⟨jg,mU⟩:=zat.1 he;have cZ:=qI aL jg;have c1:=qo ha cZ.1;have c2:=qo ha cZ.2.2;have mQ:=qFt aL cY jg c1 c2;have jY:=qHU aL jg c1 c2;exact decide_eq_true (H _ (qJW aL (qFI (v:=0) aL jY tO)) (qDN aL cY jg mU c1 c2) mQ)
theorem qJS {a b:GrD} (h:qAG a b=true) (h':qAG b a=true) {v:Int} (hv:v∈canO a):imgW b a (imgW a b v)=v:=by
 obtain⟨ha,hb,_⟩:=qj h;have aL:=qZ ha;have a8:=qZ hb;have hz:(0:Int)∈canO b:=zaq (qc a8).2.2;have hr:=qBI h hv;have:=qCs h' (wdO a v) 0 (qBx aL hv) hz hr.1
 rw[qBB a8,qCG aL hv] at this;exact this.symm
theorem qKV {a b:GrD} (h:qAG a b=true) (h':qAG b a=true) {u x:Int} (hu:u∈canO a) (hx: -3≤x∧x≤3):
  (0≤qF a.2.2 u x→qF a.2.2 u x∈canO a∧qF b.2.2 (imgW a b u) x=imgW a b (qF a.2.2 u x)∧0≤imgW a b (qF a.2.2 u x))∧(qF a.2.2 u x<0→qF b.2.2 (imgW a b u) x<0):=by
 obtain⟨ha,hb,_⟩:=qj h;have aL:=qZ ha;constructor
 ·intro h0;have hm:=qAX aL hu hx h0;exact⟨hm,(qGZ h hu hx h0).2.symm,(qBI h hm).1⟩
 ·intro h0;apply zai
  intro q;have hr:=qBI h hu;have:=qGZ h' (qo hb hr) hx tO
  rw[qJS h h' hu] at this;omega
theorem qMB {a b:GrD} (h:qAG a b=true) (h':qAG b a=true):a=b:=by
 obtain⟨ha,hb,hr⟩:=qj h;obtain⟨aL,cY⟩:=qz ha;obtain⟨a8,d6⟩:=qz hb;have Ec:=qc aL;have pV: ∀u∈canO a,∀v∈canO a,imgW a b u=imgW a b v→u=v:=fun u hu v hv e=>by
  rw[←qJS h h' hu,←qJS h h' hv,e]
 have hm:=qJl (g:=a) (h:=b) (o:=canO a) (f:=imgW a b) (ls:=qG a.1.toNat) pV (fun u hu x hx=>qKV h h' hu (let3 aL hx)) 41 0 [0] (fun y hy=>by
  rw[zaF.1 hy];exact zaq Ec.2.2)
 rw[zaI,List.map_nil,qBB aL] at hm;have nP:canO b=(canO a).map (imgW a b):=by
  show canF b.2.2 (qG b.1.toNat) 41 0 [0]=_
  rw[←hr];exact hm
 have ea:canG a=a:=by unfold qR at ha;simp only[zaj,decide_eq_true_eq] at ha;exact ha.2
 have eb:canG b=b:=by unfold qR at hb;simp only[zaj,decide_eq_true_eq] at hb;exact hb.2
 have l7:=qc a8;have ln: ∀i:Int,0≤i→i<(canO a).length→ov (canO b) i=imgW a b (ov (canO a) i):=fun i h0 h1=>by
  obtain⟨k,rfl⟩: ∃k:Nat,i=(k:Int):=⟨i.toNat,tO⟩;have hk:k<(canO a).length:=tO;rw[qIE hk,qIE (by rw[nP];simpa using hk)];simp[nP]
 have au:(canO b).length=(canO a).length:=by rw[nP];simp
 have key: ∀e:EdD,e∈(canG a).2.2↔e∈(canG b).2.2:=fun e=>by
  have Ai:=fun he=>qI (g:=canG a) (qE (qBn (qP ha))).1 (e:=e) he;have tn:=fun he=>qI (g:=canG b) (qE (qBn (qP hb))).1 (e:=e) he;have sa:(canG a).2.1=((canO a).length:Int):=rfl;have sb:(canG b).2.1=((canO b).length:Int):=rfl;have ra:(canG a).1=a.1:=rfl;have rb:(canG b).1=b.1:=rfl;have h3:=(qB aL).1;have mid: ∀(h1:0≤e.1∧e.1<(canO a).length) (h2:0≤e.2.2∧e.2.2<(canO a).length) (h4:1≤e.2.1∧e.2.1≤a.1),e∈(canG a).2.2↔e∈(canG b).2.2:=fun h1 h2 h4=>by
   show e∈(rnG a (canO a)).2.2↔e∈(rnG b (canO b)).2.2
   rw[qHV Ec.1 h1 h2,qHV l7.1 (by rw[au];exact h1) (by rw[au];exact h2),ln _ h1.1 h1.2,ln _ h2.1 h2.2];have m1:=qDH h1.1 h1.2;have m2:=qDH h2.1 h2.2;generalize ov (canO a) e.1=p at*;generalize ov (canO a) e.2.2=q at*;have q0:=(Ec.2.1 q m2).1;have st:=qKV h h' m1 (x:=e.2.1) tO;have i1:(p,e.2.1,q)∈a.2.2↔qF a.2.2 p e.2.1=q:=by
    rw[qCN aL cY tO q0];constructor
    ·intro z;exact .inl ⟨tO,z⟩
    ·rintro(z | z)
     ·exact z.2
     ·omega
   have i2:(imgW a b p,e.2.1,imgW a b q)∈b.2.2↔qF b.2.2 (imgW a b p) e.2.1=imgW a b q:=by
    rw[qCN a8 d6 tO (qBI h m2).1];constructor
    ·intro z;exact .inl ⟨tO,z⟩
    ·rintro(z | z)
     ·exact z.2
     ·omega
   rw[i1,i2];constructor
   ·intro z;have:=(st.1 tO).2.1
    rw[this,z]
   ·intro z;have IH:=(qBI h m2).1;rcases Int.lt_or_le (qF a.2.2 p e.2.1) 0 with y | y
    ·have:=st.2 y;omega
    ·obtain⟨z1,z2,_⟩:=st.1 y;rw[z2] at z;exact pV _ z1 _ m2 z
  constructor
  ·intro he;obtain⟨e1,e2,e3⟩:=Ai he;exact(mid tO tO tO).1 he
  ·intro he;obtain⟨e1,e2,e3⟩:=tn he;exact(mid tO tO tO).2 he
 rw[←ea,←eb];have s1:Srt cmpE (canG a).2.2:=qHH (qE (qBn (qP ha))).1;have s2:Srt cmpE (canG b).2.2:=qHH (qE (qBn (qP hb))).1;have e3:(canG a).2.2=(canG b).2.2:=Srt.ext qAD s1 s2 key;have e1:(canG a).1=(canG b).1:=hr;have e2:(canG a).2.1=(canG b).2.1:=by show((canO a).length:Int)=((canO b).length:Int);rw[au]
 exact Prod.ext e1 (Prod.ext e2 e3)
theorem qME {a b:GrD} (ha:qR a=true) (hb:qR b=true) (hr:a.1=b.1)
  (H: ∀w,(∀x∈w,Lt3 x)→NoB w→(qY a.2.2 0 w=0↔qY b.2.2 0 w=0)):a=b:=
 qMB (qBl ha hb hr fun w h1 h2 h=>(H w h1 h2).1 h) (qBl hb ha hr.symm fun w h1 h2 h=>(H w h1 h2).2 h)
theorem qLc {g:GrD} (hf:qb g=true) {u:Nat} (hu:(u:Int)<g.2.1) (hc:Conn g.2.2 0 u):(movG g u).1=g.1∧ ∀w,(∀x∈w,Lt3 x)→NoB w→(qY (movG g u).2.2 0 w=0↔qY g.2.2 u w=u):=by
 obtain⟨s,hs,hz⟩:=Sub.mov hf hu hc;obtain⟨hg,aO⟩:=qE hf;have hx:=qZ (qBP hf hu);have aq:=(qB hx).2.1;refine⟨hs.rk,fun w hl hn=>⟨fun h=> ?_,fun h=> ?_⟩⟩
 ·have:=hs.walk hx w 0 tO tO (fun x hx=>(hl x hx).b3) tO
  rwa [h,hz] at this
 ·refine hs.lp 0 w tO tO .base (fun x hx=>(hl x hx).b3) hn ?_;rw[hz];exact h
section
variable {g:GrD} (hfi:finB g=true)
include hfi
theorem qBc:qR g=true:=by unfold finB at hfi;simp only[zaj] at hfi;exact hfi.1
end
theorem qLJ {α:Type} [DecidableEq α] (f:Nat→α): ∀(n:Nat) (D:List α),D.Nodup→(∀v,v<n→f v∈D)→(D.map fun x=>((zah n).filter fun v=>decide (f v=x)).length).sum=n
 | 0,D,_,_=>by
   have: ∀L:List α,(L.map fun x=>((zah 0).filter fun v=>decide (f v=x)).length).sum=0:=fun L=>by
    induction L with
    | nil=>rfl
    | cons a L ih=>rw[zaI,zaJ,ih];simp
   exact this D
 | n+1,D,hd,hm=>by
   have ih:=qLJ f n D hd fun v hv=>hm v tO;have fX: ∀L:List α,L.Nodup→(L.map fun x=>((zah (n+1)).filter fun v=>decide (f v=x)).length).sum=(L.map fun x=>((zah n).filter fun v=>decide (f v=x)).length).sum+if f n∈L then 1 else 0:=fun L=>by
    induction L with
    | nil=>intro _;rfl
    | cons a L ihL=>
      intro hd;obtain⟨ha,hd⟩:=List.nodup_cons.1 hd;rw[zaI,zaI,zaJ,zaJ,ihL hd,List.range_succ,List.filter_append,List.length_append];by_cases e:f n=a
      ·subst e;rw[if_neg ha,if_pos (by simp)];simp
       omega
      ·have e2:(f n∈a::L)↔f n∈L:=by simp[e]
       simp only[e2];simp[e]
       omega
   rw[fX D hd,ih,if_pos (hm n tO)]
section
variable {a b:GrD} {A B:Nat} (h:Two a b A B) {r:Nat} (hr:r≤3)
include h hr
end
theorem qFz {l:List Nat} {i d:Nat} (h:i<l.length):l.getD i d=l[i]:=by simp[h]
section
variable {a b:GrD} {A B:Nat} (h:Two a b A B) {r:Nat} (hr:r≤3)
include h hr
end
theorem qNK {L:List EdD} (h:L.Nodup):(srt cmpE L).length=L.length:=by
 have hs:=qAu qAD L;have hn:(srt cmpE L).Nodup:=hs.1.imp fun {x y} hxy e=>by rw[e,qBe.2 rfl] at hxy;omega
 exact((zay hn h).2 hs.2).length_eq
section
variable {a b:GrD} {u v:Nat}
theorem qOb (h1:qb a=true) (h2:qb b=true) (hu:(u:Int)<a.2.1) (hv:(v:Int)<b.2.1): ∀i,i<(pbP a b u v).length→Conn (pbG a b u v).2.2 0 (i:Int):=by
 have hT:=qBk h1 h2;have hg:=(qB (qE h1).1).1;have dX:a.1.toNat≤3:=tO;have sk:=(qB (qE h1).1).2.1;have Ky:=(qB (qE h2).1).2.1;have lz:u*b.2.1.toNat+v<a.2.1.toNat*b.2.1.toNat:=qEU tO tO;have tj: ∀x,x∈qG a.1.toNat→(-3≤x∧x≤3)∧ -x∈qG a.1.toNat:=qDk dX;have bQ: ∀e,e∈peL a.2.2 b.2.2 b.2.1.toNat a.1.toNat (pbP a b u v) (pbP a b u v).length→e∈(pbG a b u v).2.2:=fun e he=>((qAu qAD _).2 e).2 he;have edge: ∀(p q:Nat) (x:Int),p∈pbP a b u v→q∈pbP a b u v→1≤x→x≤a.1.toNat→pnx a.2.2 b.2.2 b.2.1.toNat p x=some q→(((pbP a b u v).idxOf p:Int),x,((pbP a b u v).idxOf q:Int))∈(pbG a b u v).2.2:=fun p q x hp hq fi eP hn=>by
  refine bQ _ (qEy.2 ⟨(pbP a b u v).idxOf p,(x-1).toNat,zaf hp,tO,?_⟩);unfold peE;rw[qFz (zaf hp),zax,show(((x-1).toNat:Nat):Int)+1=x by omega,hn];rfl
 have key: ∀p∈pbP a b u v,p∈pbP a b u v∧Conn (pbG a b u v).2.2 0 ((pbP a b u v).idxOf p:Int):=by
  refine qMG (S:=fun p=>p∈pbP a b u v∧Conn (pbG a b u v).2.2 0 ((pbP a b u v).idxOf p:Int)) (fun p x q ⟨hp,hc⟩ gR hn=> ?_) _ _ _ fun p hp=> ?_
  ·have hq:q∈pbP a b u v:=qDw hT (fun x hx=>(tj x hx).1) lz p hp x q gR hn;refine⟨hq,?_⟩;rcases qX.1 gR with hx | hx
   ·exact Conn.fwd _ (edge p q x hp hq hx.1 hx.2 hn) hc
   ·have hb:=qEu hT (tj x gR).1 hn;exact Conn.back _ (edge q p (-x) hq hp tO tO hb) hc
  ·rw[zaF.1 hp];have h0:(pbP a b u v)[0]? =some (u*b.2.1.toNat+v):=by
    have: ∀(f i:Nat) (o:List Nat),o[0]? =some (u*b.2.1.toNat+v)→(bfsF a.2.2 b.2.2 b.2.1.toNat (qG a.1.toNat) f i o)[0]? =some (u*b.2.1.toNat+v):=by
     intro f;induction f with
     | zero=>intro i o ho;exact ho
     | succ f ih=>
       intro i o ho;unfold bfsF;cases o[i]? with
       | none=>exact ho
       | some q=>exact ih _ _ (qAU (a:=a) (b:=b) _ q o ho)
    exact this _ _ _ rfl
   have hm:u*b.2.1.toNat+v∈pbP a b u v:=zaq h0;refine⟨hm,?_⟩;have:(pbP a b u v).idxOf (u*b.2.1.toNat+v)=0:=by
    cases hl:pbP a b u v with
    | nil=>rw[hl] at h0;simp at h0
    | cons z l=>rw[hl] at h0;simp at h0;subst h0;simp
   rw[this];exact Conn.base
 intro i hi;have:=(key (pbP a b u v)[i] (zao hi)).2
 have hj:=zaf (zao hi);have e:(pbP a b u v).idxOf (pbP a b u v)[i]=i:=qCe (qGe _) hj hi (zax hj);rwa [e] at this
end
def chi (g:GrD):Int:=(g.2.2.length:Int)-g.2.1
theorem qCu {α β:Type} (f:α→Option β): ∀l:List α,(l.filterMap f).length=(l.filter fun a=>(f a).isSome).length
 | []=>rfl
 | a::l=>by
   rw[List.filterMap_cons,zaO];cases e:f a with
   | none=>simp[qCu f l]
   | some b=>simp[qCu f l]
theorem qIO {α:Type} (p:α→Bool): ∀l:List α,l.length=(l.filter p).length+(l.filter fun a=> !p a).length
 | []=>rfl
 | a::l=>by
   rw[zaO,zaO,List.length_cons,qIO p l];cases p a<;>simp<;>omega
theorem qLu (k:Nat): ∀n,(zaV n k).sum=n*k
 | 0=>by simp
 | n+1=>by rw[List.replicate_succ,zaJ,qLu k n,Nat.succ_mul,Nat.add_comm]
theorem qOo {o:List Int} {e:EdD}:(rnE o e).isSome=true↔e.1∈o∧e.2.2∈o:=by
 have hp: ∀v,0<plv o v↔v∈o:=fun v=>⟨fun h=>zai fun q=>by rw[qCy.2 q] at h;omega,qCC⟩;unfold rnE;by_cases h:e.1∈o∧e.2.2∈o
 ·rw[if_pos ⟨(hp _).2 h.1,(hp _).2 h.2⟩];simp[h]
 ·rw[if_neg fun q=>h ⟨(hp _).1 q.1,(hp _).1 q.2⟩];constructor
  ·intro q;cases q
  ·intro q;exact absurd q h
theorem qOH {g:GrD} (hg:grB g=true) (o:List Int):(rnG g o).2.2.length=(g.2.2.filter fun e=>decide (e.1∈o∧e.2.2∈o)).length:=by
 show(srt cmpE (rnL g.2.2 o)).length=_
 rw[qNK (qIu o (qDl hg).2)];unfold rnL;rw[qCu];congr 1
 refine List.filter_congr fun e _=> ?_;rw[zaU,qOo,decide_eq_true_eq]
theorem qKm {n:Nat} {o:List Int} (hd:o.Nodup) (hr: ∀y∈o,0≤y∧y<(n:Int)) (h: ∀v,0≤v∧v<(n:Int)→v∈o):o.length=n:=by
 have h1:=qAc n o hd hr;have h2:(rng n).length≤o.length:=(qIZ n).length_le_of_subset fun y hy=>by
  unfold rng at hy;obtain⟨k,hk,rfl⟩:=zaC.1 hy;have:=zap.1 hk
  exact h _ ⟨tO,tO⟩
 rw[qGM] at h2;omega
theorem qKN {g:GrD} (hg:grB g=true) {o:List Int} (ho:OrdN g.2.1 o) (h: ∀v,0≤v∧v<g.2.1→v∈o):chi (rnG g o)=chi g∧(rnG g o).2.1=g.2.1:=by
 have aq:=(qB hg).2.1;have hl:=qKm (n:=g.2.1.toNat) ho.1 (fun y hy=>by have:=ho.2.1 y hy;omega) (fun v hv=>h v tO);have he:(rnG g o).2.2.length=g.2.2.length:=by
  rw[qOH hg,zaE.2];intro e hm;have:=qI hg hm
  exact decide_eq_true ⟨h _ this.1,h _ this.2.2⟩
 have hs:(rnG g o).2.1=(o.length:Int):=rfl;unfold chi;rw[he,hs];exact⟨tO,tO⟩
theorem Conn.trans' {es:List EdD} {u v w:Int} (h:Conn es u v) (k:Conn es v w):Conn es u w:=by
 induction k with
 | base=>exact h
 | fwd e he _ ih=>exact .fwd e he ih
 | back e he _ ih=>exact .back e he ih
theorem Conn.symm' {es:List EdD} {u v:Int} (h:Conn es u v):Conn es v u:=by
 induction h with
 | base=>exact .base
 | fwd e he _ ih=>exact Conn.trans' (.back e he .base) ih
 | back e he _ ih=>exact Conn.trans' (.fwd e he .base) ih
theorem qDr {g:GrD} {o:List Int} {e:EdD} (he:e∈g.2.2) (h1:e.1∈o) (h2:e.2.2∈o):(plv o e.1-1,e.2.1,plv o e.2.2-1)∈(rnG g o).2.2:=
 qNz.2 ⟨e,he,by unfold rnE;rw[if_pos ⟨qCC h1,qCC h2⟩]⟩
theorem qOQ {g:GrD} (hg:grB g=true) {o:List Int} (h: ∀v,0≤v∧v<g.2.1→v∈o) {u v:Int} (hc:Conn g.2.2 u v):Conn (rnG g o).2.2 (plv o u-1) (plv o v-1):=by
 induction hc with
 | base=>exact .base
 | fwd e he _ ih=>
   have:=qI hg he
   exact Conn.fwd _ (qDr he (h _ this.1) (h _ this.2.2)) ih
 | back e he _ ih=>
   have:=qI hg he
   exact Conn.back _ (qDr he (h _ this.1) (h _ this.2.2)) ih
def Joi (g:GrD):Prop:= ∀v,0≤v∧v<g.2.1→Conn g.2.2 0 v
theorem qOA {g:GrD} (hg:grB g=true) {o:List Int} (ho:OrdN g.2.1 o) (h: ∀v,0≤v∧v<g.2.1→v∈o) (hc:Joi g):Joi (rnG g o):=fun i hi=>by
 have hs:(rnG g o).2.1=(o.length:Int):=rfl;rw[hs] at hi;have h1:=qDH (o:=o) hi.1 hi.2;have h0:=qDH (o:=o) (i:=0) tO tO;have k1:=hc _ (ho.2.1 _ h1);have k0:=hc _ (ho.2.1 _ h0);have:=qOQ hg h (k0.symm'.trans' k1)
 rwa [qFS ho.1 tO tO,qFS ho.1 hi.1 hi.2,zaG,zaG] at this
theorem qMS {g:GrD} (hg:grB g=true) (hc:Joi g) (hl:0≤qk g.2.2 g.2.1.toNat): ∃e∈g.2.2,degE (qk g.2.2 g.2.1.toNat) e=1∧ ∀d∈g.2.2,d≠e→degE (qk g.2.2 g.2.1.toNat) d=0:=by
 have aq:=(qB hg).2.1;have hr:=qAQ g.2.2 g.2.1.toNat;have gE:=qBM g.2.2 g.2.1.toNat _ _ hl;change qDM g.2.2 (qk g.2.2 g.2.1.toNat).toNat=true at gE;generalize qk g.2.2 g.2.1.toNat=u at*;have lQ:=hc u tO;have hd:degL g.2.2 u<2:=by
  unfold qDM at gE;rw[show((u.toNat:Nat):Int)=u by omega,zas,decide_eq_true_eq] at gE;rcases gE with h | h
  ·exact h
  ·rw[qAS.2 ((qBp _ _ _).2 lQ)] at h;cases h
 have dA: ∃e∈g.2.2,1≤degE u e:=by
  cases lQ with
  | base=>omega
  | fwd e he _=>exact⟨e,he,by unfold degE;rw[if_pos (c:=e.2.2=e.2.2) rfl];omega⟩
  | back e he _=>exact⟨e,he,by unfold degE;rw[if_pos (c:=e.1=e.1) rfl];omega⟩
 obtain⟨e,he,h1⟩:=dA;have h2:=qEg (v:=u) he;refine⟨e,he,tO,fun d hd2 ai=> ?_⟩;have:=qHa (v:=u) ai hd2 he
 omega
theorem qGV {u:Int} {e:EdD}:degE u e=0↔e.1≠u∧e.2.2≠u:=by
 unfold degE;by_cases h1:e.1=u<;>by_cases h2:e.2.2=u<;>simp[h1,h2]
theorem qND {g:GrD} (hf:qb g=true) (hc:Joi g) (hl:0≤qk g.2.2 g.2.1.toNat):
  chi (rnG g (delO g.2.1.toNat (qk g.2.2 g.2.1.toNat)))=chi g∧Joi (rnG g (delO g.2.1.toNat (qk g.2.2 g.2.1.toNat))):=by
 obtain⟨hg,aO⟩:=qE hf;have aq:=(qB hg).2.1;have hr:=qAQ g.2.2 g.2.1.toNat;obtain⟨e0,PC,xg,wT⟩:=qMS hg hc hl;generalize qk g.2.2 g.2.1.toNat=u at*;have af:=qCS (n:=g.2.1.toNat) (x:=u) tO tO;rw[show((g.2.1.toNat:Nat):Int)=g.2.1 by omega] at af;have lK: ∀y,y∈delO g.2.1.toNat u↔(0≤y∧y<g.2.1)∧y≠u:=fun y=>by
  rw[qAp,show((g.2.1.toNat:Nat):Int)=g.2.1 by omega]
 have ue:(delO g.2.1.toNat u).length=g.2.1.toNat-1:=by rw[qBK,if_pos tO]
 have iH:(rnG g (delO g.2.1.toNat u)).2.2.length+1=g.2.2.length:=by
  rw[qOH hg];have gF:=qIO (fun e:EdD=>decide (e.1∈delO g.2.1.toNat u∧e.2.2∈delO g.2.1.toNat u)) g.2.2;have fX:(g.2.2.filter fun e:EdD=> !decide (e.1∈delO g.2.1.toNat u∧e.2.2∈delO g.2.1.toNat u)).Perm [e0]:=by
   refine(zay ((qDl hg).2.filter _) (by simp)).2 fun d=> ?_
   rw[zat,zaF,zaS,decide_eq_false_iff_not,lK,lK];constructor
   ·rintro⟨hd,hn⟩
    refine zai fun ai=>hn ?_;have h1:=qGV.1 (wT d hd ai);have h2:=qI hg hd;exact⟨⟨h2.1,h1.1⟩,⟨h2.2.2,h1.2⟩⟩
   ·rintro rfl;refine⟨PC,fun q=> ?_⟩;rw[qGV.2 ⟨q.1.2,q.2.2⟩] at xg;omega
  rw[fX.length_eq] at gF;simp only[List.length_singleton] at gF;omega
 refine⟨by
  unfold chi;rw[show(rnG g (delO g.2.1.toNat u)).2.1=((delO g.2.1.toNat u).length:Int) from rfl,ue];omega,?_⟩
 have hz:plv (delO g.2.1.toNat u) 0-1=0:=by
  have h0:ov (delO g.2.1.toNat u) 0=0:=qJR af;have:=qFS af.1 (i:=0) tO tO
  rw[h0] at this;omega
 have one: ∀d∈g.2.2,¬(d.1≠u∧d.2.2≠u)→d=e0:=fun d hd hn=>zai fun ai=>hn (qGV.1 (wT d hd ai));have nb: ¬(e0.1=u∧e0.2.2=u):=fun q=>by
  unfold degE at xg;rw[if_pos q.1,if_pos q.2] at xg;omega
 have key: ∀v,Conn g.2.2 0 v→(v≠u→Conn (rnG g (delO g.2.1.toNat u)).2.2 0 (plv (delO g.2.1.toNat u) v-1))∧(v=u→Conn (rnG g (delO g.2.1.toNat u)).2.2 0 (plv (delO g.2.1.toNat u) (if e0.1=u then e0.2.2 else e0.1)-1)):=by
  intro v hv;induction hv with
  | base=>exact⟨fun _=>by rw[hz];exact .base,fun q=>tO⟩
  | fwd e he _ ih=>
    have cZ:=qI hg he;by_cases h1:e.1=u
    ·have:=one e he (fun q=>q.1 h1)
     subst this;have h2:e.2.2≠u:=fun q=>nb ⟨h1,q⟩;refine⟨fun _=> ?_,fun q=>absurd q h2⟩;have:=ih.2 h1
     rwa [if_pos h1] at this
    ·by_cases h2:e.2.2=u
     ·have:=one e he (fun q=>q.2 h2)
      subst this;refine⟨fun q=>absurd h2 q,fun _=> ?_⟩;rw[if_neg h1];exact ih.1 h1
     ·exact⟨fun _=>Conn.fwd _ (qDr he ((lK _).2 ⟨cZ.1,h1⟩) ((lK _).2 ⟨cZ.2.2,h2⟩)) (ih.1 h1),fun q=>absurd q h2⟩
  | back e he _ ih=>
    have cZ:=qI hg he;by_cases h1:e.2.2=u
    ·have:=one e he (fun q=>q.2 h1)
     subst this;have h2:e.1≠u:=fun q=>nb ⟨q,h1⟩;refine⟨fun _=> ?_,fun q=>absurd q h2⟩;have:=ih.2 h1
     rwa [if_neg h2] at this
    ·by_cases h2:e.1=u
     ·have:=one e he (fun q=>q.1 h2)
      subst this;refine⟨fun q=>absurd h2 q,fun _=> ?_⟩;rw[if_pos h2];exact ih.1 h1
     ·exact⟨fun _=>Conn.back _ (qDr he ((lK _).2 ⟨cZ.1,h2⟩) ((lK _).2 ⟨cZ.2.2,h1⟩)) (ih.1 h1),fun q=>absurd q h2⟩
 intro i hi;rw[show(rnG g (delO g.2.1.toNat u)).2.1=((delO g.2.1.toNat u).length:Int) from rfl] at hi;have hm:=(lK _).1 (qDH (o:=delO g.2.1.toNat u) hi.1 hi.2);have:=(key _ (hc _ hm.1)).1 hm.2
 rwa [qFS af.1 hi.1 hi.2,zaG] at this
theorem qIa: ∀(f:Nat) (g:GrD) (l:List Int),qb g=true→Joi g→chi (trimF f g l).1=chi g∧Joi (trimF f g l).1
 | 0,g,l,_,hc=>⟨rfl,hc⟩
 | f+1,g,l,hf,hc=>by
   unfold trimF;split
   ·exact⟨rfl,hc⟩
   ·rename_i hn
    obtain⟨hg,_⟩:=qE hf;have aq:=(qB hg).2.1;have hr:=qAQ g.2.2 g.2.1.toNat;obtain⟨h1,h2⟩:=qND hf hc tO;have af:=qCS (n:=g.2.1.toNat) (x:=qk g.2.2 g.2.1.toNat) tO tO;rw[show((g.2.1.toNat:Nat):Int)=g.2.1 by omega] at af;obtain⟨k1,k2⟩:=qIa f _ (l.take (qk g.2.2 g.2.1.toNat).toNat++l.drop ((qk g.2.2 g.2.1.toNat).toNat+1)) (qDa hf af) h2;exact⟨by rw[k1,h1],k2⟩
theorem qMW {g:GrD} (hf:qb g=true) (hc:Joi g):chi (canG g)=chi g∧Joi (canG g)∧(canG g).2.1=g.2.1:=by
 obtain⟨hg,_⟩:=qE hf;have aB: ∀v,0≤v∧v<g.2.1→v∈canO g:=fun v hv=>qMl hf (hc v hv);have h1:=qKN hg (qc hg).toN aB;exact⟨h1.1,qOA hg (qc hg).toN aB hc,h1.2⟩
theorem qNe {g:GrD} (hf:qb g=true) (hc:Joi g):chi (qAj g)=chi g:=by
 unfold qAj;rw[qFj hf];unfold qBT;obtain⟨h1,h2⟩:=qIa g.2.1.toNat g ((zah g.2.1.toNat).map fun v=>((v:Nat):Int)) hf hc;rw[(qMW (qDv _ _ _ hf) h2).1,h1]
theorem qMs {g:GrD} (h:qR g=true):Joi g:=fun _ hv=>qDR h hv
theorem qLi {g:GrD} (h:qR g=true) {u:Nat} (hu:(u:Int)<g.2.1):chi (movG g u)=chi g:=by
 have hf:=qP h;obtain⟨hg,_⟩:=qE hf;have aq:=(qB hg).2.1;have ho:=qDd (n:=g.2.1.toNat) (u:=u) tO;rw[show((g.2.1.toNat:Nat):Int)=g.2.1 by omega] at ho;have aB: ∀v,0≤v∧v<g.2.1→v∈movO g.2.1.toNat u:=fun v hv=>by
  unfold movO;by_cases e:v=u
  ·rw[e];exact List.mem_cons_self
  ·exact List.mem_cons_of_mem _ (qAp.2 ⟨tO,e⟩)
 unfold movG;rw[qNe (qBY hf ho) (qOA hg ho aB (qMs h)),(qKN hg ho aB).1]
theorem qKU: ∀(f:Nat) (g:GrD) (t:List Int),qR g=true→chi (qCB f g t).1=chi g
 | 0,g,t,_=>rfl
 | f+1,g,t,h=>by
   by_cases q:1<g.2.1∧degL g.2.2 0=1
   ·rw[qHo q];have hf:=qP h;obtain⟨hg,_⟩:=qE hf;have h1:=qDS hg q.2;rcases qO hg 0 (fstL g) with e | ⟨e1,e2⟩
    ·omega
    ·rw[qKU f _ _ (qBP hf tO),qLi h tO]
   ·rw[qFh q]
theorem qJk {g:GrD} (h:qR g=true):qFc g-1=chi g:=by
 unfold qFc chi;rw[if_pos h];omega
theorem qLW {x y:GrD} (h:qAG x y=true) (hc:covB x y=true):x.2.2.length=y.2.2.length*(fibL x y 0).length:=by
 obtain⟨hx,hy,hr⟩:=qj h;obtain⟨gx,fx⟩:=qE (qP hx);obtain⟨gy,fy⟩:=qE (qP hy);have dX:=(qB gx).1;have const: ∀t,0≤t→t<y.2.1→(fibL x y t).length=(fibL x y 0).length:=fun t t0 t1=>by
  refine qAL (S:=fun t=>(fibL x y t).length=(fibL x y 0).length) rfl (fun e he=> ?_) (qDR hy ⟨t0,t1⟩);have cZ:=qI gy he;have h3:=(qB gy).1;have n1:=qt gy fy he;have n2:=qAt gy fy he;have m1:=qFs h hc (t:=e.1) (l:=e.2.1) tO (by rw[n1];exact cZ.2.2.1);have m2:=qFs h hc (t:=e.2.2) (l:= -e.2.1) tO (by rw[n2];exact cZ.1.1);rw[n1] at m1;rw[n2] at m2;constructor<;>intro q<;>omega
 let f:Nat→EdD:=fun k=>if hk:k<x.2.2.length then(imgW x y x.2.2[k].1,x.2.2[k].2.1,imgW x y x.2.2[k].2.2) else(0,0,0)
 have fQ: ∀k (hk:k<x.2.2.length),f k=(imgW x y x.2.2[k].1,x.2.2[k].2.1,imgW x y x.2.2[k].2.2):=fun k hk=>by simp only[f];rw[dif_pos hk]
 have bD: ∀e∈x.2.2,(imgW x y e.1,e.2.1,imgW x y e.2.2)∈y.2.2:=fun e he=>by
  have cZ:=qI gx he;have n1:=qt gx fx he;have hm:=qo hx cZ.1;obtain⟨s1,s2⟩:=qGZ h hm (l:=e.2.1) tO (by rw[n1];exact cZ.2.2.1);rw[n1] at s2;rcases(qCN gy fy (v:=imgW x y e.1) (x:=e.2.1) (y:=imgW x y e.2.2) tO tO).1 s2.symm with q | q
  ·exact q.2
  ·omega
 have lX:=qLJ f x.2.2.length y.2.2 (qDl gy).2 fun k hk=>by rw[fQ k hk];exact bD _ (zao hk)
 have fX: ∀d∈y.2.2,((zah x.2.2.length).filter fun k=>decide (f k=d)).length=(fibL x y 0).length:=fun d hd=>by
  have aN:=qI gy hd;rw[←const d.1 aN.1.1 aN.1.2];have eL:(((zah x.2.2.length).filter fun k=>decide (f k=d)).map fun k=>(x.2.2[k]?.getD (0,0,0)).1).Nodup:=by
   unfold List.Nodup;rw[List.pairwise_map];have hn:((zah x.2.2.length).filter fun k=>decide (f k=d)).Nodup:=List.nodup_range.filter _;refine List.Pairwise.imp_of_mem (fun {i j} hi hj eC e=>eC ?_) hn;obtain⟨i1,i2⟩:=zat.1 hi;obtain⟨j1,j2⟩:=zat.1 hj;rw[zap] at i1 j1;rw[decide_eq_true_eq,fQ _ i1] at i2;rw[decide_eq_true_eq,fQ _ j1] at j2;rw[zau i1,zau j1] at e;simp only[zaB] at e;have l1:=congrArg (fun d:EdD=>d.2.1) (i2.trans j2.symm);simp only at l1
   have o1:=qt gx fx (zao i1);have o2:=qt gx fx (zao j1);rw[e,l1,o2] at o1;exact qCe (qDl gx).2 i1 j1 (Prod.ext e (Prod.ext l1 o1.symm))
  have Nf:(fibL x y d.1).Nodup:=(qc gx).1.filter _;have:=((zay eL Nf).2 fun u=> ?_).length_eq
  ·rwa [List.length_map] at this
  ·constructor
   ·intro hu;obtain⟨k,hk,rfl⟩:=zaC.1 hu;obtain⟨k1,k2⟩:=zat.1 hk;rw[zap] at k1;rw[decide_eq_true_eq,fQ _ k1] at k2;rw[zau k1];simp only[zaB];have cZ:=qI gx (zao k1);refine zat.2 ⟨qo hx cZ.1,decide_eq_true ?_⟩;rw[←k2]
   ·intro hu;obtain⟨u1,u2⟩:=zat.1 hu;rw[decide_eq_true_eq] at u2;have n1:=qt gy fy hd;have hl:d.2.1∈qG x.1.toNat:=qX.2 (by rw[hr];omega);have h0:0≤qF x.2.2 u d.2.1:=by
     have:=zak.1 (zak.1 hc u u1) d.2.1 hl
     refine zai fun q=> ?_;rw[decide_eq_true (by omega:qF x.2.2 u d.2.1<0),u2,n1,decide_eq_true aN.2.2.1] at this;cases this
    obtain⟨s1,s2⟩:=qGZ h u1 (l:=d.2.1) tO h0;rw[u2,n1] at s2;have he:(u,d.2.1,qF x.2.2 u d.2.1)∈x.2.2:=by
     rcases(qCN gx fx (v:=u) (x:=d.2.1) (y:=qF x.2.2 u d.2.1) tO h0).1 rfl with q | q
     ·exact q.2
     ·omega
    obtain⟨k,hk,e⟩:=List.getElem_of_mem he;refine zaC.2 ⟨k,zat.2 ⟨zap.2 hk,decide_eq_true ?_⟩,?_⟩
    ·rw[fQ _ hk,e];exact Prod.ext u2 (Prod.ext rfl s2)
    ·rw[zau hk,e];rfl
 have uP:y.2.2.map (fun d=>((zah x.2.2.length).filter fun k=>decide (f k=d)).length)=zaV y.2.2.length (fibL x y 0).length:=by
  rw[List.eq_replicate_iff];refine⟨by simp,fun n hn=> ?_⟩;obtain⟨d,hd,rfl⟩:=zaC.1 hn;exact fX d hd
 rw[uP,qLu] at lX;exact lX.symm
theorem qLj {g:GrD} (hc:qR g=true) (h: ∀v l,0≤v∧v<g.2.1→l∈qG g.1.toNat→0≤qF g.2.2 v l):finB g=true:=by
 have aq:=(qB (qz hc).1).2.1;have key: ∀k:Nat,k≤g.2.1.toNat→misU g k= []:=by
  intro k;induction k with
  | zero=>intro _;rfl
  | succ k ih=>
    intro hk;unfold misU;rw[ih tO,List.nil_append];unfold misV;rw[zaQ,zaz];intro l hl;have:=h (k:Int) l ⟨tO,tO⟩ hl
    rw[decide_eq_true_eq];omega
 unfold finB;rw[hc,key _ (zad _)];rfl
theorem qJC {g:GrD} (hc:qR g=true):movG g 0=g:=by
 have hf:=qP hc;have aq:=(qB (qz hc).1).2.1;obtain⟨r0,l0⟩:=qLc hf (u:=0) tO .base;exact qME (qBP hf tO) hc r0 fun w h3 hn=>l0 w h3 hn
theorem qKX {g:GrD} (hg:grB g=true) {v:Int} (h: ∀l∈qG g.1.toNat,0≤qF g.2.2 v l): ¬degL g.2.2 v≤1:=fun q=>by
 have hr:=(qB hg).1;have h1:=h 1 (qX.2 tO);have h2:=h (-1) (qX.2 tO);have:=qDA (l:=1) (m:= -1) tO tO q h1 h2
 omega
theorem qJI {b:GrD} (h:finB b=true):cycG b=(b,[]):=by
 have hc:=qBc h;have hg:=(qz hc).1;have aq:=(qB hg).2.1;refine qFh fun q=> ?_;exact qKX hg (v:=0) (fun l hl=>qDj h ⟨tO,tO⟩ hl) tO
theorem qHd {a b:GrD} (h:0<idxF a b): ∃k:Nat,k=(qY a.2.2 0 (cycG b).2).toNat∧qAG a b=true∧(k:Int)<a.2.1∧qAG (movG a k) (cycG b).1=true∧covB (movG a k) (cycG b).1=true∧idxF a b=((fibL (movG a k) (cycG b).1 0).length:Int):=by
 unfold idxF at h⊢;split at h
 ·rename_i hi
  rw[if_pos hi];split at h
  ·rename_i hw
   rw[if_pos hw];have aL:=(qz (qj hi).1).1;have aq:=(qB aL).2.1;refine⟨_,rfl,hi,?_,qFf hi hw,?_⟩
   ·rcases qBF aL (cycG b).2 0 tO with q | q
    ·omega
    ·omega
   ·unfold idxC at h⊢;split at h
    ·rename_i eF
     exact⟨eF,if_pos eF⟩
    ·omega
  ·omega
 ·omega
theorem qOj {a b:GrD} (h:0<idxF a b):qR a=true∧qR b=true∧chi a=idxF a b*chi b:=by
 obtain⟨k,_,hi,hk,bD,eF,he⟩:=qHd h;obtain⟨ha,hb,_⟩:=qj hi;refine⟨ha,hb,?_⟩;have h1:=qDP bD eF;have h2:=qLW bD eF;rw[he,←qLi ha hk,←qKU 40 b [] hb];change chi (movG a k)=_*chi (cycG b).1;unfold chi;rw[h1,h2,Int.mul_sub,Int.natCast_mul,zaP ((cycG b).1.2.2.length:Int),zaP (cycG b).1.2.1]
theorem qKG {a b:GrD} (hi:qAG a b=true) (cY:finB a=true):finB b=true:=by
 obtain⟨ha,hb,hr⟩:=qj hi;obtain⟨ga,fa⟩:=qz ha;obtain⟨gb,fb⟩:=qz hb;have dX:=(qB ga).1;have aq:=(qB ga).2.1;have step: ∀ {u l:Int},u∈canO a→l∈qG b.1.toNat→0≤qF b.2.2 (imgW a b u) l∧ ∃u'∈canO a,imgW a b u'=qF b.2.2 (imgW a b u) l:=fun {u l} hu hl=>by
  have Dg:=(qc ga).2.1 u hu;rw[←hr] at hl;have h0:=qDj cY Dg hl;have jY:=let3 ga hl;obtain⟨s1,s2⟩:=qGZ hi hu jY h0;exact⟨s1,_,qAX ga hu jY h0,s2⟩
 have onto: ∀v,0≤v∧v<b.2.1→ ∃u∈canO a,imgW a b u=v:=fun v hv=>by
  refine qAL (S:=fun v=> ∃u∈canO a,imgW a b u=v) ⟨0,zaq (qc ga).2.2,qBB ga⟩ (fun e he=> ?_) (qDR hb hv);have cZ:=qI gb he;constructor
  ·rintro⟨u,hu,e1⟩
   obtain⟨_,u',tp,e2⟩:=step hu (l:=e.2.1) (qX.2 tO);rw[e1,qt gb fb he] at e2;exact⟨u',tp,e2⟩
  ·rintro⟨u,hu,e1⟩
   obtain⟨_,u',tp,e2⟩:=step hu (l:= -e.2.1) (qX.2 tO);rw[e1,qAt gb fb he] at e2;exact⟨u',tp,e2⟩
 refine qLj hb fun v l hv hl=> ?_;obtain⟨u,hu,rfl⟩:=onto v hv;exact(step hu hl).1
theorem qKT {a b:GrD} (h:0<idxF a b) (d6:finB b=true):finB a=true∧a.2.1=b.2.1*idxF a b:=by
 obtain⟨k,hk,hi,QD,bD,eF,he⟩:=qHd h;obtain⟨ha,hb,hr⟩:=qj hi;rw[qJI d6] at hk bD eF he;obtain rfl:k=0:=hk
 simp only[qJC ha] at bD eF he;refine⟨qLj ha fun v l hv hl=> ?_,by rw[he];exact qDP bD eF⟩;have hm:=qo ha hv;have uL:=qBI hi hm;have hn:=qDj d6 uL (hr▸hl);refine zai fun q=> ?_;rw[qGP hm hl tO hn] at eF;cases eF
theorem qEo {g:GrD}:0<idxO g↔finB g=true:=by
 unfold idxO;constructor
 ·intro h;split at h
  ·assumption
  ·omega
 ·intro h;rw[if_pos h];have:=(qB (qz (qBc h)).1).2.1
  omega
theorem qFn {g:GrD} (h:finB g=true):idxO g=g.2.1:=by unfold idxO;rw[if_pos h]
theorem qOv {a b:GrD} (h:0<idxF a b):decide (0<idxO a)=decide (0<idxO b)∧(0<idxO b→idxO a=idxF a b*idxO b)∧qFc a-1=idxF a b*(qFc b-1):=by
 obtain⟨ha,hb,hx⟩:=qOj h;obtain⟨_,_,hi,_⟩:=qHd h;refine⟨?_,fun hp=> ?_,by rw[qJk ha,qJk hb,hx]⟩
 ·rw[zaU,decide_eq_true_eq,decide_eq_true_eq,qEo,qEo];exact⟨qKG hi,fun hf=>(qKT h hf).1⟩
 ·have hf:=qEo.1 hp;obtain⟨h1,h2⟩:=qKT h hf;rw[qFn hf,qFn h1,h2,zaP]
section
variable {a b:GrD} {u v:Nat}
theorem qMA (h1:qb a=true) (h2:qb b=true) (hu:(u:Int)<a.2.1) (hv:(v:Int)<b.2.1) {e:EdD} (he:e∈(pbG a b u v).2.2):
  pnx a.2.2 b.2.2 b.2.1.toNat ((pbP a b u v).getD e.1.toNat 0) e.2.1=some ((pbP a b u v).getD e.2.2.toNat 0):=by
 have hT:=qBk h1 h2;have hg:=(qB (qE h1).1).1;have sk:=(qB (qE h1).1).2.1;have Ky:=(qB (qE h2).1).2.1;have lz:u*b.2.1.toNat+v<a.2.1.toNat*b.2.1.toNat:=qEU tO tO;have tj: ∀x,x∈qG a.1.toNat→(-3≤x∧x≤3)∧ -x∈qG a.1.toNat:=qDk tO;have hm:e∈peL a.2.2 b.2.2 b.2.1.toNat a.1.toNat (pbP a b u v) (pbP a b u v).length:=((qAu qAD _).2 e).1 he;obtain⟨i,j,hi,hj,hp⟩:=qEy.1 hm;obtain⟨q,hq,rfl⟩:=qEi hp;have bQ:(pbP a b u v).getD i 0∈pbP a b u v:=by rw[qFz hi];exact zao hi
 have vd:q∈pbP a b u v:=qDw hT (fun x hx=>(tj x hx).1) lz _ bQ _ q (qX.2 (.inl ⟨tO,tO⟩)) hq;simp only[Int.toNat_natCast];rw[qFz (zaf vd),zax];exact hq
theorem qOq (h1:qb a=true) (h2:qb b=true) (hu:(u:Int)<a.2.1) (hv:(v:Int)<b.2.1) (af:pbOk a b u v=true) {i l:Int} (hl: -3≤l∧l≤3) (h0:0≤qF (pbG a b u v).2.2 i l):
  pnx a.2.2 b.2.2 b.2.1.toNat ((pbP a b u v).getD i.toNat 0) l=some ((pbP a b u v).getD (qF (pbG a b u v).2.2 i l).toNat 0):=by
 obtain⟨gx,fx⟩:=qE (qFi h1 h2 hu hv af);rcases(qCN gx fx (v:=i) (x:=l) (y:=qF (pbG a b u v).2.2 i l) hl h0).1 rfl with q | q
 ·exact qMA h1 h2 hu hv q.2
 ·have:=qEu (qBk h1 h2) (x:= -l) tO (qMA h1 h2 hu hv q.2)
  simpa using this
theorem qJa (h1:qb a=true) (h2:qb b=true) (hu:(u:Int)<a.2.1) (hv:(v:Int)<b.2.1) (af:pbOk a b u v=true): ∀(w:List Int) (i:Int),(∀x∈w,-3≤x∧x≤3)→0≤qY (pbG a b u v).2.2 i w→
  qY a.2.2 (((pbP a b u v).getD i.toNat 0/b.2.1.toNat:Nat):Int) w=(((pbP a b u v).getD (qY (pbG a b u v).2.2 i w).toNat 0/b.2.1.toNat:Nat):Int)∧
  qY b.2.2 (((pbP a b u v).getD i.toNat 0%b.2.1.toNat:Nat):Int) w=(((pbP a b u v).getD (qY (pbG a b u v).2.2 i w).toNat 0%b.2.1.toNat:Nat):Int)
 | [],_,_,_=>⟨rfl,rfl⟩
 | l::w,i,hw,h0=>by
   rw[qS] at h0;split at h0
   ·omega
   ·rename_i hn
    have hs:=qOq h1 h2 hu hv af (hw l (by simp)) (zaL.1 hn);obtain⟨p1,p2⟩:=qIh (qBk h1 h2) hs;obtain⟨w1,w2⟩:=qJa h1 h2 hu hv af w _ (fun x hx=>hw x (by simp[hx])) h0;rw[qS,qS,qS,if_neg hn,←p1,←p2,if_neg (zaL.2 (zav _)),if_neg (zaL.2 (zav _))];exact⟨w1,w2⟩
theorem qNQ:(pbP a b u v)[0]? =some (u*b.2.1.toNat+v):=by
 have: ∀(f i:Nat) (o:List Nat),o[0]? =some (u*b.2.1.toNat+v)→(bfsF a.2.2 b.2.2 b.2.1.toNat (qG a.1.toNat) f i o)[0]? =some (u*b.2.1.toNat+v):=by
  intro f;induction f with
  | zero=>intro i o ho;exact ho
  | succ f ih=>
    intro i o ho;unfold bfsF;cases o[i]? with
    | none=>exact ho
    | some q=>exact ih _ _ (qAU (a:=a) (b:=b) _ q o ho)
 exact this _ _ _ rfl
theorem qPG (h1:qb a=true) (h2:qb b=true) (hu:(u:Int)<a.2.1) (hv:(v:Int)<b.2.1) (af:pbOk a b u v=true) {i:Nat} (hi:i<(pbP a b u v).length) {l:Int} (hl:l∈qG a.1.toNat) {q:Nat}
  (hq:pnx a.2.2 b.2.2 b.2.1.toNat (pbP a b u v)[i] l=some q):0≤qF (pbG a b u v).2.2 (i:Int) l:=by
 obtain⟨gx,fx⟩:=qE (qFi h1 h2 hu hv af);have hT:=qBk h1 h2;have hg:=(qB (qE h1).1).1;have sk:=(qB (qE h1).1).2.1;have Ky:=(qB (qE h2).1).2.1;have lz:u*b.2.1.toNat+v<a.2.1.toNat*b.2.1.toNat:=qEU tO tO;have tj: ∀x,x∈qG a.1.toNat→(-3≤x∧x≤3)∧ -x∈qG a.1.toNat:=qDk tO;have bQ: ∀e,e∈peL a.2.2 b.2.2 b.2.1.toNat a.1.toNat (pbP a b u v) (pbP a b u v).length→e∈(pbG a b u v).2.2:=fun e he=>((qAu qAD _).2 e).2 he;have edge: ∀(p q:Nat) (x:Int),p∈pbP a b u v→q∈pbP a b u v→1≤x→x≤a.1.toNat→pnx a.2.2 b.2.2 b.2.1.toNat p x=some q→(((pbP a b u v).idxOf p:Int),x,((pbP a b u v).idxOf q:Int))∈(pbG a b u v).2.2:=fun p q x hp hq fi eP hn=>by
  refine bQ _ (qEy.2 ⟨(pbP a b u v).idxOf p,(x-1).toNat,zaf hp,tO,?_⟩);unfold peE;rw[qFz (zaf hp),zax,show(((x-1).toNat:Nat):Int)+1=x by omega,hn];rfl
 have Ch:=zao hi;have vd:q∈pbP a b u v:=qDw hT (fun x hx=>(tj x hx).1) lz _ Ch _ q hl hq;have hj:=zaf Ch;have ei:(pbP a b u v).idxOf (pbP a b u v)[i]=i:=qCe (qGe _) hj hi (zax hj);rcases qX.1 hl with hx | hx
 ·have he:=edge _ q l Ch vd hx.1 hx.2 hq;rw[ei] at he;rw[qt gx fx he];exact zav _
 ·have hb:=qEu hT (tj l hl).1 hq;have he:=edge q _ (-l) vd Ch tO tO hb;rw[ei] at he;have:=qAt gx fx he
  simp only[Int.neg_neg] at this;rw[this];exact zav _
end
theorem qMc {x:GrD} (hf:qb x=true) (hj:Joi x) (h: ∀i l,0≤i∧i<x.2.1→l∈qG x.1.toNat→0≤qF x.2.2 i l):finB (qAj x)=true∧(qAj x).2.1=x.2.1∧(qAj x).1=x.1:=by
 obtain⟨gx,fx⟩:=qE hf;have aq:=(qB gx).2.1;have yi:qk x.2.2 x.2.1.toNat<0:=zai fun q=>by
  have hr:=qAQ x.2.2 x.2.1.toNat;have gE:=qBM x.2.2 x.2.1.toNat _ _ (zaL.1 q);change qDM x.2.2 (qk x.2.2 x.2.1.toNat).toNat=true at gE;generalize qk x.2.2 x.2.1.toNat=u at*;have lQ:=hj u tO;have hd:degL x.2.2 u<2:=by
   unfold qDM at gE;rw[show((u.toNat:Nat):Int)=u by omega,zas,decide_eq_true_eq] at gE;rcases gE with h | h
   ·exact h
   ·rw[qAS.2 ((qBp _ _ _).2 lQ)] at h;cases h
  exact qKX gx (v:=u) (fun l hl=>h u l tO hl) tO
 have ht:(qBT x).1=x:=by unfold qBT;rw[qDs _ yi]
 have hc:qAj x=canG x:=by unfold qAj;rw[qFj hf,ht]
 obtain⟨_,_,hs⟩:=qMW hf hj;rw[hc];have AV:qR (canG x)=true:=by rw[←hc];exact qCq gx
 have ho:=qc gx;have gV:((canO x).length:Int)=x.2.1:=hs;refine⟨qLj AV fun i l hi hl=> ?_,hs,rfl⟩;rw[hs] at hi;have hm:=qDH (o:=canO x) hi.1 tO;have jY:=let3 gx (x:=l) hl;have hn:=h (ov (canO x) i) l (ho.2.1 _ hm) hl;have bD:=qAX gx hm jY hn;have:=qCC bD
 show 0≤qF (rnG x (canO x)).2.2 i l
 rw[qGW hf ho.toN hi.1 tO jY,if_pos hn];omega
theorem qOK {c a:GrD} (hi:qAG c a=true) (hc:finB c=true):0<idxF c a∧idxO c=idxF c a*idxO a:=by
 have ha:=qKG hi hc;have jz:=qBc hc;have eF:covB c a=true:=qHp fun u hu l hl q=>by
  have:=qDj hc ((qc (qz jz).1).2.1 u hu) hl
  omega
 have gI:=qDP hi eF;have aw:=(qB (qz jz).1).2.1;have cT:=(qB (qz (qBc ha)).1).2.1;have he:idxF c a=((fibL c a 0).length:Int):=by
  have hw:qY c.2.2 0 (cycG a).2=0:=by rw[qJI ha];rfl
  unfold idxF;rw[if_pos hi,if_pos (by rw[hw];decide),hw,show((0:Int).toNat)=0 from rfl,qJC jz,qJI ha];unfold idxC;rw[if_pos eF]
 have vH:0<idxF c a:=by
  rw[he];rcases Nat.eq_zero_or_pos (fibL c a 0).length with q | q
  ·rw[q] at gI;simp at gI
   omega
  ·omega
 refine⟨vH,?_⟩;rw[qFn hc,qFn ha,gI,he,zaP]
theorem qOe {a b:GrD} (h:(intF a b).2=true) (ha:0<idxO a) (hb:0<idxO b):
  0<(ixF a b).1∧0<(ixF a b).2∧idxO (intF a b).1=(ixF a b).1*idxO a∧idxO (intF a b).1=(ixF a b).2*idxO b:=by
 have fa:=qEo.1 ha;have fb:=qEo.1 hb;have ca:=qBc fa;have cb:=qBc fb;have f1:=qP ca;have f2:=qP cb;have aL:=(qz ca).1;have a8:=(qz cb).1;have xy:=(qB aL).2.1;have vA:=(qB a8).2.1;have xO:=(qB aL).1;have hx:ixF a b=(idxF (intF a b).1 a,idxF (intF a b).1 b):=by unfold ixF;rw[if_pos h]
 rw[hx];simp only
 have BK:a.1=b.1∧pbOk a b 0 0=true∧(intF a b).1=qAj (pbG a b 0 0):=by
  unfold intF at h⊢;rw[if_pos ⟨ca,cb⟩] at h⊢;unfold qAw at h⊢;by_cases q:a.1=b.1∧pbOk a b 0 0=true
  ·rw[if_pos q] at h⊢;exact⟨q.1,q.2,rfl⟩
  ·rw[if_neg q] at h;simp at h
 obtain⟨hr,af,hI⟩:=BK;rw[hI];have fl:((0:Nat):Int)<a.2.1:=tO;have lP:((0:Nat):Int)<b.2.1:=tO;have wK:=qFi f1 f2 fl lP af;have ny:Joi (pbG a b 0 0):=fun i hi=>by
  have:=qOb f1 f2 fl lP i.toNat (by have h9:(pbG a b 0 0).2.1=((pbP a b 0 0).length:Int):=rfl;rw[h9] at hi;omega)
  rwa [zaw hi.1] at this
 have nB: ∀i l,0≤i∧i<(pbG a b 0 0).2.1→l∈qG (pbG a b 0 0).1.toNat→0≤qF (pbG a b 0 0).2.2 i l:=fun i l hi hl=>by
  have hN:(pbG a b 0 0).2.1=((pbP a b 0 0).length:Int):=rfl;have fE:i.toNat<(pbP a b 0 0).length:=tO;have ac:=(qDW f1 f2 fl lP).2.1 _ (zao fE);have hB:0<b.2.1.toNat:=tO;have hd:(pbP a b 0 0)[i.toNat]/b.2.1.toNat<a.2.1.toNat:=(Nat.div_lt_iff_lt_mul hB).2 ac;have hm:=Nat.mod_lt (pbP a b 0 0)[i.toNat] hB;change l∈qG a.1.toNat at hl;have n1:=qDj fa (v:=(((pbP a b 0 0)[i.toNat]/b.2.1.toNat:Nat):Int)) ⟨zav _,by rw[←zaw (a:=a.2.1) tO];exact Int.ofNat_lt.2 hd⟩ hl;have n2:=qDj fb (v:=(((pbP a b 0 0)[i.toNat]%b.2.1.toNat:Nat):Int)) ⟨zav _,by rw[←zaw (a:=b.2.1) tO];exact Int.ofNat_lt.2 hm⟩ (hr▸hl);have:=qPG f1 f2 fl lP af fE hl (by unfold pnx;rw[if_pos ⟨n1,n2⟩])
  rwa [zaw hi.1] at this
 obtain⟨xc,_,sO⟩:=qMc wK ny nB;have jz:=qBc xc;have hz:(pbP a b 0 0).getD (0:Int).toNat 0=0:=by
  have:=qNQ (a:=a) (b:=b) (u:=0) (v:=0)
  simp[List.getD,this]
 have sN: ∀w,(∀x∈w,Lt3 x)→NoB w→qY (qAj (pbG a b 0 0)).2.2 0 w=0→qY (pbG a b 0 0).2.2 0 w=0:=fun w hw _ h0=>by
  obtain⟨s,hs,aP⟩:=Sub.core wK;have hg:=(qz jz).1;have aq:=(qB hg).2.1;have:=hs.walk hg w 0 tO tO (fun x hx=>(hw x hx).b3) tO
  rwa [h0,aP] at this
 have ia:qAG (qAj (pbG a b 0 0)) a=true:=qBl jz ca sO fun w hw hn h0=>by
  have h1:=sN w hw hn h0;have:=(qJa f1 f2 fl lP af w 0 (fun x hx=>(hw x hx).b3) tO).1
  rw[h1,hz] at this;simpa using this
 have ib:qAG (qAj (pbG a b 0 0)) b=true:=qBl jz cb (sO.trans hr) fun w hw hn h0=>by
  have h1:=sN w hw hn h0;have:=(qJa f1 f2 fl lP af w 0 (fun x hx=>(hw x hx).b3) tO).2
  rw[h1,hz] at this;simpa using this
 have u1:=qOK ia xc;have u2:=qOK ib xc;exact⟨u1.1,u2.1,u1.2,u2.2⟩
def gdB2 (l:List Oper) (L:List Sg) (G:List Nat):Bool:=(zah l.length).all fun i=>match l[i]? with
 | none=>true
 | some o=>match o.guard with
   | none=> !G.contains i
   | some (j,want)=>qAJ l l.length i j&&(match (l[j]?).bind (·.dst) with | some _=>true | none=>false)&&(match sgA L j with | .val (.bool b)=>(b==want)== !G.contains i | .val (.tuple _)=>G.contains i | _=>false)
section
variable {P:Program} {I Hs:World→Prop} {D:List Nat} {J:Nat→World→Prop} {l:List Oper} {L:List Sg} {T:List (Option (World→World→Prop))} {w:World} {a:Act} {Q:Exit→Act→World→Prop} {G:List Nat}
theorem qLd (hB:freG l=true) (hgB:gdB2 l L G=true) (hGo:GOff L T G) (aq: ∀(i:Nat) (o:Oper),l[i]? =some o→ ∀t,o.dst=some t→t<a.tmps.size)
  (hIT: ∀t,some t∈T→ ∀W W',I W→t W W'→I W') (hHT:ItD I Hs D T 0 T) (hst:Stb I L T (clG l L T)) (h: ∀vs,ObwG G P (JH I Hs l D) l L T vs Q l L 0 a): ∀(fuel:Nat) (listed:Array Bool) (vs:Nat→Value) (W:World),
  ((zah l.length).filter fun j=> !listed.getD j false).length=fuel→Cl l.toArray listed→I W→((∀d∈D,listed.getD d false=false)→Hs W)→(∀j,j<l.length→(sgA L j).pick (vs j)=vs j)→(∀j,listed.getD j false=true→(sgA L j).R (qAo l j vs) W (vs j))→
  wpAny P .any l.toArray Q fuel listed (actV (fun j=>listed.getD j false) vs l 0 a) W:=by
 have hI: ∀k W W',I W→tnA T k W W'→I W':=fun k W W' hi ht=>by
  unfold tnA at ht;cases e:T.getD k none with
  | none=>rw[e] at ht;rw[show W'=W from ht];exact hi
  | some t=>
    rw[e] at ht;refine hIT t ?_ W W' hi ht;rw[zaK] at e;cases e2:T[k]? with
    | none=>rw[e2] at e;cases e
    | some q=>rw[e2] at e;simp only[zaB] at e;subst e;exact zaq e2
 have hH: ∀k W W',I W→k∉D→Hs W→tnA T k W W'→Hs W':=fun k W W' hi hk hs ht=>by
  unfold tnA at ht;cases e:T.getD k none with
  | none=>rw[e] at ht;rw[show W'=W from ht];exact hs
  | some t=>
    rw[e] at ht;rw[zaK] at e;cases e2:T[k]? with
    | none=>rw[e2] at e;cases e
    | some q=>
      rw[e2] at e;simp only[zaB] at e;subst e;rcases hHT.at k t e2 with h | h
      ·rw[zal] at h;exact absurd h hk
      ·exact h W W' hi hs ht
 have all: ∀(listed:Array Bool) (vs:Nat→Value) (W:World),Cl l.toArray listed→I W→((∀d∈D,listed.getD d false=false)→Hs W)→(∀j,j<l.length→(sgA L j).pick (vs j)=vs j)→(∀j,listed.getD j false=true→(sgA L j).R (qAo l j vs) W (vs j))→(∀j,j<l.length→listed.getD j false=true)→Q .normal (actV (fun j=>listed.getD j false) vs l 0 a) W:=fun listed vs W hc hb hd hp hr hl=>by
  have:=(qJN hp l L 0 a (fun j=>by rw[zal]) (fun j=>by rw[zal];rfl) (h vs)).2 W (qA ⟨hb,fun ok=>hd fun d hd'=>by
   have h1:=zak.1 ok d hd';simp only[zas,beq_iff_eq] at h1;rcases h1 with h1 | h1
   ·rw[zar,zaA (by rw[hc.1,h1];simp)];rfl
   ·have h2:=qDg hB _ _ _ h1;rw[zar,zaA (by rw[hc.1];simp;omega)];rfl⟩) (qA fun j hj=>hr j (hl j hj))
  rwa [qBq (S':=fun _=>true) (vs':=vs) l 0 a fun j hj=>by rw[zal];exact⟨hl j hj,fun _=>rfl⟩]
 have none_ready: ∀(listed:Array Bool),Cl l.toArray listed→Region.ready .any l.toArray listed= []→ ∀j,j<l.length→listed.getD j false=true:=fun listed hc hr j=>by
  induction j using Nat.strongRecOn with
  | _ j ih=>
    intro hj;by_cases q:listed.getD j false=true
    ·exact q
    ·exfalso
     have:j∈Region.ready .any l.toArray listed:=by
      rw[mem_ready];refine⟨by rw[qAg (by rw[hc.1];simpa using hj)];simpa using q,l[j],by simp[hj],fun e he hb=> ?_⟩;have:=((qCn hB).2 j l[j] (zau hj)).1 e he hb
      exact ih e.on this tO
     rw[hr] at this;cases this
 intro fuel;induction fuel with
 | zero=>
   intro listed vs W hf hc hb hd hp hr;have hl: ∀j,j<l.length→listed.getD j false=true:=fun j hj=>by
    have:=zaz.1 (zaD hf) j (zap.2 hj)
    simpa using this
   refine⟨?_,all listed vs W hc hb hd hp hr hl⟩;cases hq:Region.ready .any l.toArray listed with
   | nil=>rfl
   | cons i r=>
     obtain⟨h1,o,ho,_⟩:=mem_ready.1 (show i∈Region.ready .any l.toArray listed by rw[hq];simp);have hi:i<l.length:=by simpa using (Array.getElem?_eq_some_iff.1 ho).1
     rw[qAg (by rw[hc.1];simpa using hi),hl i hi] at h1;cases h1
 | succ fuel ih=>
   intro listed vs W hf hc hb hd hp hr;refine⟨fun h0=>all listed vs W hc hb hd hp hr (none_ready listed hc h0),fun i hi=> ?_⟩;obtain⟨h1,o,ho,nR⟩:=mem_ready.1 hi;have cC:l[i]? =some o:=by simpa using ho
   have fE:i<l.length:=(zam.1 cC).1;have rq:i<listed.size:=by rw[hc.1];simpa using fE
   have fg:listed.getD i false=false:=by rw[←qAg rq];exact h1
   obtain⟨_,u9,oD⟩:=(qCn hB).2 i o cC;have nj:=fun (cs:Array SelectCase) (b:Bool)=>Region.noSelect_spec (qCn hB).1 i o cs b ho;have yI:=(qJN hp l L 0 a (fun j=>by rw[zal]) (fun j=>by rw[zal];rfl) (h vs)).1 i o cC;rw[zal] at yI;have l3: ∀j,qAJ l l.length i j=true→listed.getD j false=true:=fun j hj=>qBa hc l.length i j (fun o2 gt e he hb=>by rw[cC] at gt;injection gt with gt;subst gt;exact nR e he hb) hj;have dE: ∀j,listed.getD j false=true→qAJ l l.length j i=false:=fun j hj=>by
    cases q:qAJ l l.length j i with
    | false=>rfl
    | true=>
      have:=qBa hc l.length j i (fun o2 gt e he hb=>hc.2 j o2 (by simpa using gt) hj e he hb) q
      rw[fg] at this;cases this
   have lN:Region.wanted o (yielded l.toArray (actV (fun j=>listed.getD j false) vs l 0 a).tmps)= !G.contains i:=by
    have h1:=zak.1 hgB i (zap.2 fE);rw[cC] at h1;cases hq:o.guard with
    | none=>
      simp only[hq] at h1;rw[qAb hq,h1]
    | some p=>
      obtain⟨j,want⟩:=p;simp only[hq,zaj] at h1;obtain⟨⟨h2,h3⟩,h4⟩:=h1;have dS:=l3 j h2;cases mL:l[j]? with
      | none=>rw[mL] at h3;cases h3
      | some oj=>
        cases jq:oj.dst with
        | none=>rw[mL] at h3;simp only[zaT,jq] at h3;cases h3
        | some d=>
          have Iy:=hr j dS;have mO:j<l.length:=(zam.1 mL).1;have hy:yielded l.toArray (actV (fun j=>listed.getD j false) vs l 0 a).tmps j=(match vs j with | .bool b=>some b | _=>none):=by
           have hg:=qKP (S:=fun j=>listed.getD j false) (vs:=vs) (d:=d) l 0 a j oj mL jq (by rw[zal];exact dS) (fun m o2 hm hmj=>((qCn hB).2 j oj mL).2.1 m o2 hm (fun e=>hmj e.symm) d jq) (aq j oj mL d jq);rw[zal] at hg;unfold yielded;simp only[List.getElem?_toArray,mL,zaT,jq,hg];cases vs j<;>rfl
          cases hsj:sgA L j with
          | pur q=>rw[hsj] at h4;cases h4
          | mem q=>rw[hsj] at h4;cases h4
          | val c=>
            rw[hsj] at h4 Iy;have Jx:vs j=c:=Iy;cases c with
            | bool b=>
              unfold Region.wanted;rw[hq];simp only[hy,Jx];simp only[beq_iff_eq] at h4;rw[←h4];cases b<;>cases want<;>rfl
            | tuple _=>
              unfold Region.wanted;rw[hq];simp only[hy,Jx];simp only at h4
              rw[h4];rfl
            | _=>cases h4
   have tail: ∀v W',tnA T i W W'→(sgA L i).R (qAo l i vs) W' v→wpAny P .any l.toArray Q fuel (listed.setIfInBounds i true) ((actV (fun j=>listed.getD j false) vs l 0 a).put o.dst v) W':=fun v W' hbv hv=>by
    have e:=qHl (S:=fun j=>listed.getD j false) (vs:=vs) (v:=v) l 0 a i o cC (by rw[zal];exact fg) fun j o2 hj eC d hd=>u9 j o2 hj eC d hd;rw[zal] at e;rw[e];rw[qBq (S':=fun j=>(listed.setIfInBounds i true).getD j false) (vs':=fun j=>if j=i then v else vs j) l 0 a fun j hj=>⟨by
     rw[zal];by_cases q:j=i
     ·subst q;simp[rq]
     ·rw[decide_eq_false q,Bool.or_false,getD_set_ne false (fun e=>q e.symm)],fun _=>rfl⟩]
    have fW: ∀j,(listed.setIfInBounds i true).getD j false=true→j≠i→listed.getD j false=true:=fun j hj q=>by
     rwa [getD_set_ne false (fun e=>q e.symm)] at hj
    have jo: ∀j,qAJ l l.length j i=false→qAo l j (fun m=>if m=i then v else vs m)=qAo l j vs:=fun j hj=>by
     funext m
     unfold qAo;by_cases q:m=i
     ·subst q;rw[if_neg (by simp[hj]),if_neg (by simp[hj])]
     ·simp only[if_neg q]
    have FI:qAJ l l.length i i=false:=by
     cases q:qAJ l l.length i i with
     | false=>rfl
     | true=>have:=qDg hB _ _ _ q;omega
    have yw:I W':=hI i W W' hb hbv;refine ih (listed.setIfInBounds i true) _ W' ?_ (hc.set hi) yw (fun hd'=> ?_) (fun j hj=> ?_) (fun j hj=> ?_)
    ·have:=qGk rq fg l.length fE
     omega
    ·have uv:i∉D:=fun hm=>by have:=hd' i hm;simp[rq] at this
     exact hH i W W' hb uv (hd fun d wC=>by
      have ai:i≠d:=fun e=>uv (e▸wC);have:=hd' d wC
      rwa [getD_set_ne false ai] at this) hbv
    ·by_cases q:j=i
     ·subst q;simp only[if_true];exact Sg.pick_of _ _ hv
     ·simp only[if_neg q];exact hp j hj
    ·by_cases q:j=i
     ·subst q;simp only[if_true];rw[jo _ FI];exact hv
     ·simp only[if_neg q];have dS:=fW j hj q;rw[jo j (dE j dS)];have mO:j<l.length:=by
       by_cases q:j<l.length
       ·exact q
       ·rw[zar,zaA (by rw[hc.1];simpa using q)] at dS;cases dS
      have fC:=hr j dS;cases hs:sgA L j with
      | val c=>rw[hs] at fC;exact fC
      | pur p=>rw[hs] at fC;exact fC
      | mem p=>
        cases ht:T.getD i none with
        | none=>
          have:W'=W:=by unfold tnA at hbv;rw[ht] at hbv;exact hbv
          rw[this,←hs];exact fC
        | some t=>
          rw[←hs];refine hst.at (j,i) ?_ _ W W' _ hb yw hbv fC;unfold clG;refine List.mem_flatMap.2 ⟨j,zap.2 mO,zaR.2 ⟨i,zap.2 fE,?_⟩⟩;rw[if_pos];simp only[hs,ht,Sg.isMem,Option.isSome_some,dE j dS,Bool.not_false,Bool.and_true,zaH];simpa using q
   unfold wpOp;simp only[ho];cases hGi:G.contains i with
   | true=>
     rw[hGi] at lN;rw[if_neg (by rw[lN];decide)];obtain⟨hu,ht⟩:=hGo.at i hGi;refine tail undef W ?_ ?_
     ·unfold tnA;rw[ht]
     ·rw[hu];rfl
   | false=>
   have l7:=yI hGi;have Fa:=l7 W (fun c W'=> ∃v,c=(actV (fun j=>decide (j<i)) vs l 0 a).put o.dst v∧(tnA T i W W'∧(sgA L i).R (qAo l i vs) W' v)) (fun e _ _=>e= .outgrown∧False) (qA ⟨hb,fun ok=>hd fun d hd'=>by
    have h1:=zak.1 ok d hd';simp only[zas,beq_iff_eq] at h1;rcases h1 with h1 | h1
    ·rw[h1];exact fg
    ·cases q:listed.getD d false with
     | false=>rfl
     | true=>have:=dE d q;rw[h1] at this;cases this⟩) (qA fun j hj=>hr j (l3 j hj)) (qA fun v W' hbv hv=>⟨v,rfl,hbv,hv⟩)
   rw[hGi] at lN;rw[if_pos (by rw[lN];rfl)];refine .inl (qLl ?_ Fa (fun t ht=> ?_) fun v W' ⟨hbv,hv⟩=>tail v W' hbv hv)
   ·refine execOp_congr o (fun cs b e=>nj cs b e) fun x hx=> ?_;cases x with
    | tmp t=>
      refine qGb l 0 a a rfl rfl fun k o' hk hd=> ?_;rw[zal];have ht:t∈o.looksAt l.toArray:=List.mem_append_left _ (zaR.2 ⟨.tmp t,by simpa using hx,rfl⟩);rcases oD k o' t hk hd ht with q | q
      ·rw[l3 k q,decide_eq_true (qDg hB _ _ _ q)]
      ·have Cy:=qDg hB _ _ _ q;rw[decide_eq_false tO];cases ll:listed.getD k false with
       | false=>rfl
       | true=>
         exfalso
         have:=dE k ll
         rw[q] at this;cases this
    | const v=>rfl
    | global g=>rfl
    | func f=>rfl
   ·have: ∀(S:Nat→Bool) (r:List Oper) (k:Nat) (b:Act),(actV S vs r k b).tmps.size=b.tmps.size:=by
     intro S r;induction r with
     | nil=>intros;rfl
     | cons o r ih=>intro k b;unfold actV;rw[ih];split;exact qFp _ _ _;rfl
    rw[this];exact aq i o cC t ht
theorem qm {id:Nat} (G:List Nat) (L:List Sg) (T:List (Option (World→World→Prop))) (I Hs:World→Prop) (D:List Nat) (X:List (Nat×Nat)) (hm:P.follows .mixedOrders=true) (hB:freG l=true) (hgB:gdB2 l L G=true) (hGo:GOff L T G) (hX:clG l L T=X) (aq:(l.all fun o=>match o.dst with | some t=>decide (t<a.tmps.size) | none=>true)=true)
  (hI0:I w.drew) (hH0:Hs w.drew) (hIT:Its I T) (hHT:ItD I Hs D T 0 T) (hst:Stb I L T X)
  (h: ∀vs,ObwG G P (JH I Hs l D) l L T vs Q l L 0 a):(Code.region id l.toArray true).wp P Q a w:=by
 refine wp_region_any hm ?_;subst hX;have hv: ∀j,j<l.length→(sgA L j).pick ((sgA L j).pick undef)=(sgA L j).pick undef:=fun j _=>by cases sgA L j<;>rfl
 have h0: ∀j,(zan l.toArray.size false).getD j false=false:=fun j=>by
  simp only[zar,zaN];split<;>rfl
 have:=qLd (P:=P) (Q:=Q) (G:=G) hB hgB hGo (fun i o ho t ht=>by
  have:=zak.1 aq o (zaq ho)
  rw[ht] at this;simpa using this) hIT.at hHT hst h l.toArray.size (zan l.toArray.size false) (fun j=>(sgA L j).pick undef) w.drew (by
   have:(zah l.length).filter (fun j=> !(zan l.toArray.size false).getD j false)=zah l.length:=zaE.2 fun j _=>by rw[h0];rfl
   rw[this];simp) ⟨by simp,fun j o _ hj=>by rw[h0] at hj;cases hj⟩ hI0 (fun _=>hH0) hv (fun j hj=>by rw[h0] at hj;cases hj)
 have e:actV (fun j=>(zan l.toArray.size false).getD j false) (fun j=>(sgA L j).pick undef) l 0 a=a:=by
  have: ∀(r:List Oper) (k:Nat) (b:Act),actV (fun j=>(zan l.toArray.size false).getD j false) (fun j=>(sgA L j).pick undef) r k b=b:=by
   intro r;induction r with
   | nil=>intros;rfl
   | cons o r ih=>intro k b;unfold actV;rw[h0];exact ih _ _
  exact this l 0 a
 rw[e] at this;exact this
end
section
open Go.ChangeShapes Go.WideShapes Go.ChangeAt Go.RowKit
theorem qMJ {H:Type} {enc:TypeId×Value→H} {W:World} {base:Nat} {spare:Nat→Bool} {held:Bool} {v:Value} {d:DataW H} {p:List MemPlace}
  (hv:Value.okWide Tryz.prog W .any base 22 v) (h:DataW.Trod enc Tryz.prog W 0 spare held 22 v d p): ∃xs,ArgC W v xs:=by
 obtain⟨a,len,cap,rfl⟩:=okWide_slice Tryz.underlying22 hv;obtain⟨fuel,hf⟩:=h;have hf:DataW.trod enc Tryz.prog W 0 spare held fuel 22 [.slice a len cap]=some (d,p):=by simpa[Value.cells] using hf
 rcases open_ints Tryz.underlying22 Tryz.underlying5 tK hf with ⟨gN,_⟩ | ⟨x,l,c,zs,gN,_,hl,hm,hz,_,aF,hwz⟩
 ·simp at gN
  obtain⟨rfl,rfl,rfl⟩:=gN;exact⟨[],none,0,rfl,by simp,by simp[maxLen],by simp,by simp⟩
 ·simp at gN
  obtain⟨rfl,rfl,rfl⟩:=gN;have RK:len≤zs.length:=by rw[hz];split<;>omega
  have au:(zs.take len).length=len:=by simp;omega
  refine⟨zs.take len,_,cap,by rw[au],tO,hm,fun n hn=> ?_,fun h0=> ?_⟩
  ·have:=hwz n (List.mem_of_mem_take hn)
   simpa[Lit.wf,IntKind.min,IntKind.max,IntKind.signed,IntKind.bits] using this
  ·obtain⟨b,off,sp⟩:=x;have gF:sp=none:=by simpa[Addr.add] using World.cell?_spot (aF 0 tO)
   subst gF;refine⟨b,off,rfl,fun i hi=> ?_⟩;have:=aF i tO
   rw[Addr.add_lit] at this;rw[this];simp[List.getD,show i<zs.length by omega]
end
end Go.Proofs.YtnjpoljbagfdnaaGreat
