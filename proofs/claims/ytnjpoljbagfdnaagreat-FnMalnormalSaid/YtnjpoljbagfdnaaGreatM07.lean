/- Parts of the proof (7). -/
import Derived.Test.YtnjpoljbagfdnaaGreatM06
import Derived.ChangeOld
import Derived.Deep.RegionHeld3
import Derived.Lib.SmallJoins
import Derived.Maps.OwnOps
import Derived.Maps.OwnSet
import Derived.OpenShut
import Derived.Outline
import Derived.ProofKit
import Derived.ShutString
import Derived.WideKeyPair
set_option maxRecDepth 100000
set_option maxHeartbeats 16000000
set_option linter.unusedVariables false
set_option linter.unusedSimpArgs false
namespace Go.Proofs.YtnjpoljbagfdnaaGreat
open Go.RowKit
open Go.RowKit renaming Below→Wf,Hid→Wi
open Go renaming Calls→Wk,Value→Wh,World→Wg,bodyPost_ret→Wj
open _root_.List renaming setIfInBounds_toArray->zaa,set_cons_zero->zab,set_cons_succ->zac,length_append->zak,take_succ_eq_append_getElem->zap,mem_append->zaq,length_singleton->zas,take_length->zat,foldl_append->zaw,eq_nil_of_length_eq_zero->zax,mem_singleton->zaz,append_assoc->zaA,getElem?_eq_some_iff->zaB,ne_nil_of_length_pos->zaC,getElem?_eq_getElem->zaD,getElem_mem->zaE,take_append_drop->zaG,dropLast_subset->zaI,map_cons->zaJ,getElem_drop->zaN,all_eq_true->zaO,map_append->zaP,sum_append->zaQ,mem_range->zaR,Pairwise->zaT,sum_cons->zaU
open _root_.Nat renaming le_refl->zad,le_trans->zav,zero_le->zay,mul_le_mul->zaF,lt_of_lt_of_le->zaK
open Go.RowKit.Below renaming refl->zae,heap_setCell->zam
open Go.World renaming cell?_of_block->zaf,cell?_setCell_other->zaj,frozen?_setCell->zal,frozen?_of_block->zan,ownsRow->zao,cell?_setCell_same->zar
open Go.Value renaming slice->zag,ownBlock->zah
open Go.Act renaming put->zai
open _root_.Bool renaming and_eq_true->zau,eq_false_iff->zaM,true_and->zaS
open _root_.Array renaming getElem?_modify->zaH
open _root_.Int renaming toNat_natCast->zaL
open Go.Maps in
theorem qCc (va vb:Wh) (a b:GrD) (u v:Nat) (w:Wg) (ha:ArgG w va a) (hb:ArgG w vb b) (gQ:qO a=true) (fH:qO b=true) (hu:(u:Int)<a.2.1) (hv:(v:Int)<b.2.1):
  Wk Tryz.prog 95 #[va,vb, .int .i64 (u:Int), .int .i64 (v:Int)] w fun e w'=> ∃r,e= .returned (.tuple #[r, .bool (qAW a b u v).2])/\OwG w' w r (qAW a b u v).1/\Wf w w w':=by
 have cJ:=qA ha;have aS:=qA hb;have nS:=qA gQ;have yC:=qA fH;have cR:=qBP gQ fH;have mF:=cR.bd;have aF:=(qD cR.ga).1;obtain⟨pn,pl,p1,mf,pcl⟩:=qFJ gQ fH hu hv;have fY:Wi (a.1≠b.1->qAW a b u v=((0,0,[]),false)):=qA fun h=>by unfold qAW;rw[Wn fun q=>h q.1]
 have jo:Wi (pbOk a b u v=false->qAW a b u v=((0,0,[]),false)):=qA fun h=>by unfold qAW;rw[Wn fun q=>by rw[h] at q;exact absurd q.2 tD]
 have kP:Wi (a.1=b.1->pbOk a b u v=true->qAW a b u v=(pbG a b u v,true)):=qA fun h1 h2=>by unfold qAW;rw[Wm ⟨h1,h2⟩]
 have zJ:Wi (pbG a b u v=(a.1,((pbP a b u v).length:Int),srt cmpE (peL a.2.2 b.2.2 b.2.1.toNat a.1.toNat (pbP a b u v) (pbP a b u v).length))):=qA rfl;have kq:Wi (pbOk a b u v=(decide ((pbP a b u v).length<=40)&&decide ((peL a.2.2 b.2.2 b.2.1.toNat a.1.toNat (pbP a b u v) (pbP a b u v).length).length<=120))):=qA rfl;have Ke:Wi (pbP a b u v=bfsF a.2.2 b.2.2 b.2.1.toNat (qB a.1.toNat) (a.2.1.toNat*b.2.1.toNat+1-0) 0 [u*b.2.1.toNat+v]):=qA rfl;have yP:Wi (∀n,(peL a.2.2 b.2.2 b.2.1.toNat a.1.toNat (pbP a b u v) n).length<=n*a.1.toNat):=qA fun n=>qOG _ _ _ _ _ n;have nV:inB (u:Int) 0 (wrap64 (a.2.1-1))=true:=by
  rw[IntWalk.wrap64_in _ ⟨tO,tO⟩];exact qm.2 ⟨tO,tO⟩
 have oz:inB (v:Int) 0 (wrap64 (b.2.1-1))=true:=by
  rw[IntWalk.wrap64_in _ ⟨tO,tO⟩];exact qm.2 ⟨tO,tO⟩
 have yz:=qA nV;have kS:=qA oz;generalize qAW a b u v=RES at*;generalize pbG a b u v=PG at*;generalize pbOk a b u v=PO at*;generalize pbP a b u v=P at*;have kz:=qA cR;have iM:=qA pl;have II:=qA pn;have OA:=qA (qAH cR.fa);have OB:=qA (qAH cR.fb);have LA:=qA (qBu cR.ga);have LB:=qA (qBu cR.gb);have nA:=qA (qR cR.ga);have nk:=qA (qR cR.gb);have jW:=qA (fun (p q:Nat) (x:Int) h=>qHk (p:=p) (q:=q) (x:=x) cR h);obtain⟨sa,rfl,rG,sg,lU⟩:=ha;obtain⟨A,ca,rfl⟩:=lU.form;obtain⟨sb,rfl,ta,rM,gC⟩:=hb;obtain⟨B,cb,rfl⟩:=gC.form;obtain⟨a1,a2,as'⟩:=a;obtain⟨b1,b2,bs⟩:=b;obtain⟨rn,rfl⟩: ∃rn:Nat,a1=(rn:Int):=⟨a1.toNat,by simp only at aF;omega⟩;obtain⟨na,rfl⟩: ∃n:Nat,a2=(n:Int):=⟨a2.toNat,by have:=cR.sa;simp only at this;omega⟩;obtain⟨nb,rfl⟩: ∃n:Nat,b2=(n:Int):=⟨b2.toNat,by have:=cR.sb;simp only at this;omega⟩;simp only[zaL] at*;clear lU gC gQ fH cR pl pn pcl nV oz;go_enter Tryz.func95,Tryz.ntmps95
 go_wp2_with fail;obtain⟨W1,aq⟩: ∃W,W=w.alloc (.cells #[.int .i64 (rn:Int),.int .i64 (na:Int), .slice A as'.length ca] 26):=⟨_,rfl⟩;rw[<-aq];obtain⟨x1,tW,s1⟩:=CBx.new aq;obtain⟨W2,aT⟩: ∃W,W=W1.alloc (.cells #[.int .i64 b1,.int .i64 (nb:Int), .slice B bs.length cb] 26):=⟨_,rfl⟩;rw[<-aT];obtain⟨x2,nO,s2⟩:=CBx.new aT;obtain⟨W,hW⟩: ∃W,W=W2.alloc (.cells #[.int .i64 0,.int .i64 0, .slice none 0 0] 26):=⟨_,rfl⟩;rw[<-hW];obtain⟨x3,ma,s3⟩:=CBx.new hW;have XA:=qA ((x1.below nO).below ma);have XB:=qA (x2.below ma);have XR:=qA x3;rw[s1] at XB;rw[s2,s1] at XR;have BX:Wi (Wf w w W):=qA (tW.trans ((nO.trans (ma.mono tO)).mono tO));have aH:W.heap.size=w.heap.size+3:=tO;clear hW aq aT tW nO ma x1 x2 x3 s1 s2 s3;have HA:Wi (∀w',Wf W.heap.size W w'->ArgG w' (.agg #[.int .i64 (rn:Int), .int .i64 (na:Int), .slice A as'.length ca]) ((rn:Int),(na:Int),as')):=qA fun w' hb=>cJ.o.below (BX.trans (hb.mono tO));have HB:Wi (∀w',Wf W.heap.size W w'->ArgG w' (.agg #[.int .i64 b1, .int .i64 (nb:Int), .slice B bs.length cb]) (b1,(nb:Int),bs)):=qA fun w' hb=>aS.o.below (BX.trans (hb.mono tO));have h1:=qAB _ ((rn:Int),(na:Int),as') W (HA W (zae _ _));rw[nS.o] at h1;refine h1.mono ?_;clear h1;rintro e w1 ⟨rfl,iK⟩;have B1:=qA iK;obtain⟨u0,u1,u2⟩:=(XB.below iK).cs;have dh:=iK.size;have bk:w.heap.size+1<w1.heap.size:=tO;clear iK;go_wp2_with fail;have h1:=qAB _ (b1,(nb:Int),bs) w1 (HB w1 B1);rw[yC.o] at h1;refine h1.mono ?_;clear h1 u0 u1 u2;rintro e w2 ⟨rfl,lL⟩;have B2:=qA (B1.trans (lL.mono B1.size));have je:=lL.size;clear lL;obtain⟨u0,u1,u2⟩:=(XA.below B2).cs;obtain⟨v0,v1,v2⟩:=(XB.below B2).cs;obtain⟨z0,z1,z2⟩:=(XR.below B2).cs;have k7:=(XR.below B2).fz 0;have ig:=(XR.below B2).fz 1;have gI:=(XR.below B2).fz 2;have uN:w.heap.size<w2.heap.size:=tO;have nh:w.heap.size+1<w2.heap.size:=tO;have rA:w.heap.size+1+1<w2.heap.size:=tO;rcases er:((rn:Int) != b1) with _ | _
 rotate_left
 ·have fc:(rn:Int)≠b1:=by simpa using er
  have F:=qA (fY fc);have aV:=qA (BX.trans (B2.mono tO));go_wp2;obtain⟨e0,e1,e2⟩:=qo (.int .i64 0) (.int .i64 0) (.slice none 0 0) z0 z1 z2;have bw:Wf w w (((w2.setCell ⟨w.heap.size+1+1,0,none⟩ (.int .i64 0)).setCell ⟨w.heap.size+1+1,1,none⟩ (.int .i64 0)).setCell ⟨w.heap.size+1+1,2,none⟩ (.slice none 0 0)):=qH _ _ _ aV.o tO;generalize (((w2.setCell ⟨w.heap.size+1+1,0,none⟩ (.int .i64 0)).setCell ⟨w.heap.size+1+1,1,none⟩ (.int .i64 0)).setCell ⟨w.heap.size+1+1,2,none⟩ (.slice none 0 0))=wf at*;rw[F.o];exact Wj (v:= .tuple #[.agg #[.int .i64 0, .int .i64 0, .slice none 0 0], .bool false]) (by simp[results,Tryz.results95,go_sem,e0,e1,e2]) rfl ⟨_,rfl,⟨.slice none 0 0,rfl,⟨by decide,by decide⟩,⟨by decide,by decide⟩,OwE.nil⟩,bw⟩
 have fc:(rn:Int)=b1:=by simpa using er
 subst fc;have vE:Wi (PO=true->RES=(PG,true)):=qA fun h=>kP.o rfl h;clear er fY kP z0 z1 z2 k7 ig gI;go_wp2_with fail;refine(qBH _ _ _ _ _ _ _).mono ?_
 rintro e w3 ⟨rfl,pC⟩;rw[yz.o];have B3:=qA (B2.trans (pC.mono B2.size));have dZ:=pC.size;clear pC u0 u1 u2 v0 v1 v2;obtain⟨u0,u1,u2⟩:=(XB.below B3).cs;have H8:w.heap.size+1<w3.heap.size:=tO;go_wp2_with fail;refine(qBH _ _ _ _ _ _ _).mono ?_
 rintro e w4 ⟨rfl,iI⟩;rw[kS.o];have B4:=qA (B3.trans (iI.mono B3.size));have jH:=iI.size;clear iI u0 u1 u2;have u0:=(XA.below B4).c0;have FZ:w.heap.size<w4.heap.size:=tO;have D7:I64 (u:Int):=qCn tO;have CD:I64 (v:Int):=qCn tO;have Ru:=qA (qJo D7 CD);have vW:= @run_makeMap Tryz.prog;have tq:=qA (World.ownsMap_made w4 Tryz.prog 131 (plainElem (H:=Unit) Tryz.prog 3));clear D7 CD;go_wp2_with (refine qNV _ rfl _ _ _ 133 rfl 131 3 lawP Tryz.underlying133 _ w4 0 _ rfl tq (by unfold maxLen;omega) _ _ (kp (u:Int) (v:Int)) rfl rfl Ru.o _ [] (plainElem_int Tryz.underlying3 tD) ?_;intro w5 hown5 hgrow5;have B5:Wi (Wf w4 w4 w5):=qA (((zae w4 w4).alloc (zad _) _).grown hgrow5 tZ (fun j hj=>by cases hj;exact zad _));clear u0;have u0:=(XA.below (B4.trans (B5.mono B4.size))).c0;have Rr:w.heap.size<w5.heap.size:=by(have:=B5.o.size;omega))
 have eH:w4.heap.size<w5.heap.size:=hown5.lt;obtain⟨W6,cH⟩: ∃W,W=w5.alloc (.cells #[.int .i64 (u:Int), .int .i64 (v:Int)] 131):=⟨_,rfl⟩;have NQ:OwPr W6 (w4.heap.size+1) (.slice (some ⟨w5,0,none⟩) 1 1) nb [u*nb+v]:=by
  rw[cH];exact qMe w5 tO tO
 have b6:Wf w5 w5 W6:=by rw[cH];exact(zae _ _).alloc (zad _) _
 have eU:W6.heap.size=w5.heap.size+1:=by rw[cH];simp
 rw[<-cH];obtain⟨W7,FU⟩: ∃W,W=W6.alloc (.cells #[.int .i64 (rn:Int),.int .i64 0, .slice none 0 0] 26):=⟨_,rfl⟩;have fD:=qA (GBx.new (m:=((rn:Int),0,[])) (base:=W6.heap.size+1) (A:=none) (c:=0) OwE.nil (by unfold I64;simp only;omega) (by unfold I64;simp only;omega) FU);obtain⟨_,b7,pe⟩:=CBx.new FU;rw[<-FU];have Sf:Wi (OwPr W7 (w4.heap.size+1) (.slice (some ⟨w5,0,none⟩) 1 1) nb [u*nb+v]):=qA (qP NQ b7);have Sz:Wi (MapI nb ((DataW.map []).put (kp (u:Int) (v:Int)) (.lit (.int .i64 0))) [u*nb+v]):=qA (by
  have:=(MapI.nil nb).put tO (s:=u) (t:=v) tO tO tZ
  simpa using this)
 have xQ:=qA ((hown5.kept (qAZ (row:=none) b6) tZ).kept (qAZ (row:=none) b7) tZ);have U4:w4.heap.size+1<=w5.heap.size:=eH;have B7:Wi (Wf w4 w4 W7):=qA (B5.trans ((b6.trans (b7.mono tO)).mono tO));obtain⟨p,hp⟩: ∃p,p=W6.heap.size:=⟨_,rfl⟩;rw[<-hp] at fD;have Nv:p=w5.heap.size+1:=tO;have l7:Wi (∀w',Wf w4 w4 w'->Wf W.heap.size W w'):=qA fun w' hb=>B4.o.trans (hb.mono B4.size);have gJ:Wi (∀w',Wf w4 w4 w'->CBx w' w (.int .i64 (rn:Int)) (.int .i64 (na:Int)) (.slice A as'.length ca)/\CBx w' (w.heap.size+1) (.int .i64 (rn:Int)) (.int .i64 (nb:Int)) (.slice B bs.length cb)):=qA fun w' hb=>⟨XA.below (l7 w' hb),XB.below (l7 w' hb)⟩;have dX:Wi (∀W:Wg,Wk Tryz.prog 79 #[.int .i64 (rn:Int)] W fun e w'=> ∃r,e= .returned r/\OwI w' W.heap.size r (qB rn)/\Wf W.heap.size W w'):=qA fun W=>qEU rn W tO;have dH:=qAX rn;have VQ:(qB rn).length<=6:=tO;have PM:1<=(qB rn).length:=tO;have Jp:Wi (∀x∈qB rn,-3<=x/\x<=3):=qA fun x hx=>by have:=qw.1 hx;omega
 have Pl:=qA (fun k=>qGp as' bs nb P k rn);have Ea:=qA (fun (o:List Nat) (h1:o.Nodup) (h2: ∀q∈o,q<na*nb)=>qBr h1 h2);have Bn:na*nb<=1600:=zaF mF.1.2 mF.2.2;have Ib:u*nb+v<na*nb:=qDO tO tO;clear dH cH FU hown5 hgrow5 NQ b6 b7 u0 vW;generalize qB rn=ls at*;have tJ:w5.heap.size+1=p:=Nv.symm;go_wp2;rw[tJ];have Rd:p<=w5.heap.size+1:=tO;have UB:w5.heap.size+1<=p:=tO;have SY:p<=W6.heap.size:=tO;have Tz:W7.heap.size<=p+1/\p+1<=W7.heap.size:=tO;clear tJ Nv hp eU pe;go_loopw [11,13] (fun vo i wr=> ∃(k:Nat) (o:List Nat) (D:DataW Unit) (A2:Option Addr) (c2:Nat),k<=o.length/\i= .int .i64 k/\o.Nodup/\(∀q∈o,q<na*nb)/\P=bfsF as' bs nb ls (na*nb+1-k) k o/\OwPr wr (w4.heap.size+1) vo nb o/\wr.ownsMap Tryz.prog 131 (plainElem (H:=Unit) Tryz.prog 3) w4 o.length D/\MapI nb D o/\GBx wr p (p+1) A2 c2 ((rn:Int),0,peL as' bs nb rn P k)/\(∀b,vo.ownBlock=some b->b≠p/\(zag A2 (peL as' bs nb rn P k).length c2).ownBlock≠some b)/\Wf w4 w4 wr) (fun _ i _=>1601-(intOf i).toNat)
 case atStart=>exact⟨0,[u*nb+v],_,none,0,zay _,rfl,tZ,fun q hq=>by rw[zaz.1 hq];exact Ib,Ke.o,Sf.o,xQ.o,Sz.o,fD.o.mono tO,fun b hb=>⟨by simp[zah] at hb;omega,by simp[zah,peL]⟩,B7.o⟩
 case round=>
  obtain⟨k,o,D,A2,c2,hk,rfl,eL,cT,hP,dD,tR,fA,dg,jI,bJ⟩:=hrel;obtain⟨wk,rfl⟩: ∃wk:Wg,wk=wr:=⟨_,rfl⟩;have fe:=Ea.o o eL cT;have mT:=qA eL;have jz:=qA cT;have ka:=qA hP;have kG:=qA dD;have eZ:=qA tR;have jh:=qA fA;have aS:=qA dg;have eG:=qA jI;have fl:=qA bJ;have iq:=bJ.size;obtain⟨Ao,co,rfl,jn,uu,_,aX⟩:=qAE dD;clear eL cT hP dD tR fA dg jI bJ;by_cases ac:k<o.length
  ·obtain⟨pk,n4⟩: ∃pk,o[k]? =some pk:=⟨o[k],zaD ac⟩;have km:=jz.o pk (List.mem_of_getElem? n4);have eE:Wi (∀m:Nat,((ls.take m).foldl (pst as' bs nb pk) o)[k]? =some pk):=qA fun m=>qAO (a:=((rn:Int),(na:Int),as')) (b:=((rn:Int),(nb:Int),bs)) (B:=nb) _ _ _ n4;have dJ:Wi (P=bfsF as' bs nb ls (na*nb+1-(k+1)) (k+1) (ls.foldl (pst as' bs nb pk) o)):=qA (by
    have h:=ka.o;rw[show na*nb+1-k=(na*nb+1-(k+1))+1 by omega,qPC _ n4] at h;exact h)
   have y5:Wi (∀j y:Nat,(ls.foldl (pst as' bs nb pk) o)[j]? =some y->P[j]? =some y):=qA fun j y h=>by rw[dJ.o];exact qHm _ _ _ _ _ _ h
   have Jz:Wi (∀m:Nat,∀j y:Nat,((ls.take m).foldl (pst as' bs nb pk) o)[j]? =some y->P[j]? =some y):=qA fun m j y h=>by
    refine y5.o j y ?_;have e:ls.foldl (pst as' bs nb pk) o=(ls.drop m).foldl (pst as' bs nb pk) ((ls.take m).foldl (pst as' bs nb pk) o):=by rw[<-zaw,zaG]
    rw[e];exact qAO (a:=((rn:Int),(na:Int),as')) (b:=((rn:Int),(nb:Int),bs)) (B:=nb) _ _ _ h
   have pJ:Wi (P.getD k 0=pk):=qA (by
    have h1:=Jz.o 0 k pk (by simpa using n4);rw[List.getD_eq_getElem?_getD,h1];rfl)
   have iL:Wi (∀m:Nat,((ls.take m).foldl (pst as' bs nb pk) o).Nodup):=qA fun m=>qCP (a:=((rn:Int),(na:Int),as')) (b:=((rn:Int),(nb:Int),bs)) (B:=nb) _ _ _ mT.o;have vO:Wi (∀m:Nat,∀q∈(ls.take m).foldl (pst as' bs nb pk) o,q<na*nb):=qA fun m=>qDb (a:=((rn:Int),(na:Int),as')) (b:=((rn:Int),(nb:Int),bs)) (B:=nb) (ls:=ls.take m) (S:=fun q=>q<na*nb) (fun p x q _ _ hq=>jW.o p q x hq) km (ls.take m) o (fun _ h=>h) jz.o;have zh:Wi (∀m:Nat,∀q∈(ls.take m).foldl (pst as' bs nb pk) o,P.idxOf q=((ls.take m).foldl (pst as' bs nb pk) o).idxOf q):=qA fun m q hq=>qLj II.o (Jz m) hq;have gy:Wi (∀(m:Nat) (hm:m<ls.length),(ls.take (m+1)).foldl (pst as' bs nb pk) o=pst as' bs nb pk ((ls.take m).foldl (pst as' bs nb pk) o) ls[m]):=qA fun m hm=>by
    rw[zap hm,zaw];rfl
   have FR:Wi (∀(m:Nat) (hm:m<ls.length),ls[m]∈ls):=qA fun m hm=>zaE hm;have Td:Wi (∀(m:Nat) (hm:m<ls.length),peF as' bs nb P k (ls.take (m+1))=peF as' bs nb P k (ls.take m)++(if 0<ls[m] then peE as' bs nb P k ls[m] else none).toList):=qA fun m hm=>qPD _ _ _ _ _ _ _ hm;have zA:Wi (∀m:Nat,(peF as' bs nb P k (ls.take m)).length<=6):=qA fun m=>zav (qQz _ _ _ _ _ _) (by rw[List.length_take];omega);obtain⟨un,cQ⟩: ∃un,un=pk/nb:=⟨_,rfl⟩;obtain⟨vn,d6⟩: ∃vn,vn=pk%nb:=⟨_,rfl⟩;have gF:=qA cQ;have nD:=qA d6;have Vi:k<1600:=tO;have tV:Wi ((peL as' bs nb rn P k).length<=4800):=qA (by
    have h1:=yP.o k;have h2:=zaF (show k<=1600 by omega) (show rn<=3 by omega);omega)
   have pZ:=qA (qFG as' bs nb rn P k);have F5:=qA (Pl k);obtain⟨BL,Ci⟩: ∃L,peL as' bs nb rn P k=L:=⟨_,rfl⟩;rw[Ci] at tV pZ aS eG;obtain⟨bo,rfl,P8,Qq⟩:=aX tO;have u0:=(gJ wk fl).1.c0;clear Ci cQ d6 n4 aX;go_wp2_with fail;refine(dX wk).mono ?_
   rintro e wl ⟨rl,rfl,ol,bL⟩;have Ho:=bL.size;have JN:Wi (OwPr wl (w4.heap.size+1) (.slice (some ⟨bo,0,none⟩) o.length co) nb o):=qA (qP kG bL);have JX:=qA (eZ.o.kept (qAZ (row:=none) bL) tZ);have He:=qA (aS.below bL);have BLB:=qA (fl.trans (bL.mono iq));obtain⟨Al,capl,rfl,aZ,dK,_,fJ⟩:=ol.form;obtain⟨bl,rfl,Cm,iW⟩:=fJ tO;unfold maxLen at dK;have OL:=qA ol.rd;have Pj:=aS.o.lt;have Uz:Wi (∀b,(zag A2 BL.length c2).ownBlock=some b->b<wk.heap.size):=qA fun b hb=>(aS.o.ow.1.lt b hb).2;clear ol bL fJ u0;go_wp2;go_loopw [11,70] (fun vo j wr=> ∃(m:Nat) (D:DataW Unit) (A2:Option Addr) (c2:Nat),m<=ls.length/\j= .int .i64 m/\OwPr wr (w4.heap.size+1) vo nb ((ls.take m).foldl (pst as' bs nb pk) o)/\wr.ownsMap Tryz.prog 131 (plainElem (H:=Unit) Tryz.prog 3) w4 ((ls.take m).foldl (pst as' bs nb pk) o).length D/\MapI nb D ((ls.take m).foldl (pst as' bs nb pk) o)/\GBx wr p (p+1) A2 c2 ((rn:Int),0,BL++peF as' bs nb P k (ls.take m))/\(∀b,vo.ownBlock=some b->b≠p/\b≠bl/\(zag A2 (BL++peF as' bs nb P k (ls.take m)).length c2).ownBlock≠some b)/\(zag A2 (BL++peF as' bs nb P k (ls.take m)).length c2).ownBlock≠some bl/\RdI wr (.slice (some ⟨bl,0,none⟩) ls.length capl) ls/\bl<wr.heap.size/\Wf w4 w4 wr) (fun _ j _=>ls.length-(intOf j).toNat)
   case atStart=>exact⟨0,D,A2,c2,zay _,rfl,JN,JX,jh,by simpa[peF] using He.o,fun b hb=>⟨(eG b hb).1,by simp[zah] at hb;omega,by simpa[peF] using (eG b hb).2⟩,fun e=>by have:=Uz.o bl (by simpa[peF] using e);omega,OL.o,iW,BLB.o⟩
   case round=>
    obtain⟨m,D,A2,c2,fM,rfl,dD,tR,fA,dg,jI,LV,aP,eJ,bJ⟩:=hrel;have kG:=qA dD;have eZ:=qA tR;have jh:=qA fA;have aS:=qA dg;have eG:=qA jI;have og:=qA LV;have dC:=qA aP;have iD:=qA bJ;have iX:=bJ.size;clear tR fA dg jI LV bJ;by_cases aj:m<ls.length
    ·have HS:=qA (gy m aj);have HF:=qA (Td m aj);have fJ:=zA.o m;have yp:=qA (Jp _ (FR m aj));have dj:=eE.o m;have zU:=qA (iL m);have oG:=qA (vO m);have ge:=qA (zh (m+1));have NH:=Ea.o _ zU.o oG.o;obtain⟨bl',offl',gD,_,gX⟩:=aP.at tO;obtain⟨rfl,rfl⟩:bl=bl'/\0=offl':=by simpa using gD
     have c0:=gX m aj;rw[Nat.zero_add] at c0;obtain⟨x,hx⟩: ∃x,ls[m]=x:=⟨_,rfl⟩;rw[hx] at c0 HS HF yp;obtain⟨FF,AH⟩: ∃L,peF as' bs nb P k (ls.take m)=L:=⟨_,rfl⟩;rw[AH] at HF fJ aS eG og;rw[HS.o] at ge;obtain⟨om,tR⟩: ∃om,(ls.take m).foldl (pst as' bs nb pk) o=om:=⟨_,rfl⟩;rw[tR] at HS dj zU oG NH dD kG eZ jh ge;clear hx AH tR gD gX aP;have eV:k<om.length:=(zaB.1 dj).1;have iR:om[k]=pk:=by rw[zaD eV] at dj;injection dj
     obtain⟨At,ct,rfl,no,Fk,_,y9⟩:=qAE dD;obtain⟨tb,rfl,Kf,rJ⟩:=y9 tO;have rx:wr.cell? ⟨tb,k*2,none⟩=some (.int .i64 un):=by
      have h1:=zao.cellAt dD (k*2+0) tO;rw[qEN nb om k 0 eV tO,iR] at h1;rw[gF.o];exact h1
     have rZ:wr.cell? ⟨tb,k*2+1,none⟩=some (.int .i64 vn):=by
      have h1:=zao.cellAt dD (k*2+1) tO;rw[qEN nb om k 1 eV tO,iR] at h1;rw[nD.o];exact h1
     obtain⟨a0,a1,a2⟩:=(gJ.o wr iD.o).1.cs;obtain⟨b0,b1,b2⟩:=(gJ.o wr iD.o).2.cs;have Kb:(k:Int)<(om.length:Int):=tO;have pA:Wi (pnx as' bs nb pk x=if 0<=qF as' (un:Int) x/\0<=qF bs (vn:Int) x then some ((qF as' (un:Int) x).toNat*nb+(qF bs (vn:Int) x).toNat) else none):=qA (by unfold pnx;rw[<-gF.o,<-nD.o]);have rP:Wi (peE as' bs nb P k x=(pnx as' bs nb pk x).map fun q=>((k:Int),x,((P.idxOf q:Nat):Int))):=qA (by unfold peE;rw[pJ.o]);have lk:=qA (fun W h=>qAI (.agg #[.int .i64 (rn:Int), .int .i64 (na:Int), .slice A as'.length ca]) ((rn:Int),(na:Int),as') (un:Int) x W h (OA.o (un:Int) x) LA.o);have lI:=qA (fun W h=>qAI (.agg #[.int .i64 (rn:Int), .int .i64 (nb:Int), .slice B bs.length cb]) ((rn:Int),(nb:Int),bs) (vn:Int) x W h (OB.o (vn:Int) x) LB.o);have AR:=qA (nA.o (un:Int) x);have Dw:=qA (nk.o (vn:Int) x);have g0:w.heap.size<wr.heap.size:=tO;have g1:w.heap.size+1<wr.heap.size:=tO;have SM:=aS.o.lt;clear dD y9 dj iR;go_wp2_with fail;have f0:=BelW.cell a0 g0;have f1:=BelW.cell a1 g0;have f2:=BelW.cell a2 g0;have f3:=BelW.cell b0 g1;have f4:=BelW.cell b1 g1;have f5:=BelW.cell b2 g1;have f6:=BelW.cell rx rJ;have f7:=BelW.cell rZ rJ;(refine qG tK tK ?_;(repeat(go_big_quiet_step (first | (go_at_call 80;with_reducible exact Calls.bel_of (lk.o _ (HA.o _ (l7.o _ (iD.o.trans ((BelW.h _).mono iX)))))) | (go_at_call 80;with_reducible exact Calls.bel_of (lI.o _ (HB.o _ (l7.o _ (iD.o.trans ((BelW.h _).mono iX)))))))));refine wpQuiet_nil ?_;intro wq hw';obtain⟨pq,ae⟩:=hw';have bq:=pq.h;rw[<-ae] at bq;clear ae pq)
     clear f0 f1 f2 f3 f4 f5 f6 f7 a0 a1 a2 b0 b1 b2 rx rZ c0 g0 g1;have sq:=bq.size;have fV:Wi (OwPr wq (w4.heap.size+1) (.slice (some ⟨tb,0,none⟩) om.length ct) nb om):=qA (qP kG bq);have ir:=qA (eZ.o.kept (qAZ (row:=none) bq) tZ);have fR:=qA (aS.below bq);have gZ:=qA (dC.below bq);have n8:=qA (iD.trans (bq.mono iX));clear bq;rcases ey:decide (0<=qF as' (un:Int) x/\0<=qF bs (vn:Int) x) with _ | _
     ·have D8: ¬(0<=qF as' (un:Int) x/\0<=qF bs (vn:Int) x):=by simpa using ey
      have fK:pnx as' bs nb pk x=none:=by rw[pA.o,Wn D8]
      have mC:Wi ((ls.take (m+1)).foldl (pst as' bs nb pk) o=om):=qA (by rw[HS.o];unfold pst;rw[fK]);have ml:Wi (peF as' bs nb P k (ls.take (m+1))=FF):=qA (by rw[HF.o,rP.o,fK];simp);generalize qF as' (un:Int) x=y1 at*;generalize qF bs (vn:Int) x=y2 at*;clear pA rP lk lI fK ge HS HF;rcases e1:decide (y1<0) with _ | _
      ·have h1: ¬y1<0:=by simpa using e1
       have h2:y2<0:=by
        apply Classical.byContradiction
        intro h;exact D8 ⟨tO,tO⟩
       go_wp2;go_roundw;exact⟨m+1,D,A2,c2,tO,by go_num,by rw[mC.o];exact fV.o,by rw[mC.o];exact ir.o,by rw[mC.o];exact jh.o,by rw[ml.o];exact fR.o,by rw[ml.o];exact eG.o,by rw[ml.o];exact og.o,gZ.o,tO,n8.o⟩;exact tM
      ·have h1:y1<0:=by simpa using e1
       go_wp2;go_roundw;exact⟨m+1,D,A2,c2,tO,by go_num,by rw[mC.o];exact fV.o,by rw[mC.o];exact ir.o,by rw[mC.o];exact jh.o,by rw[ml.o];exact fR.o,by rw[ml.o];exact eG.o,by rw[ml.o];exact og.o,gZ.o,tO,n8.o⟩;exact tM
     ·have xi:0<=qF as' (un:Int) x/\0<=qF bs (vn:Int) x:=by simpa using ey
      have vC:=AR.o;have xy:=Dw.o;obtain⟨y1,nl⟩: ∃y:Nat,qF as' (un:Int) x=(y:Int):=⟨(qF as' (un:Int) x).toNat,tO⟩;obtain⟨y2,sY⟩: ∃y:Nat,qF bs (vn:Int) x=(y:Int):=⟨(qF bs (vn:Int) x).toNat,tO⟩;have fK:pnx as' bs nb pk x=some (y1*nb+y2):=by
       rw[pA.o,Wm xi,nl,sY];rfl
      have uo:=jW.o pk (y1*nb+y2) x fK;rw[nl,sY] at xi⊢;have Bm:y1<na:=tO;have li:y2<nb:=tO;have y8:pst as' bs nb pk om x=if y1*nb+y2∈om then om else om++ [y1*nb+y2]:=by unfold pst;rw[fK]
      rw[y8] at HS ge;have pm:Wi (peE as' bs nb P k x=some ((k:Int),x,((P.idxOf (y1*nb+y2):Nat):Int))):=qA (by rw[rP.o,fK];rfl);rw[pm.o] at HF;have yX:=qA (qJo (qCn (n:=y1) tO) (qCn (n:=y2) tO));have up:=qA (jh.o.has y1 y2 tO li);have Sr: ¬(y1:Int)<0:=tO;have Uk: ¬(y2:Int)<0:=tO;have sC:Wi (prC nb (y1*nb+y2)= [.int .i64 (y1:Int), .int .i64 (y2:Int)]):=qA (qNM li);clear nl sY xi vC xy fK y8 pA rP pm lk lI AR Dw ey;rcases ex:decide (0<x) with _ | _
      ·have ek: ¬0<x:=by simpa using ex
       have ml:Wi (peF as' bs nb P k (ls.take (m+1))=FF):=qA (by rw[HF.o,Wn ek];simp);rcases eq:decide (y1*nb+y2∈om) with _ | _
       ·have iZ:y1*nb+y2∉om:=by simpa using eq
        have gu:Wi ((ls.take (m+1)).foldl (pst as' bs nb pk) o=om++ [y1*nb+y2]):=qA (by rw[HS.o,Wn iZ]);have xW:=qA (jh.o.put tO (s:=y1) (t:=y2) tO li iZ);rw[eq] at up;have nK:=qA (qLc (qCn (n:=om.length) tO));clear iZ eq ex HF HS ge;obtain⟨qn,jE⟩: ∃q,y1*nb+y2=q:=⟨_,rfl⟩;rw[jE] at gu xW sC uo;clear jE;go_wp2_with (first
         | (at_lookup;refine wpList_lookup_own_ok_int _ rfl _ _ 133 rfl 131 3 .i64 lawP Tryz.underlying133 Tryz.underlying3 (qOq _) w4 om.length D rfl ir.o _ (kp (y1:Int) (y2:Int)) rfl yX.o ?_;intro c dY hwc;rw[up.o])
         | (at_mapUpdate;refine wpList_mapUpdate_own _ rfl _ _ _ 133 rfl 131 3 lawP Tryz.underlying133 _ w4 om.length D rfl ir.o (by unfold maxLen;omega) _ _ (kp (y1:Int) (y2:Int)) rfl rfl yX.o _ [] (plainElem_int Tryz.underlying3 nK) ?_;intro w8 hown8 hgrow8;have lO:=hgrow8.size;have vi:Wi (OwPr w8 (w4.heap.size+1) (.slice (some ⟨tb,0,none⟩) om.length ct) nb om):=qA (qAA fV fun b e=>hgrow8.block b (by have:=(zao.lt fV b e).2;omega) (fun e2=>by have:=(zao.lt fV b e).1;cases e2;omega)))
         | (at_builtin;refine qFL rfl (.tmp 113) (.tmp 117) rfl (w4.heap.size+1) _ nb om (qP vi ((zae _ _).alloc (zad _) _)) rfl w8 qn rfl (fun j u hj=>by rw[sC.o] at hj;rcases j with _ | _ | j<;>simp at hj<;>subst hj<;>simp[go_sem]) tO (by simp;omega) ?_;intro v9 w9 o9 g9 p9;have lK:=qA o9;have SJ:w8.heap.size+1<=w9.heap.size:=(by have h:=g9.size;simp at h;omega);have x6:=qA ((hown8.alloc (.cells #[.int .i64 (y1:Int), .int .i64 (y2:Int)] 131)).kept g9 (fun e=>by simp[zah] at e;omega));have n3:Wi (∀b,(zag A2 (BL++FF).length c2).ownBlock=some b->p+1<=b/\b<wq.heap.size):=qA (fun b hb=>fR.o.ow.1.lt b hb);have kR:=qA (((fR.o.grown hgrow8 (fun b hb=>⟨by cases hb;omega,fun e=>by have:=(n3 b e).1;cases hb;omega⟩)).below ((zae _ _).alloc (zad _) (.cells #[.int .i64 (y1:Int), .int .i64 (y2:Int)] 131))).grown g9 (fun b hb=>⟨(eG b hb).1,(eG b hb).2.2⟩));have xe:Wi (RdI w9 (.slice (some ⟨bl,0,none⟩) ls.length capl) ls):=qA (((gZ.o.grown hgrow8 (fun b hb aL=>by simp[zah] at hb;cases aL;omega)).alloc _).grown g9 (fun b hb aL=>by simp[zah] at hb;exact(eG b aL).2.1 hb.symm));have hZ:Wi (Wf w4 w4 w8):=qA (n8.o.grown hgrow8 tO (fun j hj=>by cases hj;exact zad _));have iO:Wi (Wf w4 w4 w9):=qA ((hZ.alloc tO (.cells #[.int .i64 (y1:Int), .int .i64 (y2:Int)] 131)).grown g9 tB (fun j hj=>by simp[zah] at hj;omega));have kj:Wi (∀b,v9.ownBlock=some b->b≠p/\b≠bl/\(zag A2 (BL++FF).length c2).ownBlock≠some b):=qA (fun b hb=>p9.elim (fun p9=>eG.o b (p9.symm.trans hb)) (fun p9=>(by rw[p9] at hb;have gC:b=w8.heap.size+1:=(by simpa using hb.symm);exact⟨tO,tO,fun e=>by have:=(n3 b e).2;omega⟩)));obtain⟨A9,c9,vf,_⟩:=qAE lK.o;rw[zak,zas] at vf;subst vf;clear o9 g9 p9 hown8 hgrow8 dY hwc))
        go_roundw;exact⟨m+1,_,A2,c2,tO,by go_num,by rw[gu.o];exact lK.o,by rw[gu.o,zak];exact x6.o,by rw[gu.o];exact xW.o,by rw[ml.o];exact kR.o,by rw[ml.o];exact kj.o,by rw[ml.o];exact og.o,xe.o,tO,iO.o⟩;exact tM
       ·have iZ:y1*nb+y2∈om:=by simpa using eq
        have gu:Wi ((ls.take (m+1)).foldl (pst as' bs nb pk) o=om):=qA (by rw[HS.o,Wm iZ]);rw[eq] at up;clear iZ eq ex HF HS ge;go_wp2_with (first
         | (at_lookup;refine wpList_lookup_own_ok_int _ rfl _ _ 133 rfl 131 3 .i64 lawP Tryz.underlying133 Tryz.underlying3 (qOq _) w4 om.length D rfl ir.o _ (kp (y1:Int) (y2:Int)) rfl yX.o ?_;intro c dY hwc;rw[up.o]))
        go_roundw;exact⟨m+1,D,A2,c2,tO,by go_num,by rw[gu.o];exact fV.o,by rw[gu.o];exact ir.o,by rw[gu.o];exact jh.o,by rw[ml.o];exact fR.o,by rw[ml.o];exact eG.o,by rw[ml.o];exact og.o,gZ.o,tO,n8.o⟩;exact tM
      ·have ek:0<x:=by simpa using ex
       rw[Wm ek] at HF;rcases eq:decide (y1*nb+y2∈om) with _ | _
       rotate_left
       ·have iZ:y1*nb+y2∈om:=by simpa using eq
        have gu:Wi ((ls.take (m+1)).foldl (pst as' bs nb pk) o=om):=qA (by rw[HS.o,Wm iZ]);rw[Wm iZ] at ge;have hid:=ge.o _ iZ;have eF:=List.idxOf_lt_length_of_mem iZ;obtain⟨jx,sQ⟩: ∃j,om.idxOf (y1*nb+y2)=j:=⟨_,rfl⟩;have yJ:Wi (∀c:Int,D.atKey (kp (y1:Int) (y2:Int)) (.lit (.int .i64 0))= .lit (.int .i64 c)->c=(jx:Int)):=qA fun c hc=>by
         have h:=jh.o.at_ y1 y2 tO li iZ;rw[hc,sQ] at h;injection h with h
         injection h
        have DH:Wi (peF as' bs nb P k (ls.take (m+1))=FF++ [((k:Int),x,(jx:Int))]):=qA (by rw[HF.o,hid,sQ];rfl);have QK:jx<=1600:=tO;rw[eq] at up;clear iZ eq ex HF HS ge hid eF sQ;go_wp2_with (first
         | (at_lookup;refine wpList_lookup_own_ok_int _ rfl _ _ 133 rfl 131 3 .i64 lawP Tryz.underlying133 Tryz.underlying3 (qOq _) w4 om.length D rfl ir.o _ (kp (y1:Int) (y2:Int)) rfl yX.o ?_;intro c dY hwc;rw[up.o];obtain rfl:=yJ.o c dY;clear dY hwc))
        obtain⟨L,hL⟩: ∃L,BL++FF=L:=⟨_,rfl⟩;have oq:L.length<=4900:=by rw[<-hL,zak];have:=tV.o;omega
        have jf:Wi (BL++peF as' bs nb P k (ls.take (m+1))=L++ [((k:Int),x,(jx:Int))]):=qA (by rw[DH.o,<-hL,zaA]);rw[hL] at fR eG og;clear hL DH;have z2:=fR.o.c2;simp only at z2
        have KH:=fR.o.lt;have ce:Wi (E64 ((k:Int),x,(jx:Int))):=qA ⟨⟨by simp only;omega,by simp only;omega⟩,⟨by have:=yp.o;simp only;omega,by have:=yp.o;simp only;omega⟩,⟨by simp only;omega,by simp only;omega⟩⟩;have uV:Wi (edV (stE (k:Int) x (jx:Int))= .agg #[.int .i64 (k:Int), .int .i64 x, .int .i64 (jx:Int)]):=qA (by unfold stE;rw[Wn tO];rfl);have nY:=qA (fun W'=>qGX (k:Int) x (jx:Int) W' yp.o);refine qCf (n:=9) (S:=fun w'=>w'.cell? ⟨p,2,none⟩=some (.slice A2 L.length c2)) tK (by rfl) z2 (fun hHeld=> ?_);(refine qL (n:=9) (i:=0) (v:= ?_) rfl tK rfl tD tK tK tK tK (fun _ _ _ h=>h) (Or.inl ⟨by rfl,?_⟩) (by assumption) ?_;rotate_left;focus (intro ww an;(try dsimp only at an);go_simp;try with_reducible rfl);(try simp only[zai,zaa,zab,zac]));(refine qL (n:=9) (i:=1) (v:= ?_) rfl tK rfl tD tK tK tK tK (fun _ _ _ h=>h) (Or.inl ⟨by rfl,?_⟩) (by assumption) ?_;rotate_left;focus (intro ww an;(try dsimp only at an);go_simp;try with_reducible rfl);(try simp only[zai,zaa,zab,zac]));(refine qL (n:=9) (i:=2) (v:= ?_) rfl tK rfl tD tK tK tK tK (fun _ _ _ h=>h) (Or.inl ⟨by rfl,?_⟩) (by assumption) ?_;rotate_left;focus (intro ww an;(try dsimp only at an);go_simp;try with_reducible rfl);(try simp only[zai,zaa,zab,zac]));(refine qL (n:=9) (i:=3) (v:= ?_) rfl tK rfl tD tK tK tK tK (fun _ _ _ h=>h) (Or.inl ⟨by rfl,?_⟩) (by assumption) ?_;rotate_left;focus (intro ww an;(try dsimp only at an);go_simp;try with_reducible rfl);(try simp only[zai,zaa,zab,zac]));(refine qL (n:=9) (i:=4) (v:= ?_) rfl tK rfl tD tK tK tK tK (fun _ _ _ h=>h) (Or.inl ⟨by rfl,?_⟩) (by assumption) ?_;rotate_left;focus (intro ww an;(try dsimp only at an);go_simp;try with_reducible rfl);(try simp only[zai,zaa,zab,zac]))
        refine qAU (i:=5) tK rfl fun K' hK=> ?_;go_simp;refine(nY _).mono ?_
        rintro e cG ⟨rfl,ec⟩;rw[uV.o];have oM:wq.heap.size<=cG.heap.size:=ec.size;have jO:Wf wq wq cG:=(zae _ _).drew.trans ec;clear ec;have tp:cG.cell? ⟨p,2,none⟩=some (.slice A2 L.length c2):=(jO.cell (p:=⟨p,2,none⟩) KH).trans z2;refine hK.o _ _ tp (fun _=> ?_);clear hK hHeld;refine qAU (i:=6) tK rfl fun K' hK=> ?_;go_simp;have pI:Wf cG cG (cG.alloc (.cells #[.int .i64 (k:Int),.int .i64 x,.int .i64 (jx:Int)] 97)):=(zae _ _).alloc (zad _) _;have nE: ∀j u,(edC ((k:Int),x,(jx:Int)))[j]? =some u->(cG.alloc (.cells #[.int .i64 (k:Int),.int .i64 x,.int .i64 (jx:Int)] 97)).cell? ⟨cG,j,none⟩=some u:=fun j u hj=>by
         rcases j with _ | _ | _ | j<;>simp[edC] at hj<;>subst hj<;>simp[go_sem]
        have sV:(cG.alloc (.cells #[.int .i64 (k:Int),.int .i64 x,.int .i64 (jx:Int)] 97)).heap.size=cG.heap.size+1:=tZ;have n7:(cG.alloc (.cells #[.int .i64 (k:Int),.int .i64 x,.int .i64 (jx:Int)] 97)).cell? ⟨p,2,none⟩=some (.slice A2 L.length c2):=(pI.cell (p:=⟨p,2,none⟩) tB).trans tp;refine hK.o _ _ n7 (fun _=> ?_);clear hK;generalize cG.alloc (.cells #[.int .i64 (k:Int),.int .i64 x,.int .i64 (jx:Int)] 97)=V at pI nE sV n7⊢;have bXV:Wf wq wq V:=jO.trans (pI.mono oM);have gE:=qA (fR.o.below bXV);refine qAU (i:=7) tK rfl fun K' hK=> ?_;rw[Wm (by rfl)];refine qBs (.tmp 122) (.tmp 127) rfl (p+1) _ L gE.o.ow rfl cG ((k:Int),x,(jx:Int)) rfl nE ce.o tO tO ?_;intro v' w' o' g' p';obtain⟨jK,jF,rfl,_⟩:=OwE.form o';have xn:=qA o';have Na:=g'.size;clear o';have bD: ∀y,(zag A2 L.length c2).ownBlock=some y->p+1<=y/\y<wq.heap.size:=fun y hy=>fR.o.ow.1.lt y hy;have AA:w'.cell? ⟨p,2,none⟩=some (.slice A2 L.length c2):=(zaf (w:=V) (g'.block p tO (fun e=>by have:=(bD p e.symm).1;omega))).trans n7;refine hK.o _ _ AA (fun _=> ?_);clear hK;simp only[zai,zaa,zab,zac];(refine qL (n:=9) (i:=8) (v:= ?_) rfl tK rfl tD tK tK tK tK (fun _ _ _ h=>h) (Or.inl ⟨by rfl,?_⟩) (by assumption) ?_;rotate_left;focus (intro ww an;(try dsimp only at an);go_simp;try with_reducible rfl);(try simp only[zai,zaa,zab,zac]))
        have ki:=qA (fun j=>((zan (w:=V) (g'.block p tO (fun e=>by have:=(bD p e.symm).1;omega))).trans (gE.fz j):w'.frozen? ⟨p,j,none⟩=false));have qf:=ki.o 2;refine qDL (n:=9) tK rfl tK fun K' hK=> ?_;go_simp;refine hK.o _ _ ?_;clear hK;go_wp2;obtain⟨wf,kh⟩: ∃wf,wf=w'.setCell ⟨p,2,none⟩ (.slice jK (L++ [((k:Int),x,(jx:Int))]).length jF):=⟨_,rfl⟩;have oH:w'.setCell ⟨p,2,none⟩ (.slice jK (L.length+1) jF)=wf:=by rw[kh,zak,zas]
        try rw[<-kh]
        try rw[oH]
        have J8:wf.heap.size=w'.heap.size:=by rw[kh];simp
        have KEEP:Wi (∀b,b<wq.heap.size->b≠p->(zag A2 L.length c2).ownBlock≠some b->wf.heap[b]? =wq.heap[b]?):=qA fun b h1 h2 h3=>by
         rw[kh,zam _ _ _ b h2,g'.block b (by have:=bXV.size;omega) (fun e=>h3 e.symm),bXV.block b h1]
        have Cg:p<V.heap.size:=by have:=bXV.size;omega
        have zL:(zag A2 L.length c2).ownBlock≠some p:=fun e=>by have:=(bD p e).1;omega
        have hC:CBx w' p (.int .i64 (rn:Int)) (.int .i64 0) (.slice A2 L.length c2):=by
         have hb:=g'.block p Cg (fun e=>zL e.symm);exact⟨(zaf (w:=V) hb).trans gE.c0,(zaf (w:=V) hb).trans gE.c1,(zaf (w:=V) hb).trans gE.c2,fun j=>(zan (w:=V) hb).trans (gE.fz j),tO⟩
        have Jk:Wi (GBx wf p (p+1) jK jF ((rn:Int),0,L++ [((k:Int),x,(jx:Int))])):=qA (by
         rw[kh];exact hC.put xn.o (fun b hb=>by have:=(xn.o.1.lt b hb).1;omega) gE.o.i1 gE.o.i2)
        have xF:=qA (qAA (w':=wf) fV fun b e=>KEEP.o b (zao.lt fV b e).2 (eG b e).1 (eG b e).2.2);have xp:(zag A2 L.length c2).ownBlock≠some w4.heap.size:=fun e=>by have:=(bD _ e).1;omega
        have xJ:Wi (wf.ownsMap Tryz.prog 131 (plainElem (H:=Unit) Tryz.prog 3) w4 (om.length) D):=qA (by
         obtain⟨es,cl,h1,h2⟩:=ir.o;exact⟨es,cl,(KEEP _ tO tO xp).trans h1,h2⟩)
        have xX:Wi (RdI wf (.slice (some ⟨bl,0,none⟩) ls.length capl) ls):=qA (by
         rw[kh];exact((gZ.below bXV).grown g' (fun b hb aL=>og.o (by simp[zah] at hb;subst hb;exact aL))).grown (qAl _ _ _ _) (fun b hb aL=>by simp[zah] at hb;cases aL;omega))
        have xH:Wi (∀b,(zag (some ⟨tb,0,none⟩) om.length ct).ownBlock=some b->b≠p/\b≠bl/\(zag jK (L++ [((k:Int),x,(jx:Int))]).length jF).ownBlock≠some b):=qA fun b hb=>⟨(eG b hb).1,(eG b hb).2.1,fun e=>by
         rcases p' with p' | p'
         ·exact(eG b hb).2.2 (p'.symm.trans e)
         ·rw[p'] at e;have h1:=(zao.lt fV b hb).2;have h2:=bXV.size;have h3:V.heap.size=b:=by simpa using e
          omega⟩
        have vG:Wi ((zag jK (L++ [((k:Int),x,(jx:Int))]).length jF).ownBlock≠some bl):=qA fun e=>by
         rcases p' with p' | p'
         ·exact og.o (p'.symm.trans e)
         ·rw[p'] at e;have h2:=bXV.size;have h3:V.heap.size=bl:=by simpa using e
          omega
        have aV:Wi (Wf w4 w4 wf):=qA (by
         rw[kh];exact((n8.trans (bXV.mono tO)).grown g' tO (fun j hj=>by have:=(bD j hj).1;omega)).setCell (by show w4.heap.size<=p;omega) _)
        have xc:bl<wf.heap.size:=by have:=bXV.size;omega
        clear kh oH hC g' p';go_roundw;exact⟨m+1,_,jK,jF,tO,by go_num,by rw[gu.o];exact xF.o,by rw[gu.o];exact xJ.o,by rw[gu.o];exact jh.o,by rw[jf.o];exact Jk.o,by rw[jf.o];exact xH.o,by rw[jf.o];exact vG.o,xX.o,xc,aV.o⟩;exact tM
       ·have iZ:y1*nb+y2∉om:=by simpa using eq
        have gu:Wi ((ls.take (m+1)).foldl (pst as' bs nb pk) o=om++ [y1*nb+y2]):=qA (by rw[HS.o,Wn iZ]);have xW:=qA (jh.o.put tO (s:=y1) (t:=y2) tO li iZ);rw[Wn iZ] at ge;have hid:=ge.o (y1*nb+y2) tZ;have sQ:(om++ [y1*nb+y2]).idxOf (y1*nb+y2)=om.length:=by rw[List.idxOf_append,Wn iZ];simp
        have DH:Wi (peF as' bs nb P k (ls.take (m+1))=FF++ [((k:Int),x,(om.length:Int))]):=qA (by rw[HF.o,hid,sQ];rfl);rw[eq] at up;have nK:=qA (qLc (qCn (n:=om.length) tO));clear iZ eq ex HF HS ge hid sQ;obtain⟨qn,jE⟩: ∃q,y1*nb+y2=q:=⟨_,rfl⟩;rw[jE] at gu xW sC uo;clear jE;go_wp2_with (first
         | (at_lookup;refine wpList_lookup_own_ok_int _ rfl _ _ 133 rfl 131 3 .i64 lawP Tryz.underlying133 Tryz.underlying3 (qOq _) w4 om.length D rfl ir.o _ (kp (y1:Int) (y2:Int)) rfl yX.o ?_;intro c dY hwc;rw[up.o])
         | (at_mapUpdate;refine wpList_mapUpdate_own _ rfl _ _ _ 133 rfl 131 3 lawP Tryz.underlying133 _ w4 om.length D rfl ir.o (by unfold maxLen;omega) _ _ (kp (y1:Int) (y2:Int)) rfl rfl yX.o _ [] (plainElem_int Tryz.underlying3 nK) ?_;intro w8 hown8 hgrow8;have lO:=hgrow8.size;have vi:Wi (OwPr w8 (w4.heap.size+1) (.slice (some ⟨tb,0,none⟩) om.length ct) nb om):=qA (qAA fV fun b e=>hgrow8.block b (by have:=(zao.lt fV b e).2;omega) (fun e2=>by have:=(zao.lt fV b e).1;cases e2;omega)))
         | (at_builtin;refine qFL rfl (.tmp 113) (.tmp 117) rfl (w4.heap.size+1) _ nb om (qP vi ((zae _ _).alloc (zad _) _)) rfl w8 qn rfl (fun j u hj=>by rw[sC.o] at hj;rcases j with _ | _ | j<;>simp at hj<;>subst hj<;>simp[go_sem]) tO (by simp;omega) ?_;intro v9 w9 o9 g9 p9;have lK:=qA o9;have SJ:w8.heap.size+1<=w9.heap.size:=(by have h:=g9.size;simp at h;omega);have x6:=qA ((hown8.alloc (.cells #[.int .i64 (y1:Int), .int .i64 (y2:Int)] 131)).kept g9 (fun e=>by simp[zah] at e;omega));have n3:Wi (∀b,(zag A2 (BL++FF).length c2).ownBlock=some b->p+1<=b/\b<wq.heap.size):=qA (fun b hb=>fR.o.ow.1.lt b hb);have kR:=qA (((fR.o.grown hgrow8 (fun b hb=>⟨by cases hb;omega,fun e=>by have:=(n3 b e).1;cases hb;omega⟩)).below ((zae _ _).alloc (zad _) (.cells #[.int .i64 (y1:Int), .int .i64 (y2:Int)] 131))).grown g9 (fun b hb=>⟨(eG b hb).1,(eG b hb).2.2⟩));have xe:Wi (RdI w9 (.slice (some ⟨bl,0,none⟩) ls.length capl) ls):=qA (((gZ.o.grown hgrow8 (fun b hb aL=>by simp[zah] at hb;cases aL;omega)).alloc _).grown g9 (fun b hb aL=>by simp[zah] at hb;exact(eG b aL).2.1 hb.symm));have hZ:Wi (Wf w4 w4 w8):=qA (n8.o.grown hgrow8 tO (fun j hj=>by cases hj;exact zad _));have iO:Wi (Wf w4 w4 w9):=qA ((hZ.alloc tO (.cells #[.int .i64 (y1:Int), .int .i64 (y2:Int)] 131)).grown g9 tB (fun j hj=>by simp[zah] at hj;omega));have kj:Wi (∀b,v9.ownBlock=some b->b≠p/\b≠bl/\(zag A2 (BL++FF).length c2).ownBlock≠some b):=qA (fun b hb=>p9.elim (fun p9=>eG.o b (p9.symm.trans hb)) (fun p9=>(by rw[p9] at hb;have gC:b=w8.heap.size+1:=(by simpa using hb.symm);exact⟨tO,tO,fun e=>by have:=(n3 b e).2;omega⟩)));obtain⟨A9,c9,vf,_⟩:=qAE lK.o;rw[zak,zas] at vf;subst vf;clear o9 g9 p9 hown8 hgrow8 dY hwc))
        obtain⟨L,hL⟩: ∃L,BL++FF=L:=⟨_,rfl⟩;have oq:L.length<=4900:=by rw[<-hL,zak];have:=tV.o;omega
        have jf:Wi (BL++peF as' bs nb P k (ls.take (m+1))=L++ [((k:Int),x,(om.length:Int))]):=qA (by rw[DH.o,<-hL,zaA]);rw[hL] at kR kj og;clear hL DH;have z2:=kR.o.c2;simp only at z2
        have KH:=kR.o.lt;have ce:Wi (E64 ((k:Int),x,(om.length:Int))):=qA ⟨⟨by simp only;omega,by simp only;omega⟩,⟨by have:=yp.o;simp only;omega,by have:=yp.o;simp only;omega⟩,⟨by simp only;omega,by simp only;omega⟩⟩;have uV:Wi (edV (stE (k:Int) x (om.length:Int))= .agg #[.int .i64 (k:Int), .int .i64 x, .int .i64 (om.length:Int)]):=qA (by unfold stE;rw[Wn tO];rfl);have nY:=qA (fun W'=>qGX (k:Int) x (om.length:Int) W' yp.o);refine qCf (n:=9) (S:=fun w'=>w'.cell? ⟨p,2,none⟩=some (.slice A2 L.length c2)) tK (by rfl) z2 (fun hHeld=> ?_);(refine qL (n:=9) (i:=0) (v:= ?_) rfl tK rfl tD tK tK tK tK (fun _ _ _ h=>h) (Or.inl ⟨by rfl,?_⟩) (by assumption) ?_;rotate_left;focus (intro ww an;(try dsimp only at an);go_simp;try with_reducible rfl);(try simp only[zai,zaa,zab,zac]));(refine qL (n:=9) (i:=1) (v:= ?_) rfl tK rfl tD tK tK tK tK (fun _ _ _ h=>h) (Or.inl ⟨by rfl,?_⟩) (by assumption) ?_;rotate_left;focus (intro ww an;(try dsimp only at an);go_simp;try with_reducible rfl);(try simp only[zai,zaa,zab,zac]));(refine qL (n:=9) (i:=2) (v:= ?_) rfl tK rfl tD tK tK tK tK (fun _ _ _ h=>h) (Or.inl ⟨by rfl,?_⟩) (by assumption) ?_;rotate_left;focus (intro ww an;(try dsimp only at an);go_simp;try with_reducible rfl);(try simp only[zai,zaa,zab,zac]));(refine qL (n:=9) (i:=3) (v:= ?_) rfl tK rfl tD tK tK tK tK (fun _ _ _ h=>h) (Or.inl ⟨by rfl,?_⟩) (by assumption) ?_;rotate_left;focus (intro ww an;(try dsimp only at an);go_simp;try with_reducible rfl);(try simp only[zai,zaa,zab,zac]));(refine qL (n:=9) (i:=4) (v:= ?_) rfl tK rfl tD tK tK tK tK (fun _ _ _ h=>h) (Or.inl ⟨by rfl,?_⟩) (by assumption) ?_;rotate_left;focus (intro ww an;(try dsimp only at an);go_simp;try with_reducible rfl);(try simp only[zai,zaa,zab,zac]))
        refine qAU (i:=5) tK rfl fun K' hK=> ?_;go_simp;refine(nY _).mono ?_
        rintro e cG ⟨rfl,ec⟩;rw[uV.o];have oM:w9.heap.size<=cG.heap.size:=ec.size;have jO:Wf w9 w9 cG:=(zae _ _).drew.trans ec;clear ec;have tp:cG.cell? ⟨p,2,none⟩=some (.slice A2 L.length c2):=(jO.cell (p:=⟨p,2,none⟩) KH).trans z2;refine hK.o _ _ tp (fun _=> ?_);clear hK hHeld;refine qAU (i:=6) tK rfl fun K' hK=> ?_;go_simp;have pI:Wf cG cG (cG.alloc (.cells #[.int .i64 (k:Int),.int .i64 x,.int .i64 (om.length:Int)] 97)):=(zae _ _).alloc (zad _) _;have nE: ∀j u,(edC ((k:Int),x,(om.length:Int)))[j]? =some u->(cG.alloc (.cells #[.int .i64 (k:Int),.int .i64 x,.int .i64 (om.length:Int)] 97)).cell? ⟨cG,j,none⟩=some u:=fun j u hj=>by
         rcases j with _ | _ | _ | j<;>simp[edC] at hj<;>subst hj<;>simp[go_sem]
        have sV:(cG.alloc (.cells #[.int .i64 (k:Int),.int .i64 x,.int .i64 (om.length:Int)] 97)).heap.size=cG.heap.size+1:=tZ;have n7:(cG.alloc (.cells #[.int .i64 (k:Int),.int .i64 x,.int .i64 (om.length:Int)] 97)).cell? ⟨p,2,none⟩=some (.slice A2 L.length c2):=(pI.cell (p:=⟨p,2,none⟩) tB).trans tp;refine hK.o _ _ n7 (fun _=> ?_);clear hK;generalize cG.alloc (.cells #[.int .i64 (k:Int),.int .i64 x,.int .i64 (om.length:Int)] 97)=V at pI nE sV n7⊢;have bXV:Wf w9 w9 V:=jO.trans (pI.mono oM);have gE:=qA (kR.o.below bXV);refine qAU (i:=7) tK rfl fun K' hK=> ?_;rw[Wm (by rfl)];refine qBs (.tmp 122) (.tmp 127) rfl (p+1) _ L gE.o.ow rfl cG ((k:Int),x,(om.length:Int)) rfl nE ce.o tO tO ?_;intro v' w' o' g' p';obtain⟨jK,jF,rfl,_⟩:=OwE.form o';have xn:=qA o';have Na:=g'.size;clear o';have bD: ∀y,(zag A2 L.length c2).ownBlock=some y->p+1<=y/\y<w9.heap.size:=fun y hy=>kR.o.ow.1.lt y hy;have AA:w'.cell? ⟨p,2,none⟩=some (.slice A2 L.length c2):=(zaf (w:=V) (g'.block p tO (fun e=>by have:=(bD p e.symm).1;omega))).trans n7;refine hK.o _ _ AA (fun _=> ?_);clear hK;simp only[zai,zaa,zab,zac];(refine qL (n:=9) (i:=8) (v:= ?_) rfl tK rfl tD tK tK tK tK (fun _ _ _ h=>h) (Or.inl ⟨by rfl,?_⟩) (by assumption) ?_;rotate_left;focus (intro ww an;(try dsimp only at an);go_simp;try with_reducible rfl);(try simp only[zai,zaa,zab,zac]))
        have ki:=qA (fun j=>((zan (w:=V) (g'.block p tO (fun e=>by have:=(bD p e.symm).1;omega))).trans (gE.fz j):w'.frozen? ⟨p,j,none⟩=false));have qf:=ki.o 2;refine qDL (n:=9) tK rfl tK fun K' hK=> ?_;go_simp;refine hK.o _ _ ?_;clear hK;go_wp2;obtain⟨wf,kh⟩: ∃wf,wf=w'.setCell ⟨p,2,none⟩ (.slice jK (L++ [((k:Int),x,(om.length:Int))]).length jF):=⟨_,rfl⟩;have oH:w'.setCell ⟨p,2,none⟩ (.slice jK (L.length+1) jF)=wf:=by rw[kh,zak,zas]
        try rw[<-kh]
        try rw[oH]
        have J8:wf.heap.size=w'.heap.size:=by rw[kh];simp
        have KEEP:Wi (∀b,b<w9.heap.size->b≠p->(zag A2 L.length c2).ownBlock≠some b->wf.heap[b]? =w9.heap[b]?):=qA fun b h1 h2 h3=>by
         rw[kh,zam _ _ _ b h2,g'.block b (by have:=bXV.size;omega) (fun e=>h3 e.symm),bXV.block b h1]
        have Cg:p<V.heap.size:=by have:=bXV.size;omega
        have zL:(zag A2 L.length c2).ownBlock≠some p:=fun e=>by have:=(bD p e).1;omega
        have hC:CBx w' p (.int .i64 (rn:Int)) (.int .i64 0) (.slice A2 L.length c2):=by
         have hb:=g'.block p Cg (fun e=>zL e.symm);exact⟨(zaf (w:=V) hb).trans gE.c0,(zaf (w:=V) hb).trans gE.c1,(zaf (w:=V) hb).trans gE.c2,fun j=>(zan (w:=V) hb).trans (gE.fz j),tO⟩
        have Jk:Wi (GBx wf p (p+1) jK jF ((rn:Int),0,L++ [((k:Int),x,(om.length:Int))])):=qA (by
         rw[kh];exact hC.put xn.o (fun b hb=>by have:=(xn.o.1.lt b hb).1;omega) gE.o.i1 gE.o.i2)
        have xF:=qA (qAA (w':=wf) lK fun b e=>KEEP.o b (zao.lt lK b e).2 (kj b e).1 (kj b e).2.2);have xp:(zag A2 L.length c2).ownBlock≠some w4.heap.size:=fun e=>by have:=(bD _ e).1;omega
        have xJ:Wi (wf.ownsMap Tryz.prog 131 (plainElem (H:=Unit) Tryz.prog 3) w4 (om.length+1) (D.put (kp (y1:Int) (y2:Int)) (.lit (.int .i64 (om.length:Int))))):=qA (by
         obtain⟨es,cl,h1,h2⟩:=x6.o;exact⟨es,cl,(KEEP _ tO tO xp).trans h1,h2⟩)
        have xX:Wi (RdI wf (.slice (some ⟨bl,0,none⟩) ls.length capl) ls):=qA (by
         rw[kh];exact((xe.below bXV).grown g' (fun b hb aL=>og.o (by simp[zah] at hb;subst hb;exact aL))).grown (qAl _ _ _ _) (fun b hb aL=>by simp[zah] at hb;cases aL;omega))
        have xH:Wi (∀b,(zag A9 (om.length+1) c9).ownBlock=some b->b≠p/\b≠bl/\(zag jK (L++ [((k:Int),x,(om.length:Int))]).length jF).ownBlock≠some b):=qA fun b hb=>⟨(kj b hb).1,(kj b hb).2.1,fun e=>by
         rcases p' with p' | p'
         ·exact(kj b hb).2.2 (p'.symm.trans e)
         ·rw[p'] at e;have h1:=(zao.lt lK b hb).2;have h2:=bXV.size;have h3:V.heap.size=b:=by simpa using e
          omega⟩
        have vG:Wi ((zag jK (L++ [((k:Int),x,(om.length:Int))]).length jF).ownBlock≠some bl):=qA fun e=>by
         rcases p' with p' | p'
         ·exact og.o (p'.symm.trans e)
         ·rw[p'] at e;have h2:=bXV.size;have h3:V.heap.size=bl:=by simpa using e
          omega
        have aV:Wi (Wf w4 w4 wf):=qA (by
         rw[kh];exact((iO.trans (bXV.mono tO)).grown g' tO (fun j hj=>by have:=(bD j hj).1;omega)).setCell (by show w4.heap.size<=p;omega) _)
        have xc:bl<wf.heap.size:=by have:=bXV.size;omega
        clear kh oH hC g' p';go_roundw;exact⟨m+1,_,jK,jF,tO,by go_num,by rw[gu.o];exact xF.o,by rw[gu.o,zak];exact xJ.o,by rw[gu.o];exact xW.o,by rw[jf.o];exact Jk.o,by rw[jf.o];exact xH.o,by rw[jf.o];exact vG.o,xX.o,xc,aV.o⟩;exact tM
    ·obtain rfl:m=ls.length:=tO
     rw[zat] at kG eZ jh aS eG;have xh:=iL.o ls.length;have vA:=vO.o ls.length;have dj:=eE.o ls.length;rw[zat] at xh vA dj;have aM:k+1<=(ls.foldl (pst as' bs nb pk) o).length:=by
      have:=(zaB.1 dj).1
      omega
     rw[F5.o] at aS eG;have DJ:=qA xh;have Am:=qA vA;rw[zat] at dD;clear aP xh vA dj y5 Jz iL vO zh gy eE;obtain⟨of',zH⟩: ∃L,ls.foldl (pst as' bs nb pk) o=L:=⟨_,rfl⟩;rw[zH] at dD kG eZ jh DJ Am dJ aM;clear zH;obtain⟨At,ct,rfl,_⟩:=qAE dD;clear dD;go_wp2;go_roundw;exact⟨k+1,_,D,A2,c2,aM,by go_num,DJ.o,Am.o,dJ.o,kG.o,eZ.o,jh.o,by rw[pZ.o];exact aS.o,fun b hb=>by rw[pZ.o];exact⟨(eG b hb).1,(eG b hb).2.2⟩,iD.o⟩;exact tM
  ·obtain rfl:k=o.length:=tO
   have Ow:P=o:=by rw[ka.o,qOL]
   have xz:P.length=o.length:=by rw[Ow]
   have Rn:=qA xz;obtain⟨E,hE⟩: ∃E,peL as' bs nb rn P o.length=E:=⟨_,rfl⟩;have m7:Wi (PO=(decide (o.length<=40)&&decide (E.length<=120))):=qA (by rw[<-hE,<-xz];exact kq.o);have pJ:Wi (PG=((rn:Int),(o.length:Int),srt cmpE E)):=qA (by rw[<-hE,<-xz];exact zJ.o);have Ls:E.length<=4800:=by
    have h1:=yP.o o.length;rw[<-hE];have h2:=zaF (show o.length<=1600 by omega) (show rn<=3 by omega);exact zav h1 tO
   rw[hE] at aS;clear Ow xz hE kq zJ aX;have BF:=qA (l7 _ fl);obtain⟨z0,z1,z2⟩:=(XR.below BF).cs;have k7:=(XR.below BF).fz 0;have ig:=(XR.below BF).fz 1;have gI:=(XR.below BF).fz 2;obtain⟨y0,y1,y2⟩:=aS.o.cs;have Hv:=aS.o.fz 1;simp only at y0 y1 y2
   have E7:=aS.o.lt;have Bd:w.heap.size+1+1<wk.heap.size:=tO;have lz:w.heap.size+1+1≠p:=tO;have Ge:p≠w.heap.size+1+1:=tO;rcases el:decide (40<o.length) with _ | _
   rotate_left
   ·have lj:(40:Int)<(o.length:Int):=Int.ofNat_lt.2 (by simpa using el);have F:=qA (jo (by rw[m7.o,decide_eq_false (by omega: ¬o.length<=40)];rfl));clear el;have aV:=qA (BX.trans ((l7 _ fl).mono tO));have jJ:=qA (aV.o.setCell (p:=⟨p,1,none⟩) (by show w.heap.size<=p;omega) (.int .i64 (o.length:Int)));go_wp2;obtain⟨ws,bZ⟩: ∃W,W=wk.setCell ⟨p,1,none⟩ (.int .i64 (o.length:Int)):=⟨_,rfl⟩;have iz: ∀j u,wk.cell? ⟨w.heap.size+1+1,j,none⟩=some u->ws.cell? ⟨w.heap.size+1+1,j,none⟩=some u:=fun j u h=>by rw[bZ,qc _ _ _ _ _ _ lz];exact h
    rw[<-bZ] at jJ⊢;obtain⟨e0,e1,e2⟩:=qo (.int .i64 0) (.int .i64 0) (.slice none 0 0) (iz 0 _ z0) (iz 1 _ z1) (iz 2 _ z2);have bw:Wf w w (((ws.setCell ⟨w.heap.size+1+1,0,none⟩ (.int .i64 0)).setCell ⟨w.heap.size+1+1,1,none⟩ (.int .i64 0)).setCell ⟨w.heap.size+1+1,2,none⟩ (.slice none 0 0)):=qH _ _ _ jJ.o tO;generalize (((ws.setCell ⟨w.heap.size+1+1,0,none⟩ (.int .i64 0)).setCell ⟨w.heap.size+1+1,1,none⟩ (.int .i64 0)).setCell ⟨w.heap.size+1+1,2,none⟩ (.slice none 0 0))=wf at*;rw[F.o];exact Wj (v:= .tuple #[.agg #[.int .i64 0, .int .i64 0, .slice none 0 0], .bool false]) (by simp[results,Tryz.results95,go_sem,e0,e1,e2]) rfl ⟨_,rfl,⟨.slice none 0 0,rfl,⟨by decide,by decide⟩,⟨by decide,by decide⟩,OwE.nil⟩,bw⟩
   have bn:o.length<=40:=by simp at el;omega
   have lj: ¬(40:Int)<(o.length:Int):=tO;rcases ee:decide (120<E.length) with _ | _
   rotate_left
   ·have pM:(120:Int)<(E.length:Int):=Int.ofNat_lt.2 (by simpa using ee);have F:=qA (jo (by rw[m7.o,decide_eq_false (by omega: ¬E.length<=120),Bool.and_false]));clear el ee bn;have aV:=qA (BX.trans ((l7 _ fl).mono tO));have jJ:=qA (aV.o.setCell (p:=⟨p,1,none⟩) (by show w.heap.size<=p;omega) (.int .i64 (o.length:Int)));go_wp2;obtain⟨ws,bZ⟩: ∃W,W=wk.setCell ⟨p,1,none⟩ (.int .i64 (o.length:Int)):=⟨_,rfl⟩;have iz: ∀j u,wk.cell? ⟨w.heap.size+1+1,j,none⟩=some u->ws.cell? ⟨w.heap.size+1+1,j,none⟩=some u:=fun j u h=>by rw[bZ,qc _ _ _ _ _ _ lz];exact h
    rw[<-bZ] at jJ⊢;obtain⟨e0,e1,e2⟩:=qo (.int .i64 0) (.int .i64 0) (.slice none 0 0) (iz 0 _ z0) (iz 1 _ z1) (iz 2 _ z2);have bw:Wf w w (((ws.setCell ⟨w.heap.size+1+1,0,none⟩ (.int .i64 0)).setCell ⟨w.heap.size+1+1,1,none⟩ (.int .i64 0)).setCell ⟨w.heap.size+1+1,2,none⟩ (.slice none 0 0)):=qH _ _ _ jJ.o tO;generalize (((ws.setCell ⟨w.heap.size+1+1,0,none⟩ (.int .i64 0)).setCell ⟨w.heap.size+1+1,1,none⟩ (.int .i64 0)).setCell ⟨w.heap.size+1+1,2,none⟩ (.slice none 0 0))=wf at*;rw[F.o];exact Wj (v:= .tuple #[.agg #[.int .i64 0, .int .i64 0, .slice none 0 0], .bool false]) (by simp[results,Tryz.results95,go_sem,e0,e1,e2]) rfl ⟨_,rfl,⟨.slice none 0 0,rfl,⟨by decide,by decide⟩,⟨by decide,by decide⟩,OwE.nil⟩,bw⟩
   have a7:E.length<=120:=by simp at ee;omega
   have pM: ¬(120:Int)<(E.length:Int):=tO;have F:=qA ((vE (by rw[m7.o,decide_eq_true bn,decide_eq_true a7];rfl)).trans (by rw[pJ.o]:(PG,true)=(((rn:Int),(o.length:Int),srt cmpE E),true)));clear el ee bn a7;go_wp2_with fail;obtain⟨ws,bZ⟩: ∃W,W=wk.setCell ⟨p,1,none⟩ (.int .i64 (o.length:Int)):=⟨_,rfl⟩;have Tf:ws.heap.size=wk.heap.size:=by rw[bZ];simp
   have pS:Wi (OwE ws (p+1) (.slice A2 E.length c2) E):=qA (by rw[bZ];exact aS.o.ow.keep fun b hb=>zam _ _ _ b (aS.o.ne b hb));have hC:CBx ws p (.int .i64 (rn:Int)) (.int .i64 (o.length:Int)) (.slice A2 E.length c2):=by
    rw[bZ];exact⟨(zaj _ _ _ _ tZ).trans y0,zar _ _ _ y1,(zaj _ _ _ _ tZ).trans y2,fun j=>by rw[zal];exact aS.o.fz j,by simpa using E7⟩
   have hR:CBx ws (w.heap.size+1+1) (.int .i64 0) (.int .i64 0) (.slice none 0 0):=by
    rw[bZ];exact⟨(qc _ _ _ _ _ _ lz).trans z0,(qc _ _ _ _ _ _ lz).trans z1,(qc _ _ _ _ _ _ lz).trans z2,fun j=>by rw[zal];exact(XR.below BF).fz j,by simpa using Bd⟩
   have jJ:Wi (Wf w4 w4 ws):=qA (by rw[bZ];exact fl.o.setCell (by show w4.heap.size<=p;omega) _);rw[<-bZ];have HC:=qA hC;have HR:=qA hR;clear bZ hC hR y0 y1 y2 Hv z0 z1 z2 k7 ig gI;refine(qDN _ _ _ pS.arg tO).mono ?_
   rintro e' w9 ⟨r9,rfl,o9,b9⟩;have lJ:=b9.size;have Fv:=qA (HC.below b9);have gO:=qA (HR.below b9);have iO:=qA (jJ.trans (b9.mono tO));obtain⟨A9,c9,rfl,_⟩:=OwE.form o9;obtain⟨L,hL⟩: ∃L,srt cmpE E=L:=⟨_,rfl⟩;rw[hL] at o9 F⊢;have O9:=qA o9;clear b9 o9 hL;have sr:Wi (∀b,(zag A9 L.length c9).ownBlock=some b->b≠p/\b≠w.heap.size+1+1):=qA fun b hb=>by have:=(O9.o.1.lt b hb).1;omega
   obtain⟨y0,y1,y2⟩:=Fv.o.cs;have Nk:=Fv.o.fz 2;obtain⟨z0,z1,z2⟩:=gO.o.cs;have k7:=gO.o.fz 0;have ig:=gO.o.fz 1;have gI:=gO.o.fz 2;have Uw:w.heap.size+1+1<w9.heap.size:=tO;have FQ:p<w9.heap.size:=tO;have aV:=qA (BX.trans ((l7 _ iO).mono tO));have mc:=qA (aV.o.setCell (p:=⟨p,2,none⟩) (by show w.heap.size<=p;omega) (.slice A9 L.length c9));go_wp2;obtain⟨wt,Dt⟩: ∃W,W=w9.setCell ⟨p,2,none⟩ (.slice A9 L.length c9):=⟨_,rfl⟩;have no: ∀j u,w9.cell? ⟨w.heap.size+1+1,j,none⟩=some u->wt.cell? ⟨w.heap.size+1+1,j,none⟩=some u:=fun j u h=>by rw[Dt,qc _ _ _ _ _ _ lz];exact h
   have kV:OwE wt ws (.slice A9 L.length c9) L:=by rw[Dt];exact O9.o.keep fun b hb=>zam _ _ _ b (sr b hb).1
   rw[<-Dt] at mc⊢;obtain⟨e0,e1,e2⟩:=qo (.int .i64 (rn:Int)) (.int .i64 (o.length:Int)) (.slice A9 L.length c9) (no 0 _ z0) (no 1 _ z1) (no 2 _ z2);have bw:Wf w w (((wt.setCell ⟨w.heap.size+1+1,0,none⟩ (.int .i64 (rn:Int))).setCell ⟨w.heap.size+1+1,1,none⟩ (.int .i64 (o.length:Int))).setCell ⟨w.heap.size+1+1,2,none⟩ (.slice A9 L.length c9)):=qH _ _ _ mc.o tO;have ow:OwE (((wt.setCell ⟨w.heap.size+1+1,0,none⟩ (.int .i64 (rn:Int))).setCell ⟨w.heap.size+1+1,1,none⟩ (.int .i64 (o.length:Int))).setCell ⟨w.heap.size+1+1,2,none⟩ (.slice A9 L.length c9)) ws (.slice A9 L.length c9) L:=kV.keep fun b hb=>qI _ _ _ _ _ (sr b hb).2;generalize (((wt.setCell ⟨w.heap.size+1+1,0,none⟩ (.int .i64 (rn:Int))).setCell ⟨w.heap.size+1+1,1,none⟩ (.int .i64 (o.length:Int))).setCell ⟨w.heap.size+1+1,2,none⟩ (.slice A9 L.length c9))=wf at*;rw[F.o];exact Wj (v:= .tuple #[.agg #[.int .i64 (rn:Int), .int .i64 (o.length:Int), .slice A9 L.length c9], .bool true]) (by simp[results,Tryz.results95,go_sem,e0,e1,e2]) rfl ⟨_,rfl,⟨.slice A9 L.length c9,rfl,by unfold I64;simp only;omega,by unfold I64;simp only;omega,ow.mono tO⟩,bw⟩
def intF (a b:GrD):GrD×Bool:=if qS a=true/\qS b=true then(if(qAW a b 0 0).2=true then(qCU (qAW a b 0 0).1,true) else((0,0,[]),false)) else((0,0,[]),false)
theorem qIJ {a b:GrD} {u v:Nat} (h1:qO a=true) (h2:qO b=true) (hu:(u:Int)<a.2.1) (hv:(v:Int)<b.2.1) (h:(qAW a b u v).2=true):qAW a b u v=(pbG a b u v,true)/\qO (qAW a b u v).1=true:=by
 unfold qAW at*;split
 ·rename_i q
  exact⟨rfl,qGY h1 h2 hu hv q.2⟩
 ·rename_i q
  rw[Wn q] at h;cases h
theorem xP2 (n:Nat) (hn:n=17/\xPA\/n=81/\xPB) (va vb:Wh) (a b:GrD) (w:Wg) (ha:ArgG w va a) (hb:ArgG w vb b):
  Wk Tryz.prog n #[va,vb] w fun e w'=> ∃r,e= .returned (.tuple #[r, .bool (intF a b).2])/\OwG w' w r (intF a b).1/\Wf w w w':=by
 rcases hn with ⟨rfl,hD⟩ | ⟨rfl,hD⟩
 all_goals
  have cJ:=qA ha;have aS:=qA hb;have P3:Wi (qS a=false->intF a b=((0,0,[]),false)):=qA fun h=>by unfold intF;rw[Wn fun q=>by rw[h] at q;exact absurd q.1 tD]
  have yz:Wi (qS b=false->intF a b=((0,0,[]),false)):=qA fun h=>by unfold intF;rw[Wn fun q=>by rw[h] at q;exact absurd q.2 tD]
  have kS:Wi (qS a=true->qS b=true->(qAW a b 0 0).2=false->intF a b=((0,0,[]),false)):=qA fun h1 h2 h3=>by unfold intF;rw[Wm ⟨h1,h2⟩,Wn (by rw[h3];decide)]
  have FS:Wi (qS a=true->qS b=true->(qAW a b 0 0).2=true->intF a b=(qCU (qAW a b 0 0).1,true)):=qA fun h1 h2 h3=>by unfold intF;rw[Wm ⟨h1,h2⟩,Wm h3]
  have yF:=qA (fun h1 h2=>qIJ (a:=a) (b:=b) (u:=0) (v:=0) h1 h2);have JE:=qA (fun h=>(qD (qBz (g:=a) h)).2.1);have Ln:=qA (fun h=>(qD (qBz (g:=b) h)).2.1);generalize intF a b=RES at*;obtain⟨sa,rfl,rG,sg,lU⟩:=ha;obtain⟨A,ca,rfl⟩:=lU.form;obtain⟨sb,rfl,ta,rM,gC⟩:=hb;obtain⟨B,cb,rfl⟩:=gC.form;obtain⟨a1,a2,as'⟩:=a;obtain⟨b1,b2,bs⟩:=b;simp only at*
  clear lU gC;first | go_enter Tryz.func17,Tryz.ntmps17 | go_enter Tryz.func81,Tryz.ntmps81
  go_wp2_with fail;obtain⟨W1,aq⟩: ∃W,W=w.alloc (.cells #[.int .i64 a1,.int .i64 a2, .slice A as'.length ca] 26):=⟨_,rfl⟩;rw[<-aq];obtain⟨x1,tW,s1⟩:=CBx.new aq;obtain⟨W2,aT⟩: ∃W,W=W1.alloc (.cells #[.int .i64 b1,.int .i64 b2, .slice B bs.length cb] 26):=⟨_,rfl⟩;rw[<-aT];obtain⟨x2,nO,s2⟩:=CBx.new aT;obtain⟨W,hW⟩: ∃W,W=W2.alloc (.cells #[.int .i64 0,.int .i64 0, .slice none 0 0] 26):=⟨_,rfl⟩;rw[<-hW];obtain⟨x3,ma,s3⟩:=CBx.new hW;have XA:=qA ((x1.below nO).below ma);have XB:=qA (x2.below ma);have XR:=qA x3;rw[s1] at XB;rw[s2,s1] at XR;have BX:Wi (Wf w w W):=qA (tW.trans ((nO.trans (ma.mono tO)).mono tO));have aH:W.heap.size=w.heap.size+3:=tO;clear hW aq aT tW nO ma x1 x2 x3 s1 s2 s3;have HA:Wi (∀w',Wf W.heap.size W w'->ArgG w' (.agg #[.int .i64 a1, .int .i64 a2, .slice A as'.length ca]) (a1,a2,as')):=qA fun w' hb=>cJ.o.below (BX.trans (hb.mono tO));have HB:Wi (∀w',Wf W.heap.size W w'->ArgG w' (.agg #[.int .i64 b1, .int .i64 b2, .slice B bs.length cb]) (b1,b2,bs)):=qA fun w' hb=>aS.o.below (BX.trans (hb.mono tO));first | refine(qY _ (a1,a2,as') W (HA W (zae _ _))).mono ?_ | refine(qr _ (a1,a2,as') W (HA W (zae _ _))).mono ?_
  rintro e w1 ⟨rfl,iK⟩;have B1:=qA iK;have dh:=iK.size;clear iK;rcases e1:qS (a1,a2,as') with _ | _
  ·have F:=qA (P3 e1);clear e1;obtain⟨z0,z1,z2⟩:=(XR.below B1).cs;have k7:=(XR.below B1).fz 0;have ig:=(XR.below B1).fz 1;have gI:=(XR.below B1).fz 2;have rA:w.heap.size+1+1<w1.heap.size:=tO;have aV:=qA (BX.trans ((B1).mono tO));go_wp2;obtain⟨e0,e1,e2⟩:=qo (.int .i64 0) (.int .i64 0) (.slice none 0 0) z0 z1 z2;have bw:Wf w w (((w1.setCell ⟨w.heap.size+1+1,0,none⟩ (.int .i64 0)).setCell ⟨w.heap.size+1+1,1,none⟩ (.int .i64 0)).setCell ⟨w.heap.size+1+1,2,none⟩ (.slice none 0 0)):=qH _ _ _ aV.o tO;generalize (((w1.setCell ⟨w.heap.size+1+1,0,none⟩ (.int .i64 0)).setCell ⟨w.heap.size+1+1,1,none⟩ (.int .i64 0)).setCell ⟨w.heap.size+1+1,2,none⟩ (.slice none 0 0))=wf at*;rw[F.o];exact Wj (v:= .tuple #[.agg #[(.int .i64 0),(.int .i64 0),(.slice none 0 0)], .bool false]) (by simp[results,Tryz.results17,Tryz.results81,go_sem,e0,e1,e2]) rfl ⟨_,rfl,⟨.slice none 0 0,rfl,⟨by decide,by decide⟩,⟨by decide,by decide⟩,OwE.nil⟩,bw⟩
  obtain⟨u0,u1,u2⟩:=(XB.below B1).cs;have nh:w.heap.size+1<w1.heap.size:=tO;go_wp2_with fail;first | refine(qY _ (b1,b2,bs) w1 (HB w1 B1)).mono ?_ | refine(qr _ (b1,b2,bs) w1 (HB w1 B1)).mono ?_
  rintro e w2 ⟨rfl,lL⟩;have B2:=qA (B1.trans (lL.mono B1.size));have je:=lL.size;clear lL u0 u1 u2;rcases e2:qS (b1,b2,bs) with _ | _
  ·have F:=qA (yz e2);clear e1 e2;obtain⟨z0,z1,z2⟩:=(XR.below B2).cs;have k7:=(XR.below B2).fz 0;have ig:=(XR.below B2).fz 1;have gI:=(XR.below B2).fz 2;have rA:w.heap.size+1+1<w2.heap.size:=tO;have aV:=qA (BX.trans ((B2).mono tO));go_wp2;obtain⟨e0,e1,e2⟩:=qo (.int .i64 0) (.int .i64 0) (.slice none 0 0) z0 z1 z2;have bw:Wf w w (((w2.setCell ⟨w.heap.size+1+1,0,none⟩ (.int .i64 0)).setCell ⟨w.heap.size+1+1,1,none⟩ (.int .i64 0)).setCell ⟨w.heap.size+1+1,2,none⟩ (.slice none 0 0)):=qH _ _ _ aV.o tO;generalize (((w2.setCell ⟨w.heap.size+1+1,0,none⟩ (.int .i64 0)).setCell ⟨w.heap.size+1+1,1,none⟩ (.int .i64 0)).setCell ⟨w.heap.size+1+1,2,none⟩ (.slice none 0 0))=wf at*;rw[F.o];exact Wj (v:= .tuple #[.agg #[(.int .i64 0),(.int .i64 0),(.slice none 0 0)], .bool false]) (by simp[results,Tryz.results17,Tryz.results81,go_sem,e0,e1,e2]) rfl ⟨_,rfl,⟨.slice none 0 0,rfl,⟨by decide,by decide⟩,⟨by decide,by decide⟩,OwE.nil⟩,bw⟩
  have gQ:=qAQ e1;have fH:=qAQ e2;have Ja:=JE.o e1;have CO:=Ln.o e2;first | (have hE:xPA:=hD;have ic:=qA (fun W' h h'=>qCe (.agg #[.int .i64 a1, .int .i64 a2, .slice A as'.length ca]) (.agg #[.int .i64 b1, .int .i64 b2, .slice B bs.length cb]) (a1,a2,as') (b1,b2,bs) 0 0 W' h h' gQ fH (by first | omega | (simp only;omega)) (by first | omega | (simp only;omega)))) | have ic:=qA (fun W' h h'=>qCc (.agg #[.int .i64 a1, .int .i64 a2, .slice A as'.length ca]) (.agg #[.int .i64 b1, .int .i64 b2, .slice B bs.length cb]) (a1,a2,as') (b1,b2,bs) 0 0 W' h h' gQ fH (by first | omega | (simp only;omega)) (by first | omega | (simp only;omega)))
  have yF:=qA (yF gQ fH (by first | omega | (simp only;omega)) (by first | omega | (simp only;omega)));have kS:=qA (kS e1 e2);have FS:=qA (FS e1 e2);clear e1 e2 gQ fH Ja CO;obtain⟨u0,u1,u2⟩:=(XA.below B2).cs;obtain⟨v0,v1,v2⟩:=(XB.below B2).cs;have uN:w.heap.size<w2.heap.size:=tO;have Pz:w.heap.size+1<w2.heap.size:=tO;go_wp2_with fail;refine(ic w2 (HA w2 B2) (HB w2 B2)).mono ?_
  rintro e w3 ⟨r3,rfl,o3,pC⟩;have B3:=qA (B2.trans (pC.mono B2.size));have dZ:=pC.size;clear pC u0 u1 u2 v0 v1 v2;generalize qAW (a1,a2,as') (b1,b2,bs) 0 0=R at*;obtain⟨⟨m1,m2,ms⟩,ok⟩:=R;obtain⟨s3,rfl,ch,bV,aY⟩:=o3;obtain⟨A3,c3,rfl,_⟩:=OwE.form aY;simp only at ch bV aY kS FS yF⊢
  have dI:=qA aY;clear aY;have iI:Wf w3 w3 (w3.alloc (.cells #[.int .i64 m1,.int .i64 m2, .slice A3 ms.length c3] 26)):=(zae _ _).alloc (zad _) _;cases ok with
  | false=>
    have F:=qA (kS rfl);obtain⟨w4,jH⟩: ∃W,W=w3.alloc (.cells #[.int .i64 m1,.int .i64 m2, .slice A3 ms.length c3] 26):=⟨_,rfl⟩;rw[<-jH] at iI;have B4:=qA (B3.trans (iI.mono B3.size));have H4:=iI.size;obtain⟨z0,z1,z2⟩:=(XR.below B4).cs;have k7:=(XR.below B4).fz 0;have ig:=(XR.below B4).fz 1;have gI:=(XR.below B4).fz 2;have rA:w.heap.size+1+1<w4.heap.size:=tO;have aV:=qA (BX.trans ((B4).mono tO));rw[jH] at z0 z1 z2 k7 ig gI;have wD:=qA jH;clear jH;go_wp2;rw[<-wD.o] at z0 z1 z2 k7 ig gI⊢;obtain⟨e0,e1,e2⟩:=qo (.int .i64 0) (.int .i64 0) (.slice none 0 0) z0 z1 z2;have bw:Wf w w (((w4.setCell ⟨w.heap.size+1+1,0,none⟩ (.int .i64 0)).setCell ⟨w.heap.size+1+1,1,none⟩ (.int .i64 0)).setCell ⟨w.heap.size+1+1,2,none⟩ (.slice none 0 0)):=qH _ _ _ aV.o tO;generalize (((w4.setCell ⟨w.heap.size+1+1,0,none⟩ (.int .i64 0)).setCell ⟨w.heap.size+1+1,1,none⟩ (.int .i64 0)).setCell ⟨w.heap.size+1+1,2,none⟩ (.slice none 0 0))=wf at*;rw[F.o];exact Wj (v:= .tuple #[.agg #[(.int .i64 0),(.int .i64 0),(.slice none 0 0)], .bool false]) (by simp[results,Tryz.results17,Tryz.results81,go_sem,e0,e1,e2]) rfl ⟨_,rfl,⟨.slice none 0 0,rfl,⟨by decide,by decide⟩,⟨by decide,by decide⟩,OwE.nil⟩,bw⟩
  | true=>
    obtain⟨_,MT⟩:=yF.o rfl;have F:=qA (FS rfl);have aK:=qA (qE MT).1;have OEA:=qA dI.o.arg;clear MT;go_wp2_with fail;obtain⟨w4,jH⟩: ∃W,W=w3.alloc (.cells #[.int .i64 m1,.int .i64 m2, .slice A3 ms.length c3] 26):=⟨_,rfl⟩;rw[<-jH] at iI⊢;have B4:=qA (B3.trans (iI.mono B3.size));have Oo:=qA (OEA.below iI);have H4:=iI.size;clear jH iI;first | refine(xP6 _ (.inl ⟨rfl,xPa⟩) _ (m1,m2,ms) w4 ⟨_,rfl,ch,bV,Oo⟩ aK).mono ?_ | refine(xP6 _ (.inr ⟨rfl,xPb⟩) _ (m1,m2,ms) w4 ⟨_,rfl,ch,bV,Oo⟩ aK).mono ?_
    rintro e w5 ⟨r5,rfl,o5,zq⟩;have B5:=qA (B4.trans (zq.mono B4.size));have eH:=zq.size;generalize qCU (m1,m2,ms)=K at*;obtain⟨k1,k2,ks⟩:=K;obtain⟨s5,rfl,js,fo,bF⟩:=o5;obtain⟨A5,c5,rfl,_⟩:=OwE.form bF;simp only at js fo bF
    have tG:=qA bF;clear zq bF;obtain⟨z0,z1,z2⟩:=(XR.below B5).cs;have k7:=(XR.below B5).fz 0;have ig:=(XR.below B5).fz 1;have gI:=(XR.below B5).fz 2;have rA:w.heap.size+1+1<w5.heap.size:=tO;have aV:=qA (BX.trans ((B5).mono tO));go_wp2;obtain⟨e0,e1,e2⟩:=qo (.int .i64 k1) (.int .i64 k2) (.slice A5 ks.length c5) z0 z1 z2;have bw:Wf w w (((w5.setCell ⟨w.heap.size+1+1,0,none⟩ (.int .i64 k1)).setCell ⟨w.heap.size+1+1,1,none⟩ (.int .i64 k2)).setCell ⟨w.heap.size+1+1,2,none⟩ (.slice A5 ks.length c5)):=qH _ _ _ aV.o tO;have ow:OwE (((w5.setCell ⟨w.heap.size+1+1,0,none⟩ (.int .i64 k1)).setCell ⟨w.heap.size+1+1,1,none⟩ (.int .i64 k2)).setCell ⟨w.heap.size+1+1,2,none⟩ (.slice A5 ks.length c5)) w4 (.slice A5 ks.length c5) ks:=tG.o.keep fun b hb=>qI _ _ _ _ _ (by have:=(tG.o.1.lt b hb).1;omega);generalize (((w5.setCell ⟨w.heap.size+1+1,0,none⟩ (.int .i64 k1)).setCell ⟨w.heap.size+1+1,1,none⟩ (.int .i64 k2)).setCell ⟨w.heap.size+1+1,2,none⟩ (.slice A5 ks.length c5))=wf at*;rw[F.o];exact Wj (v:= .tuple #[.agg #[(.int .i64 k1),(.int .i64 k2),(.slice A5 ks.length c5)], .bool true]) (by simp[results,Tryz.results17,Tryz.results81,go_sem,e0,e1,e2]) rfl ⟨_,rfl,⟨.slice A5 ks.length c5,rfl,js,fo,ow.mono tO⟩,bw⟩
theorem GBx.sz {w:Wg} {p base:Nat} {A:Option Addr} {c:Nat} {g:GrD} (h:GBx w p base A c g) {z:Int} (hz:I64 z):GBx (w.setCell ⟨p,1,none⟩ (.int .i64 z)) p base A c (g.1,z,g.2.2):=
 ⟨(zaj _ _ _ _ tZ).trans h.c0,zar _ _ _ h.c1,(zaj _ _ _ _ tZ).trans h.c2,fun j=>by rw[zal];exact h.fz j,h.ow.keep fun b hb=>zam _ _ _ b (h.ne b hb),h.ne,h.i1,hz,by simpa using h.lt⟩
theorem qRJ {v:Wh} {es:List EdD} {w:Wg} (e:EdD) (x y z:Int) (h:ArgE w v es) (he:E64 e) (hl:es.length<=268435456) (hq:e=(x,y,z)):
  Wk Tryz.prog 166 #[v, .agg #[.int .i64 x, .int .i64 y, .int .i64 z]] w fun e' w'=> ∃r,e'= .returned r/\OwE w' w r (insF cmpE es e)/\Wf w w w':=by
 subst hq;exact qBy v es (x,y,z) w h he hl
theorem qDf (v y:Wh) (g:GrD) (a b:Int) (t:List Int) (w:Wg) (h:ArgG w v g) (ht:RdI w y t) (hg:grB g=true) (ha:0<=a/\a<g.2.1) (hb:0<=b/\b<g.2.1) (hw:qAG g.1 t=true) (h0:t.length≠0) (hl:t.length<=1073741824):
  Wk Tryz.prog 182 #[v, .int .i64 a,y, .int .i64 b] w fun x w'=> ∃r,x= .returned (.tuple #[r, .bool (qBF g t)])/\OwG w' w r (if qBF g t=true then addG g a b t else g)/\Wf w w w':=by
 have HG:=qA h;have HY:=qA ht;have aK:=qA hg;have HW:=qA hw;have HA:=qA ha;have sM:=qA hb;obtain⟨jB,bn,a7,_⟩:=qD hg;obtain⟨s,rfl,aN,aQ,cj⟩:=h;obtain⟨A,cap,rfl⟩:=cj.form;obtain⟨T,tc,rfl,_⟩:=ht.arg;obtain⟨g1,N,es⟩:=g;simp only at*
 clear cj hg hw ha hb;obtain⟨OK,vJ⟩: ∃o,o=qBF (g1,N,es) t:=⟨_,rfl⟩;rw[<-vJ];obtain⟨RES,lE⟩: ∃R,R=(if OK=true then addG (g1,N,es) a b t else(g1,N,es)):=⟨_,rfl⟩;rw[<-lE];have bH:=qA vJ;have kT:=qA lE;clear lE vJ;go_enter Tryz.func182,Tryz.ntmps182
 go_wp2_with fail;obtain⟨W1,aq⟩: ∃W,W=w.alloc (.cells #[.int .i64 g1,.int .i64 N, .slice A es.length cap] 26):=⟨_,rfl⟩;rw[<-aq];obtain⟨aE,b1,aJ,_⟩:=gbox aq;obtain⟨W,hW⟩: ∃W,W=W1.alloc (.cells #[.int .i64 0,.int .i64 0, .slice none 0 0] 26):=⟨_,rfl⟩;rw[<-hW];obtain⟨dQ,b2,dp,db⟩:=gbox hW;have aH:W.heap.size=w.heap.size+2:=tO;have fE:=qA aJ;have io:=qA dp;have jf:=qA db;have uR:=qA b1;have kA:=qA b2;have BX:Wi (Wf w w W):=qA (b1.trans (b2.mono tO));have aW:Wi (∀w',Wf (w.heap.size+2) W w'->w'.cell? ⟨w,0,none⟩=some (.int .i64 g1)/\w'.cell? ⟨w,1,none⟩=some (.int .i64 N)/\w'.cell? ⟨w,2,none⟩=some (.slice A es.length cap)):=qA fun w' hb=>fE.o w' ((kA.mono tO).trans (hb.mono tO));have kM:Wi (∀w',Wf (w.heap.size+2) W w'->(w'.cell? ⟨w.heap.size+1,0,none⟩=some (.int .i64 0)/\w'.cell? ⟨w.heap.size+1,1,none⟩=some (.int .i64 0)/\w'.cell? ⟨w.heap.size+1,2,none⟩=some (.slice none 0 0))/\ ∀j,w'.frozen? ⟨w.heap.size+1,j,none⟩=false):=qA fun w' hb=>by
  have e:Wf (W1.heap.size+1) W w':=hb.mono tO;have h1:=io.o w' e;have h2:=fun j=>jf.o j w' e;rw[aE] at h1 h2;exact⟨h1,h2⟩
 have oR:Wi (∀w',Wf (w.heap.size+2) W w'->ArgG w' (.agg #[.int .i64 g1, .int .i64 N, .slice A es.length cap]) (g1,N,es)):=qA fun w' hb=>HG.o.below (BX.trans (hb.mono tO));have iF:Wi (∀w',Wf (w.heap.size+2) W w'->RdI w' (.slice T t.length tc) t):=qA fun w' hb=>HY.o.below (BX.trans (hb.mono tO));clear aq hW aJ dp db b1 b2 fE io jf uR kA aE dQ;obtain⟨q0,q1,q2⟩:=aW.o W ((zae W W).mono tO);refine(xP10 _ (.inl ⟨rfl,xPa⟩) _ (g1,N,es) W (oR W ((zae W W).mono tO)) (by simp only;omega)).mono ?_
 clear q0 q1 q2;rintro e w5 ⟨r,rfl,o5,b5⟩;have fg:=b5.size;have B5:Wi (Wf (w.heap.size+2) W w5):=qA (b5.mono tO);obtain⟨s1,rfl,_,_,bF⟩:=o5;obtain⟨A1,c1,rfl,_⟩:=bF.form;simp only at*
 clear b5;have mk:Wf w5 w5 (w5.alloc (.cells #[.int .i64 g1,.int .i64 N, .slice A1 es.length c1] 26)):=(zae _ _).alloc (zad _) _;obtain⟨q0,q1,q2⟩:=aW.o _ (B5.trans (mk.mono tO));clear mk;go_wp2_with fail;clear q0 q1 q2;obtain⟨W6,cH⟩: ∃W,W=w5.alloc (.cells #[.int .i64 g1,.int .i64 N, .slice A1 es.length c1] 26):=⟨_,rfl⟩;have iU:=qA (GBx.new (m:=(g1,N,es)) bF aN aQ cH);obtain⟨eU,b6,_,_⟩:=gbox cH;rw[<-cH];have B6:Wi (Wf (w.heap.size+2) W W6):=qA (B5.trans (b6.mono tO));clear cH b6 bF;obtain⟨p,hp⟩: ∃p,p=w5.heap.size:=⟨_,rfl⟩;rw[<-hp] at iU⊢;have rp:w.heap.size+2<=p:=tO;have Gw:p<W6.heap.size:=tO;clear hp eU fg;have fC:=qA (qk _ (g1,N,es) W6 (oR W6 B6));rw[aK.o] at fC;refine fC.o.mono ?_;clear fC;rintro e w7 ⟨rfl,b7⟩;have B7:=qA (B6.trans (b7.mono (by have:=B6.o.size;omega)));have fD:=qA (iU.below b7);clear b7;obtain⟨q0,q1,q2⟩:=aW.o w7 B7.o;have E1:inB a 0 (N-1)=true:=by unfold inB;simp;have:=HA.o;omega
 have E2:inB b 0 (N-1)=true:=by unfold inB;simp;have:=sM.o;omega
 have EW:=qA (qBK g1 _ t w7 (iF w7 B7).arg tO);rw[HW.o] at EW;go_wp2_with (go_at_call 138;refine(qi _ _ _ _).mono ?_;rintro e w' ⟨rfl,rfl⟩)
 refine EW.o.mono ?_;clear EW E1 E2 q0 q1 q2;rintro e w8 ⟨rfl,nd,rfl⟩;obtain⟨w8,lO⟩: ∃W,W=w7.drewN nd:=⟨_,rfl⟩;rw[<-lO];have B8:Wi (Wf (w.heap.size+2) W w8):=qA (by rw[lO];exact qC B7.o _);have dN:Wi (GBx w8 p W.heap.size A1 c1 (g1,N,es)):=qA (by rw[lO];exact fD.o.below (qC (zae _ _) _));clear lO;obtain⟨q0,q1,q2⟩:=aW.o w8 B8.o;obtain⟨z0,z1,z2⟩:=dN.o.cs;simp only at z0 z1 z2
 obtain⟨⟨r0,r1,r2⟩,eM⟩:=kM.o w8 B8.o;have fh:=eM 0;have fu:=eM 1;have fd:=eM 2;have pD: ¬(t.length:Int)=0:=tO;have Dx: ¬t= []:=fun q=>h0 (by rw[q];rfl);clear eM;by_cases hA:N+t.length-1<=40
 ·by_cases hE:(es.length:Int)+t.length<=120
  ·have af:qBF (g1,N,es) t=true:=decide_eq_true ⟨hA,hE⟩;have HK:Wi (OK=true/\RES=addG (g1,N,es) a b t):=qA (by have:=bH.o.trans af;exact⟨this,by rw[kT.o,this];rfl⟩);clear af;obtain⟨n,rfl⟩: ∃n:Nat,N=(n:Int):=⟨N.toNat,tO⟩;have nZ:srt cmpE es=es:=qLL (qHe aK);have mC:=qA nZ;clear nZ;have Bb:((t.length:Int)==0)=false:=beq_eq_false_iff_ne.2 pD;have rD: ¬40<(n:Int)+t.length-1:=tO;have Jw: ¬120<(es.length:Int)+t.length:=tO;go_wp2_with fail;clear q0 q1 q2 r0 r1 r2 fh fu fd z0 z1 z2 pD Dx Bb rD Jw;go_loopw [11,12] (fun q i wr=> ∃(k:Nat) (L:List EdD) (A2:Option Addr) (c2:Nat),k<=t.length/\i= .int .i64 k/\q= .int .i64 (atP n t.length a b k)/\Wi (L=srt cmpE (es++pthL n a b t k))/\L.length<=es.length+k/\GBx wr p (w.heap.size+2) A2 c2 (g1,((szP n t.length k:Nat):Int),L)/\Wf (w.heap.size+2) W wr) (fun _ i _=>t.length-(intOf i).toNat)
   case atStart=>
    refine⟨0,es,A1,c1,zay _,rfl,rfl,qA ?_,zad _,?_,B8⟩
    ·show es=srt cmpE (es++ [])
     rw[List.append_nil,mC.o]
    ·exact dN.o.mono tO
   case round=>
    obtain⟨k,L,A2,c2,hk,rfl,rfl,hL,oq,dg,bJ⟩:=hrel;obtain⟨wk,rfl⟩: ∃wk:Wg,wk=wr:=⟨_,rfl⟩;have HT:=qA (iF wk bJ);have aS:=qA dg;have fl:=qA bJ;have iq:=dg.lt;obtain⟨z0,z1,z2⟩:=dg.cs;have ig:=dg.fz 1;have gI:=dg.fz 2;simp only at z0 z1 z2
    clear dg bJ;rcases Nat.lt_or_ge k t.length with ac | uy
    ·have nj:=qCO HW.o k ac;obtain⟨bt,off,rfl,Cf,no⟩:=HY.o.at tO;have Fo:Wi (∀W',Wf (w.heap.size+2) W W'->W'.cell? ⟨bt,off+k,none⟩=some (.int .i64 t[k])):=qA fun W' hb=>((BX.trans (hb.mono tO)).cell (p:=⟨bt,off+k,none⟩) Cf).trans (no k ac);have cz:=Fo.o wk fl.o;have jW:Wi (pthL n a b t (k+1)=pthL n a b t k++ [stpE (atP n t.length a b k) t[k] (nxP n t.length b k)]):=qA (by rw[qJn];unfold pthE;rw[qAx ac]);have Ex:=qJX (N:=n) (len:=t.length) (j:=k) HA.o sM.o;have Fm:=qJb (N:=n) (len:=t.length) (j:=k) sM.o;have mX:=qA (qLU (N:=n) ac);have Jt:=qA (fun q=>qPc (N:=n) (len:=t.length) (j:=k) q);have dJ:Wi (nxP n t.length b k=if k+1<t.length then((n+k:Nat):Int) else b):=qA rfl;have Oi:(srt cmpE (es++pthL n a b t k)).length<=es.length+k:=by rw[<-hL];exact oq
     have vF:Wi (atP n t.length a b (k+1)=nxP n t.length b k):=qA rfl;generalize t[k]=z at*;generalize atP n t.length a b k=q at*;generalize nxP n t.length b k=m at*;have HL:Wi (srt cmpE (es++pthL n a b t (k+1))=insF cmpE L (stpE q z m)):=qA (by rw[jW.o,<-zaA,qMj,hL.o]);have fB:Wi ((insF cmpE L (stpE q z m)).length<=es.length+(k+1)):=qA (by have:=qCF (c:=cmpE) L (stpE q z m);omega);clear no HT jW Oi;generalize aE:szP n t.length k=S1 at*;have PV:S1<=n+24:=by rw[<-aE];unfold szP;have:=qDt HW.o;omega
     clear aE;have JP:=qDt HW.o;have SB:p<wk.heap.size:=iq;obtain⟨S2,rE⟩: ∃S,S=szP n t.length (k+1):=⟨_,rfl⟩;rw[<-rE] at mX;have nC:=qA rE;clear rE;have zP:IntKind.i64.wrap (-z)= -z:=by rw[IntKind.wrap_i64];omega
     have Af:IntKind.i64.wrap ((S1:Int)+1)=(S1:Int)+1:=by rw[IntKind.wrap_i64];omega
     have ce:Wi (E64 (stpE q z m)):=qA (by unfold stpE;split<;>exact⟨⟨by simp only;omega,by simp only;omega⟩,⟨by simp only;omega,by simp only;omega⟩,⟨by simp only;omega,by simp only;omega⟩⟩);have Km:L.length<=268435456:=tO;have oY:Wi (L.length<=es.length+k):=qA oq;have dX:=qA hL.o;have Ct:=qA hk;have Vm:=qA (And.intro nj (And.intro Ex Fm));have Dy:I64 ((S2:Nat):Int):=by
      have:S2<=S1+1:=by rw[mX.o];split<;>omega
      exact⟨tO,tO⟩
     have kS:=qA Dy;clear hL oq nj Ex Fm Dy;by_cases h1:k+1<t.length<;>by_cases h2:0<z
     all_goals
      have uQ:=qA (And.intro h1 h2);go_wp2_with fail;have l5:=Ct.o;first
       | (have kE:k+1<t.length:=uQ.o.1
          obtain⟨wn,nt⟩: ∃W,W=wk.setCell ⟨p,1,none⟩ (.int .i64 ((S1:Int)+1)):=⟨_,rfl⟩;rw[<-nt];have HM:Wi (m=(S1:Int)):=qA (by rw[dJ.o,Wm kE];have:=Jt.o kE;omega);have GBN:Wi (GBx wn p (w.heap.size+2) A2 c2 (g1,((S2:Nat):Int),L)):=qA (by
           have e:(S2:Int)=(S1:Int)+1:=by rw[mX.o,Wm kE];rfl
           have hi:=kS.o;rw[e] at hi;rw[nt,e];exact aS.o.sz hi)
          have BN:Wi (Wf (w.heap.size+2) W wn):=qA (by rw[nt];exact fl.o.setCell rp _);clear nt)
       | (have kE: ¬k+1<t.length:=uQ.o.1
          obtain⟨wn,rfl⟩: ∃W,W=wk:=⟨_,rfl⟩;have HM:Wi (m=b):=qA (by rw[dJ.o,Wn kE]);have GBN:Wi (GBx wn p (w.heap.size+2) A2 c2 (g1,((S2:Nat):Int),L)):=qA (by rw[show S2=S1 by rw[mX.o,Wn kE]];exact aS.o);have BN:Wi (Wf (w.heap.size+2) W wn):=qA fl.o)
      clear h1 l5 z0 z1 z2 cz ig gI iq;have z2:=GBN.o.c2;simp only at z2
      have cz:=Fo.o wn BN.o;have km:=GBN.o.lt;have Qe:bt<wn.heap.size:=tO;have f0:=BelW.cell z2 km;have f1:=BelW.cell cz Qe;have Bn: ¬((k:Int)<0):=tO;have gN:(k:Int)<(t.length:Int):=tO;first | (have pT:0<z:=uQ.o.2;clear pT;(refine qBb 9 tK tK tK tK (by rfl) (by rfl) ?_;dsimp only[dum3,dumO];(repeat(go_big_quiet_step (fail)));refine wpQuiet_nil ?_;refine⟨⟨_,fun _=>by rfl⟩,?_⟩;intro wq hw';obtain⟨pq,ae⟩:=hw';have bq:=pq.h;rw[<-ae] at bq;clear ae pq;refine⟨_,_,by rfl,?_⟩)) | (refine qBb 10 tK tK tK tK (by rfl) (by rfl) ?_;dsimp only[dum3,dumO];(repeat(go_big_quiet_step (fail)));refine wpQuiet_nil ?_;refine⟨⟨_,fun _=>by rfl⟩,?_⟩;intro wq hw';obtain⟨pq,ae⟩:=hw';have bq:=pq.h;rw[<-ae] at bq;clear ae pq;refine⟨_,_,by rfl,?_⟩)
      clear f0 f1;try simp only[zP]
      simp only[List.map_toArray,zaJ,List.map_nil,Array.empty_append,Array.append_empty];refine(show Wk Tryz.prog 166 #[.slice A2 L.length c2, .agg #[.int .i64 _, .int .i64 _, .int .i64 _]] wq _ from ?_)
      refine(qRJ (stpE q z m) _ _ _ (GBN.o.ow.below bq).arg ce Km (by unfold stpE;rw[HM.o];have hh:=uQ.o.2;first | rw[Wm tO] | rw[Wn tO])).mono ?_
      rintro e' w9 ⟨r9,rfl,o9,b9⟩;have B9:=qA (bq.trans (b9.mono bq.size));have qx:=(B9.cell (p:=⟨p,2,none⟩) km).trans z2;have qf:=(B9.frozen (p:=⟨p,2,none⟩) km).trans (GBN.fz 2);have s9:wn.heap.size<=w9.heap.size:=B9.o.size;have Sm:=bq.size;have O9:=qA o9;obtain⟨A9,c9,rfl,_⟩:=o9.form;clear o9 b9 z2 cz;refine⟨_,rfl,?_⟩;simp only[zai,zaa,zab,zac];go_wp2;go_roundw
      case rel=>
       exact⟨k+1,insF cmpE L (stpE q z m),A9,c9,by have:=Ct.o;omega,by go_num,by rw[vF.o,HM.o],qA HL.o.symm,fB.o,by rw[<-nC.o];exact(GBN.below B9).put (O9.mono tO) (fun y hy=>by have:=(O9.o.1.lt y hy).1;omega),(BN.trans (B9.mono tO)).setCell rp _⟩
      case measure=>exact tM
    ·have Ga:k=t.length:=tO;subst Ga;obtain⟨⟨r0,r1,r2⟩,eM⟩:=kM.o wk fl.o;have fh:=eM 0;have fu:=eM 1;have fd:=eM 2;have Bf:w.heap.size+1≠p:=tO;clear eM;have hR:RES=(g1,((szP n t.length t.length:Nat):Int),L):=by
      rw[HK.o.2,hL.o];show(g1,(((n:Int).toNat+(t.length-1):Nat):Int),srt cmpE (es++pthL (n:Int).toNat a b t t.length))=_
      rw[zaL,show szP n t.length t.length=n+(t.length-1) by unfold szP;omega]
     have HR:=qA hR;clear hR;go_wp2;obtain⟨e0,e1,e2⟩:=qo (.int .i64 g1) (.int .i64 ((szP n t.length t.length:Nat):Int)) (.slice A2 L.length c2) r0 r1 r2;have bw:Wf w w (((wk.setCell ⟨w.heap.size+1,0,none⟩ (.int .i64 g1)).setCell ⟨w.heap.size+1,1,none⟩ (.int .i64 ((szP n t.length t.length:Nat):Int))).setCell ⟨w.heap.size+1,2,none⟩ (.slice A2 L.length c2)):=qH _ _ _ (BX.trans (fl.mono tO)) tO;have ow:OwE (((wk.setCell ⟨w.heap.size+1,0,none⟩ (.int .i64 g1)).setCell ⟨w.heap.size+1,1,none⟩ (.int .i64 ((szP n t.length t.length:Nat):Int))).setCell ⟨w.heap.size+1,2,none⟩ (.slice A2 L.length c2)) (w.heap.size+2) (.slice A2 L.length c2) L:=aS.o.ow.keep fun b hb=>qI _ _ _ _ _ (by have:=(aS.o.ow.1.lt b hb).1;omega);exact Wj (v:= .tuple #[.agg #[.int .i64 g1, .int .i64 ((szP n t.length t.length:Nat):Int), .slice A2 L.length c2], .bool true]) (by simp[results,Tryz.results182,go_sem,e0,e1,e2]) rfl ⟨_,by rw[HK.o.1],by rw[HR.o];exact⟨.slice A2 L.length c2,rfl,aN,aS.o.i2,ow.mono tO⟩,bw⟩
  ·have af:qBF (g1,N,es) t=false:=decide_eq_false fun q=>hE q.2;have HK:Wi (OK=false/\RES=(g1,N,es)):=qA (by have:=bH.o.trans af;exact⟨this,by rw[kT.o,this];rfl⟩);clear af;go_wp2;obtain⟨e0,e1,e2⟩:=qo (.int .i64 g1) (.int .i64 N) (.slice A1 es.length c1) r0 r1 r2;have bw:Wf w w (((w8.setCell ⟨w.heap.size+1,0,none⟩ (.int .i64 g1)).setCell ⟨w.heap.size+1,1,none⟩ (.int .i64 N)).setCell ⟨w.heap.size+1,2,none⟩ (.slice A1 es.length c1)):=qH _ _ _ (BX.trans (B8.mono tO)) tO;have ow:OwE (((w8.setCell ⟨w.heap.size+1,0,none⟩ (.int .i64 g1)).setCell ⟨w.heap.size+1,1,none⟩ (.int .i64 N)).setCell ⟨w.heap.size+1,2,none⟩ (.slice A1 es.length c1)) W (.slice A1 es.length c1) es:=dN.o.ow.keep fun b hb=>qI _ _ _ _ _ (by have:=(dN.o.ow.1.lt b hb).1;omega);exact Wj (v:= .tuple #[.agg #[.int .i64 g1, .int .i64 N, .slice A1 es.length c1], .bool false]) (by simp[results,Tryz.results182,go_sem,e0,e1,e2]) rfl ⟨_,by rw[HK.o.1],by rw[HK.o.2];exact⟨.slice A1 es.length c1,rfl,aN,aQ,ow.mono tO⟩,bw⟩
 ·have af:qBF (g1,N,es) t=false:=decide_eq_false fun q=>hA q.1;have HK:Wi (OK=false/\RES=(g1,N,es)):=qA (by have:=bH.o.trans af;exact⟨this,by rw[kT.o,this];rfl⟩);clear af;go_wp2;obtain⟨e0,e1,e2⟩:=qo (.int .i64 g1) (.int .i64 N) (.slice A1 es.length c1) r0 r1 r2;have bw:Wf w w (((w8.setCell ⟨w.heap.size+1,0,none⟩ (.int .i64 g1)).setCell ⟨w.heap.size+1,1,none⟩ (.int .i64 N)).setCell ⟨w.heap.size+1,2,none⟩ (.slice A1 es.length c1)):=qH _ _ _ (BX.trans (B8.mono tO)) tO;have ow:OwE (((w8.setCell ⟨w.heap.size+1,0,none⟩ (.int .i64 g1)).setCell ⟨w.heap.size+1,1,none⟩ (.int .i64 N)).setCell ⟨w.heap.size+1,2,none⟩ (.slice A1 es.length c1)) W (.slice A1 es.length c1) es:=dN.o.ow.keep fun b hb=>qI _ _ _ _ _ (by have:=(dN.o.ow.1.lt b hb).1;omega);exact Wj (v:= .tuple #[.agg #[.int .i64 g1, .int .i64 N, .slice A1 es.length c1], .bool false]) (by simp[results,Tryz.results182,go_sem,e0,e1,e2]) rfl ⟨_,by rw[HK.o.1],by rw[HK.o.2];exact⟨.slice A1 es.length c1,rfl,aN,aQ,ow.mono tO⟩,bw⟩
def Lt3 (x:Int):Prop:= -3<=x/\x<=3/\x≠0
theorem Lt3.neg {x:Int} (h:Lt3 x):Lt3 (-x):=⟨by have:=h.2.1;omega,by have:=h.1;omega,by have:=h.2.2;omega⟩
theorem Lt3.b3 {x:Int} (h:Lt3 x): -3<=x/\x<=3:=⟨h.1,h.2.1⟩
theorem Lt3.inv {l x:Int} (h:Lt3 l):invB l x=true↔x= -l:=by
 unfold invB;have:=h.1;have:=h.2.2
 simp
 omega
def actS (es:List EdD) (s:Int×List Int) (x:Int):Int×List Int:=
 match s.2 with
 | []=>if qF es s.1 x<0 then(s.1,[x]) else(qF es s.1 x,[])
 | y::r=>if y= -x then(s.1,r) else(s.1,x::y::r)
def runS (es:List EdD) (s:Int×List Int) (w:List Int):Int×List Int:=w.foldl (actS es) s
def okR (es:List EdD) (v:Int):List Int->Prop
 | []=>True
 | [y]=>qF es v y<0/\Lt3 y
 | y::z::r=>y≠ -z/\Lt3 y/\okR es v (z::r)
def okS (g:GrD) (s:Int×List Int):Prop:=(0<=s.1/\s.1<g.2.1)/\okR g.2.2 s.1 s.2
theorem qOe {es:List EdD} {v y:Int}: ∀ {r:List Int},okR es v (y::r)->okR es v r
 | [],_=>trivial
 | _::_,h=>h.2.2
theorem qQp {es:List EdD} {v y:Int}: ∀ {r:List Int},okR es v (y::r)->Lt3 y
 | [],h=>h.2
 | _::_,h=>h.2.1
theorem qAV (es:List EdD) (s:Int×List Int) (a b:List Int):runS es s (a++b)=runS es (runS es s a) b:=zaw
theorem qDB (es:List EdD) (s:Int×List Int) (x:Int) (b:List Int):runS es s (x::b)=runS es (actS es s x) b:=rfl
section
variable {g:GrD} (hg:grB g=true) (hf:Fol g.2.2)
include hg
theorem qNL {s:Int×List Int} {x:Int} (h:okS g s) (hx:Lt3 x):okS g (actS g.2.2 s x):=by
 obtain⟨v,r⟩:=s;obtain⟨hv,hr⟩:=h;simp only at hv hr
 unfold actS;match r with
 | []=>
   simp only
   rcases qR hg v x with q | q
   ·rw[Wm tO];exact⟨hv,(show qF g.2.2 v x<0 by omega),hx⟩
   ·rw[Wn tO];exact⟨q,trivial⟩
 | y::r=>
   simp only
   by_cases e:y= -x
   ·rw[Wm e];exact⟨hv,qOe hr⟩
   ·rw[Wn e];exact⟨hv,fun q=>e (by have q':x= -y:=q;omega),hx,hr⟩
include hf
theorem qHz {s:Int×List Int} {x:Int} (h:okS g s) (hx:Lt3 x):actS g.2.2 (actS g.2.2 s x) (-x)=s:=by
 obtain⟨v,r⟩:=s;obtain⟨hv,hr⟩:=h;simp only at hv hr
 match r with
 | []=>
   by_cases q:qF g.2.2 v x<0
   ·have e:actS g.2.2 (v,[]) x=(v,[x]):=by unfold actS;simp only;rw[Wm q]
    rw[e];show(if x= - -x then(v,[]) else _)=_
    rw[Wm tO]
   ·have e:actS g.2.2 (v,[]) x=(qF g.2.2 v x,[]):=by unfold actS;simp only;rw[Wn q]
    rw[e];have hb:=qAS hg hf hx.b3 (by omega:0<=qF g.2.2 v x);show(if qF g.2.2 (qF g.2.2 v x) (-x)<0 then _ else(qF g.2.2 (qF g.2.2 v x) (-x),[]))=_
    rw[hb,Wn tO]
 | [y]=>
   by_cases q:y= -x
   ·have e:actS g.2.2 (v,[y]) x=(v,[]):=by unfold actS;simp only;rw[Wm q]
    rw[e];show(if qF g.2.2 v (-x)<0 then(v,[-x]) else _)=_
    rw[<-q,Wm hr.1]
   ·have e:actS g.2.2 (v,[y]) x=(v,[x,y]):=by unfold actS;simp only;rw[Wn q]
    rw[e];show(if x= - -x then(v,[y]) else _)=_
    rw[Wm tO]
 | y::z::r=>
   by_cases q:y= -x
   ·have e:actS g.2.2 (v,y::z::r) x=(v,z::r):=by unfold actS;simp only;rw[Wm q]
    rw[e];show(if z= - -x then(v,r) else(v,-x::z::r))=_
    have:=hr.1
    rw[Wn tO,q]
   ·have e:actS g.2.2 (v,y::z::r) x=(v,x::y::z::r):=by unfold actS;simp only;rw[Wn q]
    rw[e];show(if x= - -x then(v,y::z::r) else _)=_
    rw[Wm tO]
omit hf in
theorem qCQ: ∀ {w:List Int} {s:Int×List Int},okS g s->(∀x∈w,Lt3 x)->okS g (runS g.2.2 s w)
 | [],_,h,_=>h
 | x::w,s,h,hw=>qCQ (w:=w) (qNL hg h (hw x tZ)) fun y hy=>hw y (by simp[hy])
theorem qOs {s:Int×List Int} {acc:List Int} {x:Int} (h:okS g s) (ha: ∀y∈acc,Lt3 y) (hx:Lt3 x):runS g.2.2 s (red1 acc x)=actS g.2.2 (runS g.2.2 s acc) x:=by
 unfold red1;split
 ·rename_i q
  obtain⟨q0,q1⟩:=q;obtain⟨b,l,rfl⟩: ∃b l,acc=b++ [l]:=⟨acc.dropLast,acc.getLast (zaC q0),(List.dropLast_concat_getLast (zaC q0)).symm⟩;rw[qEw] at q1;have hl:=ha l tZ;have e:=(Lt3.inv hl).1 q1;subst e;rw[List.dropLast_concat,qAV];show _=actS g.2.2 (actS g.2.2 _ l) (-l)
  rw[qHz hg hf (qCQ hg h fun y hy=>ha y (by simp[hy])) hl]
 ·rw[qAV];rfl
theorem qLR: ∀ {xs acc:List Int} {s:Int×List Int},okS g s->(∀y∈acc,Lt3 y)->(∀y∈xs,Lt3 y)->runS g.2.2 s (redL acc xs)=runS g.2.2 (runS g.2.2 s acc) xs
 | [],_,_,_,_,_=>rfl
 | x::xs,acc,s,h,ha,hx=>by
   have hr: ∀y∈red1 acc x,Lt3 y:=fun y hy=>by
    unfold red1 at hy;split at hy
    ·exact ha y (zaI _ hy)
    ·rcases zaq.1 hy with q | q
     ·exact ha y q
     ·exact hx y (by simp at q;simp[q])
   show runS g.2.2 s (redL (red1 acc x) xs)=_
   rw[qLR (xs:=xs) h hr fun y hy=>hx y (by simp[hy]),qOs hg hf h ha (hx x tZ)];rfl
theorem qFk {w:List Int} {s:Int×List Int} (h:okS g s) (hw: ∀y∈w,Lt3 y):runS g.2.2 s (redL [] w)=runS g.2.2 s w:=
 qLR hg hf h (fun y hy=>by cases hy) hw
theorem qCW: ∀ {w:List Int} {s:Int×List Int},okS g s->(∀y∈w,Lt3 y)->runS g.2.2 (runS g.2.2 s w) (invN w)=s
 | [],_,_,_=>rfl
 | x::w,s,h,hw=>by
   have e:invN (x::w)=invN w++ [-x]:=by simp[invN]
   have hx:=hw x tZ;rw[e,qAV,qDB g.2.2 s,qCW (w:=w) (qNL hg h hx) fun y hy=>hw y (by simp[hy])];exact qHz hg hf h hx
omit hf
omit hg in
theorem qHN {w:List Int} (hw: ∀y∈w,Lt3 y): ∀y∈redL [] w,Lt3 y:=fun y hy=>by
 have: ∀(xs acc:List Int),(∀y∈acc,Lt3 y)->(∀y∈xs,Lt3 y)-> ∀y∈redL acc xs,Lt3 y:=by
  intro xs;induction xs with
  | nil=>exact fun acc ha _=>ha
  | cons x xs ih=>
    intro acc ha hx;refine ih (red1 acc x) (fun z hz=> ?_) fun z hz=>hx z (by simp[hz]);unfold red1 at hz;split at hz
    ·exact ha z (zaI _ hz)
    ·rcases zaq.1 hz with q | q
     ·exact ha z q
     ·exact hx z (by simp at q;simp[q])
 exact this w [] (fun z hz=>by cases hz) hw y hy
omit hg in
theorem qBd: ∀ {w:List Int} {v:Int},0<=qQ g.2.2 v w->runS g.2.2 (v,[]) w=(qQ g.2.2 v w,[])
 | [],_,_=>rfl
 | x::w,v,h=>by
   rw[qV] at h⊢;split at h
   ·exact absurd h tD
   ·rename_i q
    rw[Wn q,qDB];have e:actS g.2.2 (v,[]) x=(qF g.2.2 v x,[]):=by unfold actS;simp only;rw[Wn q]
    rw[e,qBd h]
omit hg in
theorem qIN: ∀ {w:List Int} {v y:Int} {r:List Int},NoB (y::w)->runS g.2.2 (v,y::r) w=(v,w.reverse++y::r)
 | [],_,_,_,_=>rfl
 | x::w,v,y,r,h=>by
   have e:actS g.2.2 (v,y::r) x=(v,x::y::r):=by unfold actS;simp only;rw[Wn (by have:=h.1;omega)]
   rw[qDB,e,qIN h.2];simp
theorem qEt: ∀ {w:List Int} {v:Int},NoB w->(0<=v/\v<g.2.1)->qQ g.2.2 v w<0->(runS g.2.2 (v,[]) w).2≠ []
 | [],v,_,hv,h=>by exfalso;have:qQ g.2.2 v []=v:=rfl;omega
 | x::w,v,hn,hv,h=>by
   rw[qV] at h;rw[qDB];by_cases q:qF g.2.2 v x<0
   ·have e:actS g.2.2 (v,[]) x=(v,[x]):=by unfold actS;simp only;rw[Wm q]
    rw[e,qIN hn];simp
   ·have e:actS g.2.2 (v,[]) x=(qF g.2.2 v x,[]):=by unfold actS;simp only;rw[Wn q]
    rw[Wn q] at h;rw[e];refine qEt (w:=w) ?_ (by rcases qR hg v x with z | z<;>omega) h;cases w with
    | nil=>trivial
    | cons z w=>exact hn.2
omit hg in
theorem qEH {w:List Int} (h:redP w) (hw: ∀y∈w,Lt3 y):NoB w:=by
 induction w with
 | nil=>trivial
 | cons x w ih=>
   cases w with
   | nil=>trivial
   | cons y w=>
     refine⟨fun e=> ?_,ih (fun i hi=> ?_) fun z hz=>hw z (by simp[hz])⟩
     ·have:=h 0 tZ
      have h2:invB x y=true:=(Lt3.inv (hw x tZ)).2 e;rw[show invB x y=false from this] at h2;cases h2
     ·have:=h (i+1) (by simpa using hi)
      simpa using this
omit hg in
theorem qQG {w:List Int} (hw: ∀y∈w,Lt3 y):NoB (redL [] w):=qEH (qGQ qGU) (qHN hw)
include hf
theorem qKr {w:List Int} (hw: ∀y∈w,Lt3 y) {v:Int} (hv:0<=v/\v<g.2.1) {u:Int} (hu:0<=u):qQ g.2.2 v (redL [] w)=u↔runS g.2.2 (v,[]) w=(u,[]):=by
 rw[<-qFk hg hf (s:=(v,[])) ⟨hv,trivial⟩ hw];constructor
 ·intro e;rw[qBd tO,e]
 ·intro e;rcases Int.lt_or_le (qQ g.2.2 v (redL [] w)) 0 with q | q
  ·have:=qEt hg (qQG hw) hv q
   rw[e] at this;exact absurd rfl this
  ·rw[qBd q] at e;injection e
end
theorem qDw {r:Int} {t:List Int} (h:qAG r t=true): ∀x∈t,Lt3 x:=fun x hx=>by
 obtain⟨i,hi,rfl⟩:=List.mem_iff_getElem.1 hx;have h1:=qCO h i hi;have h2:=qFW h;exact⟨tO,tO,tO⟩
theorem qJx {r:Int} {t:List Int} (h:qAG r t=true) {i:Nat} (hi:i+1<t.length):t[i+1]≠ -t[i]:=fun e=>by
 have h1:=qHp h (i+1) hi;have h2:=qDw h t[i] tZ;unfold okAt at h1;rw[zau,Bool.not_eq_true',Bool.and_eq_false_iff] at h1;rcases h1.2 with q | q
 ·simp at q
 ·rw[show i+1-1=i by omega,qAx tO,qAx hi,(Lt3.inv h2).2 e] at q;cases q
theorem qLy {r:Int} {t:List Int} (h:qAG r t=true):redP t:=fun i hi=>by
 rw[qAx tO,qAx hi,zaM];exact fun e=>qJx h hi ((Lt3.inv (qDw h _ tZ)).1 e)
theorem qFX {r:Int} {t:List Int} (h:qAG r t=true) (n:Nat):qAG r (t.drop n)=true:=by
 refine qEO ?_ (by have:=qDt h;simp;omega) fun i hi=> ?_
 ·have:=qFW h
  exact qm.2 this
 ·rw[List.length_drop] at hi;have h1:=qHp h (n+i) tO;unfold okAt at h1⊢;rw[zau] at h1⊢;rw[qAx tO] at h1;rw[qAx (by simp;omega),zaN];refine⟨h1.1,?_⟩;rcases Nat.eq_zero_or_pos i with rfl | h0
  ·rfl
  ·rw[qAx (by simp;omega),zaN];have h2:=h1.2;rw[qAx tO] at h2;have e:n+(i-1)=n+i-1:=tO;simp only[e,decide_eq_true h0,decide_eq_true (show 0<n+i by omega)] at h2⊢;exact h2
def hE (e:EdD) (p x:Int):Prop:=(e.1=p/\e.2.1=x)\/(e.2.2=p/\e.2.1= -x)
theorem qOr {L:List EdD} (h: ∀a∈L,∀b∈L,∀p x,hE a p x->hE b p x->a=b):Fol (srt cmpE L):=by
 have et:=qAq qz L;unfold Fol;refine et.1.imp_of_mem fun {a b} ha hb gq=> ?_;have ai:a≠b:=fun e=>by
  rw[e,qBc.2 rfl] at gq;omega
 rw[zaM];intro hc;unfold qBX at hc;simp only[zau,Bool.or_eq_true,beq_iff_eq] at hc;obtain⟨hl,rB⟩:=hc;rcases rB with q | q
 ·exact ai (h a ((et.2 a).1 ha) b ((et.2 b).1 hb) a.1 a.2.1 (.inl ⟨rfl,rfl⟩) (.inl ⟨q.symm,hl.symm⟩))
 ·exact ai (h a ((et.2 a).1 ha) b ((et.2 b).1 hb) a.2.2 (-a.2.1) (.inr ⟨rfl,tO⟩) (.inr ⟨q.symm,tO⟩))
theorem qJP {g:GrD} (hf:qO g=true) {e:EdD} (he:e∈g.2.2) {p x:Int} (h:hE e p x):0<=qF g.2.2 p x/\(0<=p/\p<g.2.1):=by
 obtain⟨h1,h2⟩:=qE hf;have hr:=qM h1 he;rcases h with ⟨rfl,rfl⟩ | ⟨rfl,q⟩
 ·rw[qAb h1 h2 he];omega
 ·rw[show x= -e.2.1 by omega,qBo h1 h2 he];omega
theorem qOZ {g:GrD} (hf:qO g=true) {a b:EdD} (ha:a∈g.2.2) (hb:b∈g.2.2) {p x:Int} (h:hE a p x) (h':hE b p x):a=b:=by
 obtain⟨h1,h2⟩:=qE hf;have eY:=qM h1 ha;have fc:=qM h1 hb;rcases h with ⟨q1,q2⟩ | ⟨q1,q2⟩<;>rcases h' with ⟨q3,q4⟩ | ⟨q3,q4⟩
 ·have e1:=qAb h1 h2 ha;have e2:=qAb h1 h2 hb;rw[q1,q2] at e1;rw[q3,q4] at e2;exact Prod.ext (q1.trans q3.symm) (Prod.ext (q2.trans q4.symm) (e1.symm.trans e2))
 ·omega
 ·omega
 ·have e1:=qBo h1 h2 ha;have e2:=qBo h1 h2 hb;rw[q1,show-a.2.1=x by omega] at e1;rw[q3,show-b.2.1=x by omega] at e2;exact Prod.ext (e1.symm.trans e2) (Prod.ext (q2.trans q4.symm) (q1.trans q3.symm))
theorem qGN {u x v p y:Int} (hx:x≠0):hE (stpE u x v) p y↔(p=u/\y=x)\/(p=v/\y= -x):=by
 unfold hE stpE;by_cases h:0<x
 ·rw[Wm h];simp only;omega
 ·rw[Wn h];simp only;omega
section
variable {g:GrD} {u v:Int} {t:List Int}
theorem qFf {N:Nat} {e:EdD}:e∈pthL N u v t t.length↔ ∃j,j<t.length/\e=pthE N u v t j:=by
 unfold pthL;rw[List.mem_map];exact⟨fun ⟨j,h1,h2⟩=>⟨j,zaR.1 h1,h2.symm⟩,fun ⟨j,h1,h2⟩=>⟨j,zaR.2 h1,h2.symm⟩⟩
theorem qKI (h:qBF g t=true):g.2.1+t.length-1<=40/\(g.2.2.length:Int)+t.length<=120:=by
 unfold qBF at h;exact of_decide_eq_true h
theorem qMq (hg:grB g=true) (hu:0<=u/\u<g.2.1) (hv:0<=v/\v<g.2.1) (hw:qAG g.1 t=true) (h0:t.length≠0) {e:EdD} (he:e∈pthL g.2.1.toNat u v t t.length):
  (0<=e.1/\e.1<g.2.1+t.length-1)/\(1<=e.2.1/\e.2.1<=g.1)/\(0<=e.2.2/\e.2.2<g.2.1+t.length-1):=by
 obtain⟨j,hj,rfl⟩:=qFf.1 he;have hN:=(qD hg).2.1;have hx:=qCO hw j hj;have ha:0<=atP g.2.1.toNat t.length u v j/\atP g.2.1.toNat t.length u v j<g.2.1+t.length-1:=by
  cases j with
  | zero=>show 0<=u/\u<_;omega
  | succ j=>rw[qBN];unfold nxP;split<;>omega
 have hn:0<=nxP g.2.1.toNat t.length v j/\nxP g.2.1.toNat t.length v j<g.2.1+t.length-1:=by
  unfold nxP;split<;>omega
 unfold pthE stpE;rw[qAx hj];split<;>(simp only;omega)
theorem qNY (hg:grB g=true) (hu:0<=u/\u<g.2.1) (hv:0<=v/\v<g.2.1) (hw:qAG g.1 t=true) (h0:t.length≠0) (af:qBF g t=true):grB (addG g u v t)=true:=by
 obtain⟨k1,k2⟩:=qKI af;obtain⟨h1,h2,h3,_⟩:=qD hg;have et:=qAq qz (g.2.2++pthL g.2.1.toNat u v t t.length);have hs:(addG g u v t).2.1=g.2.1+t.length-1:=by unfold addG;simp only;omega
 refine qEr h1 (by rw[hs];omega) ?_ et.1 fun e he=> ?_
 ·have:=qCp (c:=cmpE) (g.2.2++pthL g.2.1.toNat u v t t.length)
  rw[zak,qKh] at this;show(srt cmpE (g.2.2++pthL g.2.1.toNat u v t t.length)).length<=120
  omega
 ·rw[hs];rcases zaq.1 ((et.2 e).1 he) with q | q
  ·have:=qM hg q
   exact⟨tO,this.2.1,tO⟩
  ·exact qMq hg hu hv hw h0 q
theorem qQt (hu:0<=u/\u<g.2.1) {j k:Nat} (hj:j<t.length) (hk:k<t.length) (h:atP g.2.1.toNat t.length u v j=atP g.2.1.toNat t.length u v k):j=k:=by
 cases j with
 | zero=>
   cases k with
   | zero=>rfl
   | succ k=>
     rw[qBN,qGV,nxP,Wm hk] at h;omega
 | succ j=>
   cases k with
   | zero=>
     rw[qBN,qGV,nxP,Wm hj] at h;omega
   | succ k=>
     rw[qBN,qBN,nxP,nxP,Wm hj,Wm hk] at h;omega
theorem qMa (hv:0<=v/\v<g.2.1) {j k:Nat} (hj:j<t.length) (hk:k<t.length) (h:nxP g.2.1.toNat t.length v j=nxP g.2.1.toNat t.length v k):j=k:=by
 unfold nxP at h;split at h<;>split at h<;>omega
theorem qOE (hf:qO g=true) (hu:0<=u/\u<g.2.1) (hv:0<=v/\v<g.2.1) (hw:qAG g.1 t=true) (h0:t.length≠0) (af:qBF g t=true)
  (Gg:qF g.2.2 u (t[0]'tO)<0) (hnv:qF g.2.2 v (-(t[t.length-1]'tO))<0) (pr:u=v->t[0]'tO≠ -(t[t.length-1]'tO)):qO (addG g u v t)=true:=by
 have hg:=(qE hf).1;have hN:=(qD hg).2.1;unfold qO;rw[qNY hg hu hv hw h0 af,zaS,decide_eq_true_eq];refine qOr fun a ha b hb p x h h'=> ?_;have old: ∀j,(hj:j<t.length)-> ∀e∈g.2.2,hE (pthE g.2.1.toNat u v t j) p x->hE e p x->False:=fun j hj e he h h'=>by
  have hr:=qJP hf he h';have hx:=qCO hw j hj;unfold pthE at h;rw[qAx hj] at h;rcases(qGN hx.1).1 h with ⟨q1,q2⟩ | ⟨q1,q2⟩
  ·cases j with
   | zero=>
     have:atP g.2.1.toNat t.length u v 0=u:=rfl
     rw[q1,q2,this] at hr;omega
   | succ j=>
     rw[qBN,nxP,Wm hj] at q1;omega
  ·unfold nxP at q1;split at q1
   ·omega
   ·obtain rfl:j=t.length-1:=tO
    rw[q1,q2] at hr;omega
 have mix: ∀j k,(hj:j<t.length)->(hk:k<t.length)->p=atP g.2.1.toNat t.length u v j->x=t[j]->p=nxP g.2.1.toNat t.length v k->x= -t[k]->False:=fun j k hj hk e1 e2 e3 e4=>by
  cases j with
  | zero=>
    have:atP g.2.1.toNat t.length u v 0=u:=rfl
    rw[this] at e1;unfold nxP at e3;split at e3
    ·omega
    ·obtain rfl:k=t.length-1:=tO
     exact pr tO (by rw[<-e2,e4])
  | succ j=>
    rw[qBN,nxP,Wm hj] at e1;unfold nxP at e3;split at e3
    ·obtain rfl:k=j:=tO
     exact qJx hw hj (by rw[<-e2,e4])
    ·omega
 rcases zaq.1 ha with qa | qa<;>rcases zaq.1 hb with qb | qb
 ·exact qOZ hf qa qb h h'
 ·obtain⟨j,hj,rfl⟩:=qFf.1 qb;exact(old j hj a qa h' h).elim
 ·obtain⟨j,hj,rfl⟩:=qFf.1 qa;exact(old j hj b qb h h').elim
 ·obtain⟨j,hj,rfl⟩:=qFf.1 qa;obtain⟨k,hk,rfl⟩:=qFf.1 qb;have xj:=qCO hw j hj;have xk:=qCO hw k hk;unfold pthE at h h';rw[qAx hj] at h;rw[qAx hk] at h';rcases(qGN xj.1).1 h with ⟨q1,q2⟩ | ⟨q1,q2⟩<;>rcases(qGN xk.1).1 h' with ⟨q3,q4⟩ | ⟨q3,q4⟩
  ·rw[qQt hu hj hk (q1.symm.trans q3)]
  ·exact(mix j k hj hk q1 q2 q3 q4).elim
  ·exact(mix k j hk hj q3 q4 q1 q2).elim
  ·rw[qMa hv hj hk (q1.symm.trans q3)]
end
theorem OwE.trP {p base:Nat} {w w':Wg} {v:Wh} {es:List EdD} (h:OwE w base v es) (ht:Tr p (p+1) w w') (hp:p<base):OwE w' base v es:=
 h.keep fun b hb=>ht.block b (h.1.lt b hb).2 (by have:=(h.1.lt b hb).1;omega)
theorem GBx.trP {p q base c:Nat} {A:Option Addr} {g:GrD} {w w':Wg} (h:GBx w q base A c g) (ht:Tr p (p+1) w w') (hp:p<base) (hq:p≠q):GBx w' q base A c g:=
 h.keep ht.size fun b hb=>by
  rcases hb with rfl | hb
  ·exact ht.block _ h.lt tO
  ·exact ht.block b (h.ow.1.lt b hb).2 (by have:=(h.ow.1.lt b hb).1;omega)
theorem CBx.trP {p q:Nat} {x y z:Wh} {w w':Wg} (h:CBx w q x y z) (ht:Tr p (p+1) w w') (hq:p≠q):CBx w' q x y z:=by
 have hp:=ht.block q h.lt tO;exact⟨(zaf (w:=w) hp).trans h.c0,(zaf (w:=w) hp).trans h.c1,(zaf (w:=w) hp).trans h.c2,fun j=>(zan (w:=w) hp).trans (h.fz j),zaK h.lt ht.size⟩
structure DrI (p:Nat) (A:Option Addr) (cap:Nat) (cs:List Int) (w0 W:Wg):Prop where
 tr:Tr p (p+1) w0 W
 cur:Cur p A cap cs W
section
variable {p cap:Nat} {A:Option Addr} {cs:List Int} {w0 W W':Wg}
theorem DrI.refl (h:Cur p A cap cs w0):DrI p A cap cs w0 w0:=⟨⟨rfl,rfl,rfl,zad _,fun _ _ _=>rfl⟩,h⟩
theorem DrI.to (h:DrI p A cap cs w0 W) (ht:Tr p (p+1) W W') (hc:Cur p A cap cs W'):DrI p A cap cs w0 W':=⟨h.tr.trans ht,hc⟩
theorem DrI.bel (h:DrI p A cap cs w0 W) (hb:Wf W W W'):DrI p A cap cs w0 W':=⟨h.tr.bel2 hb,h.cur.below hb⟩
theorem DrI.hi (h:DrI p A cap cs w0 W) (h0:Cur p A cap cs w0) {B:Nat} (hB:w0.heap.size<=B) (hb:Wf B W W'):DrI p A cap cs w0 W':=by
 refine⟨⟨hb.os.trans h.tr.os,hb.tape.trans h.tr.tape,hb.output.trans h.tr.output,zav h.tr.size hb.size,fun k hk hn=>(hb.block k tO).trans (h.tr.block k hk hn)⟩,?_⟩;refine h.cur.tr (lo:=B) (hi:=W.heap.size) ⟨hb.os,hb.tape,hb.output,hb.size,fun k hk hn=>hb.block k tO⟩ (by have:=h0.lt;omega) fun hl b off e=> ?_;obtain⟨b',off',e',_,ac,_⟩:=h0.at_ hl;rw[e] at e';injection e' with e'
 injection e' with e1
 omega
theorem DrI.trans {w1:Wg} (h:DrI p A cap cs w0 w1) (h':DrI p A cap cs w1 W):DrI p A cap cs w0 W:=⟨h.tr.trans h'.tr,h'.cur⟩
end
theorem CBx.setv {w:Wg} {p:Nat} {x y z:Wh} (h:CBx w p x y z) (a b c:Wh):CBx (((w.setCell ⟨p,0,none⟩ a).setCell ⟨p,1,none⟩ b).setCell ⟨p,2,none⟩ c) p a b c:=by
 obtain⟨e0,e1,e2⟩:=qo a b c h.c0 h.c1 h.c2;exact⟨e0,e1,e2,fun j=>by rw[zal,zal,zal];exact h.fz j,by simpa using h.lt⟩
theorem CBx.any {w:Wg} {p q:Nat} {x y z:Wh} (h:CBx w p x y z) (a b c:Wh): ∃x y z,CBx (((w.setCell ⟨q,0,none⟩ a).setCell ⟨q,1,none⟩ b).setCell ⟨q,2,none⟩ c) p x y z:=by
 by_cases e:p=q
 ·subst e;exact⟨_,_,_,h.setv a b c⟩
 ·exact⟨_,_,_,h.other e⟩
theorem qPj {g:GrD} {e:EdD} (hg:grB g=true) (he:(0<=e.1/\e.1<g.2.1)/\(1<=e.2.1/\e.2.1<=g.1)/\(0<=e.2.2/\e.2.2<g.2.1)) (hl:g.2.2.length<120):grB (g.1,g.2.1,insF cmpE g.2.2 e)=true:=by
 obtain⟨h1,h2,h3,h4⟩:=qD hg;have hs:=qHe hg;refine qEr h1 h2 (by have:=qCF (c:=cmpE) g.2.2 e;simp only;omega) ?_ fun x hx=> ?_
 ·simp only;rw[qDx];exact qLd qz e g.2.2 hs
 ·simp only at hx
  rw[qDx] at hx;rcases(qFO e g.2.2 qz x).1 hx with rfl | hx
  ·exact he
  ·exact qM hg hx
theorem qOF {r n:Int} {e:EdD} (hn:1<=n/\n<=40) (h:(0<=e.1/\e.1<n)/\(1<=e.2.1/\e.2.1<=r)/\(0<=e.2.2/\e.2.2<n)):qAh r n e=true:=by
 have hw:wrap64 (n-1)=n-1:=by unfold wrap64;omega
 obtain⟨⟨a1,a2⟩,⟨b1,b2⟩,c1,c2⟩:=h;unfold qAh;rw[hw];simp only[zau];exact⟨⟨qm.2 ⟨tO,tO⟩,qm.2 ⟨tO,tO⟩⟩,qm.2 ⟨tO,tO⟩⟩
theorem qKY (p:Nat) (A:Option Addr) (cap:Nat) (cs:List Int) (w:Wg) (h:Cur p A cap cs w):
  Wk Tryz.prog 225 #[.pointer (some ⟨p,0,none⟩)] w fun e w'=> ∃v g,e= .returned v/\OwG w' w v g/\(grB g=true/\g.2.2.length<=8)/\Cur p A cap cs w'/\Tr p (p+1) w w':=by
 have H:=qA h;have hp:=h.lt;clear h;go_enter Tryz.func225,Tryz.ntmps225
 go_wp2_with fail;obtain⟨W0,ah⟩: ∃W,W=w.alloc (.cells #[.int .i64 0,.int .i64 0, .slice none 0 0] 26):=⟨_,rfl⟩;rw[<-ah];obtain⟨xb,b0,s0⟩:=CBx.new ah;clear ah;have XB:=qA xb;have I0:Wi (DrI p A cap cs w W0):=qA ((DrI.refl H).bel b0);clear xb b0;have RA:Wi (RdI (W0.alloc (.cells #[.int .i64 1, .int .i64 2, .int .i64 2, .int .i64 2, .int .i64 3] 3)) (.slice (some ⟨W0,0,none⟩) 5 5) [1,2,2,2,3]):=qA (qp W0 [1,2,2,2,3] (by intro y hy;simp at hy;rcases hy with rfl | rfl | rfl<;>(unfold I64;omega)) tZ (zad _)).rd;have IA:=qA (I0.bel ((zae _ _).alloc (zad _) (.cells #[.int .i64 1, .int .i64 2, .int .i64 2, .int .i64 2, .int .i64 3] 3)));have XA:=qA (XB.below ((zae _ _).alloc (zad _) (.cells #[.int .i64 1, .int .i64 2, .int .i64 2, .int .i64 2, .int .i64 3] 3)));have dE:(zag (some ⟨W0,0,none⟩) 5 5).ownBlock≠some p:=fun e=>by simp[zah] at e;omega
 rw[<-s0];(with_reducible refine(qBB p A cap cs _ [1,2,2,2,3] _ IA.o.cur RA.o dE tZ tZ).mono ?_)
 rintro e w1 ⟨r,rfl,hr,c1,t1⟩;have I1:=qA (IA.to t1 c1);have X1:=qA (XA.trP t1 tO);have gH:1<=r:=by simp at hr;omega
 have bT:r<=3:=by simp at hr;omega
 clear c1 t1 IA RA hr dE XA I0 XB;go_wp2_with fail;refine(qAC p A cap cs 5 _ I1.cur tO tO).mono ?_
 rintro e w2 ⟨n0,rfl,⟨n1,n2⟩,c2,t2⟩;have I2:=qA (I1.to t2 c2);have X2:=qA (X1.trP t2 tO);obtain⟨N,hN⟩: ∃N,N=1+n0:=⟨_,rfl⟩;have mH:1<=N:=tO;have Qu:N<=5:=tO;have Jc:IntKind.i64.wrap (1+n0)=N:=by rw[IntKind.wrap_i64];omega
 clear c2 t2 I1 X1;go_wp2_with fail;rw[<-hN];obtain⟨W3,lZ⟩: ∃W,W=w2.alloc (.cells #[.int .i64 r,.int .i64 N, .slice none 0 0] 26):=⟨_,rfl⟩;have g3:GBx W3 w2 (w.heap.size+1) none 0 (r,N,[]):=GBx.new (base:=w.heap.size+1) (m:=(r,N,[])) OwE.nil (show I64 r from⟨tO,tO⟩) (show I64 N from⟨tO,tO⟩) lZ;obtain⟨_,b3,s3⟩:=CBx.new lZ;rw[<-lZ];have G3:=qA g3;have I3:=qA (I2.bel b3);have X3:=qA (X2.below b3);have dQ:=X2.o.lt;have oT:grB (r,N,[])=true:=qEr ⟨gH,bT⟩ ⟨mH,by simp only;omega⟩ tZ zaT.nil (fun _ h=>by cases h);have vL:=qA oT;clear lZ g3 b3 I2 X2 hN Jc oT;generalize hb:w2.heap.size=b at*;clear hb;refine(qAC p A cap cs 9 _ I3.cur tO tO).mono ?_
 rintro e w4 ⟨k0,rfl,⟨k1,k2⟩,c4,t4⟩;have I4:=qA (I3.to t4 c4);have X4:=qA (X3.trP t4 tO);have G4:=qA (G3.trP t4 tO tO);clear c4 t4 I3 X3 G3;go_wp2;go_loopw [4,5] (fun nv _ wr=> ∃(k:Int) (g:GrD) (Ar:Option Addr) (cr:Nat),nv= .int .i64 k/\0<=k/\k+g.2.2.length<=8/\grB g=true/\GBx wr b (w.heap.size+1) Ar cr g/\CBx wr w (.int .i64 0) (.int .i64 0) (.slice none 0 0)/\DrI p A cap cs w wr) (fun nv _ _=>(intOf nv).toNat)
 case atStart=>exact⟨k0,_,none,0,rfl,k1,by simp;omega,vL.o,G4.o,X4.o,I4.o⟩
 case round=>
  obtain⟨k,⟨g1,M,es⟩,Ar,cr,rfl,l5,gN,aC,hG,hX,hI⟩:=hrel;have aK:=qA aC;have HG:=qA hG;have HX:=qA hX;have HI:=qA hI;obtain⟨q1,q2,_,_⟩:=qD aC;simp only at q1 q2 gN
  have tH:=hI.tr.size;have bJ:=hG.lt;have FV:Wi (∀W',Tr p (p+1) wr W'->GBx W' b (w.heap.size+1) Ar cr (g1,M,es)):=qA fun W' ht=>hG.trP ht tO tO;obtain⟨x0,x1,x2⟩:=hX.cs;obtain⟨y0,y1,y2⟩:=hG.cs;have f0:=hX.fz 0;have f1:=hX.fz 1;have f2:=hX.fz 2;simp only at y0 y1 y2
  clear aC hG hX hI;by_cases ac:0<k
  ·clear x0 x1 x2 y0 y1 y2 f0 f1 f2;go_wp2_with fail;refine qAj [.val (.pointer (some ⟨p,0,none⟩)), .val (.pointer (some ⟨b,1,none⟩)), .val (.int .i64 M), .pur (fun _ v=> ∃x:Int,v= .int .i64 x/\0<=x/\x<M), .val (.pointer (some ⟨p,0,none⟩)), .val (.pointer (some ⟨b,0,none⟩)), .val (.int .i64 g1), .pur (fun _ v=> ∃x:Int,v= .int .i64 x/\0<=x/\x<g1), .pur (fun _ v=> ∃x:Int,v= .int .i64 x/\1<=x/\x<=g1), .val (.pointer (some ⟨p,0,none⟩)), .val (.pointer (some ⟨b,1,none⟩)), .val (.int .i64 M), .pur (fun _ v=> ∃x:Int,v= .int .i64 x/\0<=x/\x<M), .pur (fun _ v=> ∃x y z:Int,v= .agg #[.int .i64 x, .int .i64 y, .int .i64 z]/\(0<=x/\x<M)/\(1<=y/\y<=g1)/\(0<=z/\z<M)), .mem (fun _ W v=> ∃q x y z,v= .pointer (some ⟨q,0,none⟩)/\wr.heap.size<=q/\CBx W q x y z), .mem (fun us W _=> ∃(q:Nat) (x y z:Int),us 14= .pointer (some ⟨q,0,none⟩)/\wr.heap.size<=q/\CBx W q (.int .i64 x) (.int .i64 y) (.int .i64 z)/\(0<=x/\x<M)/\(1<=y/\y<=g1)/\(0<=z/\z<M))]
    [none,none,none,some (fun W W'=>Tr p (p+1) W W'/\Cur p A cap cs W'),none,none,none,some (fun W W'=>Tr p (p+1) W W'/\Cur p A cap cs W'),none,none,none,none,some (fun W W'=>Tr p (p+1) W W'/\Cur p A cap cs W'),none,some (fun W W'=>Wf W.heap.size W W'),some (fun W W'=> ∃q x y z,wr.heap.size<=q/\W'=((W.setCell ⟨q,0,none⟩ x).setCell ⟨q,1,none⟩ y).setCell ⟨q,2,none⟩ z)]
    (DrI p A cap cs wr) [(14,3),(14,7),(14,12),(14,15)] tK tK (by rfl) (by rfl)
    ((DrI.refl HI.cur).bel (zae _ _).drew)
    ⟨fun _ _ h t=>h.to t.1 t.2,fun _ _ h t=>h.to t.1 t.2,fun _ _ h t=>h.to t.1 t.2,fun _ _ h t=>h.bel t,fun _ _ h ⟨q,x,y,z,hq,e⟩=>by rw[e];exact h.hi HI.o.cur (zad _) (qH x y z (zae _ _) hq),trivial⟩
    ⟨fun _ _ _ _ _ _ t ⟨q,x,y,z,e,hq,c⟩=>⟨q,x,y,z,e,hq,c.trP t.1 tO⟩,fun _ _ _ _ _ _ t ⟨q,x,y,z,e,hq,c⟩=>⟨q,x,y,z,e,hq,c.trP t.1 tO⟩,fun _ _ _ _ _ _ t ⟨q,x,y,z,e,hq,c⟩=>⟨q,x,y,z,e,hq,c.trP t.1 tO⟩,fun _ _ _ _ _ _ ⟨q',a,b,c',_,e'⟩ ⟨q,x,y,z,e,hq,c⟩=>(by rw[e'];obtain⟨x',y',z',h'⟩:=c.any (q:=q') a b c';exact⟨q,x',y',z',e,hq,h'⟩),trivial⟩ (fun vs=> ?_)
   refine⟨fun W' _ _ hI hD hK=> ?_,?_⟩
   ·skip;go_simp;exact hK.o _ _ rfl rfl
   simp only[zai,zaa,zab,zac,Sg.pick,Nat.reduceAdd]
   iterate 2
    refine⟨fun W' _ _ hI hD hK=> ?_,?_⟩
    ·have z1:=(FV W' hI.tr).c1;go_simp;exact hK.o _ _ rfl rfl
    simp only[zai,zaa,zab,zac,Sg.pick,Nat.reduceAdd]
   refine⟨fun W' _ _ hI hD hK=> ?_,?_⟩
   ·skip;go_simp;(refine(qAC p A cap cs M _ hI.cur tO tO).mono ?_;rintro e w' ⟨x,rfl,hx,c,t⟩;exact hK.o _ _ ⟨t,c⟩ ⟨x,rfl,hx⟩)
   simp only[zai,zaa,zab,zac,Sg.pick,Nat.reduceAdd];refine⟨fun W' _ _ hI hD hK=> ?_,?_⟩
   ·skip;go_simp;exact hK.o _ _ rfl rfl
   simp only[zai,zaa,zab,zac,Sg.pick,Nat.reduceAdd]
   iterate 2
    refine⟨fun W' _ _ hI hD hK=> ?_,?_⟩
    ·have z1:=(FV W' hI.tr).c0;go_simp;exact hK.o _ _ rfl rfl
    simp only[zai,zaa,zab,zac,Sg.pick,Nat.reduceAdd]
   refine⟨fun W' _ _ hI hD hK=> ?_,?_⟩
   ·skip;go_simp;(refine(qAC p A cap cs g1 _ hI.cur tO tO).mono ?_;rintro e w' ⟨x,rfl,hx,c,t⟩;exact hK.o _ _ ⟨t,c⟩ ⟨x,rfl,hx⟩)
   simp only[zai,zaa,zab,zac,Sg.pick,Nat.reduceAdd];refine⟨fun W' _ _ hI hD hK=> ?_,?_⟩
   ·obtain⟨x7,e7,h7⟩:=(show ∃x:Int,vs 7= .int .i64 x/\0<=x/\x<g1 from hD.o 7 tK);have UG:IntKind.i64.wrap (1+x7)=1+x7:=(by rw[IntKind.wrap_i64];omega);rw[e7] at hK⊢;go_simp;exact hK.o _ _ rfl ⟨1+x7,rfl,tO,tO⟩
   simp only[zai,zaa,zab,zac,Sg.pick,Nat.reduceAdd];refine⟨fun W' _ _ hI hD hK=> ?_,?_⟩
   ·skip;go_simp;exact hK.o _ _ rfl rfl
   simp only[zai,zaa,zab,zac,Sg.pick,Nat.reduceAdd]
   iterate 2
    refine⟨fun W' _ _ hI hD hK=> ?_,?_⟩
    ·have z1:=(FV W' hI.tr).c1;go_simp;exact hK.o _ _ rfl rfl
    simp only[zai,zaa,zab,zac,Sg.pick,Nat.reduceAdd]
   refine⟨fun W' _ _ hI hD hK=> ?_,?_⟩
   ·skip;go_simp;(refine(qAC p A cap cs M _ hI.cur tO tO).mono ?_;rintro e w' ⟨x,rfl,hx,c,t⟩;exact hK.o _ _ ⟨t,c⟩ ⟨x,rfl,hx⟩)
   simp only[zai,zaa,zab,zac,Sg.pick,Nat.reduceAdd];refine⟨fun W' _ _ hI hD hK=> ?_,?_⟩
   ·obtain⟨x3,e3,h3⟩:=(show ∃x:Int,vs 3= .int .i64 x/\0<=x/\x<M from hD.o 3 tK);obtain⟨x8,e8,h8⟩:=(show ∃x:Int,vs 8= .int .i64 x/\1<=x/\x<=g1 from hD.o 8 tK);obtain⟨RP,Fg,TB⟩:=(show ∃x:Int,vs 12= .int .i64 x/\0<=x/\x<M from hD.o 12 tK);rw[e3,e8,Fg] at hK⊢;go_simp;exact hK.o _ _ rfl ⟨x3,x8,RP,rfl,h3,h8,TB⟩
   simp only[zai,zaa,zab,zac,Sg.pick,Nat.reduceAdd];refine⟨fun W' _ _ hI hD hK=> ?_,?_⟩
   ·skip;go_simp;exact hK.o _ _ ((zae _ _).alloc (zad _) _) ⟨_,_,_,_,rfl,hI.tr.size,(CBx.new rfl).1⟩
   simp only[zai,zaa,zab,zac,Sg.pick,Nat.reduceAdd];refine⟨fun W' _ _ hI hD hK=> ?_,?_⟩
   ·obtain⟨q,a0,a1,a2,yI,hq,hc⟩:=(show ∃q x y z,vs 14= .pointer (some ⟨q,0,none⟩)/\wr.heap.size<=q/\CBx W' q x y z from hD.o 14 tK);obtain⟨x,y,z,Fq,hx⟩:=(show ∃x y z:Int,vs 13= .agg #[.int .i64 x, .int .i64 y, .int .i64 z]/\(0<=x/\x<M)/\(1<=y/\y<=g1)/\(0<=z/\z<M) from hD.o 13 tK);rw[Fq,yI] at hK⊢;obtain⟨z0,z1,z2⟩:=hc.cs;have u0:=hc.fz 0;have u1:=hc.fz 1;have u2:=hc.fz 2;go_simp;exact hK.o undef _ ⟨q,_,_,_,hq,rfl⟩ ⟨q,x,y,z,(qBn tK).trans yI,hq,hc.setv _ _ _,hx⟩
   simp only[zai,zaa,zab,zac,Sg.pick,Nat.reduceAdd];intro W9 hI9 hD9;obtain⟨q,x,y,z,yI,hq,hc,hx,hy,hz⟩:=(show ∃(q:Nat) (x y z:Int),qBw _ 15 vs 14= .pointer (some ⟨q,0,none⟩)/\wr.heap.size<=q/\CBx W9 q (.int .i64 x) (.int .i64 y) (.int .i64 z)/\(0<=x/\x<M)/\(1<=y/\y<=g1)/\(0<=z/\z<M) from hD9.o 15 tD);rw[qBn tK] at yI;rw[yI];have G9:=qA (FV W9 hI9.tr);have X9:=qA (HX.trP hI9.tr tO);have Eg:=qA (qGi (.agg #[.int .i64 g1, .int .i64 M, .slice Ar es.length cr]) (g1,M,es) (x,y,z) W9 G9.arg ⟨⟨by simp only;omega,by simp only;omega⟩,⟨by simp only;omega,by simp only;omega⟩,⟨by simp only;omega,by simp only;omega⟩⟩ aK.o (qOF q2 ⟨hx,hy,hz⟩) (by simp only;omega));have JO:Wi (grB (g1,M,insF cmpE es (x,y,z))=true):=qA (qPj aK ⟨hx,hy,hz⟩ (by simp only;omega));have ud:(insF cmpE es (x,y,z)).length<=es.length+1:=qCF (c:=cmpE) es (x,y,z);unfold edV at Eg;simp only at Eg
   generalize insF cmpE es (x,y,z)=bO at*;generalize decide (es.length<bO.length)=dd at*;obtain⟨z0,z1,z2⟩:=G9.o.cs;obtain⟨v0,v1,v2⟩:=hc.cs;simp only at z0 z1 z2
   clear hD9 yI;go_wp2_with fail;refine Eg.o.mono ?_;rintro e cG ⟨M7,rfl,xD,ec⟩;obtain⟨UD,rfl,aN,aQ,sX⟩:=xD;obtain⟨Sx,TL,rfl,_⟩:=sX.form;simp only at sX aN aQ⊢
   clear z0 z1 z2 v0 v1 v2 Eg;have wX:=qA (G9.below ec);have Hf:=qA (X9.below ec);have Io:=qA (HI.trans (hI9.bel ec));have lJ:=hI9.o.tr.size;have uz:=qA sX;obtain⟨z0,z1,z2⟩:=wX.o.cs;have f0:=wX.o.fz 0;have f1:=wX.o.fz 1;have f2:=wX.o.fz 2;simp only at z0 z1 z2
   have iq:IntKind.i64.wrap (k-1)=k-1:=by rw[IntKind.wrap_i64];omega
   clear sX ec hI9;go_wp2;go_roundw
   case rel=>
    refine⟨k-1,(g1,M,bO),Sx,TL,by go_num,tO,by simp only;omega,JO.o,?_,Hf.o.other tO,?_⟩
    ·exact(wX.o.set (m:=(g1,M,bO)) uz (fun b hb=>by have:=(uz.o.1.lt b hb).1;omega) aN aQ).mono tO
    ·exact Io.o.hi H.o (zad _) (qH _ _ _ (zae _ _) tO)
   case measure=>exact tM
  ·go_wp2;have XF:=HX.o.setv (.int .i64 g1) (.int .i64 M) (.slice Ar es.length cr);obtain⟨e0,e1,e2⟩:=XF.cs;have IF:=HI.o.hi H.o (zad _) (qH (.int .i64 g1) (.int .i64 M) (.slice Ar es.length cr) (zae _ _) (zad w));exact Wj (v:= .agg #[.int .i64 g1, .int .i64 M, .slice Ar es.length cr]) (by simp[results,Tryz.results225,go_sem,e0,e1,e2]) rfl ⟨_,rfl,g1,M,es,⟨_,rfl,HG.o.i1,HG.o.i2,(HG.o.ow.keep fun c hc=>qI _ _ _ _ _ (by have:=(HG.o.ow.1.lt c hc).1;omega)).mono tO⟩,⟨aK,tO⟩,IF.cur,IF.tr⟩
theorem GBx.rk {w:Wg} {p base:Nat} {A:Option Addr} {c:Nat} {g:GrD} (h:GBx w p base A c g) {z:Int} (hz:I64 z):GBx (w.setCell ⟨p,0,none⟩ (.int .i64 z)) p base A c (z,g.2.1,g.2.2):=
 ⟨zar _ _ _ h.c0,(zaj _ _ _ _ tZ).trans h.c1,(zaj _ _ _ _ tZ).trans h.c2,fun j=>by rw[zal];exact h.fz j,h.ow.keep fun b hb=>zam _ _ _ b (h.ne b hb),h.ne,hz,h.i2,by simpa using h.lt⟩
theorem CBx.one {w:Wg} {p q j:Nat} {x y z v:Wh} (h:CBx w p x y z) (ai:p≠q):CBx (w.setCell ⟨q,j,none⟩ v) p x y z:=by
 have hp:(w.setCell ⟨q,j,none⟩ v).heap[p]? =w.heap[p]? :=zam _ _ _ p ai;exact⟨(zaf (w:=w) hp).trans h.c0,(zaf (w:=w) hp).trans h.c1,(zaf (w:=w) hp).trans h.c2,fun j=>(zan (w:=w) hp).trans (h.fz j),by simpa using h.lt⟩
theorem CBx.set2 {w:Wg} {p:Nat} {x y z:Wh} (h:CBx w p x y z) (v:Wh):CBx (w.setCell ⟨p,2,none⟩ v) p x y v:=
 ⟨(zaj _ _ _ _ tZ).trans h.c0,(zaj _ _ _ _ tZ).trans h.c1,zar _ _ _ h.c2,fun j=>by rw[zal];exact h.fz j,by simpa using h.lt⟩
theorem CBx.grown {w w':Wg} {p:Nat} {x y z:Wh} {row:Option Nat} (h:CBx w p x y z) (hg:w.grownBy w' row) (hr: ∀b,row=some b->b≠p):CBx w' p x y z:=by
 have hp:=hg.block p h.lt fun e=>hr p e.symm rfl;exact⟨(zaf (w:=w) hp).trans h.c0,(zaf (w:=w) hp).trans h.c1,(zaf (w:=w) hp).trans h.c2,fun j=>(zan (w:=w) hp).trans (h.fz j),zaK h.lt hg.size⟩
theorem CBx.edC {w:Wg} {p:Nat} {x y z:Int} (h:CBx w p (.int .i64 x) (.int .i64 y) (.int .i64 z)): ∀j u,(edC (x,y,z))[j]? =some u->w.cell? ⟨p,j,none⟩=some u
 | 0,u,e=>by rw[h.c0];exact e
 | 1,u,e=>by rw[h.c1];exact e
 | 2,u,e=>by rw[h.c2];exact e
 | n+3,u,e=>by simp[Go.Proofs.YtnjpoljbagfdnaaGreat.edC] at e
theorem DrI.grow {p cap:Nat} {A:Option Addr} {cs:List Int} {w0 W W':Wg} {row:Option Nat} (h:DrI p A cap cs w0 W) (h0:Cur p A cap cs w0) (hg:W.grownBy W' row) (hr: ∀b,row=some b->w0.heap.size<=b):DrI p A cap cs w0 W':=⟨h.tr.grow2 hg hr,h.cur.new h0 hg hr⟩
theorem qIk (p:Nat) (A:Option Addr) (cap:Nat) (cs:List Int) (w:Wg) (h:Cur p A cap cs w):
  Wk Tryz.prog 185 #[.pointer (some ⟨p,0,none⟩)] w fun e w'=> ∃v g,e= .returned v/\OwG w' w v g/\g.2.2.length<=9/\Cur p A cap cs w'/\Tr p (p+1) w w':=by
 have H:=qA h;have hp:=h.lt;clear h;go_enter Tryz.func185,Tryz.ntmps185
 go_wp2_with fail;obtain⟨W0,ah⟩: ∃W,W=w.alloc (.cells #[.int .i64 0,.int .i64 0, .slice none 0 0] 26):=⟨_,rfl⟩;rw[<-ah];obtain⟨xb,b0,s0⟩:=CBx.new ah;clear ah;have XB:=qA xb;have I0:Wi (DrI p A cap cs w W0):=qA ((DrI.refl H).bel b0);clear xb b0;refine(qKY p A cap cs _ I0.cur).mono ?_
 rintro e w1 ⟨v1,⟨g1,M,es⟩,rfl,⟨s1,rfl,aN,aQ,dM⟩,⟨_,bk⟩,c1,t1⟩;obtain⟨A1,ak,rfl,_⟩:=dM.form;simp only at aN aQ dM bk⊢
 have I1:=qA (I0.to t1 c1);have X1:=qA (XB.trP t1 tO);have aE:=t1.size;have jq:=qA dM;clear c1 t1 dM I0 XB;go_wp2_with fail;obtain⟨W2,aT⟩: ∃W,W=w1.alloc (.cells #[.int .i64 g1,.int .i64 M, .slice A1 es.length ak] 26):=⟨_,rfl⟩;have g2:=GBx.new (m:=(g1,M,es)) jq.o aN aQ aT;obtain⟨_,b2,s2⟩:=CBx.new aT;rw[<-aT];rw[s0] at g2;have G2:=qA g2;have I2:=qA (I1.bel b2);have X2:=qA (X1.below b2);have tY:w.heap.size<w1.heap.size:=X1.o.lt;clear aT g2 b2 I1 X1 jq;generalize hb:w1.heap.size=b at*;clear hb;refine(qAC p A cap cs 14 _ I2.cur tO tO).mono ?_
 rintro e w3 ⟨y,rfl,⟨y0,y1⟩,c3,t3⟩;have I3:=qA (I2.to t3 c3);have X3:=qA (X2.trP t3 tO);have G3:=qA (G2.trP t3 tO tO);clear c3 t3 I2 X2 G2;have Q3:y=0\/y=1\/y=2\/(¬y=0/\ ¬y=1/\ ¬y=2):=tO;rcases Q3 with rfl | rfl | rfl | ⟨n0,n1,n2⟩
 ·skip;have RA:Wi (RdI (w3.alloc (.cells #[.int .i64 (-1), .int .i64 0, .int .i64 1, .int .i64 41] 3)) (.slice (some ⟨w3,0,none⟩) 4 4) [-1,0,1,41]):=qA (qp w3 [-1,0,1,41] (by intro y hy;simp at hy;unfold I64;omega) tZ (zad _)).rd;have IA:=qA (I3.bel ((zae _ _).alloc (zad _) (.cells #[.int .i64 (-1), .int .i64 0, .int .i64 1, .int .i64 41] 3)));have XA:=qA (X3.below ((zae _ _).alloc (zad _) (.cells #[.int .i64 (-1), .int .i64 0, .int .i64 1, .int .i64 41] 3)));have GA:=qA (G3.below ((zae _ _).alloc (zad _) (.cells #[.int .i64 (-1), .int .i64 0, .int .i64 1, .int .i64 41] 3)));have dE:(zag (some ⟨w3,0,none⟩) 4 4).ownBlock≠some p:=fun e=>by simp[zah] at e;have:=I3.o.tr.size;omega
  go_wp2_with fail;(with_reducible refine(qBB p A cap cs _ [-1,0,1,41] _ IA.o.cur RA.o dE tZ tZ).mono ?_)
  rintro e w4 ⟨z,rfl,hz,c4,t4⟩;have IE:I64 z:=by simp at hz;unfold I64;omega
  have I4:=qA (IA.to t4 c4);have X4:=qA (XA.trP t4 tO);have G4:=qA (GA.trP t4 tO tO);clear c4 t4 hz IA XA GA RA dE;obtain⟨y0,y1,y2⟩:=G4.o.cs;simp only at y0 y1 y2
  have x0:=X4.o.c0;have f0:=X4.o.fz 0;have x1:=X4.o.c1;have f1:=X4.o.fz 1;have x2:=X4.o.c2;have f2:=X4.o.fz 2;have q0:=G4.o.fz 0;have q1:=G4.o.fz 1;go_wp2;have bK:GBx (w4.setCell ⟨b,1,none⟩ (.int .i64 z)) b (w.heap.size+1) A1 ak (g1,z,es):=G4.o.sz IE;have X5:=qA (X4.o.one (q:=b) (j:=1) (v:= .int .i64 z) tO);have G5:=qA bK;have I5:=qA (I4.o.hi H (zad _) ((zae w w4).setCell (p:=⟨b,1,none⟩) (by show w.heap.size<=b;omega) (.int .i64 z)));have XF:=X5.o.setv (.int .i64 g1) (.int .i64 z) (.slice A1 es.length ak);obtain⟨e0,e1,e2⟩:=XF.cs;have IF:=I5.o.hi H.o (zad _) (qH (.int .i64 g1) (.int .i64 z) (.slice A1 es.length ak) (zae _ _) (zad w));exact Wj (v:= .agg #[.int .i64 g1, .int .i64 z, .slice A1 es.length ak]) (by simp[results,Tryz.results185,go_sem,e0,e1,e2]) rfl ⟨_,(g1,z,es),rfl,⟨_,rfl,G5.o.i1,G5.o.i2,(G5.o.ow.keep fun c hc=>qI _ _ _ _ _ (by have:=(G5.o.ow.1.lt c hc).1;omega)).mono tO⟩,by simp only;omega,IF.cur,IF.tr⟩
 ·skip;have RA:Wi (RdI (w3.alloc (.cells #[.int .i64 0, .int .i64 1, .int .i64 4] 3)) (.slice (some ⟨w3,0,none⟩) 3 3) [0,1,4]):=qA (qp w3 [0,1,4] (by intro y hy;simp at hy;unfold I64;omega) tZ (zad _)).rd;have IA:=qA (I3.bel ((zae _ _).alloc (zad _) (.cells #[.int .i64 0, .int .i64 1, .int .i64 4] 3)));have XA:=qA (X3.below ((zae _ _).alloc (zad _) (.cells #[.int .i64 0, .int .i64 1, .int .i64 4] 3)));have GA:=qA (G3.below ((zae _ _).alloc (zad _) (.cells #[.int .i64 0, .int .i64 1, .int .i64 4] 3)));have dE:(zag (some ⟨w3,0,none⟩) 3 3).ownBlock≠some p:=fun e=>by simp[zah] at e;have:=I3.o.tr.size;omega
  go_wp2_with fail;(with_reducible refine(qBB p A cap cs _ [0,1,4] _ IA.o.cur RA.o dE tZ tZ).mono ?_)
  rintro e w4 ⟨z,rfl,hz,c4,t4⟩;have IE:I64 z:=by simp at hz;unfold I64;omega
  have I4:=qA (IA.to t4 c4);have X4:=qA (XA.trP t4 tO);have G4:=qA (GA.trP t4 tO tO);clear c4 t4 hz IA XA GA RA dE;obtain⟨y0,y1,y2⟩:=G4.o.cs;simp only at y0 y1 y2
  have x0:=X4.o.c0;have f0:=X4.o.fz 0;have x1:=X4.o.c1;have f1:=X4.o.fz 1;have x2:=X4.o.c2;have f2:=X4.o.fz 2;have q0:=G4.o.fz 0;have q1:=G4.o.fz 1;go_wp2;have bK:GBx (w4.setCell ⟨b,0,none⟩ (.int .i64 z)) b (w.heap.size+1) A1 ak (z,M,es):=G4.o.rk IE;have X5:=qA (X4.o.one (q:=b) (j:=0) (v:= .int .i64 z) tO);have G5:=qA bK;have I5:=qA (I4.o.hi H (zad _) ((zae w w4).setCell (p:=⟨b,0,none⟩) (by show w.heap.size<=b;omega) (.int .i64 z)));have XF:=X5.o.setv (.int .i64 z) (.int .i64 M) (.slice A1 es.length ak);obtain⟨e0,e1,e2⟩:=XF.cs;have IF:=I5.o.hi H.o (zad _) (qH (.int .i64 z) (.int .i64 M) (.slice A1 es.length ak) (zae _ _) (zad w));exact Wj (v:= .agg #[.int .i64 z, .int .i64 M, .slice A1 es.length ak]) (by simp[results,Tryz.results185,go_sem,e0,e1,e2]) rfl ⟨_,(z,M,es),rfl,⟨_,rfl,G5.o.i1,G5.o.i2,(G5.o.ow.keep fun c hc=>qI _ _ _ _ _ (by have:=(G5.o.ow.1.lt c hc).1;omega)).mono tO⟩,by simp only;omega,IF.cur,IF.tr⟩
 ·go_wp2_with fail;have Jn:Wi (∀c,(zag A1 es.length ak).ownBlock=some c->w.heap.size+1<=c/\c<w3.heap.size):=qA fun c hc=>G3.o.ow.1.lt c hc;have rK:=G3.o.lt;have ul:=qA G3.o.ne;refine qAm [.val (.pointer (some ⟨b,2,none⟩)), .val (.slice A1 es.length ak), .val (.pointer (some ⟨p,0,none⟩)), .pur (fun _ v=> ∃x:Int,v= .int .i64 x/\0<=x/\x<4), .pur (fun _ v=> ∃x:Int,v= .agg #[.int .i64 x, .int .i64 1, .int .i64 0]/\0<=x/\x<4), .mem (fun _ W v=> ∃(q:Nat) (x:Int),v= .slice (some ⟨q,0,none⟩) 1 1/\w3.heap.size<=q/\CBx W q (.int .i64 x) (.int .i64 1) (.int .i64 0)/\0<=x/\x<4),
    .mem (fun _ W v=> ∃A' c' ms,v= .slice A' ms.length c'/\ms.length=es.length+1/\OwE W (w.heap.size+1) v ms/\(∀c,v.ownBlock=some c->c≠b)/\ ∃z,CBx W b (.int .i64 g1) (.int .i64 M) z), .val (.pointer (some ⟨b,2,none⟩)), .mem (fun _ W _=> ∃A' c' ms,ms.length=es.length+1/\GBx W b (w.heap.size+1) A' c' (g1,M,ms))]
   [none,none,none,some (fun W W'=>Tr p (p+1) W W'/\Cur p A cap cs W'),none,some (fun W W'=>Wf W.heap.size W W'),some (fun W W'=>W.grownBy W' (zag A1 es.length ak).ownBlock),none,some (fun W W'=> ∃v,W'=W.setCell ⟨b,2,none⟩ v)]
   (fun W=>DrI p A cap cs w W/\w3.heap.size<=W.heap.size/\CBx W w (.int .i64 0) (.int .i64 0) (.slice none 0 0)) (fun W=>GBx W b (w.heap.size+1) A1 ak (g1,M,es)) [6,8] [(5,6),(5,8),(6,8)] tK tK (by rfl) (by rfl)
   ⟨I3.bel (zae _ _).drew,zad _,X3.below (zae _ _).drew⟩ (G3.below (zae _ _).drew)
   ⟨fun _ _ h t=>⟨h.1.to t.1 t.2,zav h.2.1 t.1.size,h.2.2.trP t.1 tO⟩,fun _ _ h t=>⟨h.1.bel t,zav h.2.1 t.size,h.2.2.below t⟩,fun _ _ h t=>⟨h.1.grow H t (fun c hc=>by have:=(Jn c hc).1;omega),zav h.2.1 t.size,h.2.2.grown t (fun c hc=>by have:=(Jn c hc).1;omega)⟩,fun W _ h ⟨v,e⟩=>by subst e;exact⟨h.1.hi H (zad _) ((zae w W).setCell (p:=⟨b,2,none⟩) (by show w.heap.size<=b;omega) v),by simpa using h.2.1,h.2.2.one tO⟩,trivial⟩
   ⟨.inr fun _ _ _ h t=>h.trP t.1 tO tO, .inr fun _ _ _ h t=>h.below t, .inl tZ, .inl tZ,trivial⟩
   ⟨fun _ _ _ _ _ _ t ⟨q,x,e,hq,c,hx⟩=>⟨q,x,e,hq,c.grown t (fun c' jw=>by have:=(Jn c' jw).2;omega),hx⟩,fun _ _ _ _ _ _ ⟨u,t⟩ ⟨q,x,e,hq,c,hx⟩=>by subst t;exact⟨q,x,e,hq,c.one tO,hx⟩,fun _ _ _ _ _ _ ⟨u,t⟩ ⟨A',c',e,hv,hl,o,hn,z,c⟩=>by subst t;exact⟨A',c',e,hv,hl,o.keep fun d hd=>zam _ _ _ d (hn d hd),hn,_,c.set2 u⟩,trivial⟩ (fun vs=> ?_)
  refine⟨fun W' _ _ hI hD hK=> ?_,?_⟩
  ·skip;go_simp;exact hK.o _ _ rfl rfl
  simp only[zai,zaa,zab,zac,Sg.pick,Nat.reduceAdd];refine⟨fun W' _ _ hI hD hK=> ?_,?_⟩
  ·have z2:=(hI.o.2 tK).c2;go_simp;exact hK.o _ _ rfl rfl
  simp only[zai,zaa,zab,zac,Sg.pick,Nat.reduceAdd];refine⟨fun W' _ _ hI hD hK=> ?_,?_⟩
  ·skip;go_simp;exact hK.o _ _ rfl rfl
  simp only[zai,zaa,zab,zac,Sg.pick,Nat.reduceAdd];refine⟨fun W' _ _ hI hD hK=> ?_,?_⟩
  ·skip;go_simp;(refine(qAC p A cap cs 4 _ hI.o.1.1.cur tO tO).mono ?_;rintro e w' ⟨x,rfl,hx,c,t⟩;exact hK.o _ _ ⟨t,c⟩ ⟨x,rfl,hx⟩)
  simp only[zai,zaa,zab,zac,Sg.pick,Nat.reduceAdd];refine⟨fun W' _ _ hI hD hK=> ?_,?_⟩
  ·obtain⟨x3,e3,h3⟩:=(show ∃x:Int,vs 3= .int .i64 x/\0<=x/\x<4 from hD.o 3 tK);rw[e3] at hK⊢;go_simp;exact hK.o _ _ rfl ⟨x3,rfl,h3⟩
  simp only[zai,zaa,zab,zac,Sg.pick,Nat.reduceAdd];refine⟨fun W' _ _ hI hD hK=> ?_,?_⟩
  ·obtain⟨x4,e4,h4⟩:=(show ∃x:Int,vs 4= .agg #[.int .i64 x, .int .i64 1, .int .i64 0]/\0<=x/\x<4 from hD.o 4 tK);rw[e4] at hK⊢;go_simp;exact hK.o _ _ ((zae _ _).alloc (zad _) _) ⟨_,x4,rfl,hI.o.1.2.1,(CBx.new rfl).1,h4⟩
  simp only[zai,zaa,zab,zac,Sg.pick,Nat.reduceAdd];refine⟨fun W' _ _ hI hD hK=> ?_,?_⟩
  ·obtain⟨q5,x5,e5,Dj,Ry,VI⟩:=(show ∃(q:Nat) (x:Int),vs 5= .slice (some ⟨q,0,none⟩) 1 1/\w3.heap.size<=q/\CBx W' q (.int .i64 x) (.int .i64 1) (.int .i64 0)/\0<=x/\x<4 from hD.o 5 tK);rw[e5] at hK⊢;have hG:=hI.o.2 tK;refine qBs (.tmp 23) (.tmp 27) rfl (w.heap.size+1) _ es hG.ow rfl q5 (x5,1,0) rfl Ry.edC ⟨⟨by simp only;omega,by simp only;omega⟩,⟨by simp only;omega,by simp only;omega⟩,⟨by simp only;omega,by simp only;omega⟩⟩ tO (by have:=hI.o.1.2.1;omega) ?_;intro v' w' o g pl;obtain⟨A',c',rfl,_⟩:=o.form;exact hK.o _ _ g ⟨A',c',_,rfl,tZ,o,(fun c hc=>pl.elim (fun q=>ul.o c (q▸hc)) (fun q=>by rw[q] at hc;injection hc with hc;have:=hI.o.1.2.1;omega)),_,hG.cbx.grown g ul.o⟩
  simp only[zai,zaa,zab,zac,Sg.pick,Nat.reduceAdd];refine⟨fun W' _ _ hI hD hK=> ?_,?_⟩
  ·skip;go_simp;exact hK.o _ _ rfl rfl
  simp only[zai,zaa,zab,zac,Sg.pick,Nat.reduceAdd];refine⟨fun W' _ _ hI hD hK=> ?_,?_⟩
  ·obtain⟨A',c',e,e6,hl,o,hn,z,hc⟩:=(show ∃A' c' ms,vs 6= .slice A' ms.length c'/\ms.length=es.length+1/\OwE W' (w.heap.size+1) (vs 6) ms/\(∀c,(vs 6).ownBlock=some c->c≠b)/\ ∃z,CBx W' b (.int .i64 g1) (.int .i64 M) z from hD.o 6 tK);rw[e6] at hK o hn⊢;have HL:=qA hl;clear hl;have z2:=hc.c2;have u2:=hc.fz 2;go_simp;exact hK.o undef _ ⟨_,rfl⟩ ⟨A',c',e,HL,⟨(hc.set2 _).c0,(hc.set2 _).c1,(hc.set2 _).c2,(hc.set2 _).fz,o.keep fun d hd=>zam _ _ _ d (hn d hd),hn,G3.o.i1,G3.o.i2,(hc.set2 _).lt⟩⟩
  simp only[zai,zaa,zab,zac,Sg.pick,Nat.reduceAdd];intro W9 hI9 hD9;obtain⟨A9,c9,ms,MF,g9⟩:=(show ∃A' c' ms,ms.length=es.length+1/\GBx W9 b (w.heap.size+1) A' c' (g1,M,ms) from hD9.o 8 tD);have G9:=qA g9;have I9:=qA hI9.o.1.1;have X9:=qA hI9.o.1.2.2;have Sw:=qA MF;clear hI9 hD9 g9 MF;obtain⟨y0,y1,y2⟩:=G9.o.cs;simp only at y0 y1 y2
  have x0:=X9.o.c0;have f0:=X9.o.fz 0;have x1:=X9.o.c1;have f1:=X9.o.fz 1;have x2:=X9.o.c2;have f2:=X9.o.fz 2;go_wp2;have XF:=X9.o.setv (.int .i64 g1) (.int .i64 M) (.slice A9 ms.length c9);obtain⟨e0,e1,e2⟩:=XF.cs;have IF:=I9.o.hi H.o (zad _) (qH (.int .i64 g1) (.int .i64 M) (.slice A9 ms.length c9) (zae _ _) (zad w));exact Wj (v:= .agg #[.int .i64 g1, .int .i64 M, .slice A9 ms.length c9]) (by simp[results,Tryz.results185,go_sem,e0,e1,e2]) rfl ⟨_,rfl,g1,M,ms,⟨_,rfl,G9.o.i1,G9.o.i2,(G9.o.ow.keep fun c hc=>qI _ _ _ _ _ (by have:=(G9.o.ow.1.lt c hc).1;omega)).mono tO⟩,by have:=Sw.o;omega,IF.cur,IF.tr⟩
 ·skip;obtain⟨y0,y1,y2⟩:=G3.o.cs;simp only at y0 y1 y2
  have x0:=X3.o.c0;have f0:=X3.o.fz 0;have x1:=X3.o.c1;have f1:=X3.o.fz 1;have x2:=X3.o.c2;have f2:=X3.o.fz 2;go_wp2;have XF:=X3.o.setv (.int .i64 g1) (.int .i64 M) (.slice A1 es.length ak);obtain⟨e0,e1,e2⟩:=XF.cs;have IF:=I3.o.hi H.o (zad _) (qH (.int .i64 g1) (.int .i64 M) (.slice A1 es.length ak) (zae _ _) (zad w));exact Wj (v:= .agg #[.int .i64 g1, .int .i64 M, .slice A1 es.length ak]) (by simp[results,Tryz.results185,go_sem,e0,e1,e2]) rfl ⟨_,(g1,M,es),rfl,⟨_,rfl,G3.o.i1,G3.o.i2,(G3.o.ow.keep fun c hc=>qI _ _ _ _ _ (by have:=(G3.o.ow.1.lt c hc).1;omega)).mono tO⟩,by simp only;omega,IF.cur,IF.tr⟩
def qQk (w:Wg) (N:Nat):Wg:= {w with heap:=w.heap.extract 0 N}
theorem qLm (w:Wg) (N:Nat) (h:N<=w.heap.size):(qQk w N).heap.size=N:=by
 show(w.heap.extract 0 N).size=N
 simp;omega
theorem qLV (w:Wg) (N b:Nat) (hb:b<N) (h:N<=w.heap.size):(qQk w N).heap[b]? =w.heap[b]? :=by
 show(w.heap.extract 0 N)[b]? =w.heap[b]?
 rw[Array.getElem?_extract];simp;omega
theorem qNA {lo N:Nat} {w:Wg} {v:Wh} {L:List (List Int)} {ops:Array Oper} {rest:List Oper} {o:Oper} {a:Act} {Q:Exit->Act->Wg->Prop} (dq:o.guard=none) (s x:Operand)
  (ho:o.op= .call {callee:= .builtin .append,args:= #[s,x],argTypes:= #[69,69]})
  (aa:OwII lo N v L w) (iy:lo<=N) (hN:N<=w.heap.size) (hs:a.eval s=v) (b:Nat) (z:Wh) (d:List Int) {base:Nat} (hx:a.eval x= .slice (some ⟨b,0,none⟩) 1 1)
  (iQ:OwI w base z d) (au:N<=base) (hc:w.cell? ⟨b,0,none⟩=some z) (hz:z.oneCell'=true) (hl:L.length<=1073741824)
  (h: ∀v' w',OwII lo w'.heap.size v' (L++ [d]) w'->w.grownBy w' v.ownBlock->wpList Tryz.prog ops Q rest (a.put o.dst v') w'):
  wpList Tryz.prog ops Q (o::rest) a w:=by
 have ar:=qLm w N hN;refine qMM (w0:=qQk w N) dq s x ho (lo:=lo) ?_ (by rw[ar];exact iy) ?_ hs b z d hx iQ (by rw[ar];exact au) hc hz hl h
 ·rw[ar];exact aa.keep EI.stable fun b _ hb=>qLV w N b hb hN
 ·rw[ar];exact⟨rfl,rfl,rfl,by rw[ar];exact hN,fun b hb=>(qLV w N b hb hN).symm⟩
theorem OwII.trP {p lo hi:Nat} {w w':Wg} {v:Wh} {L:List (List Int)} (h:OwII lo hi v L w) (ht:Tr p (p+1) w w') (hp:p<lo) (hh:hi<=w.heap.size):OwII lo hi v L w':=
 h.keep EI.stable fun b h1 h2=>ht.block b tO tO
theorem qKd {lo hi:Nat} {v:Wh} {L:List (List Int)} {w:Wg} (h:OwII lo hi v L w): ∃A m c,v= .slice A m c:=by
 obtain⟨A,c,hv,_⟩:=h.len;exact⟨A,_,c,hv⟩
def WdL (r:Int) (n:Nat) (L:List (List Int)):Prop:= ∀x∈L,x.length<=n/\letR r x/\redP x
theorem qEe (p:Nat) (A:Option Addr) (cap:Nat) (cs:List Int) (r:Int) (w:Wg) (h:Cur p A cap cs w) (gH:1<=r) (bT:r<=3):
  Wk Tryz.prog 222 #[.pointer (some ⟨p,0,none⟩), .int .i64 r] w fun e w'=> ∃(v:Wh) (L:List (List Int)),e= .returned v/\OwII w w'.heap.size v L w'/\(L.length<=3/\WdL r 5 L)/\Cur p A cap cs w'/\Tr p (p+1) w w':=by
 have H:=qA h;have hp:=h.lt;clear h;have O1:Wi (OwII w (w.heap.size+1) (.slice (some ⟨w,0,none⟩) 0 0) [] (w.alloc (.cells #[] 37))):=qA (qOb w (zad _));have I1:Wi (DrI p A cap cs w (w.alloc (.cells #[] 37))):=qA ((DrI.refl H).bel ((zae _ _).alloc (zad _) _));go_enter Tryz.func222,Tryz.ntmps222
 go_wp2_with fail;refine(qAC p A cap cs 4 _ I1.cur tO tO).mono ?_
 rintro e w2 ⟨k0,rfl,⟨Pp,U9⟩,c2,t2⟩;have I2:=qA (I1.to t2 c2);have O2:=qA ((O1.trP t2 hp tZ).widen (zad _) (by have:=t2.size;simpa using this));clear c2 t2 O1 I1;go_wp2;go_loopw [5,6,7] (fun rv nv _ wr=> ∃(k:Int) (L:List (List Int)),nv= .int .i64 k/\0<=k/\k+L.length<=3/\WdL r 5 L/\OwII w wr.heap.size rv L wr/\DrI p A cap cs w wr)
  (fun _ nv _ _=>(intOf nv).toNat)
 case atStart=>exact⟨k0,[],rfl,Pp,by simp;omega,fun r hr=>(by cases hr),O2.o,I2.o⟩
 case round=>
  obtain⟨k,L,rfl,l5,eV,hL,hO,hI⟩:=hrel;have HL:=qA hL;have HO:=qA hO;have HI:=qA hI;have ar:=hI.tr.size;obtain⟨Ar,cr,rfl,_⟩:=hO.len;clear hO hI hL;by_cases ac:0<k
  ·go_wp2_with fail;refine(qLB p A cap cs r 5 _ HI.cur gH bT tO tO).mono ?_
   rintro e w3 ⟨xv,xs,rfl,ox,⟨ei,fQ,KZ⟩,c3,t3⟩;have I3:=qA (HI.to t3 c3);have O3:=qA (HO.trP t3 hp (zad _));have HX:Wi (xs.length<=5/\letR r xs/\redP xs):=qA ⟨tO,fQ,KZ⟩;have V3:=qA ox;obtain⟨Av,mv,cv,rfl⟩:=ox.any2;have d5:=t3.size;have iq:IntKind.i64.wrap (k-1)=k-1:=by rw[IntKind.wrap_i64];omega
   clear c3 t3 ox fQ KZ ei;go_wp2_with (at_builtin;refine qNA rfl (.tmp 18) (.tmp 20) rfl (O3.keep (w':=w3.alloc (.cells #[.slice Av mv cv] 37)) EI.stable fun b _ hb=>Below.heap_alloc w3 _ b tO) ar (by simp;omega) rfl _ _ xs rfl (V3.alloc _) (zad _) (qU _ _ _) rfl tO ?_;intro v6 w6 o6 g6;have O6:=qA o6;have G6:=qA g6;obtain⟨A6,m6,c6,rfl⟩:=qKd o6;clear o6 g6)
   have I6:=qA ((I3.bel ((zae _ _).alloc (zad _) (.cells #[.slice Av mv cv] 37))).grow H G6 fun b hb=>(HO.lt hb).1);go_roundw
   case rel=>
    refine⟨k-1,_,by go_num,tO,by simp;omega,fun r hr=> ?_,O6.o,I6.o⟩;rcases zaq.1 hr with hr | hr
    ·exact HL.o r hr
    ·rw[zaz] at hr;rw[hr];exact HX.o
   case measure=>exact tM
  ·go_wp2;exact Wj (v:= .slice Ar L.length cr) (by simp[results,Tryz.results222,go_sem]) rfl ⟨_,rfl,L,HO,⟨tO,HL.o⟩,HI.o.cur,HI.o.tr⟩
theorem qLh (L:List (List Int)) (k:Nat) (h:k<L.length):qAr (L.take (k+1))=qAr (L.take k)+L[k].length:=by
 unfold qAr;rw[zap h,zaP,zaQ];simp only[zaJ,List.map_nil,zaU,List.sum_nil,Nat.add_zero]
theorem qKO (L:List (List Int)) (k:Nat):qAr (L.take k)<=qAr L:=by
 unfold qAr;conv=>rhs;rw[<-zaG k L,zaP,zaQ]
 omega
theorem qEY (v:Wh) (L:List (List Int)) (w:Wg) (h:RdII w v L) (hl:L.length<=1073741824) (hn:qAr L<=1073741824):
  Wk Tryz.prog 275 #[v] w fun e w'=>e= .returned (.int .i64 (qAr L))/\w=w':=by
 have H:=qA h;obtain⟨A,cap,rfl,aR,hm,_⟩:=h.form;unfold maxLen at hm;clear h;go_enter Tryz.func275,Tryz.ntmps275
 go_wp2;go_loopw [3,4] (fun n i wr=> ∃k:Nat,k<=L.length/\i= .int .i64 k/\n= .int .i64 (qAr (L.take k))/\w=wr) (fun _ i _=>L.length-(intOf i).toNat)
 case atStart=>exact⟨0,zay _,rfl,rfl,rfl⟩
 case round=>
  obtain⟨k,hk,rfl,rfl,rfl⟩:=hrel;by_cases ac:k<L.length
  ·obtain⟨b,off,A1,ak,rfl,hb,hc,_,_,hr⟩:=H.o.at ac;have HS:=qA (qLh L k ac);have hs:=HS.o;have ht:=qKO L (k+1);have mG:(k:Int)<(L.length:Int):=tO;clear hr;generalize L[k]=x at*;have Ti:IntKind.i64.wrap ((qAr (L.take k):Int)+(x.length:Int))=((qAr (L.take k)+x.length:Nat):Int):=by rw[IntKind.wrap_i64];omega
   generalize qAr (L.take k)=m at*;clear hs ht;go_wp2;go_roundw
   case rel=>exact⟨k+1,tO,by go_num,by rw[HS.o];go_num,trivial⟩
   case measure=>(first | omega | (simp[intOf];omega))
  ·obtain rfl:k=L.length:=tO
   rw[zat];obtain⟨m,kQ⟩: ∃m,m=qAr L:=⟨_,rfl⟩;rw[<-kQ];have HM:=qA kQ;clear kQ;go_wp2;exact Wj (v:= .int .i64 m) (by simp[results,Tryz.results275,go_sem]) rfl ⟨by rw[HM.o],rfl⟩
def areW (r:Int) (L:List (List Int)):Bool:=L.all (qAG r)&&(inB r 1 3&&(decide (L.length<=6)&&decide (qAr L<40)))
theorem qGF (r:Int) (v:Wh) (L:List (List Int)) (w:Wg) (h:RdII w v L) (hl:L.length<=1073741824) (hn:qAr L<=1073741824) (hx: ∀x∈L,x.length<=1073741824):
  Wk Tryz.prog 263 #[.int .i64 r,v] w fun e w'=>e= .returned (.bool (areW r L))/\ ∃n,w'=w.drewN n:=by
 have H:=qA h;have HX:=qA hx;obtain⟨A,cap,rfl,aR,hm,_⟩:=h.form;unfold maxLen at hm;have HR:Wi (areW r L=(L.all (qAG r)&&(inB r 1 3&&(decide (L.length<=6)&&decide (qAr L<40))))):=qA rfl;generalize areW r L=res at*;clear h hx;go_enter Tryz.func263,Tryz.ntmps263
 go_wp2;go_loopw [5] (fun i wr=> ∃k:Nat,k<=L.length/\i= .int .i64 k/\(∀x∈L.take k,qAG r x=true)/\ ∃n,wr=w.drewN n) (fun i _=>L.length-(intOf i).toNat)
 case atStart=>exact⟨0,zay _,rfl,tZ,0,rfl⟩
 case round=>
  obtain⟨k,hk,rfl,dz,n,rfl⟩:=hrel;have ub:=qA dz;clear dz;by_cases ac:k<L.length
  ·obtain⟨b,off,A1,ak,rfl,hb,hc,_,_,hr⟩:=H.o.at ac;have HT:Wi (L.take (k+1)=L.take k++ [L[k]]):=qA (zap ac);have HM:=qA (zaE ac);have dC:=qA hr;have mG:(k:Int)<(L.length:Int):=tO;clear hr;generalize L[k]=x at*;have ei:=HX.o x HM.o;rcases e1:qAG r x with _ | _
   ·have HE:=qA fun w (h:ArgI w (.slice A1 x.length ak) x)=>qBK r _ x w h ei;rw[e1] at HE;have HF:Wi (res=false):=qA (by
     rw[HR.o];have:L.all (qAG r)=false:=by
      rw[List.all_eq_false];exact⟨x,HM,by simp[e1]⟩
     rw[this];rfl)
    clear e1 ei;go_wp2_with (go_at_call 128;refine(HE _ (dC.o.drewN n).arg).mono ?_;rintro e w1 ⟨rfl,n1,rfl⟩)
    rw[HF.o];exact Wj (v:= .bool false) (by simp[results,Tryz.results263,go_sem]) rfl ⟨rfl,_,rfl⟩
   ·have HE:=qA fun w (h:ArgI w (.slice A1 x.length ak) x)=>qBK r _ x w h ei;rw[e1] at HE;have HW:=qA e1;clear e1 ei;go_wp2_with (go_at_call 128;refine(HE _ (dC.o.drewN n).arg).mono ?_;rintro e w1 ⟨rfl,n1,rfl⟩)
    go_roundw
    case rel=>exact⟨k+1,tO,by go_num,fun y hy=>by
     rw[HT.o] at hy;rcases zaq.1 hy with hy | hy
     ·exact ub.o y hy
     ·rw[zaz.1 hy];exact HW.o,_,rfl⟩
    case measure=>(first | omega | (simp[intOf];omega))
  ·obtain rfl:k=L.length:=tO
   have HA:Wi (L.all (qAG r)=true):=qA (by rw[zaO];have:=ub.o;rwa [zat] at this);have kP:Wi (res=(inB r 1 3&&(decide (L.length<=6)&&decide (qAr L<40)))):=qA (by rw[HR.o,HA.o,zaS]);rcases e1:inB r 1 3 with _ | _
   ·have HF:Wi (res=false):=qA (by rw[kP.o,e1];rfl);go_wp2_with (go_at_call 138;refine(qi _ _ _ _).mono ?_;rintro e w' ⟨rfl,rfl⟩)
    rw[HF.o];exact Wj (v:= .bool false) (by simp[results,Tryz.results263,go_sem]) rfl ⟨rfl,_,rfl⟩
   ·by_cases h6:L.length<=6
    ·have HF:Wi (res=decide (qAr L<40)):=qA (by rw[kP.o,e1,decide_eq_true h6];rfl);have SP:(L.length:Int)<=6:=tO;have mZ:=qA (fun w (h:RdII w (.slice A L.length cap) L)=>qEY _ L w h hl hn);generalize qAr L=m at*;go_wp2_with (first | (go_at_call 138;refine(qi _ _ _ _).mono ?_;rintro e w' ⟨rfl,rfl⟩) | (go_at_call 275;refine(mZ _ (H.o.drewN n)).mono ?_;rintro e w' ⟨rfl,rfl⟩))
     rw[HF.o];by_cases bn:m<40
     ·have lj:(m:Int)<40:=tO;exact Wj (v:= .bool true) (by simp[results,Tryz.results263,go_sem,lj]) rfl ⟨by rw[decide_eq_true bn],_,rfl⟩
     ·have lj: ¬(m:Int)<40:=tO;exact Wj (v:= .bool false) (by simp[results,Tryz.results263,go_sem,lj]) rfl ⟨by rw[decide_eq_false bn],_,rfl⟩
    ·have HF:Wi (res=false):=qA (by rw[kP.o,e1,decide_eq_false h6];rfl);have SP: ¬(L.length:Int)<=6:=tO;go_wp2_with (go_at_call 138;refine(qi _ _ _ _).mono ?_;rintro e w' ⟨rfl,rfl⟩)
     rw[HF.o];exact Wj (v:= .bool false) (by simp[results,Tryz.results263,go_sem]) rfl ⟨rfl,_,rfl⟩
theorem qGf (v y:Wh) (g:GrD) (a b:Int) (w:Wg) (h:ArgG w v g) (ht:RdI w y []) (hg:grB g=true) (ha:0<=a/\a<g.2.1) (hb:0<=b/\b<g.2.1):
  Wk Tryz.prog 182 #[v, .int .i64 a,y, .int .i64 b] w fun x w'=> ∃r,x= .returned (.tuple #[r, .bool false])/\OwG w' w r g/\Wf w w w':=by
 have HG:=qA h;have HY:=qA ht;have aK:=qA hg;have HW:=qA (show qAG g.1 []=true by unfold qAG;rw[qm.2 (qD hg).1];rfl);have HA:=qA ha;have sM:=qA hb;obtain⟨jB,bn,a7,_⟩:=qD hg;obtain⟨s,rfl,aN,aQ,cj⟩:=h;obtain⟨A,cap,rfl⟩:=cj.form;obtain⟨T,tc,rfl,_⟩:=ht.arg;obtain⟨g1,N,es⟩:=g;simp only at*
 clear cj hg ha hb;go_enter Tryz.func182,Tryz.ntmps182
 go_wp2_with fail;obtain⟨W1,aq⟩: ∃W,W=w.alloc (.cells #[.int .i64 g1,.int .i64 N, .slice A es.length cap] 26):=⟨_,rfl⟩;rw[<-aq];obtain⟨aE,b1,aJ,_⟩:=gbox aq;obtain⟨W,hW⟩: ∃W,W=W1.alloc (.cells #[.int .i64 0,.int .i64 0, .slice none 0 0] 26):=⟨_,rfl⟩;rw[<-hW];obtain⟨dQ,b2,dp,db⟩:=gbox hW;have aH:W.heap.size=w.heap.size+2:=tO;have fE:=qA aJ;have io:=qA dp;have jf:=qA db;have uR:=qA b1;have kA:=qA b2;have BX:Wi (Wf w w W):=qA (b1.trans (b2.mono tO));have aW:Wi (∀w',Wf (w.heap.size+2) W w'->w'.cell? ⟨w,0,none⟩=some (.int .i64 g1)/\w'.cell? ⟨w,1,none⟩=some (.int .i64 N)/\w'.cell? ⟨w,2,none⟩=some (.slice A es.length cap)):=qA fun w' hb=>fE.o w' ((kA.mono tO).trans (hb.mono tO));have kM:Wi (∀w',Wf (w.heap.size+2) W w'->(w'.cell? ⟨w.heap.size+1,0,none⟩=some (.int .i64 0)/\w'.cell? ⟨w.heap.size+1,1,none⟩=some (.int .i64 0)/\w'.cell? ⟨w.heap.size+1,2,none⟩=some (.slice none 0 0))/\ ∀j,w'.frozen? ⟨w.heap.size+1,j,none⟩=false):=qA fun w' hb=>by
  have e:Wf (W1.heap.size+1) W w':=hb.mono tO;have h1:=io.o w' e;have h2:=fun j=>jf.o j w' e;rw[aE] at h1 h2;exact⟨h1,h2⟩
 have oR:Wi (∀w',Wf (w.heap.size+2) W w'->ArgG w' (.agg #[.int .i64 g1, .int .i64 N, .slice A es.length cap]) (g1,N,es)):=qA fun w' hb=>HG.o.below (BX.trans (hb.mono tO));have iF:Wi (∀w',Wf (w.heap.size+2) W w'->RdI w' (.slice T 0 tc) []):=qA fun w' hb=>HY.o.below (BX.trans (hb.mono tO));clear aq hW aJ dp db b1 b2 fE io jf uR kA aE dQ;obtain⟨q0,q1,q2⟩:=aW.o W ((zae W W).mono tO);refine(xP10 _ (.inl ⟨rfl,xPa⟩) _ (g1,N,es) W (oR W ((zae W W).mono tO)) (by simp only;omega)).mono ?_
 clear q0 q1 q2;rintro e w5 ⟨r,rfl,o5,b5⟩;have fg:=b5.size;have B5:Wi (Wf (w.heap.size+2) W w5):=qA (b5.mono tO);obtain⟨s1,rfl,_,_,bF⟩:=o5;obtain⟨A1,c1,rfl,_⟩:=bF.form;simp only at*
 clear b5;have mk:Wf w5 w5 (w5.alloc (.cells #[.int .i64 g1,.int .i64 N, .slice A1 es.length c1] 26)):=(zae _ _).alloc (zad _) _;obtain⟨q0,q1,q2⟩:=aW.o _ (B5.trans (mk.mono tO));clear mk;go_wp2_with fail;clear q0 q1 q2;obtain⟨W6,cH⟩: ∃W,W=w5.alloc (.cells #[.int .i64 g1,.int .i64 N, .slice A1 es.length c1] 26):=⟨_,rfl⟩;have iU:=qA (GBx.new (m:=(g1,N,es)) bF aN aQ cH);obtain⟨eU,b6,_,_⟩:=gbox cH;rw[<-cH];have B6:Wi (Wf (w.heap.size+2) W W6):=qA (B5.trans (b6.mono tO));clear cH b6 bF;obtain⟨p,hp⟩: ∃p,p=w5.heap.size:=⟨_,rfl⟩;rw[<-hp] at iU⊢;have rp:w.heap.size+2<=p:=tO;have Gw:p<W6.heap.size:=tO;clear hp eU fg;have fC:=qA (qk _ (g1,N,es) W6 (oR W6 B6));rw[aK.o] at fC;refine fC.o.mono ?_;clear fC;rintro e w7 ⟨rfl,b7⟩;have B7:=qA (B6.trans (b7.mono (by have:=B6.o.size;omega)));have fD:=qA (iU.below b7);clear b7;obtain⟨q0,q1,q2⟩:=aW.o w7 B7.o;have E1:inB a 0 (N-1)=true:=by unfold inB;simp;have:=HA.o;omega
 have E2:inB b 0 (N-1)=true:=by unfold inB;simp;have:=sM.o;omega
 have EW:=qA (qBK g1 _ [] w7 (iF w7 B7).arg tZ);rw[HW.o] at EW;go_wp2_with (go_at_call 138;refine(qi _ _ _ _).mono ?_;rintro e w' ⟨rfl,rfl⟩)
 refine EW.o.mono ?_;clear EW E1 E2 q0 q1 q2;rintro e w8 ⟨rfl,nd,rfl⟩;obtain⟨w8,lO⟩: ∃W,W=w7.drewN nd:=⟨_,rfl⟩;rw[<-lO];have B8:Wi (Wf (w.heap.size+2) W w8):=qA (by rw[lO];exact qC B7.o _);have dN:Wi (GBx w8 p W.heap.size A1 c1 (g1,N,es)):=qA (by rw[lO];exact fD.o.below (qC (zae _ _) _));clear lO;obtain⟨q0,q1,q2⟩:=aW.o w8 B8.o;obtain⟨z0,z1,z2⟩:=dN.o.cs;simp only at z0 z1 z2
 obtain⟨⟨r0,r1,r2⟩,eM⟩:=kM.o w8 B8.o;have fh:=eM 0;have fu:=eM 1;have fd:=eM 2;clear eM;go_wp2;obtain⟨e0,e1,e2⟩:=qo (.int .i64 g1) (.int .i64 N) (.slice A1 es.length c1) r0 r1 r2;have bw:Wf w w (((w8.setCell ⟨w.heap.size+1,0,none⟩ (.int .i64 g1)).setCell ⟨w.heap.size+1,1,none⟩ (.int .i64 N)).setCell ⟨w.heap.size+1,2,none⟩ (.slice A1 es.length c1)):=qH _ _ _ (BX.trans (B8.mono tO)) tO;have ow:OwE (((w8.setCell ⟨w.heap.size+1,0,none⟩ (.int .i64 g1)).setCell ⟨w.heap.size+1,1,none⟩ (.int .i64 N)).setCell ⟨w.heap.size+1,2,none⟩ (.slice A1 es.length c1)) W (.slice A1 es.length c1) es:=dN.o.ow.keep fun b hb=>qI _ _ _ _ _ (by have:=(dN.o.ow.1.lt b hb).1;omega);exact Wj (v:= .tuple #[.agg #[.int .i64 g1, .int .i64 N, .slice A1 es.length c1], .bool false]) (by simp[results,Tryz.results182,go_sem,e0,e1,e2]) rfl ⟨_,rfl,⟨.slice A1 es.length c1,rfl,aN,aQ,ow.mono tO⟩,bw⟩
def petG (g:GrD) (t:List Int):GrD:=if t= [] then g else if qBF g t=true then addG g 0 0 t else g
def petB (g:GrD) (t:List Int):Bool:=if t= [] then false else qBF g t
theorem qQD {g:GrD} {t:List Int} (hg:grB g=true) (hw:qAG g.1 t=true):grB (petG g t)=true/\(petG g t).1=g.1/\(petG g t).2.2.length<=g.2.2.length+t.length:=by
 have hr:=(qD hg).2.1;unfold petG;split
 ·exact⟨hg,rfl,tO⟩
 ·rename_i h0
  have Pq:t.length≠0:=fun q=>h0 (zax q);split
  ·rename_i af
   refine⟨qNY hg tO tO hw Pq af,rfl,?_⟩;have h1:=qCp (c:=cmpE) (g.2.2++pthL g.2.1.toNat 0 0 t t.length);rw[zak,qKh] at h1;exact h1
  ·exact⟨hg,rfl,tO⟩
theorem qJu (v y:Wh) (g:GrD) (t:List Int) (w:Wg) (h:ArgG w v g) (ht:RdI w y t) (hg:grB g=true) (hw:qAG g.1 t=true) (hl:t.length<=1073741824):
  Wk Tryz.prog 182 #[v, .int .i64 0,y, .int .i64 0] w fun x w'=> ∃r,x= .returned (.tuple #[r, .bool (petB g t)])/\OwG w' w r (petG g t)/\Wf w w w':=by
 have hr:=(qD hg).2.1;by_cases h0:t= []
 ·subst h0;refine(qGf v y g 0 0 w h ht hg tO tO).mono fun x w' ⟨r,e,o,b⟩=>⟨r,e,?_,b⟩
  unfold petG;rw[Wm rfl];exact o
 ·refine(qDf v y g 0 0 t w h ht hg tO tO hw (fun q=>h0 (zax q)) hl).mono fun x w' ⟨r,e,o,b⟩=>⟨r,?_,?_,b⟩
  ·unfold petB;rw[Wn h0];exact e
  ·unfold petG;rw[Wn h0];exact o
theorem qFy (v y:Wh) (g:GrD) (t:List Int) (w:Wg) (h:ArgG w v g) (ht:RdI w y t) (hg:grB g=true) (hw:qAG g.1 t=true) (hl:t.length<=1073741824):
  Wk Tryz.prog 129 #[v,y] w fun x w'=> ∃r,x= .returned (.tuple #[r, .bool (petB g t)])/\OwG w' w r (petG g t)/\Wf w w w':=by
 have HP:=qA (fun W v (h:ArgG W v g) (h':RdI W y t)=>qJu v y g t W h h' hg hw hl);generalize petG g t=pg at*;generalize petB g t=o at*;have HG:=qA h;have HY:=qA ht;obtain⟨s,rfl,aN,aQ,cj⟩:=h;obtain⟨A,cap,rfl⟩:=cj.form;obtain⟨T,tc,rfl,_⟩:=ht.arg;obtain⟨g1,N,es⟩:=g;obtain⟨p1,p2,ps⟩:=pg;simp only at*
 clear cj hg hw;go_enter Tryz.func129,Tryz.ntmps129
 go_wp2_with fail;obtain⟨W1,aq⟩: ∃W,W=w.alloc (.cells #[.int .i64 g1,.int .i64 N, .slice A es.length cap] 26):=⟨_,rfl⟩;rw[<-aq];obtain⟨_,b1,s1⟩:=CBx.new aq;obtain⟨W2,aT⟩: ∃W,W=W1.alloc (.cells #[.int .i64 0,.int .i64 0, .slice none 0 0] 26):=⟨_,rfl⟩;rw[<-aT];obtain⟨x2,b2,s2⟩:=CBx.new aT;rw[s1] at x2;have X2:=qA x2;have B2:Wi (Wf w w W2):=qA (b1.trans (b2.mono tO));clear aq aT b1 b2 x2;refine(HP W2 _ (HG.below B2) (HY.below B2)).mono ?_
 rintro e w3 ⟨r,rfl,⟨s3,rfl,ch,bV,aY⟩,b3⟩;obtain⟨A3,c3,rfl,_⟩:=aY.form;simp only at ch bV aY⊢
 have O3:=qA aY;have X3:=qA (X2.below b3);have B3:=qA (B2.trans (b3.mono tO));have d5:=b3.size;clear aY b3 X2 B2;obtain⟨u0,u1,u2⟩:=X3.o.cs;have f0:=X3.o.fz 0;have f1:=X3.o.fz 1;have f2:=X3.o.fz 2;have ac:=X3.o.lt;go_wp2;have XF:=X3.o.setv (.int .i64 p1) (.int .i64 p2) (.slice A3 ps.length c3);have BF:=qH (.int .i64 p1) (.int .i64 p2) (.slice A3 ps.length c3) B3.o (show w.heap.size<=w.heap.size+1 by omega);have OF:OwE (((w3.setCell ⟨w.heap.size+1,0,none⟩ (.int .i64 p1)).setCell ⟨w.heap.size+1,1,none⟩ (.int .i64 p2)).setCell ⟨w.heap.size+1,2,none⟩ (.slice A3 ps.length c3)) W2 (.slice A3 ps.length c3) ps:=O3.o.keep fun c hc=>qI _ _ _ _ _ (by have:=(O3.o.1.lt c hc).1;omega);have UX:=qZ w3 (w.heap.size+1) (.int .i64 p1) (.int .i64 p2) (.slice A3 ps.length c3);generalize ((w3.setCell ⟨w.heap.size+1,0,none⟩ (.int .i64 p1)).setCell ⟨w.heap.size+1,1,none⟩ (.int .i64 p2)).setCell ⟨w.heap.size+1,2,none⟩ (.slice A3 ps.length c3)=w5 at*;have bz:Wf w5 w5 (w5.alloc (.cells #[.int .i64 p1,.int .i64 p2, .slice A3 ps.length c3] 26)):=(zae _ _).alloc (zad _) _;obtain⟨e0,e1,e2⟩:=(XF.below bz).cs;exact Wj (v:= .tuple #[.agg #[.int .i64 p1, .int .i64 p2, .slice A3 ps.length c3], .bool o]) (by simp[results,Tryz.results129,go_sem,e0,e1,e2]) rfl ⟨_,rfl,⟨_,rfl,ch,bV,(OF.below bz).mono tO⟩,BF.trans (bz.mono tO)⟩
def isT (W:Wg) (q:Nat) (t:TypeId):Prop:= ∃arr fr,W.heap[q]? =some (.cells arr t fr)
theorem isT.lt {W:Wg} {q:Nat} {t:TypeId} (h:isT W q t):q<W.heap.size:=by
 obtain⟨_,_,h⟩:=h;rcases Nat.lt_or_ge q W.heap.size with h' | h'
 ·exact h'
 ·rw[Array.getElem?_eq_none h'] at h;cases h
theorem isT.new (w:Wg) (arr:Array Wh) (t:TypeId):isT (w.alloc (.cells arr t)) w t:=⟨arr,(0,0),by show(w.heap.push _)[w.heap.size]? =_;simp⟩
theorem isT.below {W W':Wg} {q:Nat} {t:TypeId} (h:isT W q t) (hb:Wf W W W'):isT W' q t:=by
 have:=h.lt
 obtain⟨a,f,h⟩:=h;exact⟨a,f,(hb.block q this).trans h⟩
theorem isT.set {W:Wg} {q:Nat} {t:TypeId} (h:isT W q t) (a:Addr) (v:Wh):isT (W.setCell a v) q t:=by
 obtain⟨c,f,h⟩:=h;by_cases e:a.block=q
 ·subst e;refine⟨if a.spot.isSome then c else c.setIfInBounds a.off v,f,?_⟩;show(W.heap.modify a.block _)[a.block]? =_
  rw[zaH,Wm rfl,h];rfl
 ·refine⟨c,f,?_⟩;show(W.heap.modify a.block _)[q]? =_
  rw[zaH,Wn e,h]
theorem OwE.notG {W:Wg} {base q:Nat} {v:Wh} {es:List EdD} (h:OwE W base v es) (hq:isT W q 26): ∀b,v.ownBlock=some b->b≠q:=fun b hb e=>by
 subst e;obtain⟨c,f,hq⟩:=hq;rcases h.1.2 with ⟨hv,_⟩ | ⟨g,cap,cur,hv,_,hh,_⟩
 ·rw[hv] at hb;cases hb
 ·rw[hv] at hb;have:g=b:=by simpa[zah] using hb
  subst this;rw[hh] at hq;injection hq with hq
  injection hq with _ e2 _
  exact absurd e2 tD
def floF (r:Int) (L:List (List Int)):GrD:=L.foldl petG (r,1,[])
theorem qHZ {r:Int} {L:List (List Int)} (h:areW r L=true):(∀x∈L,qAG r x=true)/\(1<=r/\r<=3)/\L.length<=6/\qAr L<40:=by
 unfold areW at h;simp only[zau,zaO,decide_eq_true_eq] at h;exact⟨h.1,qm.1 h.2.1,h.2.2.1,h.2.2.2⟩
theorem qMf {r:Int} {L:List (List Int)} (hr:1<=r/\r<=3) (h: ∀x∈L,qAG r x=true): ∀k,k<=L.length->grB ((L.take k).foldl petG (r,1,[]))=true/\((L.take k).foldl petG (r,1,[])).1=r
 | 0,_=>⟨qEr hr ⟨show(1:Int)<=1 by decide,show(1:Int)<=40 by decide⟩ tZ zaT.nil (fun _ h=>by cases h),rfl⟩
 | k+1,hk=>by
   have ih:=qMf hr h k tO;rw[zap tO,zaw];have hx:=h _ (zaE (show k<L.length by omega));rw[<-ih.2] at hx;have:=qQD ih.1 hx
   exact⟨this.1,this.2.1.trans ih.2⟩
theorem isT.set3 {W:Wg} {q:Nat} {t:TypeId} (h:isT W q t) (p:Nat) (a b c:Wh):isT (((W.setCell ⟨p,0,none⟩ a).setCell ⟨p,1,none⟩ b).setCell ⟨p,2,none⟩ c) q t:=((h.set _ _).set _ _).set _ _
theorem qHX {x:List Int}: ∀ {L:List (List Int)},x∈L->x.length<=qAr L
 | a::L,h=>by
   unfold qAr;simp only[zaJ,zaU];rcases List.mem_cons.1 h with rfl | h
   ·omega
   ·have:=qHX h
    unfold qAr at this;omega
end Go.Proofs.YtnjpoljbagfdnaaGreat
