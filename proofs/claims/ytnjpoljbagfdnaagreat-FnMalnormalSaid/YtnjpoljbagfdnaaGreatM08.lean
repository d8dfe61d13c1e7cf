/- Parts of the proof (8). -/
import Derived.Test.YtnjpoljbagfdnaaGreatM07
import Derived.ChangeOld
import Derived.Deep.DeepCutAuto
import Derived.Deep.RegionHeld3
import Derived.Lib.SmallJoins
import Derived.OpenShut
import Derived.Outline
import Derived.ProofKit
import Derived.ShutString
set_option maxRecDepth 100000
set_option maxHeartbeats 16000000
set_option linter.unusedVariables false
set_option linter.unusedSimpArgs false
namespace Go.Proofs.YtnjpoljbagfdnaaGreat
open Go.RowKit
open Go.RowKit renaming Below→Wf,Hid→Wi
open Go renaming Calls→Wk,Value→Wh,World→Wg,bodyPost_ret→Wj
open _root_.List renaming setIfInBounds_toArray->zaa,set_cons_zero->zac,set_cons_succ->zad,take_length->zai,getElem?_eq_getElem->zaj,length_append->zak,getD_eq_getElem?_getD->zal,getElem_mem->zam,mem_singleton->zan,mem_append->zao,nil_append->zap,getElem?_eq_some_iff->zaq,take_succ_eq_append_getElem->zar,length_singleton->zav,mem_of_getElem?->zaw,replicate->zay,getElem_append_right->zaA,getElem_append_left->zaC,length_nil->zaD,length_cons->zaH,length_take->zaI,ext_getElem->zaJ
open _root_.Nat renaming le_refl->zab,zero_le->zas,zero_add->zat,lt_or_ge->zaB,le_trans->zaF
open Go.RowKit.Below renaming refl->zae
open Go.Value renaming ownBlock->zaf,slice->zaE
open Go.World renaming cell?_setCell_other->zag,cell?_of_block->zax,ownsRow->zaz
open Go.Act renaming put->zah
open _root_.Int renaming toNat_natCast->zau
open _root_.Option renaming some->zaG
open _root_.Bool renaming eq_iff_iff->zaK,or_eq_true->zaL
theorem qFx (r:Int) (v:Wh) (L:List (List Int)) (w:Wg) (h:RdII w v L) (hW:areW r L=true):
  Wk Tryz.prog 238 #[.int .i64 r,v] w fun x w'=> ∃rv,x= .returned (.tuple #[rv, .bool true])/\OwG w' w rv (floF r L)/\Wf w w w':=by
 obtain⟨AY,hr,Wa,S6⟩:=qHZ hW;have aM: ∀x∈L,x.length<=1073741824:=fun x hx=>by
  have:=qHX hx
  omega
 have su:=qA AY;have oY:=qA aM;have ky:=qA (fun k hk=>qMf hr AY k hk);have Gs:=qA (fun W (h:RdII W v L)=>qGF r v L W h tO tO aM);rw[hW] at Gs;have H:=qA h;have NK:I64 r:=⟨tO,tO⟩;have DB:inB r 1 3=true:=qm.2 hr;have EC:=qA (fun W=>qFz r W NK);rw[DB] at EC;simp only[if_true] at EC;obtain⟨A,cap,rfl,aR,hm,_⟩:=h.form;unfold maxLen at hm;clear h hW AY aM DB;go_enter Tryz.func238,Tryz.ntmps238
 go_wp2_with fail;obtain⟨W0,ah⟩: ∃W,W=w.alloc (.cells #[.int .i64 0,.int .i64 0, .slice none 0 0] 26):=⟨_,rfl⟩;rw[<-ah];obtain⟨xb,b0,s0⟩:=CBx.new ah;clear ah;have XB:=qA xb;have B0:=qA b0;clear xb b0;refine(Gs _ (H.below B0)).mono ?_
 rintro e w1 ⟨rfl,nd,rfl⟩;obtain⟨w1,dh⟩: ∃W,W=W0.drewN nd:=⟨_,rfl⟩;rw[<-dh];have bd:Wf W0 W0 w1:=by rw[dh];exact qC (zae _ _) _
 have X1:=qA (XB.below bd);have B1:=qA (B0.trans (bd.mono tO));have aE:=bd.size;clear dh bd XB B0 Gs;go_wp2_with fail;refine(EC w1).mono ?_
 rintro e w2 ⟨rfl,b2⟩;have X2:=qA (X1.below b2);have B2:=qA (B1.trans (b2.mono tO));have dQ:=b2.size;clear b2 X1 B1 EC;go_wp2_with fail;obtain⟨W3,lZ⟩: ∃W,W=w2.alloc (.cells #[.int .i64 r,.int .i64 1, .slice none 0 0] 26):=⟨_,rfl⟩;have g3:GBx W3 w2 (w.heap.size+1) none 0 (r,1,[]):=GBx.new (base:=w.heap.size+1) (m:=(r,1,[])) OwE.nil NK (show I64 1 from⟨tO,tO⟩) lZ;obtain⟨_,b3,s3⟩:=CBx.new lZ;rw[<-lZ];have G3:=qA g3;have X3:=qA (X2.below b3);have B3:=qA (B2.trans (b3.mono tO));clear lZ g3 b3 X2 B2;generalize hb:w2.heap.size=b at*;have fv:w.heap.size+1<=b:=tO;clear hb dQ aE;go_loopw [8] (fun nv wr=> ∃(k:Nat) (Ar:Option Addr) (cr:Nat),k<=L.length/\nv= .int .i64 k/\GBx wr b (w.heap.size+1) Ar cr ((L.take k).foldl petG (r,1,[]))/\CBx wr w (.int .i64 0) (.int .i64 0) (.slice none 0 0)/\Wf w w wr) (fun nv _=>L.length-(intOf nv).toNat)
 case atStart=>exact⟨0,none,0,zas _,rfl,G3,X3,B3⟩
 case round=>
  obtain⟨k,Ar,cr,hk,rfl,hG,hX,hB⟩:=hrel;have Jb:=qA (ky k hk);have HG:=qA hG;have HX:=qA hX;have HB:=qA hB;have tH:=hB.size;have bJ:=hG.lt;clear hG hX hB;by_cases ac:k<L.length
  ·obtain⟨lb,off,A1,ak,rfl,nh,hc,_,_,aP⟩:=(H.below HB).at ac;have dC:=qA aP;have HC:=qA hc;have HT:Wi ((L.take (k+1)).foldl petG (r,1,[])=petG ((L.take k).foldl petG (r,1,[])) L[k]):=qA (by rw[zar ac,List.foldl_append];rfl);have HM:=qA (zam ac);have mG:(k:Int)<(L.length:Int):=tO;clear aP hc;generalize (L.take k).foldl petG (r,1,[])=g at*;generalize L[k]=x at*;have ei:=oY.o x HM.o;have ka:=qA (fun W v (h:ArgG W v g) (h':RdI W (.slice A1 x.length ak) x)=>qFy v _ g x W h h' Jb.o.1 (by rw[Jb.o.2];exact su.o x HM.o) ei);generalize petG g x=pg at*;generalize petB g x=o at*;obtain⟨g1,M,es⟩:=g;obtain⟨p1,p2,ps⟩:=pg;simp only at*
   go_wp2_with fail;refine qAj [.val (.agg #[.int .i64 g1, .int .i64 M, .slice Ar es.length cr]), .val (.slice (some ⟨lb,off,none⟩) L.length cap), .val (.int .i64 k), .val (.pointer (some ⟨lb,off+k,none⟩)), .val (.slice A1 x.length ak),
     .mem (fun _ W v=> ∃A' c',v= .tuple #[.agg #[.int .i64 p1, .int .i64 p2, .slice A' ps.length c'], .bool o]/\I64 p1/\I64 p2/\OwE W wr (.slice A' ps.length c') ps),
     .pur (fun us v=>v=us 5), .pur (fun us v=> ∃A' c',us 5= .tuple #[.agg #[.int .i64 p1, .int .i64 p2, .slice A' ps.length c'], .bool o]/\v= .agg #[.int .i64 p1, .int .i64 p2, .slice A' ps.length c']), .pur (fun _ v=>v= .bool o),
     .mem (fun _ W v=> ∃q x y z,v= .pointer (some ⟨q,0,none⟩)/\wr.heap.size<=q/\CBx W q x y z/\isT W q 26),
     .mem (fun us W _=> ∃q A' c',us 9= .pointer (some ⟨q,0,none⟩)/\wr.heap.size<=q/\us 5= .tuple #[.agg #[.int .i64 p1, .int .i64 p2, .slice A' ps.length c'], .bool o]/\CBx W q (.int .i64 p1) (.int .i64 p2) (.slice A' ps.length c')),
     .pur (fun _ v=>v= .bool o)]
    [none,none,none,none,none,some (fun W W'=>Wf W.heap.size W W'),none,none,none,some (fun W W'=>Wf W.heap.size W W'),some (fun W W'=> ∃q x y z,wr.heap.size<=q/\isT W q 26/\W'=((W.setCell ⟨q,0,none⟩ x).setCell ⟨q,1,none⟩ y).setCell ⟨q,2,none⟩ z),none]
    (fun W=>Wf wr wr W) [(5,9),(5,10),(9,5),(9,10)] tK tK (by rfl) (by rfl)
    (zae _ _).drew
    ⟨fun _ _ h t=>h.trans (t.mono h.size),fun _ _ h t=>h.trans (t.mono h.size),fun _ _ h ⟨q,x,y,z,hq,_,e⟩=>by rw[e];exact qH x y z h hq,trivial⟩
    ⟨fun _ _ _ _ _ _ t ⟨A',c',e,i1,i2,o⟩=>⟨A',c',e,i1,i2,o.below t⟩,
     fun _ _ _ _ _ _ ⟨q,_,_,_,_,hq,e'⟩ ⟨A',c',e,i1,i2,o⟩=>by rw[e'];exact⟨A',c',e,i1,i2,o.keep fun d hd=>qI _ _ _ _ _ (o.notG hq d hd)⟩,
     fun _ _ _ _ _ _ t ⟨q,x,y,z,e,hq,c,ht⟩=>⟨q,x,y,z,e,hq,c.below t,ht.below t⟩,
     fun _ _ _ _ _ _ ⟨q',a,b,c',_,_,e'⟩ ⟨q,x,y,z,e,hq,c,ht⟩=>(by rw[e'];obtain⟨x',y',z',h'⟩:=c.any (q:=q') a b c';exact⟨q,x',y',z',e,hq,h',ht.set3 _ _ _ _⟩),trivial⟩ (fun vs=> ?_)
   refine⟨fun W' _ _ hI hD hK=> ?_,?_⟩
   ·obtain⟨z0,z1,z2⟩:=(HG.below hI).cs;go_simp;exact hK.o _ _ rfl rfl
   simp only[zah,zaa,zac,zad,Sg.pick,Nat.reduceAdd]
   iterate 3
    refine⟨fun W' _ _ hI hD hK=> ?_,?_⟩
    ·skip;go_simp;exact hK.o _ _ rfl rfl
    simp only[zah,zaa,zac,zad,Sg.pick,Nat.reduceAdd]
   refine⟨fun W' _ _ hI hD hK=> ?_,?_⟩
   ·have z0:=(hI.cell (p:=⟨lb,off+k,none⟩) nh).trans HC.o;go_simp;exact hK.o _ _ rfl rfl
   simp only[zah,zaa,zac,zad,Sg.pick,Nat.reduceAdd];refine⟨fun W' _ _ hI hD hK=> ?_,?_⟩
   ·skip;go_simp;refine(ka _ _ (HG.below hI).arg (dC.below hI)).mono ?_;rintro e w' ⟨rv,rfl,⟨s,rfl,i1,i2,oe⟩,b'⟩;obtain⟨A',c',rfl,_⟩:=oe.form;exact hK.o _ _ b' ⟨A',c',rfl,i1,i2,oe.mono hI.size⟩
   simp only[zah,zaa,zac,zad,Sg.pick,Nat.reduceAdd];refine⟨fun W' _ _ hI hD hK=> ?_,?_⟩
   ·skip;go_simp;exact hK.o _ _ rfl rfl
   simp only[zah,zaa,zac,zad,Sg.pick,Nat.reduceAdd];refine⟨fun W' _ _ hI hD hK=> ?_,?_⟩
   ·obtain⟨A',c',e5,_⟩:=(show ∃A' c',vs 5= .tuple #[.agg #[.int .i64 p1, .int .i64 p2, .slice A' ps.length c'], .bool o]/\I64 p1/\I64 p2/\OwE W' wr (.slice A' ps.length c') ps from hD.o 5 tK);have e6:=(show vs 6=qBw _ 6 vs 5 from hD.o 6 tK);rw[qBn tK,e5] at e6;rw[e6,e5] at hK⊢;go_simp;exact hK.o _ _ rfl ⟨A',c',(qBn tK).trans e5,rfl⟩
   simp only[zah,zaa,zac,zad,Sg.pick,Nat.reduceAdd];refine⟨fun W' _ _ hI hD hK=> ?_,?_⟩
   ·obtain⟨A',c',e5,_⟩:=(show ∃A' c',vs 5= .tuple #[.agg #[.int .i64 p1, .int .i64 p2, .slice A' ps.length c'], .bool o]/\I64 p1/\I64 p2/\OwE W' wr (.slice A' ps.length c') ps from hD.o 5 tK);have e6:=(show vs 6=qBw _ 6 vs 5 from hD.o 6 tK);rw[qBn tK,e5] at e6;rw[e6,e5] at hK⊢;go_simp;exact hK.o _ _ rfl rfl
   simp only[zah,zaa,zac,zad,Sg.pick,Nat.reduceAdd];refine⟨fun W' _ _ hI hD hK=> ?_,?_⟩
   ·skip;go_simp;exact hK.o _ _ ((zae _ _).alloc (zab _) _) ⟨_,_,_,_,rfl,hI.size,(CBx.new rfl).1,isT.new _ _ _⟩
   simp only[zah,zaa,zac,zad,Sg.pick,Nat.reduceAdd];refine⟨fun W' _ _ hI hD hK=> ?_,?_⟩
   ·obtain⟨q,a0,a1,a2,e9,hq,hc,ht⟩:=(show ∃q x y z,vs 9= .pointer (some ⟨q,0,none⟩)/\wr.heap.size<=q/\CBx W' q x y z/\isT W' q 26 from hD.o 9 tK);obtain⟨A',c',e5,e7⟩:=(show ∃A' c',qBw _ 7 vs 5= .tuple #[.agg #[.int .i64 p1, .int .i64 p2, .slice A' ps.length c'], .bool o]/\vs 7= .agg #[.int .i64 p1, .int .i64 p2, .slice A' ps.length c'] from hD.o 7 tK);rw[qBn tK] at e5;rw[e7,e9,e5] at hK⊢;obtain⟨z0,z1,z2⟩:=hc.cs;have u0:=hc.fz 0;have u1:=hc.fz 1;have u2:=hc.fz 2;go_simp;exact hK.o undef _ ⟨q,_,_,_,hq,ht,rfl⟩ ⟨q,A',c',(qBn tK).trans e9,hq,(qBn tK).trans e5,hc.setv _ _ _⟩
   simp only[zah,zaa,zac,zad,Sg.pick,Nat.reduceAdd];refine⟨fun W' _ _ hI hD hK=> ?_,?_⟩
   ·have e8:=(show vs 8= .bool o from hD.o 8 tK);rw[e8] at hK⊢;go_simp;exact hK.o _ _ rfl rfl
   simp only[zah,zaa,zac,zad,Sg.pick,Nat.reduceAdd];intro W9 hI9 hD9;obtain⟨q,A9,c9,e9,hq,e5,hc⟩:=(show ∃q A' c',qBw _ 10 vs 9= .pointer (some ⟨q,0,none⟩)/\wr.heap.size<=q/\qBw _ 10 vs 5= .tuple #[.agg #[.int .i64 p1, .int .i64 p2, .slice A' ps.length c'], .bool o]/\CBx W9 q (.int .i64 p1) (.int .i64 p2) (.slice A' ps.length c') from hD9.o 10 tD);rw[qBn tK] at e9 e5;obtain⟨A',c',C5,i1,i2,oe⟩:=(show ∃A' c',vs 5= .tuple #[.agg #[.int .i64 p1, .int .i64 p2, .slice A' ps.length c'], .bool o]/\I64 p1/\I64 p2/\OwE W9 wr (.slice A' ps.length c') ps from hD9.o 5 tD);rw[e5] at C5;injection C5 with C5
   simp at C5
   obtain⟨rfl,rfl⟩:=C5;rw[e9];have I9:=qA hI9.o;have OE:=qA oe;have G9:=qA (HG.below I9);have X9:=qA (HX.below I9);clear hD9 hI9 oe e5 e9;obtain⟨z0,z1,z2⟩:=G9.o.cs;have f0:=G9.o.fz 0;have f1:=G9.o.fz 1;have f2:=G9.o.fz 2;obtain⟨v0,v1,v2⟩:=hc.cs;simp only at z0 z1 z2
   go_wp2;go_roundw
   case rel=>
    refine⟨k+1,A9,c9,tO,by go_num,?_,X9.o.other tO,qH _ _ _ (HB.trans (I9.mono tH)) tO⟩;rw[HT.o];exact(G9.o.set (m:=(p1,p2,ps)) OE (fun b' aL=>by have:=(OE.o.1.lt b' aL).1;omega) i1 i2).mono tO
   case measure=>(first | omega | (simp[intOf];omega))
  ·obtain rfl:k=L.length:=tO
   rw[zai] at HG Jb;have HF:Wi (floF r L=L.foldl petG (r,1,[])):=qA rfl;generalize L.foldl petG (r,1,[])=g at*;obtain⟨g1,M,es⟩:=g;obtain⟨x0,x1,x2⟩:=HX.o.cs;have f0:=HX.o.fz 0;have f1:=HX.o.fz 1;have f2:=HX.o.fz 2;obtain⟨y0,y1,y2⟩:=HG.o.cs;simp only at y0 y1 y2
   go_wp2;have XF:=HX.o.setv (.int .i64 g1) (.int .i64 M) (.slice Ar es.length cr);obtain⟨e0,e1,e2⟩:=XF.cs;exact Wj (v:= .tuple #[.agg #[.int .i64 g1, .int .i64 M, .slice Ar es.length cr], .bool true]) (by simp[results,Tryz.results238,go_sem,e0,e1,e2]) rfl ⟨_,rfl,by rw[HF.o];exact⟨_,rfl,HG.o.i1,HG.o.i2,(HG.o.ow.keep fun c hc=>qI _ _ _ _ _ (by have:=(HG.o.ow.1.lt c hc).1;omega)).mono tO⟩,qH _ _ _ HB.o (zab _)⟩
theorem qNk {r:Int} {L:List (List Int)} (h:areW r L=true):grB (floF r L)=true:=by
 obtain⟨AY,hr,_,_⟩:=qHZ h;have:=(qMf hr AY L.length (zab _)).1
 rwa [zai] at this
theorem qQo {r:Int} {L:List (List Int)} (h:areW r L=true):qS (qCU (floF r L))=true:=qCV (qNk h)
theorem qKK {r:Int} {L:List (List Int)} (gH:1<=r) (bT:r<=3) (hl:L.length<=6) (h:WdL r 5 L):areW r L=true:=by
 unfold areW;rw[qm.2 ⟨gH,bT⟩,decide_eq_true hl];have h1:L.all (qAG r)=true:=by
  rw[List.all_eq_true];intro x hx;obtain⟨_,oK,If⟩:=h x hx;exact qEO (qm.2 ⟨gH,bT⟩) (by have:=(h x hx).1;omega) fun i hi=>qOc If (fun y hy=>by
   obtain⟨y0,y1,y2⟩:=oK y hy;unfold letB;rw[show wrap64 (-r)= -r from IntWalk.wrap64_in _ ⟨tO,tO⟩,qm.2 ⟨tO,y2⟩];simpa using y0) i hi
 have h2:qAr L<=5*L.length:=by
  unfold qAr;clear h1 hl;induction L with
  | nil=>simp
  | cons a l ih=>
    have h1:=(h a List.mem_cons_self).1;have h2:=ih fun x hx=>h x (List.mem_cons_of_mem _ hx);simp only[List.map_cons,List.sum_cons,zaH];omega
 rw[h1,decide_eq_true tO];rfl
theorem qBZ (r:Int) (v:Wh) (L:List (List Int)) (w:Wg) (h:RdII w v L) (hW:areW r L=true):
  Wk Tryz.prog 223 #[.int .i64 r,v] w fun x w'=> ∃rv,x= .returned (.tuple #[rv, .bool true])/\OwG w' w rv (qCU (floF r L))/\Wf w w w':=by
 have H:=qA h;have zA:=qA (fun W (h:RdII W v L)=>qFx r v L W h hW);have aK:=qA (qNk hW);obtain⟨A,cap,rfl,aR,hm,_⟩:=h.form;clear h hW;generalize floF r L=pg at*;have fG:=qA (fun W v (h:ArgG W v pg)=>xP6 _ (.inl ⟨rfl,xPa⟩) v pg W h aK);generalize qCU pg=qg at*;obtain⟨p1,p2,ps⟩:=pg;obtain⟨q1,q2,qs⟩:=qg;go_enter Tryz.func223,Tryz.ntmps223
 go_wp2_with fail;obtain⟨W0,ah⟩: ∃W,W=w.alloc (.cells #[.int .i64 0,.int .i64 0, .slice none 0 0] 26):=⟨_,rfl⟩;rw[<-ah];obtain⟨xb,b0,s0⟩:=CBx.new ah;clear ah;have XB:=qA xb;have B0:=qA b0;clear xb b0;refine(zA _ (H.below B0)).mono ?_
 rintro e w1 ⟨rv,rfl,⟨s1,rfl,i1,i2,dM⟩,b1⟩;obtain⟨A1,c1,rfl,_⟩:=dM.form;simp only at i1 i2 dM⊢
 have X1:=qA (XB.below b1);have B1:=qA (B0.trans (b1.mono tO));have jq:=qA dM;have aE:=b1.size;clear dM b1 XB B0 zA;go_wp2_with fail;obtain⟨W2,aT⟩: ∃W,W=w1.alloc (.cells #[.int .i64 p1,.int .i64 p2, .slice A1 ps.length c1] 26):=⟨_,rfl⟩;rw[<-aT];have g2:=GBx.new (m:=(p1,p2,ps)) jq.o i1 i2 aT;obtain⟨_,b2,s2⟩:=CBx.new aT;have G2:=qA g2;have X2:=qA (X1.below b2);have B2:=qA (B1.trans (b2.mono tO));clear aT g2 b2 X1 B1 jq;refine(fG W2 _ G2.arg).mono ?_
 rintro e w3 ⟨rv,rfl,⟨s3,rfl,j1,j2,aY⟩,b3⟩;obtain⟨A3,c3,rfl,_⟩:=aY.form;simp only at j1 j2 aY⊢
 have X3:=qA (X2.below b3);have B3:=qA (B2.trans (b3.mono tO));have dI:=qA aY;clear aY b3 X2 B2;obtain⟨u0,u1,u2⟩:=X3.o.cs;have f0:=X3.o.fz 0;have f1:=X3.o.fz 1;have f2:=X3.o.fz 2;go_wp2;have XF:=X3.o.setv (.int .i64 q1) (.int .i64 q2) (.slice A3 qs.length c3);obtain⟨e0,e1,e2⟩:=XF.cs;exact Wj (v:= .tuple #[.agg #[.int .i64 q1, .int .i64 q2, .slice A3 qs.length c3], .bool true]) (by simp[results,Tryz.results223,go_sem,e0,e1,e2]) rfl ⟨_,rfl,⟨_,rfl,j1,j2,(dI.keep fun c hc=>qI _ _ _ _ _ (by have:=(dI.o.1.lt c hc).1;omega)).mono tO⟩,qH _ _ _ B3.o (zab _)⟩
theorem qMP (p:Nat) (A:Option Addr) (cap:Nat) (cs:List Int) (w:Wg) (h:Cur p A cap cs w):
  Wk Tryz.prog 194 #[.pointer (some ⟨p,0,none⟩)] w fun e w'=> ∃v g,e= .returned v/\OwG w' w v g/\qS g=true/\Cur p A cap cs w'/\Tr p (p+1) w w':=by
 have H:=qA h;have hp:=h.lt;clear h;go_enter Tryz.func194,Tryz.ntmps194
 go_wp2_with fail;obtain⟨W0,ah⟩: ∃W,W=w.alloc (.cells #[.int .i64 0,.int .i64 0, .slice none 0 0] 26):=⟨_,rfl⟩;rw[<-ah];obtain⟨xb,b0,s0⟩:=CBx.new ah;clear ah;have XB:=qA xb;have I0:Wi (DrI p A cap cs w W0):=qA ((DrI.refl H).bel b0);clear xb b0;have RA:Wi (RdI (W0.alloc (.cells #[.int .i64 1, .int .i64 2, .int .i64 2, .int .i64 2, .int .i64 2, .int .i64 3] 3)) (.slice (some ⟨W0,0,none⟩) 6 6) [1,2,2,2,2,3]):=qA (qp W0 [1,2,2,2,2,3] (by intro y hy;simp at hy;rcases hy with rfl | rfl | rfl<;>(unfold I64;omega)) tZ (zab _)).rd;have IA:=qA (I0.bel ((zae _ _).alloc (zab _) (.cells #[.int .i64 1, .int .i64 2, .int .i64 2, .int .i64 2, .int .i64 2, .int .i64 3] 3)));have XA:=qA (XB.below ((zae _ _).alloc (zab _) (.cells #[.int .i64 1, .int .i64 2, .int .i64 2, .int .i64 2, .int .i64 2, .int .i64 3] 3)));have dE:(zaE (some ⟨W0,0,none⟩) 6 6).ownBlock≠some p:=fun e=>by simp[zaf] at e;omega
 rw[<-s0];(with_reducible refine(qBB p A cap cs _ [1,2,2,2,2,3] _ IA.o.cur RA.o dE tZ tZ).mono ?_)
 rintro e w1 ⟨r,rfl,hr,c1,t1⟩;have I1:=qA (IA.to t1 c1);have X1:=qA (XA.trP t1 tO);have gH:1<=r:=by simp at hr;omega
 have bT:r<=3:=by simp at hr;omega
 clear c1 t1 IA RA hr dE XA I0 XB;go_wp2_with fail;refine(qEe p A cap cs r _ I1.cur gH bT).mono ?_
 rintro e w2 ⟨v2,L,rfl,o2,⟨Tk,zp⟩,c2,t2⟩;have hW:=qKK gH bT tO zp;have gy:=qA (qBZ r v2 L w2 o2.rd hW);have J1:=qA (qQo hW);have I2:=qA (I1.to t2 c2);have X2:=qA (X1.trP t2 tO);obtain⟨A2,m2,bg,rfl⟩:=qKd o2;clear c2 t2 o2 zp hW I1 X1;generalize qCU (floF r L)=qg at*;obtain⟨q1,q2,qs⟩:=qg;go_wp2_with fail;refine gy.o.mono ?_;rintro e w3 ⟨rv,rfl,⟨s3,rfl,j1,j2,aY⟩,b3⟩;obtain⟨A3,c3,rfl,_⟩:=aY.form;simp only at j1 j2 aY⊢
 have X3:=qA (X2.below b3);have I3:=qA (I2.bel b3);have dI:=qA aY;have dQ:=X2.o.lt;have d5:=b3.size;clear aY b3 X2 I2 gy;obtain⟨W4,ro⟩: ∃W,W=w3.alloc (.cells #[.int .i64 q1,.int .i64 q2, .slice A3 qs.length c3] 26):=⟨_,rfl⟩;have g4:=GBx.new (m:=(q1,q2,qs)) dI.o j1 j2 ro;obtain⟨_,b4,s4⟩:=CBx.new ro;have X4:=X3.o.below b4;obtain⟨u0,u1,u2⟩:=X4.cs;have f0:=X4.fz 0;have f1:=X4.fz 1;have f2:=X4.fz 2;rw[ro] at u0 u1 u2 f0 f1 f2;have G4:=qA g4;have I4:=qA (I3.bel b4);have TZ:=qA X4;clear g4 b4 X4;go_wp2;rw[<-ro];have XF:=TZ.o.setv (.int .i64 q1) (.int .i64 q2) (.slice A3 qs.length c3);obtain⟨e0,e1,e2⟩:=XF.cs;have IF:=I4.o.hi H.o (zab _) (qH (.int .i64 q1) (.int .i64 q2) (.slice A3 qs.length c3) (zae _ _) (zab w));exact Wj (v:= .agg #[.int .i64 q1, .int .i64 q2, .slice A3 qs.length c3]) (by simp[results,Tryz.results194,go_sem,e0,e1,e2]) rfl ⟨_,rfl,q1,q2,qs,⟨_,rfl,j1,j2,(G4.o.ow.keep fun c hc=>qI _ _ _ _ _ (by have:=(G4.o.ow.1.lt c hc).1;omega)).mono tO⟩,J1.o,IF.cur,IF.tr⟩
theorem qNt (p:Nat) (A:Option Addr) (cap:Nat) (cs:List Int) (w:Wg) (h:Cur p A cap cs w):
  Wk Tryz.prog 131 #[.pointer (some ⟨p,0,none⟩)] w fun e w'=> ∃v g,e= .returned v/\OwG w' w v g/\g.2.2.length<=120/\Cur p A cap cs w'/\Tr p (p+1) w w':=by
 have H:=qA h;have hp:=h.lt;clear h;go_enter Tryz.func131,Tryz.ntmps131
 go_wp2_with fail;obtain⟨W0,ah⟩: ∃W,W=w.alloc (.cells #[.int .i64 0,.int .i64 0, .slice none 0 0] 26):=⟨_,rfl⟩;rw[<-ah];obtain⟨xb,b0,s0⟩:=CBx.new ah;clear ah;have XB:=qA xb;have I0:Wi (DrI p A cap cs w W0):=qA ((DrI.refl H).bel b0);clear xb b0;refine(qEL p A cap cs 8 _ I0.cur tO tO).mono ?_
 rintro e w1 ⟨x,rfl,c1,t1⟩;have I1:=qA (I0.to t1 c1);have X1:=qA (XB.trP t1 tO);have aE:=X1.o.lt;clear c1 t1 I0 XB;rcases x with _ | _
 ·go_wp2_with fail;refine(qMP p A cap cs _ I1.cur).mono ?_
  rintro e w2 ⟨v2,⟨q1,q2,qs⟩,rfl,⟨s2,rfl,j1,j2,bI⟩,zg,c2,t2⟩;have hl:qs.length<=120:=(qD (qBz zg)).2.2.1;clear zg;obtain⟨A2,bg,rfl,_⟩:=bI.form;simp only at j1 j2 bI⊢
  have I2:=qA (I1.to t2 c2);have X2:=qA (X1.trP t2 tO);have dL:=qA bI;clear c2 t2 bI I1 X1;obtain⟨u0,u1,u2⟩:=X2.o.cs;have f0:=X2.o.fz 0;have f1:=X2.o.fz 1;have f2:=X2.o.fz 2;go_wp2;have XF:=X2.o.setv (.int .i64 q1) (.int .i64 q2) (.slice A2 qs.length bg);obtain⟨e0,e1,e2⟩:=XF.cs;have IF:=I2.o.hi H.o (zab _) (qH (.int .i64 q1) (.int .i64 q2) (.slice A2 qs.length bg) (zae _ _) (zab w));exact Wj (v:= .agg #[.int .i64 q1, .int .i64 q2, .slice A2 qs.length bg]) (by simp[results,Tryz.results131,go_sem,e0,e1,e2]) rfl ⟨_,rfl,q1,q2,qs,⟨_,rfl,j1,j2,(dL.keep fun c hc=>qI _ _ _ _ _ (by have:=(dL.o.1.lt c hc).1;omega)).mono tO⟩,hl,IF.cur,IF.tr⟩
 ·go_wp2_with fail;refine(qIk p A cap cs _ I1.cur).mono ?_
  rintro e w2 ⟨v2,⟨q1,q2,qs⟩,rfl,⟨s2,rfl,j1,j2,bI⟩,hl,c2,t2⟩;obtain⟨A2,bg,rfl,_⟩:=bI.form;simp only at j1 j2 bI hl⊢
  have I2:=qA (I1.to t2 c2);have X2:=qA (X1.trP t2 tO);have dL:=qA bI;clear c2 t2 bI I1 X1;obtain⟨u0,u1,u2⟩:=X2.o.cs;have f0:=X2.o.fz 0;have f1:=X2.o.fz 1;have f2:=X2.o.fz 2;go_wp2;have XF:=X2.o.setv (.int .i64 q1) (.int .i64 q2) (.slice A2 qs.length bg);obtain⟨e0,e1,e2⟩:=XF.cs;have IF:=I2.o.hi H.o (zab _) (qH (.int .i64 q1) (.int .i64 q2) (.slice A2 qs.length bg) (zae _ _) (zab w));exact Wj (v:= .agg #[.int .i64 q1, .int .i64 q2, .slice A2 qs.length bg]) (by simp[results,Tryz.results131,go_sem,e0,e1,e2]) rfl ⟨_,rfl,q1,q2,qs,⟨_,rfl,j1,j2,(dL.keep fun c hc=>qI _ _ _ _ _ (by have:=(dL.o.1.lt c hc).1;omega)).mono tO⟩,tO,IF.cur,IF.tr⟩
def rgL (N:Int) (l:List Int):Prop:= ∀y∈l,0<=y/\y<N
theorem qEm (p:Nat) (A:Option Addr) (cap:Nat) (cs:List Int) (w:Wg) (h:Cur p A cap cs w):
  Wk Tryz.prog 156 #[.pointer (some ⟨p,0,none⟩)] w fun e w'=> ∃v g,e= .returned v/\OwG w' w v g/\qS g=true/\Cur p A cap cs w'/\Tr p (p+1) w w':=by
 have H:=qA h;have hp:=h.lt;clear h;go_enter Tryz.func156,Tryz.ntmps156
 go_wp2_with fail;obtain⟨W0,ah⟩: ∃W,W=w.alloc (.cells #[.int .i64 0,.int .i64 0, .slice none 0 0] 26):=⟨_,rfl⟩;rw[<-ah];obtain⟨xb,b0,s0⟩:=CBx.new ah;clear ah;have XB:=qA xb;have I0:Wi (DrI p A cap cs w W0):=qA ((DrI.refl H).bel b0);clear xb b0;have RA:Wi (RdI (W0.alloc (.cells #[.int .i64 1, .int .i64 2, .int .i64 2, .int .i64 2, .int .i64 3] 3)) (.slice (some ⟨W0,0,none⟩) 5 5) [1,2,2,2,3]):=qA (qp W0 [1,2,2,2,3] (by intro y hy;simp at hy;rcases hy with rfl | rfl | rfl<;>(unfold I64;omega)) tZ (zab _)).rd;have IA:=qA (I0.bel ((zae _ _).alloc (zab _) (.cells #[.int .i64 1, .int .i64 2, .int .i64 2, .int .i64 2, .int .i64 3] 3)));have XA:=qA (XB.below ((zae _ _).alloc (zab _) (.cells #[.int .i64 1, .int .i64 2, .int .i64 2, .int .i64 2, .int .i64 3] 3)));have dE:(zaE (some ⟨W0,0,none⟩) 5 5).ownBlock≠some p:=fun e=>by simp[zaf] at e;omega
 rw[<-s0];(with_reducible refine(qBB p A cap cs _ [1,2,2,2,3] _ IA.o.cur RA.o dE tZ tZ).mono ?_)
 rintro e w1 ⟨r,rfl,hr,c1,t1⟩;have I1:=qA (IA.to t1 c1);have X1:=qA (XA.trP t1 tO);have gH:1<=r:=by simp at hr;omega
 have bT:r<=3:=by simp at hr;omega
 clear c1 t1 IA RA hr dE XA I0 XB;go_wp2_with fail;refine(qAC p A cap cs 5 _ I1.cur tO tO).mono ?_
 rintro e w2 ⟨n0,rfl,⟨n1,n2⟩,c2,t2⟩;have I2:=qA (I1.to t2 c2);have X2:=qA (X1.trP t2 tO);obtain⟨N,hN⟩: ∃N,N=1+n0:=⟨_,rfl⟩;have mH:1<=N:=tO;have Qu:N<=5:=tO;have Jc:IntKind.i64.wrap (1+n0)=N:=by rw[IntKind.wrap_i64];omega
 clear c2 t2 I1 X1;go_wp2_with fail;rw[<-hN];obtain⟨W3,lZ⟩: ∃W,W=w2.alloc (.cells #[.int .i64 r,.int .i64 N, .slice none 0 0] 26):=⟨_,rfl⟩;have g3:GBx W3 w2 (w.heap.size+1) none 0 (r,N,[]):=GBx.new (base:=w.heap.size+1) (m:=(r,N,[])) OwE.nil (show I64 r from⟨tO,tO⟩) (show I64 N from⟨tO,tO⟩) lZ;obtain⟨_,b3,s3⟩:=CBx.new lZ;rw[<-lZ];have G3:=qA g3;have I3:=qA (I2.bel b3);have X3:=qA (X2.below b3);have dQ:=X2.o.lt;have oT:grB (r,N,[])=true:=qEr ⟨gH,bT⟩ ⟨mH,by simp only;omega⟩ tZ List.Pairwise.nil (fun _ h=>by cases h);have vL:=qA oT;clear lZ g3 b3 I2 X2 hN Jc oT;generalize hb:w2.heap.size=b at*;clear hb;go_loopw [6] (fun nv wr=> ∃(x:Int) (es:List EdD) (Ar:Option Addr) (cr:Nat),nv= .int .i64 x/\1<=x/\x<=r+1/\(es.length:Int)<=(x-1)*5/\grB (r,N,es)=true/\GBx wr b (w.heap.size+1) Ar cr (r,N,es)/\CBx wr w (.int .i64 0) (.int .i64 0) (.slice none 0 0)/\DrI p A cap cs w wr) (fun nv _=>(r+1-intOf nv).toNat)
 case atStart=>exact⟨1,[],none,0,rfl,tO,tO,tZ,vL.o,G3.o,X3.o,I3.o⟩
 case round=>
  obtain⟨x,es,Ar,cr,rfl,gt,fQ,iQ,aC,hG,hX,hI⟩:=hrel;have aK:=qA aC;have HG:=qA hG;have HX:=qA hX;have HI:=qA hI;have tH:=hI.tr.size;have bJ:=hG.lt;clear aC hG hX hI;generalize wr=wo at*;by_cases ac:x<=r
  ·have O1:Wi (OwI (wo.alloc (.cells #[] 3)) wo (.slice (some ⟨wo,0,none⟩) 0 0) []):=qA (qp wo [] qt tZ (zab _));go_wp2;go_loopw [7,8] (fun lv nv wr=> ∃(k:Int) (l:List Int),nv= .int .i64 k/\0<=k/\k<=N/\(l.length:Int)=k/\rgL N l/\OwI wr wo lv l/\Wf wo wo wr) (fun _ nv _=>(N-intOf nv).toNat)
   case atStart=>exact⟨0,[],rfl,tO,tO,rfl,(fun y hy=>by cases hy),O1.o,(zae _ _).alloc (zab _) _⟩
   case round=>
    obtain⟨k,l,rfl,l5,TM,dH,Ds,hO,hB⟩:=hrel;have ux:=qA Ds;have HO:=qA hO;have HB:=qA hB;have CO:=hB.size;obtain⟨Al,cl,rfl,aZ,dK,rz,_⟩:=hO.form;clear Ds hO hB;by_cases gN:k<N
    ·have Us:Wi (I64 k):=qA ⟨tO,tO⟩;go_wp2_with (at_builtin;refine qW rfl (.tmp 31) (.tmp 33) rfl _ _ _ (OwI.alloc HO _) rfl _ _ rfl (qU _ _ _) Us.o tB tB ?_;intro v1 nu o1 g1 p1)
     go_roundw
     case rel=>exact⟨k+1,l++ [k],by go_num,tO,tO,by simp;omega,(fun y hy=>by
      rcases zao.1 hy with hy | hy
      ·exact ux.o y hy
      ·rw[zan.1 hy];omega),o1,qh HB.o CO HO.o.1 (zab _) g1⟩
     case measure=>exact tM
    ·obtain rfl:N=k:=tO
     have G4:=qA (HG.o.belowAt HB bJ (fun c hc=>(HG.o.ow.1.lt c hc).2));have X4:=qA (HX.o.belowAt HB tO);have I4:=qA (HI.bel HB);generalize wr=wq at*;go_wp2;go_loopw [7,9] (fun lv nv wr=> ∃(k:Int) (l:List Int) (es:List EdD) (Ar:Option Addr) (cr:Nat),nv= .int .i64 k/\0<=k/\k<=N/\(l.length:Int)=N-k/\rgL N l/\OwI wr wo lv l/\(es.length:Int)<=(x-1)*5+k/\grB (r,N,es)=true/\GBx wr b (w.heap.size+1) Ar cr (r,N,es)/\CBx wr w (.int .i64 0) (.int .i64 0) (.slice none 0 0)/\DrI p A cap cs w wr/\wo.heap.size<=wr.heap.size) (fun _ nv _=>(N-intOf nv).toNat)
     case atStart=>exact⟨0,l,es,Ar,cr,rfl,tO,tO,tO,ux.o,HO.o,tO,aK.o,G4.o,X4.o,I4.o,CO⟩
     case round=>
      clear G4 X4 I4 HO ux HB aK HG HX HI iQ dH aZ dK rz gN O1;obtain⟨k,l,es,Ar,cr,rfl,l5,TM,dH,Ds,hO,iQ,aC,hG,hX,hI,Mt⟩:=hrel;have ux:=qA Ds;have HO:=qA hO;have aK:=qA aC;have HG:=qA hG;have HX:=qA hX;have HI:=qA hI;obtain⟨Al,cl,rfl,aZ,dK,rz,dY⟩:=hO.form;have iF:=qA dY;have xN:=hG.lt;have RX:=qA dH;clear Ds hO aC hG hX hI dY;by_cases gN:k<N
      ·obtain⟨lg,rfl,Ur,S3⟩:=iF.o tO;have bk:0<(l.length:Int):=tO;have UM:(l.length:Int)<=5:=tO;clear dH;go_wp2_with fail;refine(qAC p A cap cs l.length _ HI.cur tO tO).mono ?_
       rintro e w5 ⟨j0,rfl,hj,c5,t5⟩;obtain⟨j,rfl⟩: ∃j:Nat,j0=j:=⟨j0.toNat,tO⟩;have eF:j<l.length:=tO;have Ol:(j:Int)<(l.length:Int):=tO;have I5:=qA (HI.to t5 c5);have X5:=qA (HX.trP t5 tO);have G5:=qA (HG.trP t5 tO tO);have O5:=qA (HO.trP t5 tO);have fg:=t5.size;have EO:=O5.o.cellAt j eF;have HY:=qA (ux l[j] (zam eF));have yk:Wi (rgL N (l.take j++l.drop (j+1))):=qA fun y hy=>by
        rcases zao.1 hy with hy | hy
        ·exact ux.o y (List.mem_of_mem_take hy)
        ·exact ux.o y (List.mem_of_mem_drop hy)
       have fB:Wi (((l.take j++l.drop (j+1)).length:Int)=l.length-1):=qA (by simp;omega);clear c5 t5 HI HX HG HO iF ux;generalize l[j]=y at*;have eE:=qA (fun W (h:ArgE W (.slice Ar es.length cr) es)=>qBy _ es (k,x,y) W h ⟨⟨by simp only;omega,by simp only;omega⟩,⟨by simp only;omega,by simp only;omega⟩,⟨by simp only;have:=HY.o;omega,by simp only;have:=HY.o;omega⟩⟩ tO);unfold edV at eE;simp only at eE
       have JO:Wi (grB (r,N,insF cmpE es (k,x,y))=true):=qA (qPj aK ⟨⟨by simp only;omega,by simp only;omega⟩,⟨by simp only;omega,by simp only;omega⟩,HY.o⟩ (by simp only;omega));have ud:(insF cmpE es (k,x,y)).length<=es.length+1:=qCF (c:=cmpE) es (k,x,y);generalize insF cmpE es (k,x,y)=bO at*;go_wp2_with fail;refine qAm [.val (.pointer (some ⟨b,2,none⟩)), .val (.slice Ar es.length cr), .val (.int .i64 k), .val (.int .i64 x), .val (.slice (some ⟨lg,0,none⟩) l.length cl), .val (.int .i64 j), .val (.pointer (some ⟨lg,j,none⟩)), .val (.int .i64 y), .val (.agg #[.int .i64 k, .int .i64 x, .int .i64 y]), .mem (fun _ W v=> ∃A' c',v= .slice A' bO.length c'/\OwE W w5 v bO), .val (.pointer (some ⟨b,2,none⟩)), .mem (fun us W _=> ∃Wp A' c',Wf w5 w5 Wp/\OwE Wp w5 (.slice A' bO.length c') bO/\W=Wp.setCell ⟨b,2,none⟩ (.slice A' bO.length c'))]
        [none,none,none,none,none,none,none,none,none,some (fun W W'=>Wf W.heap.size W W'),none,some (fun W W'=> ∃v,W'=W.setCell ⟨b,2,none⟩ v)]
        (fun _=>True) (fun W=>Wf w5 w5 W) [11] [(9,11)] tK tK (by rfl) (by rfl)
        trivial (zae _ _).drew
        ⟨fun _ _ _ _=>trivial,fun _ _ _ _=>trivial,trivial⟩
        ⟨.inr fun _ _ _ h t=>h.trans (t.mono h.size), .inl tZ,trivial⟩
        ⟨fun _ _ _ _ _ _ ⟨u,t⟩ ⟨A',c',e,o⟩=>by subst t;exact⟨A',c',e,o.keep fun d hd=>Below.heap_setCell _ _ _ d (show d≠b by have:=(o.1.lt d hd).1;omega)⟩,trivial⟩ (fun vs=> ?_)
       refine⟨fun W' _ _ hI hD hK=> ?_,?_⟩
       ·skip;go_simp;exact hK.o _ _ rfl rfl
       simp only[zah,zaa,zac,zad,Sg.pick,Nat.reduceAdd];refine⟨fun W' _ _ hI hD hK=> ?_,?_⟩
       ·have z2:=(G5.below (hI.o.2 tK)).c2;go_simp;exact hK.o _ _ rfl rfl
       simp only[zah,zaa,zac,zad,Sg.pick,Nat.reduceAdd]
       iterate 5
        refine⟨fun W' _ _ hI hD hK=> ?_,?_⟩
        ·skip;go_simp;exact hK.o _ _ rfl rfl
        simp only[zah,zaa,zac,zad,Sg.pick,Nat.reduceAdd]
       refine⟨fun W' _ _ hI hD hK=> ?_,?_⟩
       ·have z0:=((hI.o.2 tK).cell (p:=⟨lg,j,none⟩) tB).trans EO;go_simp;exact hK.o _ _ rfl rfl
       simp only[zah,zaa,zac,zad,Sg.pick,Nat.reduceAdd];refine⟨fun W' _ _ hI hD hK=> ?_,?_⟩
       ·skip;go_simp;exact hK.o _ _ rfl rfl
       simp only[zah,zaa,zac,zad,Sg.pick,Nat.reduceAdd];refine⟨fun W' _ _ hI hD hK=> ?_,?_⟩
       ·skip;go_simp;refine(eE _ (G5.below (hI.o.2 tK)).ow.arg).mono ?_;rintro e w' ⟨rv,rfl,oe,b'⟩;obtain⟨A',c',rfl,_⟩:=oe.form;exact hK.o _ _ b' ⟨A',c',rfl,oe.mono (hI.o.2 tK).size⟩
       simp only[zah,zaa,zac,zad,Sg.pick,Nat.reduceAdd];refine⟨fun W' _ _ hI hD hK=> ?_,?_⟩
       ·skip;go_simp;exact hK.o _ _ rfl rfl
       simp only[zah,zaa,zac,zad,Sg.pick,Nat.reduceAdd];refine⟨fun W' _ _ hI hD hK=> ?_,?_⟩
       ·obtain⟨A',c',e9,o⟩:=(show ∃A' c',vs 9= .slice A' bO.length c'/\OwE W' w5 (vs 9) bO from hD.o 9 tK);rw[e9] at hK o⊢;have hG:=G5.o.below (hI.o.2 tK);have z2:=hG.c2;have u2:=hG.fz 2;go_simp;exact hK.o undef _ ⟨_,rfl⟩ ⟨W',A',c',hI.o.2 tK,o,rfl⟩
       simp only[zah,zaa,zac,zad,Sg.pick,Nat.reduceAdd];intro W9 hI9 hD9;obtain⟨Wp,A9,c9,bp,op,Kv⟩:=(show ∃Wp A' c',Wf w5 w5 Wp/\OwE Wp w5 (.slice A' bO.length c') bO/\W9=Wp.setCell ⟨b,2,none⟩ (.slice A' bO.length c') from hD9.o 11 tD);have G9:=qA (((G5.below bp).put (ms:=bO) op (fun c hc=>by have:=(op.1.lt c hc).1;omega)).mono (show w.heap.size+1<=w5.heap.size by omega));have X9:=qA ((X5.below bp).one (q:=b) (j:=2) (v:= .slice A9 bO.length c9) tO);have I9:=qA ((I5.bel bp).hi H (zab _) ((zae w Wp).setCell (p:=⟨b,2,none⟩) (by show w.heap.size<=b;omega) (.slice A9 bO.length c9)));have O9:=qA ((O5.below bp).far (p:=⟨b,2,none⟩) (by show b<wo.heap.size;exact bJ) (.slice A9 bO.length c9));have lJ:w5.heap.size<=W9.heap.size:=by rw[Kv];simpa using bp.size
       simp only at G9
       rw[<-Kv] at G9 X9 I9 O9;clear hI9 hD9 Kv op bp G5 X5 I5 O5 eE EO;generalize W9=w9 at*;have HH:=qA (O9.rd.head (k:=j) rfl tO);have z1:(0:Int)<=(j:Int):=tO;have z2:(j:Int)<=(cl:Int):=tO;have z3:(j:Int)+1<=(l.length:Int):=tO;have z4:(j:Int)<=(l.length:Int):=tO;have z5:(0:Int)<=(j:Int)+1:=tO;have z6:(j:Int)+1<=(cl:Int):=tO;have z7:((j:Int)+1).toNat=j+1:=tO;have zw:IntKind.i64.wrap ((j:Int)+1)=(j:Int)+1:=by rw[IntKind.wrap_i64];omega
       have HD:Wi (RdI w9 (.slice (if cl=j+1 then some ⟨lg,0,none⟩ else some ⟨lg,j+1,none⟩) (l.length-(j+1)) (cl-(j+1))) (l.drop (j+1))):=qA (by
        have:=O9.o.rd.cut (k:=j+1) rfl tO
        simpa[Addr.add_lit] using this)
       have E9:Wi (OwI (w9.drew.alloc (.cells #[] 3)) w9 (.slice (some ⟨w9,0,none⟩) 0 0) []):=qA (qp w9.drew [] qt tZ (zab _));have Fr:Wi (Wf w9 w9 (w9.drew.alloc (.cells #[] 3))):=qA (((zae _ _).drew).alloc (zab _) (.cells #[] 3));have Nf:=qA (HH.below Fr);have Pm:(l.take j).length=j:=by rw[zaI];omega
       have tn:(l.drop (j+1)).length=l.length-(j+1):=List.length_drop;have rT:=yk.o;have rY:=fB.o;have mm:l.length-(j+1)<=5:=tO;obtain⟨la,uN⟩: ∃a,a=l.take j:=⟨_,rfl⟩;obtain⟨lb,nh⟩: ∃a,a=l.drop (j+1):=⟨_,rfl⟩;rw[<-uN] at HH Nf Pm rT rY;rw[<-nh] at HD tn rT rY;have yk:=qA rT;have fB:=qA rY;clear uN nh rT rY;go_wp2_with fail;go_region_held3 (fun w'=>True) (trivial)
        (first
         | (refine ql rfl (.tmp 55) (.tmp 58) rfl w9 _ [] E9 (by rfl) _ la Nf.o (by rfl) (by simp only[zaD];omega) Fr.o.size ?_;intro va wa oa ga pa;rw[zap] at oa;have BA:Wi (Wf w9 w9 wa):=qA (Fr.o.grown ga Fr.size (fun c hc=>(E9.o.1.lt c hc).1));have OA:=qA oa;clear oa ga pa)
         | (refine ql rfl (.tmp 59) (.tmp 63) rfl w9 _ la OA (by rfl) _ lb (HD.below BA) (by rfl) tO BA.o.size ?_;intro vb wb ob gb pb;have BB:Wi (Wf w9 w9 wb):=qA (BA.o.grown gb BA.size (fun c hc=>(OA.o.1.lt c hc).1));have OB:=qA ob;clear ob gb pb OA BA))
       obtain⟨Ab,mb,cb,rfl⟩:=OB.o.any2;go_wp2;go_roundw;exact⟨k+1,la++lb,bO,A9,c9,by go_num,tO,tO,by have:=fB.o;have:=RX.o;omega,yk.o,OB.o.mono tO,tO,JO.o,G9.o.below BB.o,X9.o.below BB.o,I9.o.bel BB.o,by have:=BB.o.size;omega⟩;exact tM
      ·obtain rfl:k=N:=tO
       have JU:IntKind.i64.wrap (x+1)=x+1:=by rw[IntKind.wrap_i64];omega
       go_wp2;go_roundw;exact⟨x+1,es,Ar,cr,by go_num,tO,tO,tO,aK.o,HG.o,HX.o,HI.o⟩;exact tM
  ·have fG:=qA (fun W v (h:ArgG W v (r,N,es))=>xP6 _ (.inl ⟨rfl,xPa⟩) v (r,N,es) W h aK);have J1:=qA (qCV aK);generalize qCU (r,N,es)=qg at*;obtain⟨q1,q2,qs⟩:=qg;obtain⟨y0,y1,y2⟩:=HG.o.cs;simp only at y0 y1 y2
   go_wp2_with fail;refine(fG wo _ HG.arg).mono ?_
   rintro e w2 ⟨v2,rfl,⟨s2,rfl,j1,j2,bI⟩,b2⟩;obtain⟨A2,bg,rfl,_⟩:=bI.form;simp only at j1 j2 bI⊢
   have I2:=qA (HI.bel b2);have X2:=qA (HX.below b2);have dL:=qA bI;clear b2 bI;obtain⟨u0,u1,u2⟩:=X2.o.cs;have f0:=X2.o.fz 0;have f1:=X2.o.fz 1;have f2:=X2.o.fz 2;go_wp2;have XF:=X2.o.setv (.int .i64 q1) (.int .i64 q2) (.slice A2 qs.length bg);obtain⟨e0,e1,e2⟩:=XF.cs;have IF:=I2.o.hi H.o (zab _) (qH (.int .i64 q1) (.int .i64 q2) (.slice A2 qs.length bg) (zae _ _) (zab w));exact Wj (v:= .agg #[.int .i64 q1, .int .i64 q2, .slice A2 qs.length bg]) (by simp[results,Tryz.results156,go_sem,e0,e1,e2]) rfl ⟨_,rfl,q1,q2,qs,⟨_,rfl,j1,j2,(dL.keep fun c hc=>qI _ _ _ _ _ (by have:=(dL.o.1.lt c hc).1;omega)).mono tO⟩,J1.o,IF.cur,IF.tr⟩
theorem xP9 (n:Nat) (hn:n=16/\xPA\/n=118/\xPB) (v:Wh) (g:GrD) (w:Wg) (h:ArgG w v g):
  Wk Tryz.prog n #[v] w fun e w'=>e= .returned (.int .i64 (qHw g))/\Wf w w w':=by
 rcases hn with ⟨rfl,hD⟩ | ⟨rfl,hD⟩
 all_goals
  have HG:=qA h;obtain⟨s,rfl,aN,aQ,ha⟩:=h;obtain⟨A,cap,rfl,aR,hm,_⟩:=ha;have HP:Wi (qS g=true->g.2.1<=40/\1<=g.2.1/\g.2.2.length<=120):=qA fun e=>by
   obtain⟨_,h1,h2,_⟩:=qD (qBz e);exact⟨h1.2,h1.1,h2⟩
  have HR:Wi (qHw g=if qS g then(g.2.2.length:Int)-g.2.1+1 else-1):=qA rfl;generalize qHw g=rk at*;first | go_enter Tryz.func16,Tryz.ntmps16 | go_enter Tryz.func118,Tryz.ntmps118
  go_wp2_with fail;have bx:Wf w w (w.alloc (.cells #[.int .i64 g.1,.int .i64 g.2.1, .slice A g.2.2.length cap] 26)):=(by repeat(first | exact .refl _ _ | (refine BxS ?_ _) | (refine qC ?_ _) | (refine Below.drew ?_) | (refine BxA ?_ _)));have l1:(w.alloc (.cells #[.int .i64 g.1,.int .i64 g.2.1, .slice A g.2.2.length cap] 26)).cell? ⟨w,1,none⟩=some (.int .i64 g.2.1):=by simp[go_sem]
  have l2:(w.alloc (.cells #[.int .i64 g.1,.int .i64 g.2.1, .slice A g.2.2.length cap] 26)).cell? ⟨w,2,none⟩=some (.slice A g.2.2.length cap):=by simp[go_sem]
  have sA:w.heap.size<(w.alloc (.cells #[.int .i64 g.1,.int .i64 g.2.1, .slice A g.2.2.length cap] 26)).heap.size:=tZ;have ax:=HG.o.below bx;generalize w.alloc (.cells #[.int .i64 g.1,.int .i64 g.2.1, .slice A g.2.2.length cap] 26)=W at bx l1 l2 sA ax⊢;first | refine(qY _ g _ ax).mono ?_ | refine(qr _ g _ ax).mono ?_
  rintro e w1 ⟨rfl,b1⟩;have B2:=qA (bx.trans (b1.mono bx.size));have c1:=(b1.cell (p:=⟨w,1,none⟩) sA).trans l1;have c2:=(b1.cell (p:=⟨w,2,none⟩) sA).trans l2;clear b1 bx l1 l2 ax;rcases e1:qS g with _ | _
  ·have kP:Wi (rk= -1):=qA (by rw[HR.o,e1];rfl);clear e1;go_wp2;exact Wj (v:= .int .i64 (-1)) (by simp[results,Tryz.results16,Tryz.results118]) rfl ⟨by rw[kP.o],B2.o⟩
  ·obtain⟨p1,p2,p3⟩:=HP.o e1;have kP:Wi (rk=(g.2.2.length:Int)-g.2.1+1):=qA (by rw[HR.o,e1,Wm rfl]);clear e1;go_wp2;exact Wj (v:= .int .i64 ((g.2.2.length:Int)-g.2.1+1)) (by simp[results,Tryz.results16,Tryz.results118];try(go_num)) rfl ⟨by rw[kP.o],B2.o⟩
theorem qEd {g:GrD} (h:qS g=true):qO g=true:=by
 unfold qS at h;simp only[Bool.and_eq_true] at h;exact h.1.1
def repW (w:List Int):Nat->List Int
 | 0=> []
 | k+1=>repW w k++w
def itS (es:List EdD) (w:List Int):Nat->Int×List Int->Int×List Int
 | 0,s=>s
 | k+1,s=>runS es (itS es w k s) w
section
variable {g:GrD} (hg:grB g=true) (hf:Fol g.2.2) {w:List Int} (hw: ∀y∈w,Lt3 y) {s:Int×List Int} (hs:okS g s)
include hg hw
omit hs in
theorem qQb: ∀ {k:Nat} {s:Int×List Int},okS g s->okS g (itS g.2.2 w k s)
 | 0,_,h=>h
 | k+1,_,h=>qCQ hg (qQb (k:=k) h) hw
include hf
omit hs in
theorem qQS {s t:Int×List Int} (h:okS g s) (h':okS g t) (e:runS g.2.2 s w=runS g.2.2 t w):s=t:=by
 rw[<-qCW hg hf h hw,<-qCW hg hf h' hw,e]
include hs
omit hw hs in
theorem qDv {p:List Int} {s:Int×List Int} (h:okS g s) (hp: ∀y∈p,Lt3 y):runS g.2.2 (runS g.2.2 s (invN p)) p=s:=by
 have hi: ∀y∈invN p,Lt3 y:=fun y hy=>by have:=(hp _ (qCj hy)).neg;rwa [Int.neg_neg] at this
 have:=qCW hg hf h hi
 rwa [qIA] at this
end
section
variable {g:GrD} (hg:grB g=true) (hf:Fol g.2.2)
include hg hf
theorem qOI {p c:List Int} (hp: ∀y∈p,Lt3 y) (hc: ∀y∈c,Lt3 y) {s:Int×List Int} (hs:okS g s): ∀k,itS g.2.2 (p++c++invN p) k s=runS g.2.2 (itS g.2.2 c k (runS g.2.2 s p)) (invN p)
 | 0=>(qCW hg hf hs hp).symm
 | k+1=>by
   show runS g.2.2 (itS g.2.2 (p++c++invN p) k s) (p++c++invN p)=runS g.2.2 (runS g.2.2 (itS g.2.2 c k (runS g.2.2 s p)) c) (invN p)
   rw[qOI hp hc hs k,qAV,qAV,qDv hg hf (qQb hg hc (qCQ hg hs hp)) hp]
theorem qGc {p c:List Int} (hp: ∀y∈p,Lt3 y) (hc: ∀y∈c,Lt3 y) {s:Int×List Int} (hs:okS g s) (k:Nat):itS g.2.2 (p++c++invN p) k s=s↔itS g.2.2 c k (runS g.2.2 s p)=runS g.2.2 s p:=by
 rw[qOI hg hf hp hc hs k];constructor
 ·intro e;have q:runS g.2.2 (runS g.2.2 (itS g.2.2 c k (runS g.2.2 s p)) (invN p)) p=runS g.2.2 s p:=by rw[e]
  rwa [qDv hg hf (qQb hg hc (qCQ hg hs hp)) hp] at q
 ·intro e;rw[e,qCW hg hf hs hp]
end
theorem qGy {c:List Int}: ∀(n f:Nat),(∀i,i<f->invB (c.getD i 0) (c.getD (c.length-1-i) 0)=true)-> ∀i,i<qBl c n f->invB (c.getD i 0) (c.getD (c.length-1-i) 0)=true
 | 0,_,h=>h
 | n+1,f,h=>by
   rw[qMD];split
   ·rename_i q
    refine qGy n (f+1) fun i hi=> ?_;rcases zaB i f with z | z
    ·exact h i z
    ·have:i=f:=tO
     subst this;exact q.2
   ·exact h
theorem qNQ (l:List Int) (j:Nat) (h:j<l.length):(invN l).getD j 0= -(l.getD (l.length-1-j) 0):=by
 unfold invN;have h1:j<((l.map fun x=> -x).reverse).length:=by simpa using h
 rw[zal,zaj h1,zal,zaj tO];simp
theorem qLo {x:List Int} (h: ∀y∈x,Lt3 y):x=x.take (qAK x)++qGC x++invN (x.take (qAK x)):=by
 have fN:=qDr x;have cY:=qGy (c:=x) x.length 0 (fun i hi=>tO);refine qIC ?_ fun i hi=> ?_
 ·simp only[zak,qEx];simp[invN]
  omega
 ·have l1:(x.take (qAK x)).length=qAK x:=by simp;omega
  have l2:=qEx x;rcases zaB i (qAK x) with q | q
  ·rw[List.append_assoc,qCJ _ _ _ tO];simp[q]
  ·rcases zaB i (x.length-qAK x) with q2 | q2
   ·rw[qCJ _ _ _ (by rw[zak];omega),qEB _ _ _ tO,qFc _ _ tO,l1];congr 1;omega
   ·rw[qEB _ _ _ (by rw[zak];omega),zak,l1,l2];have hj:x.length-1-i<qAK x:=tO;have hx:=cY (x.length-1-i) hj;rw[show x.length-1-(x.length-1-i)=i by omega] at hx;have h3:Lt3 (x.getD (x.length-1-i) 0):=h _ (by rw[zal,zaj tO];simp);rw[Lt3.inv h3] at hx;rw[hx];rw[qNQ _ _ tO,l1,show qAK x-1-(i-(qAK x+(x.length-2*qAK x)))=x.length-1-i by omega];congr 1
    rw[zal,zal,List.getElem?_take_of_lt tO]
section
variable {es:List EdD} {c:List Int} {v:Int}
end
theorem Tr.bw {p B:Nat} {w W W':Wg} (hb:Wf B w W) (ht:Tr p (p+1) W W') (hp:B<=p) (hB:B<=W.heap.size):Wf B w W':=
 ⟨ht.os.trans hb.os,ht.tape.trans hb.tape,ht.output.trans hb.output,zaF hb.size ht.size,fun k hk=>(ht.block k tO tO).trans (hb.block k hk)⟩
theorem qMK (p:Nat) (A:Option Addr) (cap:Nat) (cs:List Int) (w:Wg) (h:Cur p A cap cs w):
  Wk Tryz.prog 91 #[.pointer (some ⟨p,0,none⟩)] w fun e w'=> ∃v g,e= .returned v/\OwG w' w v g/\g.2.2.length<=120/\Cur p A cap cs w'/\Tr p (p+1) w w':=by
 have H:=qA h;have hp:=h.lt;clear h;go_enter Tryz.func91,Tryz.ntmps91
 go_wp2_with fail;obtain⟨W0,ah⟩: ∃W,W=w.alloc (.cells #[.int .i64 0,.int .i64 0, .slice none 0 0] 26):=⟨_,rfl⟩;rw[<-ah];obtain⟨xb,b0,s0⟩:=CBx.new ah;clear ah;have XB:=qA xb;have I0:Wi (DrI p A cap cs w W0):=qA ((DrI.refl H).bel b0);clear xb b0;refine(qEL p A cap cs 2 _ I0.cur tO tO).mono ?_
 rintro e w1 ⟨x,rfl,c1,t1⟩;have I1:=qA (I0.to t1 c1);have X1:=qA (XB.trP t1 tO);have aE:=X1.o.lt;clear c1 t1 I0 XB;have END: ∀w2 q1 q2 qs A2 bg,DrI p A cap cs w w2->CBx w2 w (.int .i64 0) (.int .i64 0) (.slice none 0 0)->OwE w2 w1 (.slice A2 (List.length (α:=EdD) qs) bg) qs->I64 q1->I64 q2->qs.length<=120->
   ∃W,W=((w2.setCell ⟨w,0,none⟩ (.int .i64 q1)).setCell ⟨w,1,none⟩ (.int .i64 q2)).setCell ⟨w,2,none⟩ (.slice A2 qs.length bg)/\CBx W w (.int .i64 q1) (.int .i64 q2) (.slice A2 qs.length bg)/\DrI p A cap cs w W/\OwG W w (.agg #[.int .i64 q1, .int .i64 q2, .slice A2 qs.length bg]) (q1,q2,qs):=fun w2 q1 q2 qs A2 bg hI hX hO h1 h2 _=>
  ⟨_,rfl,hX.setv _ _ _,hI.hi H (zab _) (qH _ _ _ (zae _ _) (zab w)),_,rfl,h1,h2,(hO.keep fun c hc=>qI _ _ _ _ _ (by have:=(hO.1.lt c hc).1;omega)).mono tO⟩
 have AI:=qA END;clear END;rcases x with _ | _
 ·go_wp2_with fail;refine(qNt p A cap cs _ I1.cur).mono ?_
  rintro e w2 ⟨v2,⟨q1,q2,qs⟩,rfl,⟨s2,rfl,j1,j2,bI⟩,hl,c2,t2⟩;obtain⟨A2,bg,rfl,_⟩:=bI.form;simp only at j1 j2 bI hl⊢
  have X2:=qA (X1.trP t2 tO);have HE:=qA (AI w2 q1 q2 qs A2 bg (I1.to t2 c2) X2 bI j1 j2 hl);clear c2 t2 bI I1 X1;obtain⟨u0,u1,u2⟩:=X2.o.cs;have f0:=X2.o.fz 0;have f1:=X2.o.fz 1;have f2:=X2.o.fz 2;go_wp2;obtain⟨W,hW,XF,IF,OF⟩:=HE.o;rw[<-hW];obtain⟨e0,e1,e2⟩:=XF.cs;exact Wj (v:= .agg #[.int .i64 q1, .int .i64 q2, .slice A2 qs.length bg]) (by simp[results,Tryz.results91,go_sem,e0,e1,e2]) rfl ⟨_,rfl,q1,q2,qs,OF,hl,IF.cur,IF.tr⟩
 ·go_wp2_with fail;refine(qEm p A cap cs _ I1.cur).mono ?_
  rintro e w2 ⟨v2,⟨q1,q2,qs⟩,rfl,⟨s2,rfl,j1,j2,bI⟩,zg,c2,t2⟩;have hl:qs.length<=120:=(qD (qBz zg)).2.2.1;obtain⟨A2,bg,rfl,_⟩:=bI.form;simp only at j1 j2 bI⊢
  have X2:=qA (X1.trP t2 tO);have HE:=qA (AI w2 q1 q2 qs A2 bg (I1.to t2 c2) X2 bI j1 j2 hl);clear c2 t2 bI I1 X1 zg;obtain⟨u0,u1,u2⟩:=X2.o.cs;have f0:=X2.o.fz 0;have f1:=X2.o.fz 1;have f2:=X2.o.fz 2;go_wp2;obtain⟨W,hW,XF,IF,OF⟩:=HE.o;rw[<-hW];obtain⟨e0,e1,e2⟩:=XF.cs;exact Wj (v:= .agg #[.int .i64 q1, .int .i64 q2, .slice A2 qs.length bg]) (by simp[results,Tryz.results91,go_sem,e0,e1,e2]) rfl ⟨_,rfl,q1,q2,qs,OF,hl,IF.cur,IF.tr⟩
theorem qCw {w W:Wg} {v:Wh} {cs:List Int} (h:ArgC w v cs) (hb:Wf w w W):ArgC W v cs:=by
 obtain⟨A,cap,e,h1,h2,h3,h4⟩:=h;exact⟨A,cap,e,h1,h2,h3,fun h0=>by
  obtain⟨b,off,hA,hc⟩:=h4 h0;exact⟨b,off,hA,fun i hi=>(hb.cell (p:=⟨b,off+i,none⟩) (qKS (hc 0 h0))).trans (hc i hi)⟩⟩
theorem qFn (v:Wh) (g:GrD) (y:Nat) (w:Wg) (h:ArgG w v g) (hf:qO g=true) (hy:(y:Int)∈canO g):
  Wk Tryz.prog 174 #[v, .int .i64 0, .int .i64 y] w fun e w'=> ∃r,e= .returned (.tuple #[r, .bool true])/\OwI w' w r (wdO g y)/\Wf w w w':=by
 have HG:=qA h;have HF:=qA hf;have aC:=(qE hf).1;obtain⟨jB,bn,a7,_⟩:=qD aC;have sH:=(qAD aC).2.1 _ hy;have HY:=qA hy;obtain⟨s,rfl,aN,aQ,cj⟩:=h;obtain⟨A,cap,rfl⟩:=cj.form;obtain⟨g1,N,es⟩:=g;simp only at*
 clear cj hf aC hy;have qT: ∀(w:Wg) (a:Option Addr) (n c n' c':Nat),(binOp .eql 37 (.slice a n c) (.slice none n' c')).run Tryz.prog w= .ok (.bool a.isNone) w:=fun w a n c n' c'=>Lib.run_eql_slice_nil w _ _ a n c n' c' Tryz.underlying37;go_enter Tryz.func174,Tryz.ntmps174
 go_wp2_with fail;obtain⟨W,hW⟩: ∃W,W=w.alloc (.cells #[.int .i64 g1, .int .i64 N, .slice A es.length cap] 26):=⟨_,rfl⟩;rw[<-hW];obtain⟨xG,bG,sG⟩:=CBx.new hW;clear hW;have XG:=qA xG;have BX:=qA bG;have aH:w.heap.size+1<=W.heap.size:=tO;clear xG bG sG;have HA:Wi (∀w',Wf W.heap.size W w'->ArgG w' (.agg #[.int .i64 g1, .int .i64 N, .slice A es.length cap]) (g1,N,es)):=qA fun w' hb=>HG.o.below (BX.trans (hb.mono tO));have gU:=qA (qAB _ (g1,N,es) W (HA W (zae _ _)));rw[HF.o] at gU;refine gU.o.mono ?_;clear gU;rintro e w1 ⟨rfl,b1⟩;have B1:=qA b1;have dh:=b1.size;clear b1;have zu:Wi (inB 0 0 (wrap64 (N-1))=true):=qA (by rw[IntWalk.wrap64_in _ ⟨tO,tO⟩];unfold inB;simp;omega);have zS:Wi (inB (y:Int) 0 (wrap64 (N-1))=true):=qA (by rw[IntWalk.wrap64_in _ ⟨tO,tO⟩];unfold inB;simp;omega);obtain⟨az,aw,ay⟩:=(XG.below B1).cs;go_wp2_with fail;clear az aw ay;refine(qBH g1 N A es.length cap 0 w1).mono ?_
 rintro e w2 ⟨rfl,b2⟩;rw[zu.o];have B2:=qA (B1.trans (b2.mono dh));have je:=b2.size;clear b2;obtain⟨az,aw,ay⟩:=(XG.below B2).cs;go_wp2_with fail;clear az aw ay;refine(qBH g1 N A es.length cap y w2).mono ?_
 rintro e w3 ⟨rfl,b3⟩;rw[zS.o];have B3:=qA (B2.trans (b3.mono tO));have dZ:=b3.size;clear b3;obtain⟨az,aw,ay⟩:=(XG.below B3).cs;go_wp2_with fail;clear az aw ay;refine(qHK _ (g1,N,es) w3 (HA w3 B3) HF).mono ?_
 rintro e w4 ⟨r,P,rfl,hP,ht,_,b4⟩;have B4:=qA (B3.trans (b4.mono tO));obtain⟨b,cb,hc,aa⟩:=ht.at_own (y:=y) (show y<N.toNat by omega) HY.o;have aP:=aa.mono (show w.heap.size<=P by omega);clear aa;have dC:=qA aP;obtain⟨M,rfl⟩: ∃M:Nat,N=(M:Int):=⟨N.toNat,tO⟩;simp only[zau] at hc⊢;have Vy:(y:Int)<(M:Int):=tO;obtain⟨ws,bZ⟩: ∃ws,ws=wdO (g1,(M:Int),es) y:=⟨_,rfl⟩;rw[<-bZ] at dC hc;have It:=qA bZ;clear b4 ht aP bZ;go_wp2;exact Wj (v:= .tuple #[.slice (some ⟨b,0,none⟩) ws.length cb, .bool true]) (by simp[results,Tryz.results174]) rfl ⟨_,rfl,by rw[<-It.o];exact dC.o,BX.o.trans (B4.mono tO)⟩
theorem qFS (v:Wh) (g:GrD) (y:Nat) (w:Wg) (h:ArgG w v g) (hf:qO g=true) (hy:(y:Int)∈canO g):
  Wk Tryz.prog 96 #[v, .int .i64 y] w fun e w'=> ∃r,e= .returned r/\OwI w' w r (wdO g y)/\Wf w w w':=by
 have HG:=qA h;obtain⟨s,rfl,aN,aQ,cj⟩:=h;obtain⟨A,cap,rfl⟩:=cj.form;obtain⟨g1,N,es⟩:=g;simp only at*
 clear cj;go_enter Tryz.func96,Tryz.ntmps96
 go_wp2_with fail;obtain⟨W,hW⟩: ∃W,W=w.alloc (.cells #[.int .i64 g1, .int .i64 N, .slice A es.length cap] 26):=⟨_,rfl⟩;rw[<-hW];obtain⟨xG,bG,sG⟩:=CBx.new hW;clear hW;have BX:=qA bG;have aH:w.heap.size+1<=W.heap.size:=tO;clear xG bG sG;refine(qFn _ (g1,N,es) y W (HG.below BX) hf hy).mono ?_
 rintro e w1 ⟨r,rfl,IP,b1⟩;have B1:=qA b1;have aP:=IP.mono (show w.heap.size<=W.heap.size by omega);have dC:=qA aP;obtain⟨A1,c1,rfl,_⟩:=aP.form;clear b1 aP;obtain⟨ws,bZ⟩: ∃ws,ws=wdO (g1,N,es) y:=⟨_,rfl⟩;rw[<-bZ] at dC⊢;have It:=qA bZ;clear bZ;go_wp2;go_ret;exact⟨_,rfl,by rw[<-It.o];exact dC.o,BX.o.trans (B1.mono tO)⟩
theorem qBO (v:Wh) (g:GrD) (y:Nat) (w:Wg) (h:ArgG w v g) (hf:qO g=true) (hy:(y:Int)∈canO g):
  Wk Tryz.prog 96 #[v, .int .i64 y] w fun e w'=> ∃r,e= .returned r/\RdI w' r (wdO g y)/\Wf w w w':=
 (qFS v g y w h hf hy).mono fun _ _ ⟨r,e,o,b⟩=>⟨r,e,o.rd,b⟩
theorem qHT (v:Wh) (g:GrD) (d:EdD) (w:Wg) (h:ArgG w v g) (hf:qO g=true) (he:d∈g.2.2) (h1:d.1∈canO g) (h3:d.2.2∈canO g):
  Wk Tryz.prog 99 #[v,edV d] w fun x w'=> ∃r,x= .returned r/\OwI w' w r (qDY [wdO g d.1,[d.2.1],invL (wdO g d.2.2)])/\Wf w w w':=by
 have HG:=qA h;have HF:=qA hf;have aC:=(qE hf).1;obtain⟨jB,bn,a7,_⟩:=qD aC;have gH:=(qAD aC).2.1 _ h1;have bT:=(qAD aC).2.1 _ h3;have bk:=qBh aC h1;have me:=qBh aC h3;have VW:=qM aC he;have H1:=qA h1;have H3:=qA h3;have HE:Wi (decide (d∈g.2.2)=true):=qA (by simpa using he);obtain⟨s,rfl,aN,aQ,cj⟩:=h;obtain⟨A,cap,rfl⟩:=cj.form;have cJ:=qA cj;obtain⟨e1,x,e3⟩:=d;obtain⟨g1,N,es⟩:=g;simp only at*
 obtain⟨p1,rfl⟩: ∃p:Nat,e1=(p:Int):=⟨e1.toNat,tO⟩;obtain⟨p3,rfl⟩: ∃p:Nat,e3=(p:Int):=⟨e3.toNat,tO⟩;clear cj hf aC h1 h3 he;unfold edV;go_enter Tryz.func99,Tryz.ntmps99
 go_wp2_with fail;obtain⟨W1,aq⟩: ∃W,W=w.alloc (.cells #[.int .i64 g1, .int .i64 N, .slice A es.length cap] 26):=⟨_,rfl⟩;rw[<-aq];obtain⟨xG,bG,sG⟩:=CBx.new aq;clear aq;obtain⟨W,hW⟩: ∃W,W=W1.alloc (.cells #[.int .i64 (p1:Int), .int .i64 x, .int .i64 (p3:Int)] 97):=⟨_,rfl⟩;rw[<-hW];obtain⟨xE,bE,sE⟩:=CBx.new hW;clear hW;have XG:=qA (xG.below bE);have XE:=qA xE;rw[sG] at XE;have BX:Wi (Wf w w W):=qA (bG.trans (bE.mono tO));have aH:w.heap.size+2<=W.heap.size:=tO;clear xG bG sG xE bE sE;have HA:Wi (∀w',Wf W.heap.size W w'->ArgG w' (.agg #[.int .i64 g1, .int .i64 N, .slice A es.length cap]) (g1,N,es)):=qA fun w' hb=>HG.o.below (BX.trans (hb.mono tO));have gU:=qA (qAB _ (g1,N,es) W (HA W (zae _ _)));rw[HF.o] at gU;refine gU.o.mono ?_;clear gU;rintro e w1 ⟨rfl,b1⟩;have B1:=qA b1;have dh:=b1.size;clear b1;obtain⟨az,aw,ay⟩:=(XG.below B1).cs;obtain⟨Gb,Hl,Gp⟩:=(XE.below B1).cs;go_wp2_with fail;clear az aw ay Gb Hl Gp;refine(qEz _ es ((p1:Int),x,(p3:Int)) w1 (cJ.below (BX.trans (B1.mono tO))) tO).mono ?_
 rintro e w2 ⟨rfl,b2⟩;rw[HE.o];have B2:=qA (B1.trans (b2.mono dh));have je:=b2.size;clear b2 HE;go_wp2_with fail;have oZ:Wi (∀W',Wf w2 w2 W'->CBx W' w (.int .i64 g1) (.int .i64 N) (.slice A es.length cap)/\CBx W' (w.heap.size+1) (.int .i64 (p1:Int)) (.int .i64 x) (.int .i64 (p3:Int))):=qA fun W' hb=>⟨XG.below (B2.trans (hb.mono tO)),XE.o.below (B2.trans (hb.mono tO))⟩;have tL:=qA (fun W' (hb:Wf w2 w2 W')=>HA.o W' (B2.trans (hb.mono tO)));have HX:Wi (I64 x):=qA ⟨tO,tO⟩;refine qAe [.val (.agg #[.int .i64 g1, .int .i64 N, .slice A es.length cap]), .val (.pointer (some ⟨w.heap.size+1,0,none⟩)), .val (.int .i64 (p1:Int)), .own (fun W v=>RdI W v (wdO (g1,N,es) p1)) (fun _ _ _ h b=>h.below b), .val (.pointer (some ⟨w.heap.size+1,1,none⟩)), .val (.int .i64 x), .own (fun W v=>RdI W v [x]) (fun _ _ _ h b=>h.below b), .val (.agg #[.int .i64 g1, .int .i64 N, .slice A es.length cap]), .val (.pointer (some ⟨w.heap.size+1,2,none⟩)), .val (.int .i64 (p3:Int)), .own (fun W v=>RdI W v (wdO (g1,N,es) p3)) (fun _ _ _ h b=>h.below b), .own (fun W v=>RdI W v (invL (wdO (g1,N,es) p3))) (fun _ _ _ h b=>h.below b), .own (fun W v=>RdII W v [wdO (g1,N,es) p1,[x],invL (wdO (g1,N,es) p3)]) (fun _ _ _ h b=>h.below b), .own (fun W v=>OwI W w v (qDY [wdO (g1,N,es) p1,[x],invL (wdO (g1,N,es) p3)])) (fun _ _ _ h b=>h.below b), .own (fun W v=>OwI W w v (qDY [wdO (g1,N,es) p1,[x],invL (wdO (g1,N,es) p3)])) (fun _ _ _ h b=>h.below b)] tK tK (by rfl) (by rfl) (fun vs=> ?_);refine⟨fun W' K' Q0 hB hD hK=> ?_,?_⟩
 ·obtain⟨⟨q0,q1,q2,_,_⟩,_⟩:=oZ.o W' hB.o;go_simp;exact hK.o _ _ (zae _ _) rfl
 simp only[zah,zaa,zac,zad,Sp.pick,Nat.reduceAdd];refine⟨fun W' K' Q0 hB hD hK=> ?_,?_⟩
 ·skip;go_simp;exact hK.o _ _ (zae _ _) rfl
 simp only[zah,zaa,zac,zad,Sp.pick,Nat.reduceAdd];refine⟨fun W' K' Q0 hB hD hK=> ?_,?_⟩
 ·obtain⟨_,⟨q0,q1,q2,_,_⟩⟩:=oZ.o W' hB.o;go_simp;exact hK.o _ _ (zae _ _) rfl
 simp only[zah,zaa,zac,zad,Sp.pick,Nat.reduceAdd];refine⟨fun W' K' Q0 hB hD hK=> ?_,?_⟩
 ·go_simp;(refine(qBO _ (g1,N,es) p1 W' (tL W' hB) HF H1).mono ?_;rintro e w' ⟨r,rfl,o,b⟩;exact hK.o _ _ b o)
 simp only[zah,zaa,zac,zad,Sp.pick,Nat.reduceAdd];refine⟨fun W' K' Q0 hB hD hK=> ?_,?_⟩
 ·skip;go_simp;exact hK.o _ _ (zae _ _) rfl
 simp only[zah,zaa,zac,zad,Sp.pick,Nat.reduceAdd];refine⟨fun W' K' Q0 hB hD hK=> ?_,?_⟩
 ·obtain⟨_,⟨q0,q1,q2,_,_⟩⟩:=oZ.o W' hB.o;go_simp;exact hK.o _ _ (zae _ _) rfl
 simp only[zah,zaa,zac,zad,Sp.pick,Nat.reduceAdd];refine⟨fun W' K' Q0 hB hD hK=> ?_,?_⟩
 ·go_simp;exact hK.o _ _ ((zae _ _).alloc (zab _) _) (qEJ _ _ HX)
 simp only[zah,zaa,zac,zad,Sp.pick,Nat.reduceAdd];refine⟨fun W' K' Q0 hB hD hK=> ?_,?_⟩
 ·obtain⟨⟨q0,q1,q2,_,_⟩,_⟩:=oZ.o W' hB.o;go_simp;exact hK.o _ _ (zae _ _) rfl
 simp only[zah,zaa,zac,zad,Sp.pick,Nat.reduceAdd];refine⟨fun W' K' Q0 hB hD hK=> ?_,?_⟩
 ·skip;go_simp;exact hK.o _ _ (zae _ _) rfl
 simp only[zah,zaa,zac,zad,Sp.pick,Nat.reduceAdd];refine⟨fun W' K' Q0 hB hD hK=> ?_,?_⟩
 ·obtain⟨_,⟨q0,q1,q2,_,_⟩⟩:=oZ.o W' hB.o;go_simp;exact hK.o _ _ (zae _ _) rfl
 simp only[zah,zaa,zac,zad,Sp.pick,Nat.reduceAdd];refine⟨fun W' K' Q0 hB hD hK=> ?_,?_⟩
 ·go_simp;(refine(qBO _ (g1,N,es) p3 W' (tL W' hB) HF H3).mono ?_;rintro e w' ⟨r,rfl,o,b⟩;exact hK.o _ _ b o)
 simp only[zah,zaa,zac,zad,Sp.pick,Nat.reduceAdd];refine⟨fun W' K' Q0 hB hD hK=> ?_,?_⟩
 ·go_simp;(refine(qBe _ _ _ (show RdI W' (vs 10) _ from hD.o 10 tK) tO).mono ?_;rintro e w' ⟨r,rfl,o,b⟩;exact hK.o _ _ b o.rd)
 simp only[zah,zaa,zac,zad,Sp.pick,Nat.reduceAdd];refine⟨fun W' K' Q0 hB hD hK=> ?_,?_⟩
 ·obtain⟨A3,c3,e3,_⟩:=(show RdI W' (vs 3) _ from hD.o 3 tK).arg;obtain⟨A6,c6,e6,_⟩:=(show RdI W' (vs 6) _ from hD.o 6 tK).arg;obtain⟨Qx,TI,Bv,_⟩:=(show RdI W' (vs 11) _ from hD.o 11 tK).arg;rw[e3,e6,Bv] at hK;go_simp;exact hK.o _ _ ((zae _ _).alloc (zab _) _) (qLZ (e3▸hD.o 3 tK) (e6▸hD.o 6 tK) (Bv▸hD.o 11 tK))
 simp only[zah,zaa,zac,zad,Sp.pick,Nat.reduceAdd];refine⟨fun W' K' Q0 hB hD hK=> ?_,?_⟩
 ·go_simp;(refine(qDG _ _ _ (show RdII W' (vs 12) _ from hD.o 12 tK) (by simp[qAr,qAt];omega) tZ).mono ?_;rintro e w' ⟨r,rfl,o,b⟩;exact hK.o _ _ b (o.mono (by have:=hB.o.size;omega)))
 simp only[zah,zaa,zac,zad,Sp.pick,Nat.reduceAdd];refine⟨fun W' K' Q0 hB hD hK=> ?_,?_⟩
 ·go_simp;exact hK.o _ _ (zae _ _) (hD 13 tK)
 simp only[zah,zaa,zac,zad,Sp.pick,Nat.reduceAdd];intro W9 hB hD _;have O9:Wi (OwI W9 w (vs 14) _):=qA (hD 14 tD);have B9:=qA (B2.trans (hB.mono tO));clear hB hD;generalize vs 14=r9 at*;go_wp2;go_ret;exact⟨_,rfl,O9,BX.trans (B9.mono tO)⟩
section
open Go.ChangeShapes Go.WideShapes Go.ChangeAt Go.RowKit
theorem qQl:laidOutB Tryz.prog=true:=by kernel_rfl
theorem own:ownKnob Tryz.prog.godebug=none:=by kernel_rfl
end
def OE (lo hi:Nat) (v:Wh) (es:List EdD) (w:Wg):Prop:=OwE w lo v es/\ ∀b,v.ownBlock=some b->b<hi
def misV (g:GrD) (v:Int) (ls:List Int):List EdD:=(ls.filter fun x=>decide (qF g.2.2 v x<0)).map fun x=>(v,x,-1)
def misU (g:GrD):Nat->List EdD
 | 0=> []
 | k+1=>misU g k++misV g (k:Int) (qB g.1.toNat)
def finB (g:GrD):Bool:=qS g&&decide ((misU g g.2.1.toNat).length=0)
theorem qKJ (v:Wh) (g:GrD) (w:Wg) (h:ArgG w v g) (hf:qO g=true):
  Wk Tryz.prog 179 #[v] w fun e w'=> ∃r T,e= .returned r/\OwE w' w r T/\TrE g (canO g) T/\T.length<=40/\Wf w w w':=by
 have HG:=qA h;obtain⟨hg,aO⟩:=qE hf;have HF:=qA hf;have ONE:=qA (qAH aO);obtain⟨aF,aA,aD,_⟩:=qD hg;obtain⟨A,cap,hv⟩: ∃A cap,v= .agg #[.int .i64 g.1, .int .i64 g.2.1, .slice A g.2.2.length cap]:=by
  obtain⟨s,hv,_,_,ha⟩:=h;obtain⟨A,cap,rfl⟩:=ha.form;exact⟨A,cap,hv⟩
 subst hv;obtain⟨rn,kr⟩: ∃rn:Nat,g.1=(rn:Int):=⟨g.1.toNat,tO⟩;have yl:1<=rn:=tO;have vj:rn<=3:=tO;have m8:g.1.toNat=rn:=tO;have fG:Wi (canO g=canF g.2.2 (qB rn) 41 0 [0]):=qA (by unfold canO;rw[kr];rfl);have xC:=qA (qAL.one (n:=g.2.1) tO);have OKS:Wi (∀(u:Int) (o:List Int) (k:Nat),qAL g.2.1 o->qAL g.2.1 (((qB rn).take k).foldl (qd g.2.2 u) o)):=qA fun u o k h=>qCH hg _ k h;have OKL:Wi (∀o:List Int,qAL g.2.1 o->o.length<=40):=qA fun o h=>h.len tO tO;have NV:Wi (∀u x,qF g.2.2 u x= -1\/(0<=qF g.2.2 u x/\qF g.2.2 u x<41)):=qA fun u x=>by
  rcases qR hg u x with e | e
  ·exact .inl e
  ·exact .inr ⟨e.1,tO⟩
 have Rf:Wi (∀(o:List Int) (k:Nat) (u:Int),qAL g.2.1 o->o[k]? =some u->0<=u/\u<41):=qA fun o k u h hk=>by
  have:=h.2.1 u (zaw hk)
  omega
 have Qg:Wi (∀(m:Nat) (hm:m<(qB rn).length),-3<=(qB rn)[m]/\(qB rn)[m]<=3):=qA fun m hm=>let3 hg (by rw[m8];exact zam hm);have KP:Wi (TwS g (qB rn) 0 [0]):=qA (by rw[<-m8];exact TwS.zero g);have Hq:Wi (∀(k:Nat) (o:List Int) (u:Int),TwS g (qB rn) k o->o[k]? =some u->k<41->TwS g (qB rn) (k+1) ((qB rn).foldl (qd g.2.2 u) o)):=qA fun k o u h1 h2 h3=>h1.step h2 h3;have Kq:Wi (TrE g [0] []):=qA fun e=>⟨fun h=>(by cases h),fun ⟨y,hy,h0,_⟩=>absurd (zan.1 hy) h0⟩;have H6:Wi (∀(k:Nat) (o:List Int) (u:Int) (m:Nat) (hm:m<(qB rn).length) (T:List EdD),TwS g (qB rn) k o->o[k]? =some u->k<41->qAL g.2.1 (((qB rn).take m).foldl (qd g.2.2 u) o)->TrE g (((qB rn).take m).foldl (qd g.2.2 u) o) T->0<=qF g.2.2 u (qB rn)[m]->hasB (((qB rn).take m).foldl (qd g.2.2 u) o) (qF g.2.2 u (qB rn)[m])=false->
   TrE g (((qB rn).take m).foldl (qd g.2.2 u) o++ [qF g.2.2 u (qB rn)[m]]) (insF cmpE T (if 0<(qB rn)[m] then(u,(qB rn)[m],qF g.2.2 u (qB rn)[m]) else(qF g.2.2 u (qB rn)[m],-(qB rn)[m],u)))):=qA fun k o u m hm T h1 h2 h3 h4 h5 h6 h7=>by
  refine h5.add ?_ fun e=> ?_
  ·intro e0;rw[e0] at h7;exact qDE h7 (zaw h4.2.2)
  ·rw[qDx,qFO _ _ qz,qJV hg aO (by rw[m8];exact zam hm) h6 rfl (h1.new hg h2 h3 hm h6 h7)]
 have vd:=qA kr;clear hg hf aO h kr m8;have gH:1<=g.1/\g.1<=3:=aF;clear aA aD aF;go_enter Tryz.func179,Tryz.ntmps179
 go_wp2_with fail;obtain⟨W1,aq⟩: ∃W,W=w.alloc (.cells #[.int .i64 g.1,.int .i64 g.2.1, .slice A g.2.2.length cap] 26):=⟨_,rfl⟩;obtain⟨aE,b1,aJ⟩:=qGG aq;obtain⟨W,hW⟩: ∃W,W=W1.alloc (.cells #[] 97):=⟨_,rfl⟩;have b2:Wf W1 W1 W:=by rw[hW];exact(zae _ _).alloc (zab _) _
 have aH:W.heap.size=w.heap.size+2:=by rw[hW];simp;omega
 have o0:OwE W (w.heap.size+1) (.slice (some ⟨w.heap.size+1,0,none⟩) 0 0) []:=by rw[hW];exact qEM W1 (w.heap.size+1) aE (zab _)
 rw[<-aq,<-hW];have BX:Wi (Wf w w W):=qA (b1.trans (b2.mono tO));have kW:=qA (b2.mono (show w.heap.size+1<=W1.heap.size by omega));have fE:=qA aJ;have aW:Wi (∀w',Wf (w.heap.size+1) W w'->w'.cell? ⟨w,0,none⟩=some (.int .i64 g.1)/\w'.cell? ⟨w,1,none⟩=some (.int .i64 g.2.1)/\w'.cell? ⟨w,2,none⟩=some (.slice A g.2.2.length cap)):=qA fun w' hb=>fE.o w' (kW.trans hb);have HA:Wi (∀w',Wf (w.heap.size+1) W w'->ArgG w' (.agg #[.int .i64 g.1, .int .i64 g.2.1, .slice A g.2.2.length cap]) g):=qA fun w' hb=>HG.o.below (BX.trans (hb.mono tO));have cA:Wi (∀w',Wf (w.heap.size+1) W w'->Wf w w w'):=qA fun w' hb=>BX.o.trans (hb.mono tO);have O0:=qA o0;clear aq hW aJ b1 b2 fE o0;have aX:=qj _ g W (HA W ((zae W W).mono tO));rw[HF.o] at aX;refine aX.mono ?_;clear aX;rintro e w2 ⟨rfl,b2⟩;have dQ:=b2.size;have B2:Wi (Wf (w.heap.size+1) W w2):=qA (b2.mono tO);have dL:=qA (O0.below b2);clear b2;obtain⟨q0,q1,q2⟩:=aW.o w2 B2.o;have Ot:w.heap.size<w2.heap.size:=tO;go_wp2_with fail;obtain⟨w3,dZ⟩: ∃w3,w3=w2.alloc (.cells #[.int .i64 0] 3):=⟨_,rfl⟩;have Mf:Wf w2 w2 w3:=by rw[dZ];exact(zae _ _).alloc (zab _) _
 have o3:OwI w3 w2 (.slice (some ⟨w2,0,none⟩) 1 1) [0]:=by rw[dZ];exact qp w2 [0] (fun x hx=>by simp at hx;subst hx;exact⟨by decide,by decide⟩) tZ (zab _)
 have d5:w3.heap.size=w2.heap.size+1:=by rw[dZ];simp
 have Qc:=qA dZ;clear dZ;try rw[<-Qc.o]
 have fN:=qCG rn w3 tO;rw[<-vd.o] at fN;have dX:=qA fN;clear fN;refine dX.o.mono ?_;rintro e w4 ⟨rl,rfl,ol,b4⟩;have jY:=b4.size;have Kx:=Mf.trans (b4.mono tO);have B4:Wi (Wf (w.heap.size+1) W w4):=qA (B2.trans (Kx.mono tO));have O4:=qA ((o3.below b4).mono (base':=w.heap.size+1) tO);have ET:=qA (dL.below Kx);have dH:=qAX rn;generalize qB rn=ls at*;obtain⟨Al,capl,rfl,aZ,dK,_,fJ⟩:=ol.form;obtain⟨bl,rfl,Cm,iW⟩:=fJ tO;unfold maxLen at dK;have OL:=qA ol.rd;have Gv:bl≠w2.heap.size:=tO;clear ol b4 Mf Kx o3 q0 q1 q2 fJ dX Ot;have Ra:w2.heap.size<w4.heap.size:=tO;clear d5;go_wp2;go_loopw [3,4,6] (fun vt out i wo=> ∃(k:Nat) (o:List Int) (T:List EdD),k<=o.length/\i= .int .i64 k/\qAL g.2.1 o/\canO g=canF g.2.2 ls (41-k) k o/\TwS g ls k o/\TrE g o T/\T.length<=o.length/\OwE wo (w.heap.size+1) vt T/\(∀b,vt.ownBlock=some b->out.ownBlock≠some b)/\OwI wo (w.heap.size+1) out o/\RdI wo (.slice (some ⟨bl,0,none⟩) ls.length capl) ls/\out.ownBlock≠some bl/\bl<wo.heap.size/\Wf (w.heap.size+1) W wo) (fun _ _ i _=>41-(intOf i).toNat)
 case atStart=>exact⟨0,[0],[],tZ,rfl,xC,fG,KP,Kq,tZ,ET,fun b hb=>by simp[zaf] at hb⊢;omega,O4.o,OL.o,by simp[zaf];omega,iW,B4.o⟩
 case round=>
  obtain⟨k,o,T,hk,rfl,af,jn,cR,kD,Cs,pQ,Bw,aa,aP,ai,ym,ab⟩:=hrel;obtain⟨wo,rfl⟩: ∃wo:Wg,wo=wr:=⟨_,rfl⟩;have fe:=OKL.o o af;have bH:=qA af;have HC:=qA jn;have kz:=qA cR;have ur:=qA kD;have Fh:=qA pQ;have vV:=qA Bw;have HO:=qA aa;have dC:=qA aP;have a8:=qA ai;have HB:=qA ab;have ar:=ab.size;obtain⟨A1,ak,rfl,_⟩:=aa.form;obtain⟨At,capt,rfl,_⟩:=pQ.form;clear af jn cR kD pQ Bw aa aP ai ab;by_cases ac:k<o.length
  ·obtain⟨u,hu⟩: ∃u,o[k]? =some u:=⟨o[k],tZ⟩;have kI:o[k]=u:=by rw[zaj ac] at hu;injection hu
   have KO:=Rf.o o k u bH.o hu;have kX:Wi (canO g=canF g.2.2 ls (41-(k+1)) (k+1) (ls.foldl (qd g.2.2 u) o)):=qA (by
    rw[HC.o,show 41-k=(41-(k+1))+1 by omega,qDq _ _ _ _ _ ac,kI])
   have eE:Wi (∀m:Nat,(((ls.take m).foldl (qd g.2.2 u) o))[k]? =some u):=qA fun m=>qBU _ _ _ _ _ _ hu;have gy:Wi (∀(m:Nat) (hm:m<ls.length),(ls.take (m+1)).foldl (qd g.2.2 u) o=qd g.2.2 u ((ls.take m).foldl (qd g.2.2 u) o) ls[m]):=qA fun m hm=>qEI _ _ _ _ _ hm;have fU:Wi (∀m:Nat,qAL g.2.1 ((ls.take m).foldl (qd g.2.2 u) o)):=qA fun m=>OKS.o u o m bH.o;have zi:Wi (∀(m:Nat) (hm:m<ls.length) (T:List EdD),TrE g ((ls.take m).foldl (qd g.2.2 u) o) T->0<=qF g.2.2 u ls[m]->hasB ((ls.take m).foldl (qd g.2.2 u) o) (qF g.2.2 u ls[m])=false->TrE g ((ls.take m).foldl (qd g.2.2 u) o++ [qF g.2.2 u ls[m]]) (insF cmpE T (if 0<ls[m] then(u,ls[m],qF g.2.2 u ls[m]) else(qF g.2.2 u ls[m],-ls[m],u)))):=qA fun m hm T h5 h6 h7=>H6.o k o u m hm T kz.o hu tO (fU m) h5 h6 h7;have J4:=qA (Hq k o u kz hu tO);clear hu kI;go_wp2;go_loopw [3,4,7] (fun vt out j wr=> ∃(m:Nat) (T:List EdD),m<=ls.length/\j= .int .i64 m/\TrE g ((ls.take m).foldl (qd g.2.2 u) o) T/\T.length<=((ls.take m).foldl (qd g.2.2 u) o).length/\OwE wr (w.heap.size+1) vt T/\(∀b,vt.ownBlock=some b->out.ownBlock≠some b)/\OwI wr (w.heap.size+1) out ((ls.take m).foldl (qd g.2.2 u) o)/\RdI wr (.slice (some ⟨bl,0,none⟩) ls.length capl) ls/\out.ownBlock≠some bl/\bl<wr.heap.size/\Wf (w.heap.size+1) W wr) (fun _ _ j _=>ls.length-(intOf j).toNat)
   case atStart=>exact⟨0,T,zas _,rfl,ur,Cs,Fh,vV,HO,dC,a8,ym,HB⟩
   case round=>
    obtain⟨m,T1,fM,rfl,kD,sF,pQ,Bw,aa,aP,ai,eJ,a6⟩:=hrel;obtain⟨wj,rfl⟩: ∃wj:Wg,wj=wr:=⟨_,rfl⟩;have xK:=a6.size;have cU:=qA a6;have kd:=qA kD;have CM:=qA pQ;have oA:=qA Bw;have mL:=qA aP;have dG:=qA ai;obtain⟨A3,gM,rfl,_⟩:=pQ.form;clear a6 kD pQ Bw;by_cases aj:m<ls.length
    ·have bm:=fU.o m;have yY:=OKL.o _ bm;have dj:=eE.o m;have HS:=qA (gy m aj);have RZ:=qA (zi m aj T1 kd);have fQ:=Qg.o m aj;obtain⟨_,_,gD,_,aZ⟩:=aP.at tO;obtain⟨rfl,rfl⟩:bl=_/\0=_:=by simpa using gD
     have c0:=aZ m aj;rw[zat] at c0;have lh:Wi (∀w',RdI w' (.slice (some ⟨bl,0,none⟩) ls.length capl) ls->w'.cell? ⟨bl,m,none⟩=some (.int .i64 ls[m])):=qA fun w' h=>by
      obtain⟨_,_,gD,_,aZ⟩:=h.at tO;obtain⟨rfl,rfl⟩:bl=_/\0=_:=by simpa using gD
      have:=aZ m aj
      rwa [zat] at this
     generalize ls[m]=x at*;generalize (ls.take m).foldl (qd g.2.2 u) o=om at*;have eV:k<om.length:=(zaq.1 dj).1;have iR:om[k]=u:=by rw[zaj eV] at dj;injection dj
     have eZ:=qA aa;obtain⟨A2,ao,rfl,_,_,_,db⟩:=aa.form;obtain⟨b2,rfl,wO,kt⟩:=db tO;have d0:=aa.cellAt k eV;rw[iR] at d0;have NX:=qA (NV u x);have N0:=qA (qGH (es:=g.2.2) (u:=u) (x:=x) (o:=om));have N1:=qA (qGS (es:=g.2.2) (u:=u) (x:=x) (o:=om));have N2:=qA (qEl (es:=g.2.2) (u:=u) (x:=x) (o:=om));have dJ:=qA (fun W (h:ArgG W (.agg #[.int .i64 g.1, .int .i64 g.2.1, .slice A g.2.2.length cap]) g)=>qe _ g u x W h (ONE u x));obtain⟨p0,p1,p2⟩:=aW.o wj cU.o;have bZ:w.heap.size<wj.heap.size:=tO;have kq:Wi (om++ [qF g.2.2 u x]≠ []/\(om++ [qF g.2.2 u x])[k]? =some u/\(om++ [qF g.2.2 u x]).length=om.length+1):=qA ⟨tZ,by rw[List.getElem?_append_left eV];exact dj,tZ⟩;clear aZ gD aa aP db dj iR bm;go_wp2_with fail;have f0:=BelW.cell p0 bZ;have f1:=BelW.cell p1 bZ;have f2:=BelW.cell p2 bZ;have f3:=BelW.cell c0 eJ;have f4:=BelW.cell d0 kt;(refine qG tK tK ?_;(repeat(go_big_quiet_step (first | (go_at_call 86;exact Calls.bel_of (dJ _ (HA _ (cU.trans ((BelW.h _).mono tO))))))));refine wpQuiet_nil ?_;intro wq hw';obtain⟨pq,ae⟩:=hw';have bq:=pq.h;rw[<-ae] at bq;clear ae pq)
     clear f0 f1 f2 f3 f4 p0 p1 p2 c0 d0;have sq:=bq.size;have HQ:=qA (cU.trans (bq.mono tO));have ff:=qA (eZ.below bq);have jA:=qA (mL.below bq);have ie:=qA (CM.below bq);clear bq;generalize qF g.2.2 u x=y at*;rcases NX.o with hy | hy
     ·subst hy;have F:=qA (N0 tO);go_wp2;go_roundw;exact⟨m+1,T1,tO,by go_num,by rw[HS.o,F.o];exact kd.o,by rw[HS.o,F.o];exact sF,ie.o,oA.o,by rw[HS.o,F.o];exact ff.o,jA.o,dG.o,tO,HQ.o⟩;exact tM
     ·have eK:(0:Int)<=y:=hy.1;have GI:y<41:=hy.2;go_wp2_with fail;refine(qCy _ om y _ ff.rd.arg tO).mono ?_
      rintro e' w' ⟨rfl,rfl⟩;rcases h1:hasB om y with _ | _
      ·have F:=qA (N2 eK h1);have oC:=qA (RZ eK h1);have HY:Wi (I64 y):=qA ⟨tO,tO⟩;have Di:=fun e=>qCF (c:=cmpE) T1 e;have DG:=qA Di;clear Di;obtain⟨OY,KG⟩: ∃OY,OY=om++ [y]:=⟨_,rfl⟩;rw[<-KG] at kq F oC;have ip:=qA KG.symm;have Kk:=kq.o.2.2;have N9:om.length+1<=OY.length:=tO;have M4:OY.length<=om.length+1:=tO;have mG:(k:Int)<(OY.length:Int):=tO;clear Kk;have TY:Wi (∀(h:k<OY.length),OY[k]=u):=qA fun h=>by
        have:=kq.o.2.1
        rw[zaj h] at this;injection this
       have ln:Wi (∀(w':Wg) (base:Nat) (b:Nat) (c:Nat) (n:Nat) (h:OwI w' base (.slice (some ⟨b,0,none⟩) n c) OY),w'.cell? ⟨b,k,none⟩=some (.int .i64 u)):=qA fun w' base b c n h=>by
        obtain⟨A0,c0,e0,_⟩:=OwI.form h;injection e0 with e1 e2 e3
        subst e1 e2 e3;have h1:=OwI.cellAt h k tO;rw[TY.o] at h1;exact h1
       clear KG;have JU:IntKind.i64.wrap (-x)= -x:=by rw[IntKind.wrap_i64];omega
       rcases Int.lt_or_le 0 x with ek | ek
       ·have zQ:=qA (fun (W':Wg) (h':ArgE W' (.slice A3 T1.length gM) T1)=>qBy _ T1 (u,x,y) W' h' ⟨⟨by simp only;omega,by simp only;omega⟩,⟨by simp only;omega,by simp only;omega⟩,⟨by simp only;omega,by simp only;omega⟩⟩ tO);unfold edV at zQ;have nP:Wi (TrE g OY (insF cmpE T1 (u,x,y))):=qA (by have h:=oC.o;rwa [Wm ek] at h);go_wp2_with (at_builtin;refine qW rfl (.tmp 47) (.tmp 49) rfl _ _ _ (OwI.alloc ff _) rfl _ _ rfl (qU _ _ _) HY.o tB tB ?_;intro v9 wv9 o9 g9 p9;rw[ip.o] at o9;have gh:=g9.size;simp at gh;have gO:=qA ((jA.alloc (.cells #[.int .i64 y] 3)).grown g9 (fun b hb aL=>by first | exact dG.o (aL.trans hb.symm) | exact dG.o (hb.trans aL.symm) | (simp[zaf] at hb aL;done) | (simp[zaf] at hb aL;have:=dG.o;simp[zaf] at this;omega)));have x9:=lh.o wv9 gO.o;have iO:=qA (qh HQ tO ff.o.1 (zab _) g9);have IJ:Wi (v9.ownBlock≠some bl):=qA (fun e=>p9.elim (fun h=>dG.o (h.symm.trans e)) (fun h=>by have h3:=zaG.inj (h.symm.trans e);first | omega | (simp at h3;done) | (simp at h3;omega)));have vq:=qA ((ie.alloc (.cells #[.int .i64 y] 3)).keep (fun b hb=>g9.block b (by have:=(ie.o.1.lt b hb).2;first | omega | (simp<;>omega)) (fun e=>oA.o b hb e.symm)));have O9:=qA o9;obtain⟨A9,c9,rfl,_,_,_,Cc⟩:=OwI.form o9;obtain⟨b9,rfl,Jm,uW⟩:=Cc tO;have d9:wv9.cell? ⟨b9,k,none⟩=some (.int .i64 u):=ln.o wv9 _ _ _ _ o9;have vY:bl<wv9.heap.size:=tO;clear o9 g9 p9 Cc)
        go_region_held3 (fun w'=>w'.cell? ⟨b9,k,none⟩=some (.int .i64 u)/\w'.cell? ⟨bl,m,none⟩=some (.int .i64 x))
         (first | go_keep | exact⟨s0,s1⟩)
         (first | (go_at_call 166;(with_reducible refine(zQ.o _ vq.o.drew.arg).mono ?_);rintro e cG ⟨M7,rfl,xD,ec⟩;have uz:=qA xD;have ia:Wi (Wf wv9 wv9 cG):=qA ((zae wv9 wv9).drew.trans (ec.mono (zab _)));have s0:=(ia.o.cell (p:=⟨b9,k,none⟩) uW).trans d9;have s1:=(ia.o.cell (p:=⟨bl,m,none⟩) vY).trans x9;clear xD ec))
        have IL:=ia.o.size;have Tx:=DG.o (u,x,y);go_wp2;go_roundw
        case rel=>exact⟨m+1,_,tO,by go_num,by rw[HS.o,F.o];exact nP.o,by rw[HS.o,F.o];omega,uz.o.mono (show w.heap.size+1<=wv9.heap.size by omega),fun b hb e=>by
         have h1:=(uz.o.1.lt b hb).1;simp[zaf] at e
         have h2:wv9.heap.size<=b:=h1;omega,by rw[HS.o,F.o];exact O9.o.below ia.o,gO.o.below ia.o,IJ.o,tO,iO.o.trans (ia.mono tO)⟩
        case measure=>exact tM
       ·have zQ:=qA (fun (W':Wg) (h':ArgE W' (.slice A3 T1.length gM) T1)=>qBy _ T1 (y,-x,u) W' h' ⟨⟨by simp only;omega,by simp only;omega⟩,⟨by simp only;omega,by simp only;omega⟩,⟨by simp only;omega,by simp only;omega⟩⟩ tO);unfold edV at zQ;have nP:Wi (TrE g OY (insF cmpE T1 (y,-x,u))):=qA (by have h:=oC.o;rwa [Wn tO] at h);go_wp2_with (at_builtin;refine qW rfl (.tmp 47) (.tmp 49) rfl _ _ _ (OwI.alloc ff _) rfl _ _ rfl (qU _ _ _) HY.o tB tB ?_;intro v9 wv9 o9 g9 p9;rw[ip.o] at o9;have gh:=g9.size;simp at gh;have gO:=qA ((jA.alloc (.cells #[.int .i64 y] 3)).grown g9 (fun b hb aL=>by first | exact dG.o (aL.trans hb.symm) | exact dG.o (hb.trans aL.symm) | (simp[zaf] at hb aL;done) | (simp[zaf] at hb aL;have:=dG.o;simp[zaf] at this;omega)));have x9:=lh.o wv9 gO.o;have iO:=qA (qh HQ tO ff.o.1 (zab _) g9);have IJ:Wi (v9.ownBlock≠some bl):=qA (fun e=>p9.elim (fun h=>dG.o (h.symm.trans e)) (fun h=>by have h3:=zaG.inj (h.symm.trans e);first | omega | (simp at h3;done) | (simp at h3;omega)));have vq:=qA ((ie.alloc (.cells #[.int .i64 y] 3)).keep (fun b hb=>g9.block b (by have:=(ie.o.1.lt b hb).2;first | omega | (simp<;>omega)) (fun e=>oA.o b hb e.symm)));have O9:=qA o9;obtain⟨A9,c9,rfl,_,_,_,Cc⟩:=OwI.form o9;obtain⟨b9,rfl,Jm,uW⟩:=Cc tO;have d9:wv9.cell? ⟨b9,k,none⟩=some (.int .i64 u):=ln.o wv9 _ _ _ _ o9;have vY:bl<wv9.heap.size:=tO;clear o9 g9 p9 Cc)
        go_region_held3 (fun w'=>w'.cell? ⟨b9,k,none⟩=some (.int .i64 u)/\w'.cell? ⟨bl,m,none⟩=some (.int .i64 x))
         (first | go_keep | exact⟨s0,s1⟩)
         (first | (go_at_call 166;(with_reducible refine(zQ.o _ vq.o.drew.arg).mono ?_);rintro e cG ⟨M7,rfl,xD,ec⟩;have uz:=qA xD;have ia:Wi (Wf wv9 wv9 cG):=qA ((zae wv9 wv9).drew.trans (ec.mono (zab _)));have s0:=(ia.o.cell (p:=⟨b9,k,none⟩) uW).trans d9;have s1:=(ia.o.cell (p:=⟨bl,m,none⟩) vY).trans x9;clear xD ec))
        have IL:=ia.o.size;have Tx:=DG.o (y,-x,u);go_wp2;go_roundw
        case rel=>exact⟨m+1,_,tO,by go_num,by rw[HS.o,F.o];exact nP.o,by rw[HS.o,F.o];omega,uz.o.mono (show w.heap.size+1<=wv9.heap.size by omega),fun b hb e=>by
         have h1:=(uz.o.1.lt b hb).1;simp[zaf] at e
         have h2:wv9.heap.size<=b:=h1;omega,by rw[HS.o,F.o];exact O9.o.below ia.o,gO.o.below ia.o,IJ.o,tO,iO.o.trans (ia.mono tO)⟩
        case measure=>exact tM
      ·have F:=qA (N1 eK h1);go_wp2;go_roundw;exact⟨m+1,T1,tO,by go_num,by rw[HS.o,F.o];exact kd.o,by rw[HS.o,F.o];exact sF,ie.o,oA.o,by rw[HS.o,F.o];exact ff.o,jA.o,dG.o,tO,HQ.o⟩;exact tM
    ·obtain rfl:m=ls.length:=tO
     have Ik:Wi (ls.take ls.length=ls):=qA zai;rw[zai] at aa sF kd;have bm:=fU.o ls.length;rw[zai] at bm;have kZ:=qA bm;have eZ:=qA aa;have aM:k+1<=(ls.foldl (qd g.2.2 u) o).length:=by
      have:=eE.o ls.length
      rw[zai] at this;have:=(zaq.1 this).1
      omega
     obtain⟨A2,ao,rfl,_⟩:=aa.form;clear aa aP ai bm;go_wp2;go_roundw;exact⟨k+1,_,T1,aM,by go_num,kZ.o,kX.o,J4.o,kd.o,sF,CM.o,oA.o,eZ.o,mL.o,dG.o,eJ,cU.o⟩;exact tM
  ·obtain rfl:k=o.length:=tO
   have F:Wi (canO g=o):=qA (by rw[HC.o,qGL]);go_wp2;go_ret;exact⟨_,T,rfl,Fh.mono tO,by rw[F.o];exact ur.o,tO,cA.o _ HB.o⟩
theorem qEn (v:Wh) (g:GrD) (w:Wg) (h:ArgG w v g) (hf:qO g=true):
  Wk Tryz.prog 104 #[v] w fun e w'=> ∃r,e= .returned r/\OwE w' w r (extL g)/\Wf w w w':=by
 have HG:=qA h;have HF:=qA hf;obtain⟨hg,aO⟩:=qE hf;obtain⟨aF,aA,aD,_⟩:=qD hg;have nz:Wi (∀T,TrE g (canO g) T-> ∀e∈g.2.2,exB g e= !decide (e∈T)):=qA fun T hT e he=>by
  have h1:=hT.ext hf he;rcases ex:exB g e with _ | _
  ·rw[decide_eq_true (h1.2 ex)];rfl
  ·rw[decide_eq_false (fun hm=>by rw[h1.1 hm] at ex;cases ex)];rfl
 have lh:Wi (extL g=g.2.2.filter (exB g)):=qA rfl;obtain⟨s,rfl,aN,aQ,ha⟩:=h;obtain⟨A,cap,rfl⟩:=ha.form;have fF:=qA (fun W' (h:ArgG W' (.agg #[.int .i64 g.1, .int .i64 g.2.1, .slice A g.2.2.length cap]) g)=>qKJ _ g W' h hf);obtain⟨g1,n,es⟩:=g;simp only at*
 clear ha hf hg aO;obtain⟨XB,DV⟩: ∃X,X=exB (g1,n,es):=⟨_,rfl⟩;rw[<-DV] at nz lh;clear DV;go_enter Tryz.func104,Tryz.ntmps104
 go_wp2_with fail;obtain⟨W,hW⟩: ∃W,W=w.alloc (.cells #[.int .i64 g1,.int .i64 n, .slice A es.length cap] 26):=⟨_,rfl⟩;obtain⟨aH,b1,aJ⟩:=qGG hW;rw[<-hW];have BX:=qA b1;have aW:=qA aJ;have HA:Wi (∀w',Wf (w.heap.size+1) W w'->ArgG w' (.agg #[.int .i64 g1, .int .i64 n, .slice A es.length cap]) (g1,n,es)):=qA fun w' hb=>HG.o.below (BX.trans (hb.mono tO));have cA:Wi (∀w',Wf (w.heap.size+1) W w'->Wf w w w'):=qA fun w' hb=>BX.o.trans (hb.mono tO);have ky:=qA (fun W' (h:ArgG W' (.agg #[.int .i64 g1, .int .i64 n, .slice A es.length cap]) (g1,n,es))=>qj _ (g1,n,es) W' h);rw[HF.o] at ky;clear hW aJ b1;refine(fF W (HA W ((zae W.heap.size W).mono tO))).mono ?_
 rintro e w3 ⟨r3,T,rfl,o3,kD,uZ,b3⟩;have d5:=b3.size;have Tb:w.heap.size<w3.heap.size:=tO;have B3:Wi (Wf (w.heap.size+1) W w3):=qA (b3.mono tO);have Em:=qA o3;have vH:=qA (nz T kD);obtain⟨At,ct,rfl,no,Fk,_⟩:=o3.form;unfold maxLen at Fk;clear o3 kD b3;go_wp2;go_loopw [4,5] (fun vo i wr=> ∃k:Nat,k<=es.length/\i= .int .i64 k/\OwE wr w3 vo ((es.take k).filter XB)/\Wf w3 w3 wr) (fun _ i _=>es.length-(intOf i).toNat)
 case atStart=>exact⟨0,zas _,rfl,by simpa using qEM w3 w3 rfl (zab _),(zae _ _).alloc (zab _) _⟩
 case round=>
  obtain⟨k,hk,rfl,ho,hb⟩:=hrel;have HO:=qA ho;have HB:=qA hb;have cU:Wi (Wf (w.heap.size+1) W wr):=qA (B3.trans (hb.mono tO));obtain⟨wi,rfl⟩: ∃wi:Wg,wi=wr:=⟨_,rfl⟩;have BR:=hb.size;clear ho hb;have fJ:((es.take k).filter XB).length<=120:=by
   have h1:=List.length_filter_le XB (es.take k);rw[zaI] at h1;omega
  obtain⟨Ao,co,rfl,_⟩:=OwE.form HO.o;obtain⟨q0,q1,q2⟩:=aW.o wi cU.o;by_cases ac:k<es.length
  ·have iG:=qA (qFp XB es k ac);have uD:=qA (vH es[k] (zam ac));have mG:(k:Int)<(es.length:Int):=tO;generalize (es.take k).filter XB=LO at*;go_wp2_with fail;refine(ky wi (HA wi cU)).mono ?_
   rintro e w5 ⟨rfl,b5⟩;have fg:=b5.size;have xw:=qA (HO.below b5);have dP:Wi (Wf w3 w3 w5):=qA (HB.trans (b5.mono tO));have Ca:Wi (Wf (w.heap.size+1) W w5):=qA (B3.trans (dP.mono tO));clear b5 q0 q1 q2;obtain⟨q0,q1,q2⟩:=aW.o w5 Ca.o;obtain⟨_,_,DS,uB,_,_⟩:=(HA w5 Ca).inner;injection DS with e1 e2 e3
   subst e1 e3;clear e2;obtain⟨b,off,rfl,cX,c0,c1,c2,dl⟩:=uB.at ac;have ce:=qA dl;generalize es[k]=E at*;obtain⟨e1,e2,e3⟩:=E;simp only at*
   clear uB dl;have ip:Wi (∀(y:EdD) (w:Wg),(binOp .eql 97 (edV y) (edV (e1,e2,e3))).run Tryz.prog w= .ok (.bool (decide (y=(e1,e2,e3)))) w):=qA fun y w=>qEo y (e1,e2,e3) w;have dq:=qBk;have ii:Wi (∀m (hm:m<T.length),decide ((e1,e2,e3)∈T.take (m+1))=(decide ((e1,e2,e3)∈T.take m)||decide (T[m]=(e1,e2,e3)))):=qA fun m hm=>by
    rw[zar hm,zaK];simp only[zao,zan,decide_eq_true_eq,zaL];exact⟨fun h=>h.imp_right Eq.symm,fun h=>h.imp_right Eq.symm⟩
   have JM:=qA (Em.below dP);go_wp2;go_loopw [6,7] (fun f j wr=> ∃m:Nat,m<=T.length/\j= .int .i64 m/\f= .bool (decide ((e1,e2,e3)∈T.take m))/\ ∃q,wr=w5.drewN q) (fun _ j _=>T.length-(intOf j).toNat)
   case atStart=>exact⟨0,zas _,rfl,tZ,0,rfl⟩
   case round=>
    obtain⟨m,hm,rfl,rfl,q,rfl⟩:=hrel;by_cases aj:m<T.length
    ·have DT:=qA (ii m aj);have DU:(m:Int)<(T.length:Int):=tO;rcases ef:decide ((e1,e2,e3)∈T.take m) with _ | _
     rotate_left
     ·have F:Wi (decide ((e1,e2,e3)∈T.take (m+1))=true):=qA (by rw[DT.o,ef];rfl);clear ef;go_wp2;go_quiet (fail)
      go_wp2;go_roundw;exact⟨m+1,tO,by go_num,by rw[F.o],_,rfl⟩;exact tM
     ·obtain⟨bt,offt,rfl,Cf,d0,d1,d2,_⟩:=JM.o.arg.at aj;have eo:=fun w=>ip.o T[m] w;unfold edV at eo;obtain⟨be,kF⟩: ∃be,be=decide (T[m]=(e1,e2,e3)):=⟨_,rfl⟩;rw[<-kF] at eo;have F:Wi (decide ((e1,e2,e3)∈T.take (m+1))=be):=qA (by rw[DT.o,ef,<-kF];rfl);clear kF ef;generalize T[m]=y at*;obtain⟨y1,y2,y3⟩:=y;simp only at*
      go_wp2;go_quiet (fail)
      go_wp2;go_roundw;exact⟨m+1,tO,by go_num,by rw[F.o],_,rfl⟩;exact tM
    ·obtain rfl:m=T.length:=tO
     have B6:Wf w5 w5 (w5.drewN q):=qC (zae _ _) q;generalize w5.drewN q=w6 at*;have eU:=B6.size;have xZ:=qA (xw.below B6);have cC:Wi (Wf w3 w3 w6):=qA (dP.trans (B6.mono tO));have Ki:Wi (Wf (w.heap.size+1) W w6):=qA (B3.trans (cC.mono tO));have c0:=(B6.cell (p:=⟨b,off+k*3,none⟩) cX).trans c0;have c1:=(B6.cell (p:=⟨b,off+k*3+1,none⟩) cX).trans c1;have c2:=(B6.cell (p:=⟨b,off+k*3+2,none⟩) cX).trans c2;clear q0 q1 q2 B6;obtain⟨q0,q1,q2⟩:=aW.o w6 Ki.o;have Ik:Wi (decide ((e1,e2,e3)∈T.take T.length)=decide ((e1,e2,e3)∈T)):=qA (by rw[zai]);have Ha:w3.heap.size<=w6.heap.size:=tO;rcases ed:decide ((e1,e2,e3)∈T.take T.length) with _ | _
     ·have oC:Wi ((es.take (k+1)).filter XB=LO++ [(e1,e2,e3)]):=qA (by rw[iG.o,uD.o,<-Ik.o,ed];rfl);clear ed;go_wp2_with (at_builtin;refine qBY rfl (.tmp 43) (.tmp 49) rfl w3 _ _ (xZ.alloc _) rfl _ (e1,e2,e3) rfl (qDK _ _ _) ce.o tO tB ?_;intro v7 wv7 o7 g7 p7;have O7:=qA o7;have B7:=qA (qBL cC Ha xZ (zab _) g7);clear o7 g7 p7)
      go_roundw;exact⟨k+1,tO,by go_num,by rw[oC.o];exact O7.o,B7.o⟩;exact tM
     ·have oC:Wi ((es.take (k+1)).filter XB=LO):=qA (by rw[iG.o,uD.o,<-Ik.o,ed];rfl);clear ed;go_wp2;go_roundw;exact⟨k+1,tO,by go_num,by rw[oC.o];exact xZ.o,cC.o⟩;exact tM
  ·obtain rfl:k=es.length:=tO
   rw[zai] at HO fJ;have aV:=qA (cA wi cU);go_wp2;go_ret;exact⟨_,rfl,by rw[lh.o];rw[zai];exact HO.o.mono tO,aV.o⟩
def snL (n:Nat) (o:List Int):List Bool:=(List.range n).map fun q:Nat=>decide ((q:Int)∈o)
theorem qGm (n:Nat) (o:List Int):(snL n o).length=n:=by simp[snL]
theorem qKa (n:Nat) (o:List Int) (q:Nat) (h:q<n):(snL n o)[q]'(by rw[qGm];exact h)=decide ((q:Int)∈o):=by simp[snL]
theorem qQW (n:Nat):snL n []=zay n false:=by
 refine zaJ (by simp[snL]) fun i h1 h2=> ?_;simp[snL]
theorem qNr (n:Nat) (o:List Int) (y:Nat):(snL n o).set y true=snL n (o++ [(y:Int)]):=by
 refine zaJ (by simp[snL]) fun i h1 h2=> ?_;rw[List.getElem_set];simp only[snL,List.getElem_map,List.getElem_range,zao,zan];by_cases h:y=i
 ·subst h;simp
 ·rw[Wn h];have: ¬(i:Int)=(y:Int):=tO
  simp[this]
theorem TreeX.other {f:Int->List Int} {bb P N:Nat} {w w9:Wg} {ord:Wh} {o:List Int} (h:TreeX f bb P N w ord o) {S:Nat} (hg:w.grownBy w9 (some S)) (hS:S<P):TreeX f bb P N w9 ord o:=by
 obtain⟨vs,h1,h2,h3⟩:=h.ex;have lJ:=hg.size;refine⟨⟨vs,h1,h2.kept hg (.inr fun e=>by simp[zaf] at e;omega),fun j hj=> ?_⟩,h.ne⟩;rcases h3 j hj with h4 | ⟨h4,b,cap,e1,e2,e3,e4,e5,e6⟩
 ·exact .inl h4
 ·refine .inr ⟨h4,b,cap,e1,e2,e3.kept hg (.inr fun hx=> ?_),e4,e5,tO⟩;rw[e1] at hx;simp[zaf] at hx
  omega
theorem TreeX.base {f:Int->List Int} {bb bb' P N:Nat} {w:Wg} {ord:Wh} {o:List Int} (h:TreeX f bb P N w ord o) (hb:bb'<=bb):TreeX f bb' P N w ord o:=by
 obtain⟨vs,h1,h2,h3⟩:=h.ex;refine⟨⟨vs,h1,⟨h2.1,?_⟩,h3⟩,h.ne⟩;rcases h2.2 with h0 | ⟨g,cap,cur,hv,hg,r⟩
 ·exact .inl h0
 ·exact .inr ⟨g,cap,cur,hv,zaF hb hg,r⟩
theorem qIu (v:Wh) (g:GrD) (w:Wg) (h:ArgG w v g) (hf:qO g=true):
  Wk Tryz.prog 221 #[v, .int .i64 0] w fun e w'=> ∃S P ord,e= .returned (.tuple #[.slice (some ⟨S,0,none⟩) g.2.1.toNat g.2.1.toNat, .slice (some ⟨P,0,none⟩) g.2.1.toNat g.2.1.toNat])/\OwB w' w (.slice (some ⟨S,0,none⟩) g.2.1.toNat g.2.1.toNat) (snL g.2.1.toNat (canO g))/\TreeX (wdO g) w P g.2.1.toNat w' ord (canO g)/\Wf w w w':=by
 have HG:=qA h;obtain⟨hg,aO⟩:=qE hf;have ONE:=qA (qAH aO);obtain⟨aF,aA,aD,_⟩:=qD hg;obtain⟨A,cap,hv⟩: ∃A cap,v= .agg #[.int .i64 g.1, .int .i64 g.2.1, .slice A g.2.2.length cap]:=by
  obtain⟨s,hv,_,_,ha⟩:=h;obtain⟨A,cap,rfl⟩:=ha.form;exact⟨A,cap,hv⟩
 subst hv;obtain⟨N,hN⟩: ∃N:Nat,g.2.1=(N:Int):=⟨g.2.1.toNat,tO⟩;obtain⟨rn,kr⟩: ∃rn:Nat,g.1=(rn:Int):=⟨g.1.toNat,tO⟩;have yl:1<=rn:=tO;have vj:rn<=3:=tO;have mH:1<=N:=tO;have yq:N<=40:=tO;have fG:Wi (canO g=canF g.2.2 (qB rn) 41 0 [0]):=qA (by unfold canO;rw[kr];rfl);have HZ:Wi (wdO g 0= []):=qA (qDH hg);have mC:Wi (TwS g (qB rn) 0 [0]):=qA (by have h:=TwS.zero g;rwa [kr] at h);have ut:Wi (∀(k:Nat) (o:List Int) (u:Int),TwS g (qB rn) k o->o[k]? =some u->k<41-> ∀(m:Nat) (hm:m<(qB rn).length),0<=qF g.2.2 u (qB rn)[m]->hasB (((qB rn).take m).foldl (qd g.2.2 u) o) (qF g.2.2 u (qB rn)[m])=false->wdO g (qF g.2.2 u (qB rn)[m])=wdO g u++ [(qB rn)[m]]):=qA fun k o u h1 h2 h3 m hm h4 h5=>h1.new hg h2 h3 hm h4 h5;have xC:=qA (qAL.one (n:=g.2.1) tO);have OKS:Wi (∀(u:Int) (o:List Int) (k:Nat),qAL g.2.1 o->qAL g.2.1 (((qB rn).take k).foldl (qd g.2.2 u) o)):=qA fun u o k h=>qCH hg _ k h;have OKL:Wi (∀o:List Int,qAL g.2.1 o->o.length<=40):=qA fun o h=>h.len tO tO;have OKR:Wi (∀o:List Int,qAL g.2.1 o-> ∀y∈o,0<=y/\y<N):=qA fun o h y hy=>by have:=h.2.1 y hy;omega
 have NV:Wi (∀u x,qF g.2.2 u x= -1\/(0<=qF g.2.2 u x/\qF g.2.2 u x<N)):=qA fun u x=>by
  rcases qR hg u x with e | e
  ·exact .inl e
  ·exact .inr ⟨e.1,tO⟩
 have dH:=qAX rn;have dX:Wi (∀W:Wg,Wk Tryz.prog 85 #[.int .i64 g.1] W fun e w'=> ∃r,e= .returned r/\OwI w' W.heap.size r (qB rn)/\Wf W.heap.size W w'):=qA fun W=>by
  rw[kr];exact qCG rn W tO
 generalize qB rn=ls at*;obtain⟨F,hF⟩: ∃F,F=wdO g:=⟨_,rfl⟩;rw[<-hF] at HZ ut⊢;replace hF:=qA hF;rw[hN] at HG;clear hg hf aO h kr;have gH:1<=g.1/\g.1<=3:=aF;clear aA aD aF;rw[hN];simp only[zau];obtain⟨W1,aq⟩: ∃W,W=w.alloc (.cells #[.int .i64 g.1,.int .i64 (N:Int), .slice A g.2.2.length cap] 26):=⟨_,rfl⟩;obtain⟨aE,b1,aJ⟩:=qGG aq;have BX:=qA b1;have aW:=qA aJ;have HA:Wi (∀w',Wf (w.heap.size+1) W1 w'->ArgG w' (.agg #[.int .i64 g.1, .int .i64 (N:Int), .slice A g.2.2.length cap]) g):=qA fun w' hb=>HG.o.below (BX.trans (hb.mono tO));obtain⟨i0,ci,cB,bi,bQ⟩:=info_parts qDl;have gu:=qA aE;have tu:=qA aq;clear aq aJ b1 aE;go_enter Tryz.func221,Tryz.ntmps221
 go_wp2_with (at_make;refine wpList_make_full _ rfl _ _ 64 rfl (w.heap.size+1) 4 i0 (.bool false) 1 Tryz.underlying64 ci cB bi _ _ _ _ N rfl rfl rfl rfl (by rw[bQ];omega) (by unfold maxLen;omega) tZ ?_)
 rw[<-tu.o];rw[<-gu.o];have Uu:w.heap.size+1<=W1.heap.size:=by rw[gu.o];exact zab _
 have PB:W1.heap.size<=w.heap.size+1:=by rw[gu.o];exact zab _
 intro w2 hownS hgS0;have sownS:OwB w2 W1 (.slice (some ⟨W1,0,none⟩) N N) (snL N []):=by
  unfold OwB;rw[qGm,qQW];have:qFR (zay N false)=zay N (Value.bool false):=by simp[qFR]
  rw[this];simpa[toList_madeCells_one] using hownS
 have rE:W1.heap.size<w2.heap.size:=(sownS.lt W1 rfl).2;have kW:Wf W1 W1 w2:=(zae W1 W1).grown hgS0 (zab _) (fun k h=>by cases h);have CE:Wf (w.heap.size+1) W1 w2:=kW.mono tO;clear hownS hgS0 ci cB bi bQ;obtain⟨q0,q1,q2⟩:=aW.o w2 CE;obtain⟨i1,ci,cB,bi,bQ⟩:=info_parts qFY;have oU:W1.heap.size<w2.heap.size:=rE;have M6:=qA sownS;have al:=qA CE;clear sownS CE kW;go_wp2_with (at_make;refine wpList_make_full _ rfl _ _ 69 rfl w2 37 i1 (.slice none 0 0) 1 Tryz.underlying69 ci cB bi _ _ _ _ N rfl rfl rfl rfl (by rw[bQ];omega) (by unfold maxLen;omega) (zab _) ?_)
 intro w3 hownP hgP0;have On:w2.heap.size<w3.heap.size:=(hownP.lt w2 rfl).2;have nL:Wf w2 w2 w3:=(zae w2 w2).grown hgP0 (zab _) (fun k h=>by cases h);have zm:TreeX F w2 w2 N w3 (.slice none 0 0) []:=⟨⟨zay N (.slice none 0 0),tZ,by simpa[toList_madeCells_one] using hownP,fun j hj=> .inl ⟨tZ,tZ⟩⟩,by simp[zaf]⟩;have Dr:=M6.o.below nL;have aB:Wf (w.heap.size+1) W1 w3:=al.o.trans (nL.mono tO);obtain⟨P,hP⟩: ∃P,P=w2.heap.size:=⟨_,rfl⟩;obtain⟨S,hS⟩: ∃S,S=W1.heap.size:=⟨_,rfl⟩;rw[<-hP] at zm On oU;rw[<-hS] at Dr oU;rw[<-hP,<-hS];have an:w.heap.size<S:=tO;have M8:=Dr.cellAt 0 (by rw[qGm];omega);rw[qKa N [] 0 tO] at M8;have Rq:=Dr.free 0;have gS:=Dr.set 0 true;rw[qNr] at gS;have jN:(0:Int)<(N:Int):=tO;have GS:=qA gS;have CC:=qA aB;have Hk:=qA zm;clear gS hP hS M6 Dr al aB zm nL hownP hgP0 q0 q1 q2 ci cB bi bQ;have En:=GS.o.2;have TWS:=Hk.o.other En oU;obtain⟨w4,jH⟩: ∃w4,w4=w3.setCell ⟨S,0,none⟩ (.bool true):=⟨_,rfl⟩;rw[<-jH] at TWS En;have jY:w4.heap.size=w3.heap.size:=by rw[jH];simp
 have Mw:OwB w4 S (.slice (some ⟨S,0,none⟩) N N) (snL N ([]++ [((0:Nat):Int)])):=by rw[jH];exact GS.o.1
 have aU:Wf (w.heap.size+1) W1 w4:=CC.o.grown En (by have:=CC.o.size;omega) (fun c hc=>by injection hc with hc;omega);have wD:=qA jH;have td:TreeX F P P N (w4.alloc (.cells #[] 3)) (.slice none 0 0) []:=TWS.below ((zae _ _).alloc (zab _) _);have oE:OwI (w4.alloc (.cells #[] 3)) w4 (.slice (some ⟨w4,0,none⟩) 0 0) []:=qp w4 [] (fun _ h=>by cases h) tZ (zab _);have Bz:=td.set (y:=0) tO HZ.o (b:=w4.heap.size) (cap:=0) (ws:= []) (oE.mono tO) tZ tO (by simp[zaf]) tZ;have fL:=td.at_new (y:=0) tO tZ;have ry:=td.free 0;rw[wD.o] at fL ry;have Bg:=qA Bz;have Ah:=qA Mw;have Ig:=qA aU;have mn:=aU.setCell (p:=⟨P,0,none⟩) (by show w.heap.size+1<=P;omega) (.slice (some ⟨w3,0,none⟩) 0 0);have vQ:=((mn.alloc (by have:=mn.size;omega) (.cells #[] 3)).alloc (by have:=mn.size;simp;omega) (.cells #[.int .i64 0] 3));have qx:=(aW _ vQ).1;have qy:=(aW _ mn).1;rw[wD.o] at qx qy;have cC:=qA vQ;have dP:=qA mn;clear En TWS jH Mw aU td oE Bz mn vQ;go_wp2_with fail;obtain⟨w5,eH⟩: ∃w5,w5=((((w3.setCell ⟨S,0,none⟩ (.bool true)).setCell ⟨P,0,none⟩ (.slice (some ⟨w3,0,none⟩) 0 0)).alloc (.cells #[] 3)).alloc (.cells #[.int .i64 0] 3)):=⟨_,rfl⟩;rw[<-eH];have B5:Wf (w.heap.size+1) W1 w5:=by rw[eH,<-wD.o];exact cC.o
 have rW:w4.heap.size=w3.heap.size:=jY;have e5:w5=((w4.alloc (.cells #[] 3)).setCell ⟨P,0,none⟩ (.slice (some ⟨w4,0,none⟩) 0 0)).alloc (.cells #[.int .i64 0] 3):=by
  rw[eH,<-wD.o,rW,World.setCell_alloc_past _ _ _ _ (show P<w4.heap.size by omega)]
 have e3:((w4.alloc (.cells #[] 3)).setCell ⟨P,0,none⟩ (.slice (some ⟨w4,0,none⟩) 0 0)).heap.size=w3.heap.size+1:=by simp[rW]
 have Oa:TreeX F P P N w5 (.slice (some ⟨w3.heap.size+1,0,none⟩) 1 1) [0]:=by
  have h:=Bg.o.lit (.cells #[.int .i64 0] 3) 1 1;simp only[zaD,zap] at h;rw[e3] at h;rw[e5];simpa using h
 have O5:OwI w5 (P+1) (.slice (some ⟨w3.heap.size+1,0,none⟩) 1 1) [0]:=by
  rw[e5];exact qAc _ [0] (w3.heap.size+1) e3 (fun x hx=>by simp at hx;subst hx;exact⟨by decide,by decide⟩) tZ tO
 have Ns:OwB w5 S (.slice (some ⟨S,0,none⟩) N N) (snL N [0]):=by
  rw[eH,<-wD.o];have h:OwB (w4.setCell ⟨P,0,none⟩ (.slice (some ⟨w3,0,none⟩) 0 0)) S (.slice (some ⟨S,0,none⟩) N N) (snL N ([]++ [((0:Nat):Int)])):=zaz.kept Ah.o (qAl _ P 0 _) (.inr fun e=>by simp[zaf] at e;omega);simp only[zap,Int.ofNat_zero,Int.natCast_zero] at h;exact(h.alloc _).alloc _
 have fg:w3.heap.size+2<=w5.heap.size:=by rw[e5];simp[rW]
 have Dg:=qA B5;have xw:=qA O5;have QF:=qA Oa;have Ia:=qA Ns;clear eH e5 e3 Oa O5 Ns B5 cC dP rW fL ry qx qy M8 Rq Bg Ah Ig GS;refine(dX w5).mono ?_
 rintro e wl ⟨rl,rfl,ol,bl⟩;have sl:=bl.size;obtain⟨Al,capl,rfl,aZ,dK,_,fJ⟩:=ol.form;obtain⟨gl,rfl,oI,kn⟩:=fJ tO;unfold maxLen at dK;have OL:=qA ol.rd;have tV:Wi (Wf (w.heap.size+1) W1 wl):=qA (Dg.trans (bl.mono (by have:=Dg.o.size;omega)));have lY:=qA (xw.below bl);have mZ:=qA (QF.below bl);have Jq:=qA (Ia.below bl);have sJ:w3.heap.size+1≠gl:=tO;have VN:P<gl:=tO;clear fJ ol bl dX;go_wp2;go_loopw [8,10] (fun out i wo=> ∃(k:Nat) (o:List Int),k<=o.length/\i= .int .i64 k/\qAL g.2.1 o/\TwS g ls k o/\canO g=canF g.2.2 ls (41-k) k o/\OwI wo (P+1) out o/\TreeX F P P N wo out o/\OwB wo S (.slice (some ⟨S,0,none⟩) N N) (snL N o)/\RdI wo (.slice (some ⟨gl,0,none⟩) ls.length capl) ls/\out.ownBlock≠some gl/\gl<wo.heap.size/\Wf (w.heap.size+1) W1 wo) (fun _ i _=>41-(intOf i).toNat)
 case atStart=>exact⟨0,[0],tZ,rfl,xC,mC,fG,lY,mZ,Jq,OL,by simp[zaf];omega,kn,tV.o⟩
 case round=>
  obtain⟨k,o,hk,rfl,af,ph,jn,aa,cR,zG,aP,ai,mK,ab⟩:=hrel;have nR:=qA ph;clear ph;obtain⟨wo,rfl⟩: ∃wo:Wg,wo=wr:=⟨_,rfl⟩;have fe:=OKL.o o af;have bH:=qA af;have HC:=qA jn;have HO:=qA aa;have kz:=qA cR;have tt:=qA zG;have dC:=qA aP;have a8:=qA ai;have al:=qA ab;have ar:=ab.size;obtain⟨A1,ak,rfl,_,_,_,db⟩:=aa.form;clear af jn cR ab zG aP ai;by_cases ac:k<o.length
  ·obtain⟨u,hu⟩: ∃u,o[k]? =some u:=⟨o[k],tZ⟩;have kI:o[k]=u:=by rw[zaj ac] at hu;injection hu
   have kX:Wi (canO g=canF g.2.2 ls (41-(k+1)) (k+1) (ls.foldl (qd g.2.2 u) o)):=qA (by
    rw[HC.o,show 41-k=(41-(k+1))+1 by omega,qDq _ _ _ _ _ ac,kI])
   have xq:=qA (nR.o.step hu tO);have wV:=qA (ut k o u nR hu tO);have eE:Wi (∀m:Nat,(((ls.take m).foldl (qd g.2.2 u) o))[k]? =some u):=qA fun m=>qBU _ _ _ _ _ _ hu;have gy:Wi (∀(m:Nat) (hm:m<ls.length),(ls.take (m+1)).foldl (qd g.2.2 u) o=qd g.2.2 u ((ls.take m).foldl (qd g.2.2 u) o) ls[m]):=qA fun m hm=>qEI _ _ _ _ _ hm;have fU:Wi (∀m:Nat,qAL g.2.1 ((ls.take m).foldl (qd g.2.2 u) o)):=qA fun m=>OKS.o u o m bH.o;obtain⟨un,cQ,uX⟩: ∃un:Nat,u=(un:Int)/\un<N:=by
    have h1:=bH.o.2.1 u (by rw[<-kI];simp);exact⟨u.toNat,tO,tO⟩
   have gF:=qA cQ;clear db hu kI aa cQ;go_wp2;go_loopw [8,11] (fun out j wr=> ∃m:Nat,m<=ls.length/\j= .int .i64 m/\OwI wr (P+1) out ((ls.take m).foldl (qd g.2.2 u) o)/\TreeX F P P N wr out ((ls.take m).foldl (qd g.2.2 u) o)/\OwB wr S (.slice (some ⟨S,0,none⟩) N N) (snL N ((ls.take m).foldl (qd g.2.2 u) o))/\RdI wr (.slice (some ⟨gl,0,none⟩) ls.length capl) ls/\out.ownBlock≠some gl/\gl<wr.heap.size/\Wf (w.heap.size+1) W1 wr) (fun _ j _=>ls.length-(intOf j).toNat)
   case atStart=>exact⟨0,zas _,rfl,HO,kz,tt,dC,a8,mK,al⟩
   case round=>
    obtain⟨m,fM,rfl,aa,cR,zG,aP,ai,eJ,a6⟩:=hrel;obtain⟨wj,rfl⟩: ∃wj:Wg,wj=wr:=⟨_,rfl⟩;have xK:=a6.size;have cU:=qA a6;have mL:=qA aP;have dG:=qA ai;have kN:=qA cR;have vv:=qA zG;clear a6 cR zG;by_cases aj:m<ls.length
    ·have bm:=fU.o m;have yY:=OKL.o _ bm;have dj:=eE.o m;have HS:=qA (gy m aj);have Il:=qA (OKR _ bm);obtain⟨_,_,gD,_,aZ⟩:=aP.at tO;obtain⟨rfl,rfl⟩:gl=_/\0=_:=by simpa using gD
     have c0:=aZ m aj;rw[zat] at c0;have lM:I64 ls[m]:=aP.2 _ tZ;have pE:=qA (wV m aj);have lh:Wi (∀w',RdI w' (.slice (some ⟨gl,0,none⟩) ls.length capl) ls->w'.cell? ⟨gl,m,none⟩=some (.int .i64 ls[m])):=qA fun w' h=>by
      obtain⟨_,_,gD,_,aZ⟩:=h.at tO;obtain⟨rfl,rfl⟩:gl=_/\0=_:=by simpa using gD
      have:=aZ m aj
      rwa [zat] at this
     generalize ls[m]=x at c0 HS lM pE lh;have mo:=qA lM;generalize (ls.take m).foldl (qd g.2.2 u) o=om at*;have yh:u∈om:=zaw dj;have Fj:=qA yh;have eV:k<om.length:=(zaq.1 dj).1;have iR:om[k]=u:=by rw[zaj eV] at dj;injection dj
     have eZ:=qA aa;obtain⟨A2,ao,rfl,_,_,_,db⟩:=aa.form;obtain⟨b2,rfl,wO,kt⟩:=db tO;have d0:=aa.cellAt k eV;rw[iR] at d0;have Ul:Wi (∀w',OwI w' (P+1) (.slice (some ⟨b2,0,none⟩) om.length ao) om->w'.cell? ⟨b2,k,none⟩=some (.int .i64 u)):=qA fun w' h=>by
      have:=h.cellAt k eV
      rwa [iR] at this
     have NX:=qA (NV u x);have N0:=qA (qGH (es:=g.2.2) (u:=u) (x:=x) (o:=om));have N1:=qA (qGS (es:=g.2.2) (u:=u) (x:=x) (o:=om));have N2:=qA (qEl (es:=g.2.2) (u:=u) (x:=x) (o:=om));have dJ:=qA (fun W (h:ArgG W (.agg #[.int .i64 g.1, .int .i64 (N:Int), .slice A g.2.2.length cap]) g)=>qe _ g u x W h (ONE u x));obtain⟨p0,p1,p2⟩:=aW.o wj cU.o;have bZ:w.heap.size<wj.heap.size:=tO;clear aZ gD aa aP db dj iR bm lM yh ai;go_wp2_with fail;have f0:=BelW.cell p0 bZ;have f1:=BelW.cell p1 bZ;have f2:=BelW.cell p2 bZ;have f3:=BelW.cell c0 eJ;have f4:=BelW.cell d0 kt;(refine qG tK tK ?_;(repeat(go_big_quiet_step (first | (go_at_call 86;exact Calls.bel_of (dJ _ (HA _ (cU.trans ((BelW.h _).mono tO))))))));refine wpQuiet_nil ?_;intro wq hw';obtain⟨pq,ae⟩:=hw';have bq:=pq.h;rw[<-ae] at bq;clear ae pq)
     clear f0 f1 f2 f3 f4 p0 p1 p2 c0 d0;have sq:=bq.size;have HQ:=qA (cU.trans (bq.mono tO));have ff:=qA (eZ.below bq);have jA:=qA (mL.below bq);have ie:=qA (kN.below bq);have Bh:=qA (vv.below bq);clear bq;generalize qF g.2.2 u x=y at*;rcases NX.o with hy | hy
     ·subst hy;have F0:=qA (N0 tO);go_wp2;go_roundw;exact⟨m+1,tO,by go_num,by rw[HS.o,F0.o];exact ff.o,by rw[HS.o,F0.o];exact ie.o,by rw[HS.o,F0.o];exact Bh.o,jA.o,dG.o,tO,HQ.o⟩;exact tM
     ·obtain⟨yn,rfl⟩: ∃yn:Nat,y=(yn:Int):=⟨y.toNat,tO⟩;have eK:(0:Int)<=(yn:Int):=hy.1;have Ez:(yn:Int)<(N:Int):=hy.2;have gi:yn<N:=tO;have cS:=Bh.o.cellAt yn (by rw[qGm];exact gi);rw[qKa N om yn gi] at cS;rcases h1:hasB om (yn:Int) with _ | _
      ·have eh:(yn:Int)∉om:=qDE h1;rw[decide_eq_false eh] at cS;have F0:=qA (N2 eK h1);have HY:Wi (I64 (yn:Int)):=qA ⟨tO,tO⟩;have mQ:=qA (pE eK h1);obtain⟨bu,capu,cu,BJ,lX,Px,QC⟩:=ie.o.at_old uX (by rw[<-gF.o];exact Fj.o);have Bp:Wi (F u=F (un:Int)):=qA (by rw[gF.o]);have xY:Wi (F (yn:Int)=F (un:Int)++ [x]):=qA (by rw[mQ.o,Bp.o]);have fS:=Bh.o.free yn;have cE:=qA (Bh.o.set yn true);rw[qNr] at cE;have ctQ:=ie.o.at_new gi eh;generalize F (un:Int)=wu at*;have Jd:u<(N:Int):=by rw[gF.o];omega
       have J0:(0:Int)<=u:=by rw[gF.o];omega
       have mG:(k:Int)<(om.length:Int):=tO;have DU:(m:Int)<(ls.length:Int):=tO;obtain⟨wz,uL⟩: ∃wz,wz=wq.setCell ⟨S,yn,none⟩ (.bool true):=⟨_,rfl⟩;have gz:wq.grownBy wz (some S):=by rw[uL];exact cE.o.2
       have tj:wz.heap.size=wq.heap.size:=by rw[uL];simp
       have mX:Wi (OwB wz S (.slice (some ⟨S,0,none⟩) N N) (snL N (om++ [(yn:Int)]))):=qA (by rw[uL];exact cE.o.1);have MG:=qA (ie.o.other gz oU);have xl:Wi (OwI wz (P+1) (.slice (some ⟨b2,0,none⟩) om.length ao) om):=qA (by rw[uL];exact ff.o.far (p:=⟨S,yn,none⟩) (by show S<P+1;omega) _);have xM:=qA (jA.o.grown gz fun b hb aL=>by simp[zaf] at hb aL;omega);have yg:=qA (lX.grown gz fun b hb aL=>by simp[zaf] at hb aL;omega);have lH:Wi (Wf (w.heap.size+1) W1 wz):=qA (HQ.o.grown gz (by have:=HQ.o.size;omega) (fun c hc=>by injection hc with hc;omega));have LS:=qA uL;have vB:b2<wz.heap.size:=by rw[tj];omega
       have wW:gl<wz.heap.size:=by rw[tj];omega
       have Py:bu<wz.heap.size:=by rw[tj];omega
       have xO:P<wz.heap.size:=tO;have Pv:P<=wz.heap.size:=tO;have GZ:Wi (wz.heap[P]? =wq.heap[P]?):=qA (gz.block P tO (fun e=>by injection e with e;omega));have Ub:(yn:Int)≠u:=fun e=>eh (by rw[e];exact Fj.o);have iS:(⟨P,yn,none⟩:Addr)≠⟨b2,k,none⟩:=fun e=>by injection e with e1;omega
       have eX:(⟨P,yn,none⟩:Addr)≠⟨P,u.toNat,none⟩:=fun e=>by injection e with e1 e2;omega
       have tz:(⟨P,yn,none⟩:Addr)≠⟨gl,m,none⟩:=fun e=>by injection e with e1;omega
       clear uL gz lX eh tj Ub;have AZ:Wi (∀(W':Wg) (z:Wh),W'.cell? ⟨b2,k,none⟩=some (.int .i64 u)->(W'.setCell ⟨P,yn,none⟩ z).cell? ⟨b2,k,none⟩=some (.int .i64 u)):=qA fun W' z h=>((by first | exact zag _ iS | exact zag _ _ iS | exact zag _ _ _ _ iS | exact zag _ _ _ _ _ iS):(W'.setCell _ z).cell? _=W'.cell? _).trans h;have yV:Wi (∀(W':Wg) (z y:Wh),W'.cell? ⟨P,u.toNat,none⟩=some y->(W'.setCell ⟨P,yn,none⟩ z).cell? ⟨P,u.toNat,none⟩=some y):=qA fun W' z y h=>((by first | exact zag _ eX | exact zag _ _ eX | exact zag _ _ _ _ eX | exact zag _ _ _ _ _ eX):(W'.setCell _ z).cell? _=W'.cell? _).trans h;have C9:Wi (∀(W':Wg) (z:Wh),W'.cell? ⟨gl,m,none⟩=some (.int .i64 x)->(W'.setCell ⟨P,yn,none⟩ z).cell? ⟨gl,m,none⟩=some (.int .i64 x)):=qA fun W' z h=>((by first | exact zag _ tz | exact zag _ _ tz | exact zag _ _ _ _ tz | exact zag _ _ _ _ _ tz):(W'.setCell _ z).cell? _=W'.cell? _).trans h;clear iS eX tz;go_wp2_with fail;rw[<-LS.o];have k0:=Ul.o wz xl.o;have k1:wz.cell? ⟨P,u.toNat,none⟩=some (.slice (some ⟨bu,0,none⟩) wu.length capu):=by
        rw[gF.o,zau];exact(zax GZ.o).trans cu
       have k2:=lh.o wz xM.o;have k3:wz.cell? ⟨P,yn,none⟩=some (.slice none 0 0):=(zax GZ.o).trans ctQ;have k4:=MG.o.free yn;clear cS fS cu ctQ LS;have Ep:Wi (RdI (wz.drew.alloc (.cells #[] 3)) (.slice (some ⟨bu,0,none⟩) wu.length capu) wu):=qA (yg.o.drew.alloc _);have xm:Wi (RdI ((wz.alloc (.cells #[] 3)).alloc (.cells #[.int .i64 x] 3)).drew (.slice (some ⟨bu,0,none⟩) wu.length capu) wu):=qA (((yg.alloc (.cells #[] 3)).alloc (.cells #[.int .i64 x] 3)).drew);have kM:Wi (RdI ((wz.alloc (.cells #[.int .i64 x] 3)).alloc (.cells #[] 3)).drew (.slice (some ⟨bu,0,none⟩) wu.length capu) wu):=qA (((yg.alloc (.cells #[.int .i64 x] 3)).alloc (.cells #[] 3)).drew);have gG:=qA (((qp wz [] qt tZ (zab _)).alloc (.cells #[.int .i64 x] 3)).drew);have Ej:Wi (OwI ((wz.alloc (.cells #[.int .i64 x] 3)).alloc (.cells #[] 3)).drew wz (.slice (some ⟨wz.heap.size+1,0,none⟩) 0 0) []):=qA (qAc (wz.alloc (.cells #[.int .i64 x] 3)) [] (wz.heap.size+1) tZ qt tZ tO);have E6:Wi (RdI ((wz.alloc (.cells #[] 3)).alloc (.cells #[.int .i64 x] 3)).drew (.slice (some ⟨wz.heap.size+1,0,none⟩) 1 1) [x]):=qA (by have:=qEJ (wz.alloc (.cells #[] 3)) x mo.o;simpa using this.drew);have FJ:Wi (RdI ((wz.alloc (.cells #[.int .i64 x] 3)).alloc (.cells #[] 3)).drew (.slice (some ⟨wz,0,none⟩) 1 1) [x]):=qA (((qEJ wz x mo).alloc (.cells #[] 3)).drew);have yL:Wi (Wf wz wz ((wz.alloc (.cells #[] 3)).alloc (.cells #[.int .i64 x] 3)).drew):=qA ((((zae wz wz).alloc (zab _) _).alloc tZ _).drew);have zd:Wi (Wf wz wz ((wz.alloc (.cells #[.int .i64 x] 3)).alloc (.cells #[] 3)).drew):=qA ((((zae wz wz).alloc (zab _) _).alloc tZ _).drew);go_region_held3 (fun w'=>w'.cell? ⟨b2,k,none⟩=some (.int .i64 u)/\w'.cell? ⟨P,u.toNat,none⟩=some (.slice (some ⟨bu,0,none⟩) wu.length capu)/\w'.cell? ⟨gl,m,none⟩=some (.int .i64 x))
        (first | go_keep | (exact⟨(aJ _ _ vB).trans k0,(aJ _ _ xO).trans k1,(aJ _ _ wW).trans k2⟩) | (exact⟨AZ _ _ ((aJ _ _ vB).trans k0),yV _ _ _ ((aJ _ _ xO).trans k1),C9 _ _ ((aJ _ _ wW).trans k2)⟩) | (exact⟨(fL _ _ vB).trans k0,(fL _ _ xO).trans k1,(fL _ _ wW).trans k2⟩))
        (first
         | (refine ql rfl (.tmp 67) (.tmp 74) rfl wz _ [] (qAc _ [] wz (by simp[World.drew,World.drewN]) qt tZ (zab _)) (by rfl) _ wu ?_ (by rfl) (by simp;omega) tZ ?_;(exact Ep.o);intro v1 w1 o1 g1 p1;rw[zap] at o1;have tY:=(((zae wz wz).drew).alloc (zab _) (.cells #[] 3));have da:=tY.grown g1 tY.size (fun k hk=>by simp[zaf] at hk;omega);have O1:=qA o1;have B1:=qA da;obtain⟨fL,ry⟩:=qHj da;have bi:=da.size;clear o1 tY da g1 p1 Ep xm kM gG Ej E6 FJ yL zd)
         | (refine ql rfl (.tmp 67) (.tmp 74) rfl wz _ [] gG (by rfl) _ wu xm.o (by rfl) (by simp;omega) yL.o.size ?_;intro v1 w1 o1 g1 p1;rw[zap] at o1;have da:=yL.o.grown g1 yL.o.size (fun k hk=>by simp[zaf] at hk;omega);have HX:=qA (E6.o.grown g1 (fun b e1 e2=>by simp[zaf] at e1 e2;omega));have O1:=qA o1;have B1:=qA da;obtain⟨fL,ry⟩:=qHj da;have bi:=da.size;clear o1 da g1 p1 Ep xm kM gG Ej E6 FJ yL zd)
         | (refine ql rfl (.tmp 67) (.tmp 74) rfl wz _ [] Ej (by rfl) _ wu kM.o (by rfl) (by simp;omega) zd.o.size ?_;intro v1 w1 o1 g1 p1;rw[zap] at o1;have da:=zd.o.grown g1 zd.o.size (fun k hk=>by simp[zaf] at hk;omega);have HX:=qA (FJ.o.grown g1 (fun b e1 e2=>by simp[zaf] at e1 e2;omega));have O1:=qA o1;have B1:=qA da;obtain⟨fL,ry⟩:=qHj da;have bi:=da.size;clear o1 da g1 p1 Ep xm kM gG Ej E6 FJ yL zd)
         | (refine ql rfl (.tmp 75) (.tmp 80) rfl wz _ wu (O1.alloc _) (by rfl) _ [x] (qEJ _ x mo) (by rfl) (by simp;omega) (by simp;omega) ?_;intro v2 w2 o2 g2 p2;have cF:=((B1.alloc bi (.cells #[.int .i64 x] 3)).grown g2 (by simp;omega) (fun k hk=>(O1.o.1.lt k hk).1));have B2:=qA cF;obtain⟨aJ,Ey⟩:=qHj cF;have k5:=(Ey _ _ xO).trans k4;have k6:=(aJ _ _ xO).trans k3;have bQ:=cF.size;obtain⟨A8,c8,nr,_,_,_,pX⟩:=OwI.form o2;obtain⟨b8,IH,AB,sk⟩:=pX tZ;rw[zak,zav,IH] at nr;subst nr;have O2:=qA o2;clear o2 cF g2 p2 bi B1 pX)
         | (refine ql rfl (.tmp 75) (.tmp 80) rfl wz _ wu O1 (by rfl) _ [x] HX.o (by rfl) (by simp;omega) bi ?_;intro v2 w2 o2 g2 p2;have cF:=(B1.o.grown g2 bi (fun k hk=>(O1.o.1.lt k hk).1));have B2:=qA cF;obtain⟨aJ,Ey⟩:=qHj cF;have k5:=(Ey _ _ xO).trans k4;have k6:=(aJ _ _ xO).trans k3;have bQ:=cF.size;obtain⟨A8,c8,nr,_,_,_,pX⟩:=OwI.form o2;obtain⟨b8,IH,AB,sk⟩:=pX tZ;rw[zak,zav,IH] at nr;subst nr;have O2:=qA o2;clear o2 cF g2 p2 bi B1 HX pX))
       all_goals (
 have m9:w2.grownBy (w2.setCell ⟨P,yn,none⟩ (.slice (some ⟨b8,0,none⟩) (wu.length+1) c8)) (some P):=qAl _ _ _ _;have QL:P<w2.heap.size:=tO;have TWS:=(MG.below B2).set (b:=b8) (cap:=c8) gi xY.o (by have h:=O2.o.mono (base':=P) tO;rw[zak,zav];exact h) (by simp;omega) tO (fun e=>by simp[zaf] at e;omega) sk;simp only[zak,zaH,zaD,zat] at TWS;have yj:=qA TWS;have tQ:Wi (OwI (w2.setCell ⟨P,yn,none⟩ (.slice (some ⟨b8,0,none⟩) (wu.length+1) c8)) (P+1) (.slice (some ⟨b2,0,none⟩) om.length ao) om):=qA ((xl.below B2).far (p:=⟨P,yn,none⟩) (by show P<P+1;omega) _);have yT:Wi (OwB (w2.setCell ⟨P,yn,none⟩ (.slice (some ⟨b8,0,none⟩) (wu.length+1) c8)) S (.slice (some ⟨S,0,none⟩) N N) (snL N (om++ [(yn:Int)]))):=qA (zaz.kept (mX.below B2) m9 (.inr fun e=>by simp[zaf] at e;omega));have mD:Wi (RdI (w2.setCell ⟨P,yn,none⟩ (.slice (some ⟨b8,0,none⟩) (wu.length+1) c8)) (.slice (some ⟨gl,0,none⟩) ls.length capl) ls):=qA ((xM.below B2).grown m9 fun b hb aL=>by simp[zaf] at hb aL;omega);have jJ:Wi (Wf (w.heap.size+1) W1 (w2.setCell ⟨P,yn,none⟩ (.slice (some ⟨b8,0,none⟩) (wu.length+1) c8))):=qA ((lH.trans (B2.mono tO)).setCell (by show w.heap.size+1<=P;omega) _);have CV:(w2.setCell ⟨P,yn,none⟩ (.slice (some ⟨b8,0,none⟩) (wu.length+1) c8)).heap.size=w2.heap.size:=tZ;generalize w2.setCell ⟨P,yn,none⟩ (.slice (some ⟨b8,0,none⟩) (wu.length+1) c8)=wT at*;clear k0 k1 k2 k3 k4 k5 k6 TWS m9 aJ Ey;have RI:w2.heap.size<=wT.heap.size:=tO;have Qz:wT.heap.size<=w2.heap.size:=tO;clear CV;go_wp2_with (at_builtin;refine qW rfl (.tmp 83) (.tmp 85) rfl _ _ _ (OwI.alloc tQ _) rfl _ _ rfl (qU _ _ _) HY.o tB tB ?_;intro v9 wv9 o9 g9 p9)
 have gh:=g9.size;simp at gh
 go_roundw
 case rel=>
  refine⟨m+1,tO,by go_num,by rw[HS.o,F0.o];exact o9,by rw[HS.o,F0.o];exact yj.o.push g9 p9,by rw[HS.o,F0.o];exact zaz.kept (yT.alloc _) g9 (.inr fun e=>by simp[zaf] at e;omega),(mD.alloc _).grown g9 (fun b hb aL=> ?_),fun e=> ?_,tO,qh jJ.o tO tQ.o.1 tO g9⟩
  ·simp only[zaf,zaG.injEq] at hb;subst hb;exact dG.o aL
  ·rcases p9 with p9 | p9
   ·rw[p9] at e;exact dG.o e
   ·rw[p9] at e;simp at e;omega
 case measure=>simp[intOf];omega)
      ·have F0:=qA (N1 eK h1);rw[decide_eq_true (qBA.1 h1)] at cS;go_wp2;go_roundw;exact⟨m+1,tO,by go_num,by rw[HS.o,F0.o];exact ff.o,by rw[HS.o,F0.o];exact ie.o,by rw[HS.o,F0.o];exact Bh.o,jA.o,dG.o,tO,HQ.o⟩;exact tM
    ·obtain rfl:m=ls.length:=tO
     rw[zai] at aa kN vv;have bm:=fU.o ls.length;rw[zai] at bm;have kZ:=qA bm;have eZ:=qA aa;have aM:k+1<=(ls.foldl (qd g.2.2 u) o).length:=by
      have:=eE.o ls.length
      rw[zai] at this;have:=(zaq.1 this).1
      omega
     obtain⟨A2,ao,rfl,_⟩:=aa.form;clear aa aP ai bm;go_wp2;go_roundw;exact⟨k+1,_,aM,by go_num,kZ.o,xq.o,kX.o,eZ.o,kN.o,vv.o,mL.o,dG.o,eJ,cU.o⟩;exact tM
  ·obtain rfl:k=o.length:=tO
   have F':Wi (canO g=o):=qA (by rw[HC.o,qGL]);have cA:Wi (Wf w w wo):=qA (BX.trans (al.mono tO));have nP:Wi (TreeX F w P N wo (.slice A1 o.length ak) o):=qA (kz.o.base tO);clear aa db;go_wp2;exact Wj (v:= .tuple #[.slice (some ⟨S,0,none⟩) N N, .slice (some ⟨P,0,none⟩) N N]) (by simp[results,Tryz.results221]) rfl ⟨S,P,_,rfl,by rw[F'.o];exact OwB.mono tt.o tO,by rw[F'.o];exact nP.o,cA.o⟩
theorem qFw (v:Wh) (g:GrD) (y:Int) (w:Wg) (h:ArgG w v g) (hf:qO g=true) (hy:y∈canO g):
  Wk Tryz.prog 178 #[v, .int .i64 0, .int .i64 y] w fun e w'=> ∃r,e= .returned (.tuple #[r, .bool true])/\OwI w' w r (wdO g y)/\Wf w w w':=by
 have HG:=qA h;have HF:=qA hf;obtain⟨hg,aO⟩:=qE hf;obtain⟨aF,aA,aD,_⟩:=qD hg;have sH:=(qAD hg).2.1 y hy;have DO:=qBh hg hy;have Ij:=qA hy;obtain⟨s,rfl,aN,aQ,ha⟩:=h;obtain⟨A,cap,rfl⟩:=ha.form;have vU:=qA (fun W' (h:ArgG W' (.agg #[.int .i64 g.1, .int .i64 g.2.1, .slice A g.2.2.length cap]) g)=>qIu _ g W' h hf);have ky:=qA (fun W' (h:ArgG W' (.agg #[.int .i64 g.1, .int .i64 g.2.1, .slice A g.2.2.length cap]) g)=>qj _ g W' h);rw[HF.o] at ky;obtain⟨O,hO⟩: ∃O,O=canO g:=⟨_,rfl⟩;obtain⟨F,AH⟩: ∃F,F=wdO g:=⟨_,rfl⟩;rw[<-hO] at Ij vU;rw[<-AH] at vU DO⊢;obtain⟨g1,n,es⟩:=g;simp only at*
 clear hO AH hy hg aO ha hf;obtain⟨N,rfl⟩: ∃N:Nat,n=(N:Int):=⟨n.toNat,tO⟩;simp only[zau] at vU;obtain⟨yn,rfl⟩: ∃yn:Nat,y=(yn:Int):=⟨y.toNat,tO⟩;have nt:IntKind.i64.wrap ((N:Int)-1)=(N:Int)-1:=by rw[IntKind.wrap_i64];omega
 have QY:inB 0 0 ((N:Int)-1)=true:=by unfold inB;simp;omega
 have Ux:inB (yn:Int) 0 ((N:Int)-1)=true:=by unfold inB;simp;omega
 have eK:(0:Int)<=(yn:Int):=tO;have Ez:(yn:Int)<(N:Int):=sH.2;have gi:yn<N:=tO;obtain⟨wu,Ie⟩: ∃wu,wu=F (yn:Int):=⟨_,rfl⟩;rw[<-Ie] at DO⊢;have Bp:=qA Ie;clear Ie;go_enter Tryz.func178,Tryz.ntmps178
 go_wp2_with fail;obtain⟨W,hW⟩: ∃W,W=w.alloc (.cells #[.int .i64 g1,.int .i64 (N:Int), .slice A es.length cap] 26):=⟨_,rfl⟩;obtain⟨aH,b1,aJ⟩:=qGG hW;rw[<-hW];have BX:=qA b1;have aW:=qA aJ;have HA:Wi (∀w',Wf (w.heap.size+1) W w'->ArgG w' (.agg #[.int .i64 g1, .int .i64 (N:Int), .slice A es.length cap]) (g1,(N:Int),es)):=qA fun w' hb=>HG.o.below (BX.trans (hb.mono tO));have aq:w.heap.size+1<=W.heap.size:=tO;clear hW aJ b1 aH;refine(ky W (HA W ((zae W.heap.size W).mono tO))).mono ?_
 rintro e w2 ⟨rfl,b2⟩;have dQ:=b2.size;have B2:Wi (Wf (w.heap.size+1) W w2):=qA (b2.mono aq);clear b2;obtain⟨q0,q1,q2⟩:=aW.o w2 B2.o;go_wp2_with (go_at_call 138;refine(qi _ _ _ _).mono ?_;rintro e w' ⟨rfl,rfl⟩)
 refine(vU w2 (HA w2 B2)).mono ?_
 rintro e w3 ⟨S,P,ord,rfl,sn,tx,b3⟩;have d5:=b3.size;have B3:Wi (Wf (w.heap.size+1) W w3):=qA (B2.trans (b3.mono tO));have cS:=OwB.cellAt sn yn (by rw[qGm];exact gi);rw[qKa N O yn gi,decide_eq_true Ij.o] at cS;obtain⟨bu,capu,cu,_,lX,U8,RE⟩:=tx.at_old gi Ij.o;rw[<-Bp.o] at cu lX;have Ly:P<w3.heap.size:=tO;have Gy:=((((zae w3 w3).alloc (zab _) (.cells #[] 3))).cell (p:=⟨P,yn,none⟩) Ly).trans cu;have yg:=qA lX;have aV:=qA (BX.trans (B3.mono tO));clear sn tx b3 lX q0 q1 q2;go_wp2_with (at_builtin;refine qBm rfl (.tmp 42) (.tmp 46) rfl w3 _ [] (qp w3 [] qt tZ (zab _)) rfl _ wu (yg.alloc _) rfl (by simp;omega) tZ ?_;intro v6 w6 o6 g6 p6;rw[zap] at o6;have O6:=qA o6;have B6:Wi (Wf w3 w3 w6):=qA (((zae w3 w3).alloc (zab _) (.cells #[] 3)).grown g6 tZ (fun k hk=>by simp[zaf] at hk;omega));clear o6 g6 p6)
 have HB:=qA (aV.trans (B6.mono tO));exact Wj (v:= .tuple #[v6, .bool true]) (by simp[results,Tryz.results178]) rfl ⟨_,rfl,O6.mono tO,HB.o⟩
theorem qBR (v:Wh) (g:GrD) (y:Int) (w:Wg) (h:ArgG w v g) (hf:qO g=true) (hy:y∈canO g):
  Wk Tryz.prog 103 #[v, .int .i64 y] w fun e w'=> ∃r,e= .returned r/\OwI w' w r (wdO g y)/\Wf w w w':=by
 have HG:=qA h;obtain⟨s,rfl,aN,aQ,ha⟩:=h;obtain⟨A,cap,rfl⟩:=ha.form;have AU:=qA (fun W' (h:ArgG W' (.agg #[.int .i64 g.1, .int .i64 g.2.1, .slice A g.2.2.length cap]) g)=>qFw _ g y W' h hf hy);obtain⟨g1,n,es⟩:=g;simp only at*
 generalize wdO (g1,n,es) y=wu at*;clear ha hf hy;go_enter Tryz.func103,Tryz.ntmps103
 go_wp2_with fail;obtain⟨W,hW⟩: ∃W,W=w.alloc (.cells #[.int .i64 g1,.int .i64 n, .slice A es.length cap] 26):=⟨_,rfl⟩;obtain⟨aH,b1,aJ⟩:=qGG hW;rw[<-hW];have BX:=qA b1;have aq:w.heap.size+1<=W.heap.size:=tO;clear hW aJ b1 aH;refine(AU W (HG.below BX)).mono ?_
 rintro e w3 ⟨r3,rfl,o3,b3⟩;have O3:=qA o3;have HB:=qA (BX.trans (b3.mono tO));clear o3 b3;go_wp2;go_ret;exact⟨_,rfl,O3.mono tO,HB.o⟩
theorem qHR (v:Wh) (g:GrD) (e:EdD) (w:Wg) (h:ArgG w v g) (hf:qO g=true) (he:e∈g.2.2) (h1:e.1∈canO g) (h3:e.2.2∈canO g):
  Wk Tryz.prog 105 #[v,edV e] w fun x w'=> ∃r,x= .returned r/\OwI w' w r (redL [] ((wdO g e.1++ [e.2.1])++invL (wdO g e.2.2)))/\Wf w w w':=by
 have HG:=qA h;have HF:=qA hf;have HE:=qA he;obtain⟨hg,aO⟩:=qE hf;obtain⟨aF,aA,aD,_⟩:=qD hg;have bk:=qBh hg h1;have me:=qBh hg h3;have fQ:=(qM hg he).2.1;obtain⟨s,rfl,aN,aQ,ha⟩:=h;obtain⟨A,cap,rfl⟩:=ha.form;have IK:=qA (fun W' (h:ArgG W' (.agg #[.int .i64 g.1, .int .i64 g.2.1, .slice A g.2.2.length cap]) g)=>qBR _ g e.1 W' h hf h1);have EH:=qA (fun W' (h:ArgG W' (.agg #[.int .i64 g.1, .int .i64 g.2.1, .slice A g.2.2.length cap]) g)=>qBR _ g e.2.2 W' h hf h3);have ky:=qA (fun W' (h:ArgG W' (.agg #[.int .i64 g.1, .int .i64 g.2.1, .slice A g.2.2.length cap]) g)=>qj _ g W' h);rw[HF.o] at ky;obtain⟨u1,kL⟩: ∃u,u=wdO g e.1:=⟨_,rfl⟩;obtain⟨u3,Fp⟩: ∃u,u=wdO g e.2.2:=⟨_,rfl⟩;rw[<-kL] at IK bk⊢;rw[<-Fp] at EH me⊢;obtain⟨g1,n,es⟩:=g;obtain⟨e1,x,e3⟩:=e;simp only at*
 have mo:Wi (I64 x):=qA ⟨tO,tO⟩;clear kL Fp hg aO ha hf he h1 h3 fQ aF;unfold edV;simp only
 have ip:Wi (∀(y:EdD) (w:Wg),(binOp .eql 97 (edV y) (edV (e1,x,e3))).run Tryz.prog w= .ok (.bool (decide (y=(e1,x,e3)))) w):=qA fun y w=>qEo y (e1,x,e3) w;have dq:=qBk;have ii:Wi (∀m (hm:m<es.length),decide ((e1,x,e3)∈es.take (m+1))=(decide ((e1,x,e3)∈es.take m)||decide (es[m]=(e1,x,e3)))):=qA fun m hm=>by
  rw[zar hm,zaK];simp only[zao,zan,decide_eq_true_eq,zaL];exact⟨fun h=>h.imp_right Eq.symm,fun h=>h.imp_right Eq.symm⟩
 obtain⟨W1,aq⟩: ∃W,W=w.alloc (.cells #[.int .i64 g1,.int .i64 n, .slice A es.length cap] 26):=⟨_,rfl⟩;obtain⟨aE,b1,aJ⟩:=qGG aq;obtain⟨W,hW⟩: ∃W,W=W1.alloc (.cells #[.int .i64 e1,.int .i64 x,.int .i64 e3] 97):=⟨_,rfl⟩;obtain⟨dQ,b2,dp⟩:=qGG hW;rw[aE] at dp;have fE:=qA aJ;have io:=qA dp;have BX:Wi (Wf w w W):=qA (b1.trans (b2.mono tO));have kW:Wi (Wf (w.heap.size+1) W1 W):=qA (b2.mono tO);have aW:Wi (∀w',Wf (w.heap.size+2) W w'->w'.cell? ⟨w,0,none⟩=some (.int .i64 g1)/\w'.cell? ⟨w,1,none⟩=some (.int .i64 n)/\w'.cell? ⟨w,2,none⟩=some (.slice A es.length cap)):=qA fun w' hb=>fE.o w' (kW.trans (hb.mono tO));have ln:Wi (∀w',Wf (w.heap.size+2) W w'->w'.cell? ⟨w.heap.size+1,0,none⟩=some (.int .i64 e1)/\w'.cell? ⟨w.heap.size+1,1,none⟩=some (.int .i64 x)/\w'.cell? ⟨w.heap.size+1,2,none⟩=some (.int .i64 e3)):=qA fun w' hb=>io.o w' hb;have HA:Wi (∀w',Wf (w.heap.size+2) W w'->ArgG w' (.agg #[.int .i64 g1, .int .i64 n, .slice A es.length cap]) (g1,n,es)):=qA fun w' hb=>HG.o.below (BX.trans (hb.mono tO));have tu:=qA aq;have HW:=qA hW;have uM:w.heap.size+2<=W.heap.size:=tO;clear aq hW aJ dp b1 b2 aE dQ fE io;go_enter Tryz.func105,Tryz.ntmps105
 go_wp2_with fail;rw[<-tu.o,<-HW.o];go_loopw [5,6] (fun f j wr=> ∃m:Nat,m<=es.length/\j= .int .i64 m/\f= .bool (decide ((e1,x,e3)∈es.take m))/\ ∃q,wr=W.drewN q) (fun _ j _=>es.length-(intOf j).toNat)
 case atStart=>exact⟨0,zas _,rfl,tZ,0,rfl⟩
 case round=>
  obtain⟨m,hm,rfl,rfl,q,rfl⟩:=hrel;obtain⟨q0,q1,q2⟩:=aW.o W ((zae W W).mono uM);obtain⟨z0,z1,z2⟩:=ln.o W ((zae W W).mono uM);by_cases aj:m<es.length
  ·have DT:=qA (ii m aj);have DU:(m:Int)<(es.length:Int):=tO;rcases ef:decide ((e1,x,e3)∈es.take m) with _ | _
   rotate_left
   ·have F:Wi (decide ((e1,x,e3)∈es.take (m+1))=true):=qA (by rw[DT.o,ef];rfl);clear ef;go_wp2;go_quiet (fail)
    go_wp2;go_roundw;exact⟨m+1,tO,by go_num,by rw[F.o],_,rfl⟩;exact tM
   ·obtain⟨_,_,DS,uB,_,_⟩:=(HA W ((zae W W).mono uM)).inner;injection DS with i1 i2 i3
    subst i1 i3;clear i2;obtain⟨bt,offt,rfl,Cf,d0,d1,d2,_⟩:=uB.at aj;have eo:=fun w=>ip.o es[m] w;unfold edV at eo;obtain⟨be,kF⟩: ∃be,be=decide (es[m]=(e1,x,e3)):=⟨_,rfl⟩;rw[<-kF] at eo;have F:Wi (decide ((e1,x,e3)∈es.take (m+1))=be):=qA (by rw[DT.o,ef,<-kF];rfl);clear kF ef uB;generalize es[m]=y at*;obtain⟨y1,y2,y3⟩:=y;simp only at*
    go_wp2;go_quiet (fail)
    go_wp2;go_roundw;exact⟨m+1,tO,by go_num,by rw[F.o],_,rfl⟩;exact tM
  ·obtain rfl:m=es.length:=tO
   have B6:Wf W W (W.drewN q):=qC (zae _ _) q;have DZ:decide ((e1,x,e3)∈es.take es.length)=true:=by rw[zai];exact decide_eq_true HE.o
   generalize W.drewN q=w3 at*;have aB:Wi (Wf (w.heap.size+2) W w3):=qA (B6.mono uM);clear q0 q1 q2 z0 z1 z2 B6;obtain⟨q0,q1,q2⟩:=aW.o w3 aB.o;rw[DZ];clear DZ;go_wp2_with fail;refine(ky w3 (HA w3 aB)).mono ?_
   rintro e w4 ⟨rfl,b4⟩;have aU:Wi (Wf (w.heap.size+2) W w4):=qA (aB.trans (b4.mono (by have:=aB.o.size;omega)));clear b4 q0 q1 q2;obtain⟨q0,q1,q2⟩:=aW.o w4 aU.o;obtain⟨z0,z1,z2⟩:=ln.o w4 aU.o;have jH:=aU.o.size;go_wp2_with fail;have yR:Wi (Wf w4 w4 w4.drew):=qA (zae w4 w4).drew;have zb:Wi (Wf w4 w4 (w4.alloc (.cells #[.int .i64 x] 3)).drew):=qA (((zae w4 w4).alloc (zab _) _).drew);have J7:Wi (RdI (w4.alloc (.cells #[.int .i64 x] 3)).drew (.slice (some ⟨w4,0,none⟩) 1 1) [x]):=qA (qEJ w4 x mo).drew;have jv:Wi (∀w',Wf w4 w4 w'->Wf (w.heap.size+2) W w'):=qA fun w' hb=>aU.o.trans (hb.mono tO);have dg:w.heap.size<w4.heap.size:=tO;have U3:w.heap.size+1<w4.heap.size:=tO;go_region_held3 (fun w'=>w'.cell? ⟨w,0,none⟩=some (.int .i64 g1)/\w'.cell? ⟨w,1,none⟩=some (.int .i64 n)/\w'.cell? ⟨w,2,none⟩=some (.slice A es.length cap)/\w'.cell? ⟨w.heap.size+1,0,none⟩=some (.int .i64 e1)/\w'.cell? ⟨w.heap.size+1,1,none⟩=some (.int .i64 x)/\w'.cell? ⟨w.heap.size+1,2,none⟩=some (.int .i64 e3))
    (first | go_keep | exact⟨s0,s1,s2,t0,t1,t2⟩)
    (first
     | (go_at_call 103;(with_reducible refine(IK.o _ (HA.o _ (jv.o _ yR.o))).mono ?_);rintro e w5 ⟨r5,rfl,o5,b5⟩;have dP:Wi (Wf w4 w4 w5):=qA (yR.o.trans (b5.mono yR.o.size));have uP:=qA (o5.mono yR.o.size);have fg:=dP.o.size;obtain⟨s0,s1,s2⟩:=aW.o w5 (jv.o w5 dP.o);obtain⟨t0,t1,t2⟩:=ln.o w5 (jv.o w5 dP.o);clear o5 b5 yR zb J7)
     | (go_at_call 103;(with_reducible refine(IK.o _ (HA.o _ (jv.o _ zb.o))).mono ?_);rintro e w5 ⟨r5,rfl,o5,b5⟩;have dP:Wi (Wf w4 w4 w5):=qA (zb.o.trans (b5.mono zb.o.size));have uP:=qA (o5.mono zb.o.size);have Om:=qA (J7.o.below b5);have fg:=dP.o.size;obtain⟨s0,s1,s2⟩:=aW.o w5 (jv.o w5 dP.o);obtain⟨t0,t1,t2⟩:=ln.o w5 (jv.o w5 dP.o);clear o5 b5 yR zb J7)
     | (refine ql rfl (.tmp 35) (.tmp 38) rfl w4 _ u1 uP (by rfl) _ [x] Om.o (by rfl) (by simp;omega) fg ?_;intro v6 w6 o6 g6 p6;have cC:Wi (Wf w4 w4 w6):=qA (dP.o.grown g6 fg (fun c hc=>(uP.o.1.lt c hc).1));have Jy:=qA o6;have eU:=cC.o.size;obtain⟨s0,s1,s2⟩:=aW.o w6 (jv w6 cC);obtain⟨t0,t1,t2⟩:=ln.o w6 (jv w6 cC);clear o6 g6 p6 uP Om)
     | (refine ql rfl (.tmp 35) (.tmp 38) rfl w4 _ u1 (uP.alloc _) (by rfl) _ [x] (qEJ _ x mo) (by rfl) (by simp;omega) (by simp;omega) ?_;intro v6 w6 o6 g6 p6;have cC:Wi (Wf w4 w4 w6):=qA ((dP.alloc fg _).grown g6 (by simp;omega) (fun c hc=>(uP.o.1.lt c hc).1));have Jy:=qA o6;have eU:=cC.o.size;obtain⟨s0,s1,s2⟩:=aW.o w6 (jv w6 cC);obtain⟨t0,t1,t2⟩:=ln.o w6 (jv w6 cC);clear o6 g6 p6 uP)
     | (go_at_call 103;(with_reducible refine(EH.o _ (HA.o _ (jv.o _ cC.o))).mono ?_);rintro e w7 ⟨r7,rfl,o7,b7⟩;have ik:Wi (Wf w4 w4 w7):=qA (cC.o.trans (b7.mono eU));have KS:=qA o7.rd;have N7:=qA (Jy.o.below b7);have pe:=ik.o.size;obtain⟨s0,s1,s2⟩:=aW.o w7 (jv.o w7 ik.o);obtain⟨t0,t1,t2⟩:=ln.o w7 (jv.o w7 ik.o);clear o7 b7 Jy cC)
     | (go_at_call 28;(with_reducible refine(qAa _ u3 _ KS.o tO).mono ?_);rintro e w8 ⟨r8,rfl,o8,b8⟩;have hZ:Wi (Wf w4 w4 w8):=qA (ik.o.trans (b8.mono pe));have uq:=qA o8.rd;have ug:=qA (N7.o.below b8);have pV:=hZ.o.size;obtain⟨s0,s1,s2⟩:=aW.o w8 (jv.o w8 hZ.o);obtain⟨t0,t1,t2⟩:=ln.o w8 (jv.o w8 hZ.o);clear o8 b8 KS N7 ik)
     | (go_at_call 102;(with_reducible refine(qAF _ _ (u1++ [x]) (invL u3) _ ug.o.rd uq.o (by simp;omega) (by rw[qAt];omega)).mono ?_);rintro e w9 ⟨r9,rfl,o9,b9⟩;have iO:Wi (Wf w4 w4 w9):=qA (hZ.o.trans (b9.mono pV));have gO:=qA (o9.mono pV);have lJ:=iO.o.size;obtain⟨s0,s1,s2⟩:=aW.o w9 (jv.o w9 iO.o);obtain⟨t0,t1,t2⟩:=ln.o w9 (jv.o w9 iO.o);clear o9 b9 uq ug hZ))
   all_goals (
    have aV:=qA (BX.trans ((jv _ iO).mono tO));go_wp2;go_ret;exact⟨_,rfl,gO.mono tO,aV.o⟩)
theorem qOy {w:Wg} {b o:Nat} {v:Wh} (h:w.cell? ⟨b,o,none⟩=some v):b<w.heap.size:=by
 rcases zaB b w.heap.size with h' | h'
 ·exact h'
 ·simp[World.cell?,Array.getElem?_eq_none h'] at h
theorem ArgC.below {w w':Wg} {v:Wh} {cs:List Int} (h:ArgC w v cs) (hb:Wf w w w'):ArgC w' v cs:=by
 obtain⟨A,cap,hv,h1,h2,h3,h4⟩:=h;refine⟨A,cap,hv,h1,h2,h3,fun h0=> ?_⟩;obtain⟨b,off,hA,hc⟩:=h4 h0;exact⟨b,off,hA,fun i hi=>(zax (w:=w) (hb.block b (qOy (hc 0 h0)))).trans (hc i hi)⟩
theorem qJw (v u:Wh) (xs ys:List Int) (w:Wg) (h:ArgI w v xs) (h':ArgI w u ys):
  Wk Tryz.prog 21 #[v,u] w fun e w'=>e= .returned (.bool (decide (xs=ys)))/\ ∃n,w'=w.drewN n:=by
 obtain⟨A,cap,rfl,aR,hm,hr,hb⟩:=h;obtain⟨A',cap',rfl,uK,kQ,V1,aL⟩:=h';unfold maxLen at hm kQ;by_cases ai:xs.length=ys.length
 ·have hd:((xs.length:Int) != (ys.length:Int))=false:=by simp[ai]
  have a8:=qA ai;clear ai;go_enter Tryz.func21,Tryz.ntmps21
  go_wp2;go_loopw [5] (fun i wr=> ∃k:Nat,k<=xs.length/\i= .int .i64 k/\xs.take k=ys.take k/\ ∃n,wr=w.drewN n) (fun i _=>xs.length-(intOf i).toNat)
  case atStart=>exact⟨0,zas _,rfl,tZ,0,rfl⟩
  case round=>
   obtain⟨k,hk,rfl,lG,n,rfl⟩:=hrel;have ip:=qA lG;clear lG;by_cases ac:k<xs.length
   ·obtain⟨b,off,rfl,hc⟩:=hb tO;have cT:k<ys.length:=by have:=a8.o;omega
    obtain⟨b',off',rfl,jw⟩:=aL tO;have am:=hc k ac;have oD:=jw k cT;clear hc jw hb aL;by_cases hx:xs[k]=ys[k]
    ·have gt:(xs[k] != ys[k])=false:=by simp[hx]
     have HX:=qA hx;clear hx;go_wp2;go_quiet (fail)
     go_wp2;go_roundw;exact⟨k+1,tO,by go_num,qDy ip.o ac cT HX.o,_,rfl⟩;exact tM
    ·have gt:(xs[k] != ys[k])=true:=by simp[hx]
     go_wp2;go_quiet (fail)
     go_wp2;go_ret;exact⟨qJ (by symm;rw[decide_eq_false_iff_not];rintro rfl;exact hx rfl),_,World.drewN_drewN _ _ _⟩
   ·obtain rfl:k=xs.length:=tO
    go_wp2;go_ret;refine⟨qJ ?_,n,rfl⟩;have h1:=ip.o;rw[zai,a8.o,zai] at h1;simp[h1]
 ·have hd:((xs.length:Int) != (ys.length:Int))=true:=by simp;omega
  go_enter Tryz.func21,Tryz.ntmps21
  go_wp2;go_ret;exact⟨qJ (by symm;rw[decide_eq_false_iff_not];rintro rfl;exact ai rfl),0,rfl⟩
theorem qNs (v:Wh) (cs:List Int) (i:Nat) (w:Wg) (h:ArgC w v cs) (hl:cs.length<=1048576) (hi:i<=1000):
  Wk Tryz.prog 110 #[v, .int .i64 i] w fun e w'=> ∃x:Int,e= .returned (.int .i64 x)/\(0<=x/\x<=255)/\w=w':=by
 obtain⟨A,cap,rfl,aR,hm,ui,dY⟩:=h;unfold maxLen at hm;by_cases ac:i<cs.length
 ·obtain⟨b,off,rfl,hc⟩:=dY tO;have am:=hc i ac;have hz:=ui _ (zam ac);generalize cs[i]=z at*;have jr:IntKind.i64.wrap z=z:=by rw[IntKind.wrap_i64];omega
  clear hc ui dY;go_enter Tryz.func110,Tryz.ntmps110
  go_wp2;exact Wj (v:= .int .i64 z) (by simp[results,Tryz.results110,go_sem]) rfl ⟨z,rfl,hz,rfl⟩
 ·clear ui dY;have h1:IntKind.i64.wrap ((i:Int)*37)=(i:Int)*37:=by rw[IntKind.wrap_i64];omega
  have h2:IntKind.i64.wrap ((cs.length:Int)*11)=(cs.length:Int)*11:=by rw[IntKind.wrap_i64];omega
  have h3:IntKind.i64.wrap ((i:Int)*37+(cs.length:Int)*11)=(i:Int)*37+(cs.length:Int)*11:=by rw[IntKind.wrap_i64];omega
  go_enter Tryz.func110,Tryz.ntmps110
  go_wp2;exact Wj (v:= .int .i64 (((i:Int)*37+(cs.length:Int)*11)%256)) (by simp[results,Tryz.results110,go_sem]) rfl ⟨_,rfl,⟨Int.emod_nonneg _ tD,by have:=Int.emod_lt_of_pos ((i:Int)*37+(cs.length:Int)*11) (b:=256) tD;omega⟩,rfl⟩
theorem qQU (v u:Wh) (xs ys:List Int) (w:Wg) (h:RdI w v xs) (h':RdI w u ys):
  Wk Tryz.prog 21 #[v,u] w fun e w'=>e= .returned (.bool (decide (xs=ys)))/\Wf w w w':=
 (qJw v u xs ys w h.arg h'.arg).mono fun _ _ ⟨he,n,hn⟩=>⟨he,by rw[hn];exact qC (zae _ _) _⟩
theorem qQK (v:Wh) (cs:List Int) (w:Wg) (h:ArgC w v cs):
  Wk Tryz.prog 7 #[v] w fun e w'=>e= .returned (.bool (decide ((1048576:Int)<cs.length)))/\w=w':=by
 obtain⟨A,cap,rfl,_⟩:=h;go_enter Tryz.func7,Tryz.ntmps7
 go_wp2;exact Wj (v:= .bool (decide ((1048576:Int)<cs.length))) (by simp[results,Tryz.results7,go_sem]) rfl ⟨rfl,rfl⟩
theorem OwII.belowL {lo hi:Nat} {w w':Wg} {v:Wh} {L:List (List Int)} (h:OwII lo hi v L w) (hh:hi<=w.heap.size) (hb:Wf w w w'):OwII lo w' v L w':=
 (OwnL.keep h EI.stable fun b _ h2=>hb.block b tO).widen (zab _) (zaF hh hb.size)
theorem qIv {w:Wg} {ops:Array Oper} {rest:List Oper} {o:Oper} {a:Act} {Q:Exit->Act->Wg->Prop} (dq:o.guard=none) (s x:Operand)
  (ho:o.op= .call {callee:= .builtin .append,args:= #[s,x],argTypes:= #[69,69]})
  (base:Nat) (v:Wh) (n:Nat) (vs:List Wh) (aa:w.ownsRow base 37 1 v n vs) (hs:a.eval s=v) (b m cap:Nat) (ds:List Wh) (hm:ds.length=m) (hx:a.eval x= .slice (some ⟨b,0,none⟩) m cap)
  (hc: ∀j y,ds[j]? =some y->w.cell? ⟨b,j,none⟩=some y) (h1: ∀u∈ds,u.oneCell'=true) (hl:n+m<=1099511627776) (au:base<=w.heap.size)
  (h: ∀v' w',w'.ownsRow base 37 1 v' (n+m) (vs++ds)->w.grownBy w' v.ownBlock->(v'.ownBlock=v.ownBlock\/v'.ownBlock=some w.heap.size)->wpList Tryz.prog ops Q rest (a.put o.dst v') w'):
  wpList Tryz.prog ops Q (o::rest) a w:=by
 obtain⟨i0,ci,cB,bi,bQ⟩:=info_parts qJM;refine wpList_append_own_at _ dq s x 69 ho base 37 i0 (.slice none 0 0) 1 24 Tryz.underlying69 ci cB bi bQ rfl tD v n vs hs aa ⟨b,0,none⟩ m cap ds hx (by rw[hm,Nat.mul_one]) ?_ h1 (by unfold maxLen;omega) tO au ?_
 ·intro j u hj;rw[Addr.add_lit,zat];exact hc j u hj
 ·intro v' w' h1 h2 h3 h5;exact h v' w' h1 h2 h5
theorem OwII.vals {lo hi:Nat} {v:Wh} {L:List (List Int)} {w:Wg} (h:OwII lo hi v L w): ∃vs:List Wh,vs.length=L.length/\w.ownsRow 0 37 1 v L.length vs/\
  ∀i (dB:i<vs.length) (h':i<L.length),OwI w 0 vs[i] L[i]/\ ∀c,vs[i].ownBlock=some c->(lo<=c/\c<hi)/\v.ownBlock≠some c:=by
 obtain⟨F,⟨es,h1,h2,h3,rfl⟩,eL,hF⟩:=h;have hl:es.length=L.length:=by rw[<-h1];simp
 rw[hl] at h3;obtain⟨f1,f2⟩:=qJg es fun e he=>(h2 e he).1;refine⟨(es.map (·.1)).flatten,by rw[f1,hl],h3,fun i dB h'=> ?_⟩;have F7:i<es.length:=tO;obtain⟨s,hs,ho,hf⟩:=(h2 es[i] tZ).2;have e:=f2 i F7 dB;rw[hs] at e;injection e with e
 rw[<-e];have e2:es[i].2.1=L[i]:=by simp[<-h1]
 rw[<-e2];refine⟨ho,fun c hc=> ?_⟩;have hm:c∈(es.map (·.2.2)).flatten:=List.mem_flatten.2 ⟨es[i].2.2,List.mem_map.2 ⟨es[i],tZ,rfl⟩,by rw[hf,hc];simp⟩;refine⟨hF c (zao.2 (.inr hm)),fun hv=> ?_⟩;rw[hv] at eL;simp only[Option.toList_some,List.singleton_append,List.nodup_cons] at eL;exact eL.1 hm
theorem qQZ {lo hi:Nat} {w:Wg} {v:Wh} {L:List (List Int)} {ops:Array Oper} {rest:List Oper} {o:Oper} {a:Act} {Q:Exit->Act->Wg->Prop} (dq:o.guard=none) (s x:Operand)
  (ho:o.op= .call {callee:= .builtin .append,args:= #[s,x],argTypes:= #[69,69]})
  (aa:OwII lo hi v L w) (hs:a.eval s=v) (b:Nat) (z:Wh) (d:List Int) (hx:a.eval x= .slice (some ⟨b,0,none⟩) 1 1)
  (iQ:RdI w z d) (hc:w.cell? ⟨b,0,none⟩=some z) (hz:z.oneCell'=true) (ai: ∀c,z.ownBlock=some c->v.ownBlock≠some c) (hl:L.length<=1073741824)
  (h: ∀v' w',RdII w' v' (L++ [d])->w.grownBy w' v.ownBlock->wpList Tryz.prog ops Q rest (a.put o.dst v') w'):
  wpList Tryz.prog ops Q (o::rest) a w:=by
 obtain⟨vs,NM,ny,Eu⟩:=aa.vals;refine qIv dq s x ho 0 v L.length vs ny hs b 1 1 [z] rfl hx (fun j y hj=> ?_) (fun u hu=>by simp at hu;subst hu;exact hz) tO (zas _) fun v' w' o' g' _=> ?_
 ·match j,hj with
  | 0,hj=>simp at hj;subst hj;exact hc
 ·refine h v' w' ⟨vs++ [z],by simp[NM],?_,fun i hi dB=> ?_⟩ g'
  ·have:=RdV.of_own o'
   simpa using this
  ·by_cases q:i<L.length
   ·have q':i<vs.length:=tO;rw[zaC q',zaC q];obtain⟨h1,h2⟩:=Eu i q' q;exact h1.rd.grown g' fun c hc jw=>(h2 c hc).2 jw
   ·have e1:(vs++ [z])[i]=z:=by
     rw[zaA tO];simp
    have e2:(L++ [d])[i]=d:=by
     rw[zaA tO];simp
    rw[e1,e2];exact iQ.grown g' fun c hc jw=>ai c hc jw
theorem qOH (p:Nat) (A:Option Addr) (cap:Nat) (cs:List Int) (w:Wg) (h:Cur p A cap cs w):
  Wk Tryz.prog 183 #[.pointer (some ⟨p,0,none⟩)] w fun e w'=> ∃av bv a b,e= .returned (.tuple #[av,bv])/\OwG w' w av a/\OwG w' w bv b/\Cur p A cap cs w'/\Tr p (p+1) w w':=by
 have H:=qA h;have hp:=h.lt;clear h;go_enter Tryz.func183,Tryz.ntmps183
 go_wp2_with fail;obtain⟨W0,ah⟩: ∃W,W=w.alloc (.cells #[.int .i64 0,.int .i64 0, .slice none 0 0] 26):=⟨_,rfl⟩;rw[<-ah];obtain⟨xb,b0,s0⟩:=CBx.new ah;clear ah;obtain⟨W1,aq⟩: ∃W,W=W0.alloc (.cells #[.int .i64 0,.int .i64 0, .slice none 0 0] 26):=⟨_,rfl⟩;rw[<-aq];obtain⟨yb,b1,s1⟩:=CBx.new aq;clear aq;rw[s0] at yb s1;have XB:=qA (xb.below b1);have YB:=qA yb;have I0:Wi (DrI p A cap cs w W1):=qA (((DrI.refl H).bel b0).bel b1);clear xb yb b0 b1;have RA:Wi (RdI (W1.alloc (.cells #[.int .i64 1, .int .i64 2, .int .i64 2, .int .i64 2, .int .i64 2, .int .i64 3] 3)) (.slice (some ⟨W1,0,none⟩) 6 6) [1,2,2,2,2,3]):=qA (qp W1 [1,2,2,2,2,3] (by intro y hy;simp at hy;rcases hy with rfl | rfl | rfl<;>(unfold I64;omega)) tZ (zab _)).rd;have IA:=qA (I0.bel ((zae _ _).alloc (zab _) (.cells #[.int .i64 1, .int .i64 2, .int .i64 2, .int .i64 2, .int .i64 2, .int .i64 3] 3)));have XA:=qA (XB.below ((zae _ _).alloc (zab _) (.cells #[.int .i64 1, .int .i64 2, .int .i64 2, .int .i64 2, .int .i64 2, .int .i64 3] 3)));have YA:=qA (YB.below ((zae _ _).alloc (zab _) (.cells #[.int .i64 1, .int .i64 2, .int .i64 2, .int .i64 2, .int .i64 2, .int .i64 3] 3)));have dE:(zaE (some ⟨W1,0,none⟩) 6 6).ownBlock≠some p:=fun e=>by simp[zaf] at e;omega
 rw[<-s1];(with_reducible refine(qBB p A cap cs _ [1,2,2,2,2,3] _ IA.o.cur RA.o dE tZ tZ).mono ?_)
 rintro e w2 ⟨r,rfl,hr,c2,t2⟩;have I2:=qA (IA.to t2 c2);have X2:=qA (XA.trP t2 tO);have Y2:=qA (YA.trP t2 tO);have gH:1<=r:=by simp at hr;omega
 have bT:r<=3:=by simp at hr;omega
 clear c2 t2 IA RA hr dE XA YA I0 XB YB s1 s0;go_wp2_with fail;refine(qEe p A cap cs r _ I2.cur gH bT).mono ?_
 rintro e w3 ⟨v3,L,rfl,o3,⟨Tk,zp⟩,c3,t3⟩;have su:=qA zp;have hW:=qKK gH bT tO zp;have gy:=qA (qBZ r v3 L w3 o3.rd hW);have I3:=qA (I2.to t3 c3);have X3:=qA (X2.trP t3 tO);have Y3:=qA (Y2.trP t3 tO);have VJ:=Y2.o.lt;obtain⟨AL,cL,e3,_⟩:=o3.len;subst e3;have OL:=qA o3;have d5:=t3.size;clear c3 t3 o3 zp hW I2 X2 Y2;generalize qCU (floF r L)=qg at*;obtain⟨q1,q2,qs⟩:=qg;go_wp2_with fail;refine gy.o.mono ?_;rintro e w4 ⟨rv,rfl,⟨s4,rfl,j1,j2,EY⟩,b4⟩;obtain⟨A4,c4,rfl,_⟩:=EY.form;simp only at j1 j2 EY⊢
 have X4:=qA (X3.below b4);have Y4:=qA (Y3.below b4);have I4:=qA (I3.bel b4);have OR:=qA (OL.o.belowL (zab _) b4);have ET:=qA EY;have jY:=b4.size;clear EY b4 X3 Y3 I3 gy OL;obtain⟨W5,EK⟩: ∃W,W=w4.alloc (.cells #[.int .i64 q1,.int .i64 q2, .slice A4 qs.length c4] 26):=⟨_,rfl⟩;have g5:=GBx.new (m:=(q1,q2,qs)) ET.o j1 j2 EK;obtain⟨_,b5,s5⟩:=CBx.new EK;have X5:=qA (X4.below b5);have Y5:=qA (Y4.below b5);have I5:=qA (I4.bel b5);have G5:=qA g5;have aS:=qA (fun b hb=>(g5.ow.1.lt b hb).2);have q6:=qA (OR.o.belowL (zab _) b5);go_wp2_with fail;rw[<-EK];clear EK g5 b5 X4 Y4 I4 ET OR;generalize Fy:w4.heap.size=ba at*;refine(qEe p A cap cs r _ I5.cur gH bT).mono ?_
 rintro e w6 ⟨v6,M,rfl,o6,⟨VK,NC⟩,c6,t6⟩;have I6:=qA (I5.to t6 c6);have X6:=qA (X5.trP t6 tO);have Y6:=qA (Y5.trP t6 tO);have G6:=qA (G5.trP t6 tO tO);have wE:=qA (q6.trP t6 tO (zab _));have Lh:=qA o6;have Fu:=qA NC;obtain⟨AM,cM,e6,_⟩:=o6.len;subst e6;have eU:=t6.size;clear c6 t6 o6 NC I5 X5 Y5 G5 q6;go_upto_region 5 with fail
 go_cut [32] (fun s wx=> ∃bb:Bool,s= .bool bb/\(bb=true->0<L.length)/\Cur p A cap cs wx/\Tr p (p+1) w6 wx)
 case first=>
  clear su Fu X6 Y6 G6;go_wp2_with fail;refine(qEL p A cap cs 3 _ I6.cur tO tO).mono ?_
  rintro e w7 ⟨x,rfl,c7,t7⟩;cases x
  ·go_wp2_with fail;go_meet;exact⟨false,rfl,(fun h=>nomatch h),c7,t7⟩
  ·by_cases h0:0<L.length
   ·have pD:(0:Int)<(L.length:Int):=tO;have LT:decide ((0:Int)<(L.length:Int))=true:=decide_eq_true pD;go_wp2_with fail;go_meet;exact⟨true,by simp[h0],fun _=>h0,c7,t7⟩
   ·have pD: ¬(0:Int)<(L.length:Int):=tO;have LT:decide ((0:Int)<(L.length:Int))=false:=decide_eq_false pD;go_wp2_with fail;go_meet;exact⟨false,by simp[h0],(fun h=>nomatch h),c7,t7⟩
 case rest=>
 obtain⟨bb,rfl,gC,c7,t7⟩:=hcut;rename Wg=>w7
 have I7:=qA (I6.to t7 c7);have X7:=qA (X6.trP t7 tO);have Y7:=qA (Y6.trP t7 tO);have G7:=qA (G6.trP t7 tO tO);have EV:=qA (wE.trP t7 tO tO);have xQ:=qA (Lh.trP t7 tO (zab _));have pe:=t7.size;clear c7 t7 I6 X6 Y6 G6 wE Lh;go_upto_if 32 with fail
 go_cut [8] (fun mv wx=> ∃N:List (List Int),∃AN cN,mv= .slice AN N.length cN/\RdII wx mv N/\(N.length<=4/\WdL r 5 N)/\DrI p A cap cs w wx/\(∃x y z,CBx wx w x y z)/\(∃x y z,CBx wx (w.heap.size+1) x y z)/\GBx wx ba w3 A4 c4 (q1,q2,qs)/\w7.heap.size<=wx.heap.size)
 case first=>
  cases bb
  ·go_wp2_with fail;go_meet;exact⟨M,AM,cM,rfl,xQ.rd,⟨tO,Fu.o⟩,I7.o,⟨_,_,_,X7⟩,⟨_,_,_,Y7⟩,G7.o,zab _⟩
  ·have h0:=gC rfl;obtain⟨vs,NM,ny,Eu⟩:=EV.o.vals;have mJ:0<vs.length:=tO;obtain⟨hz,Jg⟩:=Eu 0 mJ h0;obtain⟨gL,wG⟩: ∃g,AL=some ⟨g,0,none⟩:=by
    obtain⟨A',c',e,_,_,_,hx⟩:=EV.o.len;obtain⟨g,hg,_⟩:=hx h0;injection e with e
    exact⟨g,e.trans hg⟩
   subst wG;have aZ:w7.cell? ⟨gL,0,none⟩=some vs[0]:=(zaz.cellAt ny 0 tO).trans (zaj mJ);obtain⟨Az,cz,ez,_⟩:=hz.form;rw[ez] at aZ hz Jg;have ZR:=qA hz.rd;have Po:=qA Jg;have SO:=qA (su L[0] (zam h0));clear hz Jg Eu ny;generalize L[0]=d0 at*;go_wp2_with (at_builtin;refine qQZ rfl (.tmp 33) (.tmp 37) rfl (xQ.keep (w':=w7.alloc (.cells #[.slice Az d0.length cz] 37)) EI.stable fun b _ hb=>Below.heap_alloc w7 _ b tO) rfl _ _ d0 rfl (ZR.alloc _) (qU _ _ _) rfl (fun c hc hv=>by have h1:=(Po c hc).1;have h2:=(xQ.lt hv).1;omega) tO ?_;intro v8 w8 o8 g8;have O8:=qA o8;have G8:=qA g8;clear o8 g8)
   have B8:Wf w7 w7 (w7.alloc (.cells #[.slice Az d0.length cz] 37)):=(zae _ _).alloc (zab _) _;have rU: ∀b,(zaE AM M.length cM).ownBlock=some b->W5.heap.size<=b:=fun b hb=>(xQ.lt hb).1;obtain⟨AN,cN,eN,_⟩:=O8.o.form;have pV:=G8.o.size;have Ja:(w7.alloc (.cells #[.slice Az d0.length cz] 37)).heap.size=w7.heap.size+1:=tZ;go_meet;exact⟨M++ [d0],AN,cN,eN,O8,⟨by simp;omega,fun y hy=>(zao.1 hy).elim (Fu y) fun h=>by rw[zan.1 h];exact SO.o⟩,(I7.bel B8).grow H.o G8.o (fun b hb=>by have:=rU b hb;omega),⟨_,_,_,(X7.below B8).grown G8 fun b hb=>by have:=rU b hb;omega⟩,⟨_,_,_,(Y7.below B8).grown G8 fun b hb=>by have:=rU b hb;omega⟩,(G7.below B8).grown G8.o (fun b hb=>by have h1:=rU b hb;exact⟨tO,fun e=>by have h2:=aS.o b e;omega⟩),tO⟩
 case rest=>
  obtain⟨N,AN,cN,rfl,hN,⟨Vw,Lv⟩,hI,⟨x1,y1,z1,hX⟩,⟨x2,y2,z2,hY⟩,hG,pV⟩:=hcut;rename Wg=>w8
  have hW:=qKK gH bT tO Lv;have gy:=qA (qBZ r _ N w8 hN hW);have I8:=qA hI;have X8:=qA hX;have Y8:=qA hY;have G8:=qA hG;clear hI hX hY hG hN hW Lv I7 X7 Y7 G7 EV xQ su Fu;generalize qCU (floF r N)=pg at*;obtain⟨p1,p2,ps⟩:=pg;go_wp2_with fail;refine gy.o.mono ?_;rintro e w9 ⟨rv,rfl,⟨s9,rfl,k1,k2,iB⟩,b9⟩;obtain⟨A9,c9,rfl,_⟩:=iB.form;simp only at k1 k2 iB⊢
  have X9:=qA (X8.below b9);have Y9:=qA (Y8.below b9);have G9:=qA (G8.below b9);have I9:=qA (I8.bel b9);have l6:=qA iB;have lJ:=b9.size;clear iB b9 X8 Y8 G8 I8 gy;obtain⟨yG,eT⟩: ∃W,W=w9.alloc (.cells #[.int .i64 p1,.int .i64 p2, .slice A9 ps.length c9] 26):=⟨_,rfl⟩;have Lz:=GBx.new (m:=(p1,p2,ps)) l6.o k1 k2 eT;obtain⟨_,ec,UD⟩:=CBx.new eT;have Hf:=qA (X9.below ec);have Tg:=qA (Y9.below ec);have IT:=qA (G9.below ec);have Io:=qA (I9.bel ec);have Gd:=qA Lz;go_wp2_with fail;rw[<-eT];clear eT Lz ec X9 Y9 G9 I9 l6;generalize gC:w9.heap.size=bb at*;refine qAj [.val (.agg #[.int .i64 q1, .int .i64 q2, .slice A4 qs.length c4]), .val (.agg #[.int .i64 p1, .int .i64 p2, .slice A9 ps.length c9]), .mem (fun _ W _=>CBx W w (.int .i64 q1) (.int .i64 q2) (.slice A4 qs.length c4)), .mem (fun _ W _=>CBx W (w.heap.size+1) (.int .i64 p1) (.int .i64 p2) (.slice A9 ps.length c9))]
   [none,none,some (fun W W'=> ∃x y z,W'=((W.setCell ⟨w,0,none⟩ x).setCell ⟨w,1,none⟩ y).setCell ⟨w,2,none⟩ z),some (fun W W'=> ∃x y z,W'=((W.setCell ⟨(w.heap.size+1),0,none⟩ x).setCell ⟨(w.heap.size+1),1,none⟩ y).setCell ⟨(w.heap.size+1),2,none⟩ z)]
   (fun W=>(DrI p A cap cs w W)/\GBx W ba w3 A4 c4 (q1,q2,qs)/\GBx W bb w8 A9 c9 (p1,p2,ps)/\(∃x y z,CBx W w x y z)/\ ∃x y z,CBx W (w.heap.size+1) x y z) [(2,3)] tK tK (by rfl) (by rfl)
   ⟨Io.bel (zae _ _).drew,IT.below (zae _ _).drew,Gd.below (zae _ _).drew,⟨_,_,_,Hf.below (zae _ _).drew⟩,_,_,_,Tg.below (zae _ _).drew⟩
   ⟨fun W _ h t=>by
      obtain⟨x,y,z,e⟩:=t;subst e;obtain⟨h1,h2,h3,⟨x1,y1,z1,h4⟩,x2,y2,z2,h5⟩:=h;exact⟨h1.hi H (zab _) (qH _ _ _ (zae _ _) tO),h2.keep (by rw[qZ];exact zab _) fun c hc=>qI _ _ _ _ _ (hc.elim (fun e=>tO) fun e=>by have:=(h2.ow.1.lt c e).1;omega),h3.keep (by rw[qZ];exact zab _) fun c hc=>qI _ _ _ _ _ (hc.elim (fun e=>tO) fun e=>by have:=(h3.ow.1.lt c e).1;omega),h4.any _ _ _,h5.any _ _ _⟩,
     fun W _ h t=>by
      obtain⟨x,y,z,e⟩:=t;subst e;obtain⟨h1,h2,h3,⟨x1,y1,z1,h4⟩,x2,y2,z2,h5⟩:=h;exact⟨h1.hi H (zab _) (qH _ _ _ (zae _ _) tO),h2.keep (by rw[qZ];exact zab _) fun c hc=>qI _ _ _ _ _ (hc.elim (fun e=>tO) fun e=>by have:=(h2.ow.1.lt c e).1;omega),h3.keep (by rw[qZ];exact zab _) fun c hc=>qI _ _ _ _ _ (hc.elim (fun e=>tO) fun e=>by have:=(h3.ow.1.lt c e).1;omega),h4.any _ _ _,h5.any _ _ _⟩,trivial⟩
   ⟨fun _ _ _ _ _ _ t h=>by obtain⟨x,y,z,e⟩:=t;subst e;exact h.other tO,trivial⟩ (fun vs=> ?_)
  refine⟨fun W' _ _ hI hD hK=> ?_,?_⟩
  ·obtain⟨z0,z1,z2⟩:=hI.o.2.1.cs;go_simp;exact hK.o _ _ rfl rfl
  simp only[zah,zaa,zac,zad,Sg.pick,Nat.reduceAdd];refine⟨fun W' _ _ hI hD hK=> ?_,?_⟩
  ·obtain⟨z0,z1,z2⟩:=hI.o.2.2.1.cs;go_simp;exact hK.o _ _ rfl rfl
  simp only[zah,zaa,zac,zad,Sg.pick,Nat.reduceAdd];refine⟨fun W' _ _ hI hD hK=> ?_,?_⟩
  ·obtain⟨x',y',z',hx⟩:=hI.o.2.2.2.1;obtain⟨z0,z1,z2⟩:=hx.cs;have u0:=hx.fz 0;have u1:=hx.fz 1;have u2:=hx.fz 2;go_simp;exact hK.o undef _ ⟨_,_,_,rfl⟩ (hx.setv _ _ _)
  simp only[zah,zaa,zac,zad,Sg.pick,Nat.reduceAdd];refine⟨fun W' _ _ hI hD hK=> ?_,?_⟩
  ·obtain⟨x',y',z',hx⟩:=hI.o.2.2.2.2;obtain⟨z0,z1,z2⟩:=hx.cs;have u0:=hx.fz 0;have u1:=hx.fz 1;have u2:=hx.fz 2;go_simp;exact hK.o undef _ ⟨_,_,_,rfl⟩ (hx.setv _ _ _)
  simp only[zah,zaa,zac,zad,Sg.pick,Nat.reduceAdd];intro W9 hI9 hD9;have ji:=(show CBx W9 w (.int .i64 q1) (.int .i64 q2) (.slice A4 qs.length c4) from hD9.o 2 tD);have jk:=(show CBx W9 (w.heap.size+1) (.int .i64 p1) (.int .i64 p2) (.slice A9 ps.length c9) from hD9.o 3 tD);have J9:=qA hI9.o.1;have jg:=qA hI9.o.2.1;have iH:=qA hI9.o.2.2.1;obtain⟨e0,e1,e2⟩:=ji.cs;obtain⟨e3,e4,e5⟩:=jk.cs;clear hI9 hD9;go_wp2;exact Wj (v:= .tuple #[.agg #[.int .i64 q1, .int .i64 q2, .slice A4 qs.length c4], .agg #[.int .i64 p1, .int .i64 p2, .slice A9 ps.length c9]]) (by simp[results,Tryz.results183,go_sem,e0,e1,e2,e3,e4,e5]) rfl ⟨_,_,(q1,q2,qs),(p1,p2,ps),rfl,⟨_,rfl,jg.o.i1,jg.o.i2,jg.o.ow.mono tO⟩,⟨_,rfl,iH.o.i1,iH.o.i2,iH.o.ow.mono tO⟩,J9.o.cur,J9.o.tr⟩
end Go.Proofs.YtnjpoljbagfdnaaGreat
