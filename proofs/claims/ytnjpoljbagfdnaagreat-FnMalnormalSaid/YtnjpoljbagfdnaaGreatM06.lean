/- Parts of the proof (6). -/
import Derived.Test.YtnjpoljbagfdnaaGreatM05
import Derived.Deep.RegionHeld3
import Derived.Maps.OwnOps
import Derived.Maps.OwnSet
import Derived.Outline
import Derived.WideKeyPair
set_option maxRecDepth 100000
set_option maxHeartbeats 16000000
set_option linter.unusedVariables false
set_option linter.unusedSimpArgs false
namespace Go.Proofs.YtnjpoljbagfdnaaGreat
open Go.RowKit
open Go.RowKit renaming Below→Wf,Hid→Wi
open Go renaming Calls→Wk,Value→Wh,World→Wg,bodyPost_ret→Wj
open _root_.List renaming getElem?_eq_some_iff->zaa,getElem?_eq_getElem->zac,mem_singleton->zae,mem_append->zai,length_append->zaj,idxOf_lt_length_of_mem->zak,getElem_mem->zal,take_succ_eq_append_getElem->zam,range->zao,mem_of_getElem?->zaq,take_length->zar,mem_cons->zat,getElem_idxOf->zav,map_cons->zaz,flatten_cons->zaC,getElem?_append_left->zaE,getElem_cons_succ->zaH,ext_getElem->zaI,getElem?_eq_none->zaL,filterMap_append->zaM,range_succ->zaO,getElem_of_mem->zaP,filterMap_cons->zaQ,mem_range->zaR,getElem?_append_right->zaS,nodup_append->zaT,foldl_append->zaU,pairwise_iff_getElem->zaV,length_filterMap_le->zaW,foldl_cons->zaZ,getElem_cons_zero->za3,length_singleton->za4,length_filter_le->za5,replicate->za6,mem_append_left->za8,filter_append->za9,mem_filterMap->zba,pairwise_map->zbd,idxOf_append->zbe,length_take->zbf,getElem_map->zbg,getElem_set->zbi,length_cons->zbj,nodup_nil->zbo
open Go.RowKit.Below renaming heap_setCell->zab,refl->zan
open _root_.Nat renaming le_refl->zad,le_trans->zay,lt_of_lt_of_le->zaA,zero_le->zaB,zero_add->zaD,mul_comm->zaF,mul_le_mul->zaG,div_eq_of_lt->zaK,mul_add_div->zaN,div_le_self->za0,mul_le_mul_right->za7,le_of_lt->zbb,mod_eq_of_lt->zbh,mul_add_mod->zbk
open _root_.Classical renaming byContradiction->zaf
open Go.World renaming cell?_of_block->zag,frozen?_setCell->zah,cell?_setCell_other->zax,cell?_setCell_same->zaX,frozen?_of_block->za1
open Go.Value renaming ownBlock->zap,slice->zau
open _root_.Int renaming natCast_nonneg->zas,toNat_natCast->zaw,natCast_mul->zbl,natCast_add->zbm,mul_nonneg->zbn
open _root_.Bool renaming and_eq_true->zaJ,or_eq_true->zaY,eq_false_iff->zbc
open _root_.Option renaming some->za2
theorem qIa (v:Wh) (g:GrD) (w:Wg) (h:ArgG w v g) (hf:qO g=true):
  Wk Tryz.prog 177 #[v] w fun e w'=> ∃r T,e= .returned r/\OwE w' w r T/\TrE g (canO g) T/\T.length<=40/\Wf w w w':=by
 have HG:=qA h;have HF:=qA hf;obtain⟨hg,aO⟩:=qE hf;have ONE:=qA (qAH aO);have LET:=qA (qBu hg);obtain⟨aF,aA,aD,_⟩:=qD hg;have bH:=qA (qAD hg);have tf:Wi (∀y∈canO g,y≠0-> ∃(u x:Int) (ws:List Int),wdO g y=ws++ [x]/\(-3<=x/\x<=3)/\ws.length<40/\qF g.2.2 y (-x)=u/\tE g y=stE u x y/\(0<=u/\u<g.2.1)):=qA fun y hy h0=>by
  obtain⟨u,hu,x,hx,e1,ej⟩:=qEu hg hy h0;have sH:=(qAD hg).2.1 y hy;have KO:=(qAD hg).2.1 u hu;have hb:=qAS hg aO (let3 hg hx) (by rw[ej];omega);rw[ej] at hb;have ht:=qJV hg aO hx (by rw[ej];omega) ej e1;refine⟨u,x,wdO g u,e1,let3 hg hx,qBh hg hu,hb,?_,KO⟩;rw[ht];unfold stE;have ek:=qw.1 hx;by_cases hp:0<x
  ·rw[Wm hp,Wn tO]
  ·rw[Wn hp,Wm tO]
 obtain⟨N,hN⟩: ∃N:Nat,g.2.1=(N:Int):=⟨g.2.1.toNat,tO⟩;have fe:=(qAD hg).len tO tO;have nI:=qA (qAD hg).2.2;have mT:=qA (qAD hg).1;obtain⟨s,rfl,aN,aQ,ha⟩:=h;obtain⟨A,cap,rfl⟩:=ha.form;have fF:=qA (fun W' (h:ArgG W' (.agg #[.int .i64 g.1, .int .i64 g.2.1, .slice A g.2.2.length cap]) g)=>qHK _ g W' h hf);obtain⟨g1,n,es⟩:=g;simp only at*
 subst hN;clear ha hf hg aO;obtain⟨O,hO⟩: ∃O,O=canO (g1,(N:Int),es):=⟨_,rfl⟩;obtain⟨F,hF⟩: ∃F,F=wdO (g1,(N:Int),es):=⟨_,rfl⟩;obtain⟨TE,Jj⟩: ∃TE,TE=tE (g1,(N:Int),es):=⟨_,rfl⟩;have IY:Wi (∀(o:List Int) (T T':List EdD) (y:Int),TrE (g1,(N:Int),es) o T->y≠0->(∀e,e∈T'↔e=TE y\/e∈T)->TrE (g1,(N:Int),es) (o++ [y]) T'):=qA fun o T T' y h h0 hT=>h.add h0 (by rw[<-Jj];exact hT);rw[<-hO] at bH tf fe nI mT fF⊢;rw[<-hF] at tf fF;rw[<-Jj] at tf;simp only[zaw] at fF;clear hO hF Jj;have V0:1<=O.length:=bH.o.toN.2.2;go_enter Tryz.func177,Tryz.ntmps177
 go_wp2_with fail;obtain⟨W1,aq⟩: ∃W,W=w.alloc (.cells #[.int .i64 g1,.int .i64 (N:Int), .slice A es.length cap] 26):=⟨_,rfl⟩;obtain⟨aE,b1,aJ⟩:=qGG aq;obtain⟨W,hW⟩: ∃W,W=W1.alloc (.cells #[] 97):=⟨_,rfl⟩;have b2:Wf W1 W1 W:=by rw[hW];exact(zan _ _).alloc (zad _) _
 have aH:W.heap.size=w.heap.size+2:=by rw[hW];simp;omega
 have o0:OwE W (w.heap.size+1) (.slice (some ⟨w.heap.size+1,0,none⟩) 0 0) []:=by rw[hW];exact qEM W1 (w.heap.size+1) aE (zad _)
 rw[<-aq,<-hW];have BX:Wi (Wf w w W):=qA (b1.trans (b2.mono tO));have kW:=qA (b2.mono (show w.heap.size+1<=W1.heap.size by omega));have fE:=qA aJ;have aW:Wi (∀w',Wf (w.heap.size+1) W w'->w'.cell? ⟨w,0,none⟩=some (.int .i64 g1)/\w'.cell? ⟨w,1,none⟩=some (.int .i64 (N:Int))/\w'.cell? ⟨w,2,none⟩=some (.slice A es.length cap)):=qA fun w' hb=>fE.o w' (kW.trans hb);have HA:Wi (∀w',Wf (w.heap.size+1) W w'->ArgG w' (.agg #[.int .i64 g1, .int .i64 (N:Int), .slice A es.length cap]) (g1,(N:Int),es)):=qA fun w' hb=>HG.o.below (BX.trans (hb.mono tO));have O0:=qA o0;clear aq hW aJ b1 b2 fE o0;refine(fF W (HA W ((zan W W).mono tO))).mono ?_
 rintro e w2 ⟨r2,P,rfl,hP,tx,o2,b2⟩;have dQ:=b2.size;have B2:Wi (Wf (w.heap.size+1) W w2):=qA (b2.mono tO);have dL:=qA (O0.below b2);have SV:=qA tx;have PP:=qA o2.rd;obtain⟨Ar,cr,rfl,JB,EP,_,aC⟩:=OwI.form o2;obtain⟨br,rfl,Js,Kj⟩:=aC tO;unfold maxLen at EP;have xz:=tx.lt.2;have zg:1<=cr:=tO;have Vp:(1:Int)<=(O.length:Int):=tO;have TU:(O.length:Int)<=(cr:Int):=tO;clear tx o2 b2 aC;obtain⟨q0,q1,q2⟩:=aW.o w2 B2.o;have ML:IntKind.i64.wrap ((O.length:Int)-1)=(O.length:Int)-1:=by rw[IntKind.wrap_i64];omega
 have QJ:=qA (fun W' (h:RdI W' (.slice (some ⟨br,0,none⟩) O.length cr) O)=>h.cut (k:=1) rfl tO);have kd:Wi (TrE (g1,(N:Int),es) (O.take 1) []):=qA fun e=>⟨fun h=>(by cases h),fun ⟨y,hy,h0,_⟩=>by
  have h1:=nI.o;cases hO:O with
  | nil=>rw[hO] at h1;cases h1
  | cons a O'=>
    rw[hO] at h1 hy;simp at h1 hy
    omega⟩
 have cA:Wi (∀w',Wf (w.heap.size+1) W w'->Wf w w w'):=qA fun w' hb=>BX.o.trans (hb.mono tO);have N5:Wi (∀(v:Wh) (T:List EdD) (w':Wg),ArgE w' v T->T.length<=40->Wk Tryz.prog 173 #[v] w' fun e w''=> ∃r,e= .returned r/\OwE w'' w'.heap.size r (srt cmpE T)/\Wf w'.heap.size w' w''):=qA fun v T w' h hl=>qDN v T w' h tO;have NZ:Wi (∀T:List EdD,TrE (g1,(N:Int),es) O T->TrE (g1,(N:Int),es) O (srt cmpE T)):=qA fun T h e=>by rw[(qAq qz T).2 e];exact h e
 have Li:Wi (∀T:List EdD,(srt cmpE T).length<=T.length):=qA fun T=>qCp T;by_cases aJ:cr=1
 ·subst aJ;obtain⟨y0,eK⟩: ∃y0,O= [y0]:=List.length_eq_one_iff.1 tO;subst eK;simp only[za4] at*;have vh:Wi (TrE (g1,(N:Int),es) [y0] []):=kd;go_wp2;refine wp_loop_rounds 1 ?_;rw[rounds_succ];go_wp2_with fail;refine(N5 _ [] w2 dL.arg tZ).mono ?_
  rintro e w5 ⟨r5,rfl,o5,b5⟩;have O5:=qA o5;have aV:=qA (cA w5 (B2.trans (b5.mono tO)));obtain⟨A5,c5,rfl,_⟩:=o5.form;clear o5 b5;go_wp2;go_ret;exact⟨_,_,rfl,O5.mono tO,NZ.o [] vh.o,zay (Li.o []) tZ,aV.o⟩
 have U5:(if cr=1 then none else some (⟨br,0+1,none⟩:Addr))=some ⟨br,1,none⟩:=by rw[Wn aJ]
 go_wp2;obtain⟨L,hL⟩: ∃L:Nat,O.length=L+1:=⟨O.length-1,tO⟩;have AK:=qA hL;have iF:Wi (∀k,k<L-> ∃hk:k+1<O.length,O[k+1]∈O/\O[k+1]≠0):=qA fun k hk=>⟨by have:=AK.o;omega,zal _,fun e=>by
  have h0:=nI.o;have h1:O[k+1]? =some 0:=by rw[zac (by have:=AK.o;omega),e]
  have:=(List.getElem?_inj (i:=0) (j:=k+1) tO mT.o).1 (h0.trans h1.symm)
  omega⟩
 have iG:Wi (∀k (hk:k+1<O.length),O.take (k+2)=O.take (k+1)++ [O[k+1]]):=qA fun k hk=>by rw[zam hk]
 have nP:Wi (O.take (L+1)=O):=qA (by rw[<-hL,zar]);clear hL;have Gf:((O.length:Int)-1)=(L:Int):=by have:=AK.o;omega
 have bC:O.length-1=L:=by have:=AK.o;omega
 rw[bC];clear bC Gf;go_loopw [3,20] (fun vo i wr=> ∃(k:Nat) (T:List EdD),k<=L/\i= .int .i64 k/\OwE wr (w.heap.size+1) vo T/\TrE (g1,(N:Int),es) (O.take (k+1)) T/\T.length=k/\(∀c,vo.ownBlock=some c->c<W.heap.size\/w2.heap.size<=c)/\(∀b,W.heap.size<=b->b<w2.heap.size->wr.heap[b]? =w2.heap[b]?)/\w2.heap.size<=wr.heap.size/\Wf (w.heap.size+1) W wr) (fun _ i _=>L-(intOf i).toNat)
 case atStart=>exact⟨0,[],zaB _,rfl,dL,kd,rfl,fun c hc=> .inl (by simp[zap] at hc;omega),fun _ _ _=>rfl,zad _,B2.o⟩
 case round=>
  obtain⟨k,T,hk,rfl,ho,kD,Cs,ny,lR,tH,hb⟩:=hrel;have HO:=qA ho;have ur:=qA kD;have mZ:=qA Cs;have yN:=qA ny;have yM:=qA lR;have HB:=qA hb;obtain⟨wi,rfl⟩: ∃wi:Wg,wi=wr:=⟨_,rfl⟩;clear ho kD Cs ny lR hb;obtain⟨Ao,co,rfl,_⟩:=OwE.form HO.o;by_cases ac:k<L
  ·obtain⟨Mi,Fb,iS⟩:=iF.o k ac;obtain⟨u,x,ws,dh,oQ,DO,Gg,pQ,KO⟩:=tf.o O[k+1] Fb iS;have sH:=bH.o.2.1 O[k+1] Fb;have Iz:=qA (iG k Mi);obtain⟨_,_,KT,_,CX⟩:=PP.o.at tO;obtain⟨rfl,rfl⟩:br=_/\0=_:=by simpa using KT
   have c0:=(zag (w:=w2) (yM br Js Kj)).trans (CX (k+1) Mi);rw[show 0+(k+1)=1+k by omega] at c0;generalize O[k+1]=y at*;obtain⟨yn,rfl⟩: ∃yn:Nat,y=(yn:Int):=⟨y.toNat,tO⟩;have Ez:yn<N:=tO;obtain⟨bw,cw,cu,_,lX,fv,Ly⟩:=SV.o.at_old Ez Fb;have Gy:=(zag (w:=w2) (yM P hP xz)).trans cu;rw[dh,zaj,za4] at Gy;obtain⟨_,_,Og,_,l8⟩:=lX.at (by rw[dh];simp);obtain⟨rfl,rfl⟩:bw=_/\0=_:=by simpa using Og
   have Kt:=l8 ws.length (by rw[dh];simp);have LC:(F (yn:Int))[ws.length]'(by rw[dh];simp)=x:=by simp[dh]
   rw[LC,zaD] at Kt;have cx:=(zag (w:=w2) (yM bw tO fv)).trans Kt;have RS:IntKind.i64.wrap ((ws.length:Int)+1-1)=(ws.length:Int):=by rw[IntKind.wrap_i64];omega
   have BR:(0:Int)<=(ws.length:Int):=tO;have iu:(ws.length:Int)<(ws.length:Int)+1:=tO;have ej:IntKind.i64.wrap (-x)= -x:=by rw[IntKind.wrap_i64];omega
   have V6:(yn:Int)<(N:Int):=sH.2;have eK:(0:Int)<=(yn:Int):=sH.1;have mG:(k:Int)<(L:Int):=tO;have ce:Wi (E64 (stE u x (yn:Int))):=qA (by
    unfold stE;split
    ·exact⟨⟨by simp only;omega,by simp only;omega⟩,⟨by simp only;omega,by simp only;omega⟩,⟨by simp only;omega,by simp only;omega⟩⟩
    ·exact⟨⟨by simp only;omega,by simp only;omega⟩,⟨by simp only;omega,by simp only;omega⟩,⟨by simp only;omega,by simp only;omega⟩⟩)
   have Fh:Wi (TE (yn:Int)=stE u x (yn:Int)):=qA pQ;have AZ:Wi ((yn:Int)≠0):=qA iS;have dJ:=qA (fun W' (h:ArgG W' (.agg #[.int .i64 g1, .int .i64 (N:Int), .slice A es.length cap]) (g1,(N:Int),es))=>qAI _ (g1,(N:Int),es) (yn:Int) (-x) W' h (ONE (yn:Int) (-x)) LET);simp only at dJ
   rw[Gg] at dJ;have nY:=qA (fun W'=>qGX u x (yn:Int) W' oQ);clear KT CX Og l8 Kt LC lX cu dh pQ iS Fb Gg;obtain⟨q0,q1,q2⟩:=aW.o wi HB.o;go_wp2_with fail;refine(dJ wi (HA wi HB)).mono ?_
   rintro e w3 ⟨rfl,b3⟩;have d5:=b3.size;have yr:=qA (HO.below b3);have aB:=qA (HB.trans (b3.mono tO));have Hm:Wi (∀b,W.heap.size<=b->b<w2.heap.size->w3.heap[b]? =w2.heap[b]?):=qA fun b h1 h2=>(b3.block b tO).trans (yM b h1 h2);clear b3 q0 q1 q2 c0 Gy cx;go_wp2_with fail;refine(nY w3).mono ?_
   rintro e w4 ⟨rfl,b4⟩;have jY:=b4.size;have zo:=qA (yr.below b4);have aU:=qA (aB.trans (b4.mono tO));have rV:Wi (∀b,W.heap.size<=b->b<w2.heap.size->w4.heap[b]? =w2.heap[b]?):=qA fun b h1 h2=>(b4.block b tO).trans (Hm b h1 h2);clear b4;generalize stE u x (yn:Int)=E at*;obtain⟨e1,e2,e3⟩:=E;unfold edV;simp only
   go_wp2_with (at_builtin;refine qBY rfl (.tmp 39) (.tmp 44) rfl (w.heap.size+1) _ _ (zo.alloc _) rfl _ (e1,e2,e3) rfl (qDK _ _ _) ce.o (by have:=mZ.o;omega) (by simp;omega) ?_;intro v5 wv5 o5 g5 p5;have vD:=g5.size;simp at vD;have O5:=qA o5;have B5:=qA (qBL aU (show w.heap.size+1<=w4.heap.size by omega) zo.o (zad _) g5);have vk:Wi (∀c,v5.ownBlock=some c->c<W.heap.size\/w2.heap.size<=c):=qA fun c hc=>(by rcases p5 with p5 | p5<;>rw[p5] at hc<;>first | exact yN.o c hc | (simp at hc;omega));have xo:Wi (∀b,W.heap.size<=b->b<w2.heap.size->wv5.heap[b]? =w2.heap[b]?):=qA fun b h1 h2=>((g5.block b (by simp;omega) (fun e=>by have:=yN.o b e.symm;omega)).trans (((zan w4 w4).alloc (zad _) _).block b tO)).trans (rV b h1 h2);clear o5 g5 p5)
   go_roundw;exact⟨k+1,T++ [(e1,e2,e3)],tO,by go_num,O5.o,by rw[Iz.o];exact IY.o _ _ _ _ ur.o AZ.o (fun e=>by rw[Fh.o,zai,zae];exact Or.comm),by rw[zaj,mZ.o];rfl,vk.o,xo.o,tO,B5.o⟩;exact tM
  ·obtain rfl:k=L:=tO
   have vh:Wi (TrE (g1,(N:Int),es) O T):=qA (by have h:=ur.o;rwa [nP.o] at h);have uZ:T.length<=40:=by have:=mZ.o;have:=AK.o;omega
   have BR:=HB.o.size;go_wp2_with fail;refine(N5 _ T wi HO.arg uZ).mono ?_
   rintro e w5 ⟨r5,rfl,o5,b5⟩;have O5:=qA o5;have aV:=qA (cA w5 (HB.trans (b5.mono tO)));obtain⟨A5,c5,rfl,_⟩:=o5.form;have Ho:=Li.o T;have Jo:Wi ((srt cmpE T).length<=40):=qA tO;have Hd:=qA (NZ T vh);clear o5 b5 Ho;generalize srt cmpE T=T2 at*;go_wp2;go_ret;exact⟨_,T2,rfl,O5.mono tO,Hd.o,Jo.o,aV.o⟩
theorem qFp {α} (p:α->Bool) (l:List α) (k:Nat) (h:k<l.length):(l.take (k+1)).filter p=if p l[k]=true then(l.take k).filter p++ [l[k]] else(l.take k).filter p:=by
 rw[zam h,za9];split
 ·rename_i h1;simp[h1]
 ·rename_i h1;simp[h1]
theorem qHU (v:Wh) (g:GrD) (w:Wg) (h:ArgG w v g) (hf:qO g=true):
  Wk Tryz.prog 100 #[v] w fun e w'=> ∃r,e= .returned r/\OwE w' w r (extL g)/\Wf w w w':=by
 have HG:=qA h;have HF:=qA hf;obtain⟨hg,aO⟩:=qE hf;obtain⟨aF,aA,aD,_⟩:=qD hg;have nz:Wi (∀T,TrE g (canO g) T-> ∀e∈g.2.2,exB g e= !decide (e∈T)):=qA fun T hT e he=>by
  have h1:=hT.ext hf he;rcases ex:exB g e with _ | _
  ·rw[decide_eq_true (h1.2 ex)];rfl
  ·rw[decide_eq_false (fun hm=>by rw[h1.1 hm] at ex;cases ex)];rfl
 have lh:Wi (extL g=g.2.2.filter (exB g)):=qA rfl;obtain⟨s,rfl,aN,aQ,ha⟩:=h;obtain⟨A,cap,rfl⟩:=ha.form;have fF:=qA (fun W' (h:ArgG W' (.agg #[.int .i64 g.1, .int .i64 g.2.1, .slice A g.2.2.length cap]) g)=>qIa _ g W' h hf);obtain⟨g1,n,es⟩:=g;simp only at*
 clear ha hf hg aO;obtain⟨XB,DV⟩: ∃X,X=exB (g1,n,es):=⟨_,rfl⟩;rw[<-DV] at nz lh;clear DV;go_enter Tryz.func100,Tryz.ntmps100
 go_wp2_with fail;obtain⟨W1,aq⟩: ∃W,W=w.alloc (.cells #[.int .i64 g1,.int .i64 n, .slice A es.length cap] 26):=⟨_,rfl⟩;obtain⟨aE,b1,aJ⟩:=qGG aq;obtain⟨W,hW⟩: ∃W,W=W1.alloc (.cells #[] 97):=⟨_,rfl⟩;have b2:Wf W1 W1 W:=by rw[hW];exact(zan _ _).alloc (zad _) _
 have aH:W.heap.size=w.heap.size+2:=by rw[hW];simp;omega
 have o0:OwE W (w.heap.size+1) (.slice (some ⟨w.heap.size+1,0,none⟩) 0 0) []:=by rw[hW];exact qEM W1 (w.heap.size+1) aE (zad _)
 rw[<-aq,<-hW];have BX:Wi (Wf w w W):=qA (b1.trans (b2.mono tO));have kW:=qA (b2.mono (show w.heap.size+1<=W1.heap.size by omega));have fE:=qA aJ;have aW:Wi (∀w',Wf (w.heap.size+1) W w'->w'.cell? ⟨w,0,none⟩=some (.int .i64 g1)/\w'.cell? ⟨w,1,none⟩=some (.int .i64 n)/\w'.cell? ⟨w,2,none⟩=some (.slice A es.length cap)):=qA fun w' hb=>fE.o w' (kW.trans hb);have HA:Wi (∀w',Wf (w.heap.size+1) W w'->ArgG w' (.agg #[.int .i64 g1, .int .i64 n, .slice A es.length cap]) (g1,n,es)):=qA fun w' hb=>HG.o.below (BX.trans (hb.mono tO));have cA:Wi (∀w',Wf (w.heap.size+1) W w'->Wf w w w'):=qA fun w' hb=>BX.o.trans (hb.mono tO);have O0:=qA o0;clear aq hW aJ b1 b2 fE o0;have aX:=qAB _ (g1,n,es) W (HA W ((zan W W).mono tO));rw[HF.o] at aX;refine aX.mono ?_;clear aX;rintro e w2 ⟨rfl,b2⟩;have dQ:=b2.size;have B2:Wi (Wf (w.heap.size+1) W w2):=qA (b2.mono tO);have dL:=qA (O0.below b2);clear b2;obtain⟨q0,q1,q2⟩:=aW.o w2 B2.o;go_wp2_with fail;refine(fF w2 (HA w2 B2)).mono ?_
 rintro e w3 ⟨r3,T,rfl,o3,kD,uZ,b3⟩;have d5:=b3.size;have B3:Wi (Wf (w.heap.size+1) W w3):=qA (B2.trans (b3.mono tO));have dI:=qA (dL.below b3);have Em:=qA o3;have vH:=qA (nz T kD);obtain⟨At,ct,rfl,_⟩:=o3.form;clear o3 kD b3 q0 q1 q2;obtain⟨q0,q1,q2⟩:=aW.o w3 B3.o;have vV:Wi (∀b,(zau At T.length ct).ownBlock=some b->w2.heap.size<=b/\b<w3.heap.size):=qA fun b hb=>Em.o.1.lt b hb;go_wp2;go_loopw [3,17] (fun vo i wr=> ∃k:Nat,k<=es.length/\i= .int .i64 k/\OwE wr (w.heap.size+1) vo ((es.take k).filter XB)/\(∀c,vo.ownBlock=some c->c<W.heap.size\/w3.heap.size<=c)/\(∀b,W.heap.size<=b->b<w3.heap.size->wr.heap[b]? =w3.heap[b]?)/\w3.heap.size<=wr.heap.size/\Wf (w.heap.size+1) W wr) (fun _ i _=>es.length-(intOf i).toNat)
 case atStart=>exact⟨0,zaB _,rfl,by simpa using dI.o,fun c hc=> .inl (by simp[zap] at hc;omega),fun _ _ _=>rfl,zad _,B3.o⟩
 case round=>
  obtain⟨k,hk,rfl,ho,ny,lR,tH,hb⟩:=hrel;have HO:=qA ho;have yN:=qA ny;have yM:=qA lR;have HB:=qA hb;obtain⟨wi,rfl⟩: ∃wi:Wg,wi=wr:=⟨_,rfl⟩;clear ho ny lR hb;have fJ:((es.take k).filter XB).length<=120:=by
   have h1:=za5 XB (es.take k);rw[zbf] at h1;omega
  obtain⟨Ao,co,rfl,_⟩:=OwE.form HO.o;by_cases ac:k<es.length
  ·have iG:=qA (qFp XB es k ac);have uD:=qA (vH es[k] (zal ac));obtain⟨_,_,DS,uB,_,_⟩:=(HA wi HB).inner;injection DS with e1 e2 e3
   subst e1 e3;clear e2;obtain⟨b,off,rfl,cX,c0,c1,c2,dl⟩:=uB.at ac;have ce:=qA dl;have mG:(k:Int)<(es.length:Int):=tO;generalize es[k]=E at*;generalize (es.take k).filter XB=LO at*;obtain⟨e1,e2,e3⟩:=E;simp only at*
   clear uB dl;have tg:=qA (fun W' (h:ArgE W' (.slice At T.length ct) T)=>qEz _ T (e1,e2,e3) W' h tO);unfold edV at tg;simp only at tg
   go_wp2_with fail;obtain⟨WX,ye⟩: ∃WX,WX=wi.alloc (.cells #[.int .i64 e1,.int .i64 e2,.int .i64 e3] 97):=⟨_,rfl⟩;obtain⟨QQ,bX,Le⟩:=qGG ye;rw[<-ye];have QH:=qA (HO.below bX);have Ov:=qA (HB.trans (bX.mono (by have:=HB.o.size;omega)));have By:Wi (∀b,W.heap.size<=b->b<w3.heap.size->WX.heap[b]? =w3.heap[b]?):=qA fun b h1 h2=>(bX.block b tO).trans (yM b h1 h2);have yU:=qA Le;clear ye bX Le c0 c1 c2;refine(tg WX (Em.keep fun b hb=>By.o b (by have:=vV.o b hb;omega) (vV b hb).2).arg).mono ?_
   rintro e w4 ⟨rfl,b4⟩;have jY:=b4.size;obtain⟨z0,z1,z2⟩:=yU.o w4 (b4.mono tO);have zo:=qA (QH.below b4);have aU:=qA (Ov.trans (b4.mono (by have:=Ov.o.size;omega)));have rV:Wi (∀b,W.heap.size<=b->b<w3.heap.size->w4.heap[b]? =w3.heap[b]?):=qA fun b h1 h2=>(b4.block b tO).trans (By b h1 h2);clear b4;have jH:w.heap.size+1<=w4.heap.size:=by have:=aU.o.size;omega
   rcases ed:decide ((e1,e2,e3)∈T) with _ | _
   ·have oC:Wi ((es.take (k+1)).filter XB=LO++ [(e1,e2,e3)]):=qA (by rw[iG.o,uD.o,ed];rfl);clear ed;go_wp2_with (at_builtin;refine qBY rfl (.tmp 25) (.tmp 27) rfl (w.heap.size+1) _ _ (zo.alloc _) rfl _ (e1,e2,e3) rfl (qDK _ _ _) ce.o tO (by simp;omega) ?_;intro v5 wv5 o5 g5 p5;have vD:=g5.size;simp at vD;have O5:=qA o5;have B5:=qA (qBL aU jH zo (zad _) g5);have vk:Wi (∀c,v5.ownBlock=some c->c<W.heap.size\/w3.heap.size<=c):=qA fun c hc=>(by rcases p5 with p5 | p5<;>rw[p5] at hc<;>first | exact yN.o c hc | (simp at hc;omega));have xo:Wi (∀b,W.heap.size<=b->b<w3.heap.size->wv5.heap[b]? =w3.heap[b]?):=qA fun b h1 h2=>((g5.block b (by simp;omega) (fun e=>by have:=yN.o b e.symm;omega)).trans (((zan w4 w4).alloc (zad _) _).block b tO)).trans (rV b h1 h2);clear o5 g5 p5)
    go_roundw;exact⟨k+1,tO,by go_num,by rw[oC.o];exact O5.o,vk.o,xo.o,tO,B5.o⟩;exact tM
   ·have oC:Wi ((es.take (k+1)).filter XB=LO):=qA (by rw[iG.o,uD.o,ed];rfl);clear ed z0 z1 z2;go_wp2;go_roundw;exact⟨k+1,tO,by go_num,by rw[oC.o];exact zo.o,yN.o,rV.o,tO,aU.o⟩;exact tM
  ·obtain rfl:k=es.length:=tO
   rw[zar] at HO fJ;have uG:=qA (lh.o▸HO.o);have aV:=qA (cA wi HB);go_wp2;go_ret;exact⟨_,rfl,by rw[lh.o];rw[zar];exact HO.o.mono tO,aV.o⟩
theorem qAt (xs:List Int):(invL xs).length=xs.length:=by simp[invL,negL]
theorem qMt (v vw:Wh) (g:GrD) (ws:List Int) (w:Wg) (h:ArgG w v g) (hw:RdI w vw ws) (hf:qO g=true):
  Wk Tryz.prog 108 #[v,vw] w fun e w'=>e= .returned (.bool (decide (qQ g.2.2 0 ws=0)))/\Wf w w w':=by
 have HG:=qA h;have HW:=qA hw;have hg:=(qE hf).1;have ar:=(qD hg).2.1;have dC:=qA (fun W' (h:ArgG W' v g) (h2:RdI W' vw ws)=>qKn v vw g 0 ws W' h h2 hf ⟨Int.le_refl _,tO⟩);have CQ:=qA (qJY g.2.2 ws 0 (Int.le_refl _));obtain⟨s,rfl,aN,aQ,ha⟩:=h;obtain⟨A,cap,rfl⟩:=ha.form;obtain⟨Aw,cw,rfl⟩: ∃A cap,vw= .slice A ws.length cap:=by
  obtain⟨A,cap,hv,_⟩:=hw.arg;exact⟨A,cap,hv⟩
 obtain⟨g1,N,es⟩:=g;simp only at*
 clear ha hw hf hg ar;obtain⟨t,ht⟩: ∃t,t=qQ es 0 ws:=⟨_,rfl⟩;rw[<-ht] at CQ⊢;clear ht;go_enter Tryz.func108,Tryz.ntmps108
 go_wp2_with fail;obtain⟨W,hW⟩: ∃W,W=w.alloc (.cells #[.int .i64 g1,.int .i64 N, .slice A es.length cap] 26):=⟨_,rfl⟩;obtain⟨aH,b1,_⟩:=qGG hW;rw[<-hW];have BX:=qA b1;clear hW b1;refine(dC W (HG.below BX) (HW.below BX)).mono ?_
 rintro e w1 ⟨rfl,b1⟩;have aV:Wi (Wf w w w1):=qA (BX.trans (b1.mono tO));clear b1;generalize (qX es 0 ws).1=u at*;generalize (qX es 0 ws).2=m at*;generalize ws.length=L at CQ⊢;by_cases hm:m=L
 ·subst hm;by_cases hu:u=0
  ·subst hu;have F:Wi (decide (t=0)=true):=qA (by
    rcases CQ.o with h | h
    ·exact absurd h.2 (Nat.lt_irrefl _)
    ·simp[<-h.2.2])
   go_wp2;go_ret;exact⟨qJ F.o.symm,aV⟩
  ·have F:Wi (decide (t=0)=false):=qA (by
    rcases CQ.o with h | h
    ·exact absurd h.2 (Nat.lt_irrefl _)
    ·rw[decide_eq_false_iff_not,<-h.2.2];exact hu)
   go_wp2;go_ret;exact⟨qJ (by rw[F.o];simpa using hu),aV.o⟩
 ·have fA: ¬(m:Int)=(L:Int):=tO;have F:Wi (decide (t=0)=false):=qA (by
   rcases CQ.o with h | h
   ·rw[decide_eq_false_iff_not];omega
   ·exact absurd h.2.1 hm)
  clear hm;go_wp2;go_ret;exact⟨qJ F.o.symm,aV⟩
theorem qES {v x y:Int} {e:EdD} (hx: -3<=x/\x<=3):mt v x e=some y↔(0<x/\e.2.1=x/\e.1=v/\e.2.2=y)\/(x<0/\e.2.1= -x/\e.2.2=v/\e.1=y):=by
 have hw:wrap64 (-x)= -x:=IntWalk.wrap64_in _ ⟨tO,tO⟩;unfold mt;rw[hw];constructor
 ·intro h;split at h
  ·split at h
   ·rename_i p q;injection h with h;exact .inl ⟨p,q.1,q.2,h⟩
   ·cases h
  ·split at h
   ·split at h
    ·rename_i p q;injection h with h;exact .inr ⟨p,q.1,q.2,h⟩
    ·cases h
   ·cases h
 ·rintro(⟨p,q,r,s⟩ | ⟨p,q,r,s⟩)
  ·rw[Wm p,Wm ⟨q,r⟩,s]
  ·rw[Wn tO,Wm p,Wm ⟨q,r⟩,s]
theorem qIV {g:GrD} (hg:grB g=true) (hf:Fol g.2.2) {v x y:Int} (hx: -3<=x/\x<=3) (hy:0<=y):qF g.2.2 v x=y↔(0<x/\(v,x,y)∈g.2.2)\/(x<0/\(y,-x,v)∈g.2.2):=by
 constructor
 ·intro h;obtain⟨e,he,hm⟩:=qBf (by omega:0<=qF g.2.2 v x);rw[h] at hm;rcases(qES hx).1 hm with ⟨p,q,r,s⟩ | ⟨p,q,r,s⟩
  ·left
   obtain⟨a,l,b⟩:=e;simp only at q r s
   subst q r s;exact⟨p,he⟩
  ·right
   obtain⟨a,l,b⟩:=e;simp only at q r s
   subst q r s;exact⟨p,he⟩
 ·rintro(⟨p,h⟩ | ⟨p,h⟩)
  ·exact qEC hf h ((qES hx).2 (.inl ⟨p,rfl,rfl,rfl⟩))
  ·exact qEC hf h ((qES hx).2 (.inr ⟨p,rfl,rfl,rfl⟩))
theorem qGv {g:GrD} (hg:grB g=true) {v x:Int} (hx: -3<=x/\x<=3) (h:0<=qF g.2.2 v x):x∈qB g.1.toNat:=by
 obtain⟨e,he,hm⟩:=qBf h;have hl:=(qM hg he).2.1;rw[qw];rcases(qES hx).1 hm with ⟨p,q,_⟩ | ⟨p,q,_⟩<;>omega
def ov (o:List Int) (i:Int):Int:=o.getD i.toNat (-1)
theorem qEZ {o:List Int} (hd:o.Nodup): ∀(k:Nat) (hk:k<o.length),plv o o[k]=(k:Int)+1:=by
 induction o with
 | nil=>intro k hk;cases hk
 | cons u o ih=>
   rw[List.nodup_cons] at hd;intro k hk;cases k with
   | zero=>simp[plv]
   | succ k=>
     have zD:k<o.length:=by simpa using hk
     have ai:u≠o[k]:=fun e=>hd.1 (e▸zal zD);have:=ih hd.2 k zD
     simp only[zaH];unfold plv;rw[Wn ai,Wn tO,this];omega
theorem qNc {o:List Int} {k:Nat} (hk:k<o.length):ov o k=o[k]:=by
 unfold ov;rw[zaw];simp[hk]
theorem qLN {o:List Int} (hd:o.Nodup) {i:Int} (h0:0<=i) (h1:i<o.length):plv o (ov o i)=i+1:=by
 obtain⟨k,rfl⟩: ∃k:Nat,i=(k:Int):=⟨i.toNat,tO⟩;rw[qNc tO,qEZ hd k tO]
theorem qHg {o:List Int} {i:Int} (h0:0<=i) (h1:i<o.length):ov o i∈o:=by
 obtain⟨k,rfl⟩: ∃k:Nat,i=(k:Int):=⟨i.toNat,tO⟩;rw[qNc tO];exact zal _
theorem qHW {o:List Int} (hd:o.Nodup) {v:Int} (h:v∈o):ov o (plv o v-1)=v:=by
 obtain⟨k,hk,rfl⟩:=zaP h;rw[qEZ hd k hk,show(k:Int)+1-1=k by omega,qNc hk]
theorem qFj {o:List Int} {v:Int} (h:v∈o):0<plv o v:=by
 have:=qAu o v
 have h0:plv o v≠0:=fun e=>qEK.1 e h;omega
theorem qRA {g:GrD} {o:List Int} {e:EdD}:e∈(rnG g o).2.2↔ ∃a∈g.2.2,rnE o a=some e:=by
 show e∈srt cmpE (rnL g.2.2 o)↔_
 rw[(qAq qz _).2];unfold rnL;rw[zba]
theorem qMm {o:List Int} (hd:o.Nodup) {a e:EdD} (h1:0<=e.1/\e.1<o.length) (h2:0<=e.2.2/\e.2.2<o.length):rnE o a=some e↔a=(ov o e.1,e.2.1,ov o e.2.2):=by
 unfold rnE;constructor
 ·intro h;split at h
  ·rename_i p
   injection h with h
   subst h;simp only
   have m1:a.1∈o:=zaf fun hn=>by have:=qEK.2 hn;omega
   have m2:a.2.2∈o:=zaf fun hn=>by have:=qEK.2 hn;omega
   rw[qHW hd m1,qHW hd m2]
  ·cases h
 ·rintro rfl;simp only
  rw[qLN hd h1.1 h1.2,qLN hd h2.1 h2.2,Wm ⟨tO,tO⟩];congr 1
  obtain⟨x,l,y⟩:=e;simp only
  rw[show x+1-1=x by omega,show y+1-1=y by omega]
theorem qNh {g:GrD} {o:List Int} (hd:o.Nodup) {e:EdD} (h1:0<=e.1/\e.1<o.length) (h2:0<=e.2.2/\e.2.2<o.length):e∈(rnG g o).2.2↔(ov o e.1,e.2.1,ov o e.2.2)∈g.2.2:=by
 rw[qRA];constructor
 ·rintro⟨a,ha,hr⟩
  rw[(qMm hd h1 h2).1 hr] at ha;exact ha
 ·intro h;exact⟨_,h,(qMm hd h1 h2).2 rfl⟩
theorem qKQ {g:GrD} {o:List Int} (hf:qO g=true) (ho:OrdN g.2.1 o) {i x:Int} (h0:0<=i) (h1:i<o.length) (hx: -3<=x/\x<=3):
  qF (rnG g o).2.2 i x=if 0<=qF g.2.2 (ov o i) x then plv o (qF g.2.2 (ov o i) x)-1 else-1:=by
 obtain⟨hg,aX⟩:=qE hf;obtain⟨mj,px⟩:=qE (qCr hf ho);have fwd: ∀j:Int,0<=j->j<o.length->(qF (rnG g o).2.2 i x=j↔qF g.2.2 (ov o i) x=ov o j):=fun j j0 j1=>by
  have vy:=(ho.2.1 _ (qHg j0 j1)).1;rw[qIV mj px hx j0,qIV hg aX hx vy,qNh ho.1 (e:=(i,x,j)) ⟨h0,h1⟩ ⟨j0,j1⟩,qNh ho.1 (e:=(j,-x,i)) ⟨j0,j1⟩ ⟨h0,h1⟩]
 by_cases hy:0<=qF g.2.2 (ov o i) x
 ·rw[Wm hy];by_cases hm:qF g.2.2 (ov o i) x∈o
  ·have hp:=qFj hm;have hr:=qAu o (qF g.2.2 (ov o i) x);exact(fwd _ tO tO).2 (qHW ho.1 hm).symm
  ·rw[qEK.2 hm];rcases qR mj i x with h | h
   ·rw[h];rfl
   ·have:=(fwd _ h.1 h.2).1 rfl
    rw[this] at hm;exact absurd (qHg h.1 h.2) hm
 ·rw[Wn hy];rcases qR mj i x with h | h
  ·exact h
  ·have:=(fwd _ h.1 h.2).1 rfl
   have h2:=(ho.2.1 _ (qHg h.1 h.2)).1;omega
theorem qBa {es:List EdD} {u v x:Int} (hx: -3<=x/\x<=3) (h:Conn es u v) (hn:0<=qF es v x):Conn es u (qF es v x):=by
 obtain⟨e,he,hm⟩:=qBf hn;rcases(qES hx).1 hm with ⟨_,_,r,s⟩ | ⟨_,_,r,s⟩
 ·rw[<-s];exact .fwd e he (r▸h)
 ·rw[<-s];exact .back e he (r▸h)
structure Sub (x g:GrD) (s:Int->Int):Prop where
 rk:x.1=g.1
 rng: ∀i,0<=i->i<x.2.1->0<=s i/\s i<g.2.1
 cn:Conn g.2.2 0 (s 0)
 fw: ∀i l,0<=i->i<x.2.1-> -3<=l/\l<=3->0<=qF x.2.2 i l->qF g.2.2 (s i) l=s (qF x.2.2 i l)
 lp: ∀i w,0<=i->i<x.2.1->Conn x.2.2 0 i->(∀l∈w,-3<=l/\l<=3)->NoB w->qQ g.2.2 (s i) w=s i->qQ x.2.2 i w=i
theorem Sub.walk {x g:GrD} {s:Int->Int} (h:Sub x g s) (hx:grB x=true): ∀(w:List Int) (i:Int),0<=i->i<x.2.1->(∀l∈w,-3<=l/\l<=3)->0<=qQ x.2.2 i w->qQ g.2.2 (s i) w=s (qQ x.2.2 i w)
 | [],_,_,_,_,_=>rfl
 | l::w,i,h0,h1,hl,hw=>by
   rw[qV] at hw⊢;split at hw
   ·exact absurd hw tD
   ·rename_i hn
    have bh:=hl l tZ;have hf:=h.fw i l h0 h1 bh tO;rcases qR hx i l with e | ⟨e1,e2⟩
    ·omega
    ·have hr:=h.rng _ e1 e2;rw[hf,Wn tO];conv=>rhs;rw[qV,Wn hn]
     exact h.walk hx w _ e1 e2 (fun l ri=>hl l (by simp[ri])) hw
theorem Sub.conn {x g:GrD} {s:Int->Int} (h:Sub x g s) (hx:grB x=true) (xd:Fol x.2.2) (hg:grB g=true) {i:Int} (hc:Conn x.2.2 0 i):(0<=i/\i<x.2.1)/\Conn g.2.2 0 (s i):=by
 have hs:=(qD hx).2.1;have key: ∀e∈x.2.2,(Conn g.2.2 0 (s e.1)↔Conn g.2.2 0 (s e.2.2)):=fun e he=>by
  have hr:=qM hx he;have h3:=(qD hx).1;have hl: -3<=e.2.1/\e.2.1<=3:=tO;have n1:=qAb hx xd he;have n2:=qBo hx xd he;have f1:=h.fw e.1 e.2.1 hr.1.1 hr.1.2 hl (by rw[n1];exact hr.2.2.1);have f2:=h.fw e.2.2 (-e.2.1) hr.2.2.1 hr.2.2.2 tO (by rw[n2];exact hr.1.1);rw[n1] at f1;rw[n2] at f2;constructor
  ·intro c;have:=qBa hl c (by rw[f1];exact(h.rng _ hr.2.2.1 hr.2.2.2).1)
   rwa [f1] at this
  ·intro c;have:=qBa (x:= -e.2.1) tO c (by rw[f2];exact(h.rng _ hr.1.1 hr.1.2).1)
   rwa [f2] at this
 refine qBI (S:=fun i=>(0<=i/\i<x.2.1)/\Conn g.2.2 0 (s i)) ⟨tO,h.cn⟩ (fun e he=> ?_) hc;have hr:=qM hx he;have:=key e he
 constructor
 ·rintro⟨_,c⟩;exact⟨hr.2.2,this.1 c⟩
 ·rintro⟨_,c⟩;exact⟨hr.1,this.2 c⟩
theorem Sub.refl {g:GrD}:Sub g g id where
 rk:=rfl
 rng:=fun _ h0 h1=>⟨h0,h1⟩
 cn:= .base
 fw:=fun _ _ _ _ _ _=>rfl
 lp:=fun _ _ _ _ _ _ _ h=>h
theorem Sub.trans {x y g:GrD} {s t:Int->Int} (h:Sub x y s) (k:Sub y g t) (hx:grB x=true) (xd:Fol x.2.2) (hy:grB y=true) (hfy:Fol y.2.2) (hg:grB g=true):Sub x g (fun i=>t (s i)) where
 rk:=h.rk.trans k.rk
 rng:=fun i h0 h1=>by have:=h.rng i h0 h1;exact k.rng _ this.1 this.2
 cn:=(k.conn hy hfy hg h.cn).2
 fw:=fun i l h0 h1 hl hn=>by
  have hr:=h.rng i h0 h1;have f:=h.fw i l h0 h1 hl hn;rw[<-f];refine k.fw _ l hr.1 hr.2 hl ?_;rw[f];rcases qR hx i l with e | ⟨e1,e2⟩
  ·omega
  ·exact(h.rng _ e1 e2).1
 lp:=fun i w h0 h1 hc hl hn hw=>by
  have hr:=h.rng i h0 h1;exact h.lp i w h0 h1 hc hl hn (k.lp (s i) w hr.1 hr.2 (h.conn hx xd hy hc).2 hl hn hw)
theorem NoB.tail {a:Int} {l:List Int} (h:NoB (a::l)):NoB l:=by
 cases l with
 | nil=>trivial
 | cons b l=>exact h.2
theorem Sub.rn {g:GrD} {o:List Int} (hf:qO g=true) (ho:OrdN g.2.1 o) (h0:Conn g.2.2 0 (ov o 0))
  (H: ∀v∈o,Conn g.2.2 0 v-> ∀l w,-3<=l/\l<=3->(∀x∈w,-3<=x/\x<=3)->NoB (l::w)->0<=qF g.2.2 v l->qF g.2.2 v l∉o->qQ g.2.2 (qF g.2.2 v l) w∉o):Sub (rnG g o) g (ov o):=by
 obtain⟨hg,aX⟩:=qE hf;obtain⟨mj,px⟩:=qE (qCr hf ho);have rngs: ∀i,0<=i->i<(rnG g o).2.1->0<=ov o i/\ov o i<g.2.1:=fun i a b=>ho.2.1 _ (qHg a b);have fws: ∀i l,0<=i->i<(rnG g o).2.1-> -3<=l/\l<=3->0<=qF (rnG g o).2.2 i l->qF g.2.2 (ov o i) l=ov o (qF (rnG g o).2.2 i l):=fun i l a b hl hn=>by
  have e:=qKQ hf ho a b hl;split at e
  ·rename_i hp
   rw[e] at hn⊢;refine(qHW ho.1 (zaf fun hm=> ?_)).symm
   have:=qEK.2 hm
   omega
  ·omega
 have walks: ∀(w:List Int) (v:Int),v∈o->Conn g.2.2 0 v->(∀l∈w,-3<=l/\l<=3)->NoB w->qQ g.2.2 v w∈o->qQ (rnG g o).2.2 (plv o v-1) w=plv o (qQ g.2.2 v w)-1:=by
  intro w;induction w with
  | nil=>intro v _ _ _ _ _;rfl
  | cons l w ih=>
    intro v hv hc hl hn hw;have bh:=hl l tZ;have lC: ∀x∈w,-3<=x/\x<=3:=fun x hx=>hl x (by simp[hx]);rw[qV] at hw;split at hw
    ·have:=(ho.2.1 _ hw).1;omega
    ·rename_i Bn
     have hm:qF g.2.2 v l∈o:=zaf fun hm=>H v hv hc l w bh lC hn tO hm hw;have hp:=qFj hv;have hr:=qAu o v;have rC:=qFj hm;have e:=qKQ hf ho (i:=plv o v-1) (x:=l) tO tO bh;rw[qHW ho.1 hv,Wm tO] at e;rw[qV,qV,e,Wn tO,Wn Bn];exact ih _ hm (qBa bh hc tO) lC hn.tail hw
 exact⟨rfl,rngs,h0,fws,fun i w a b hc hl hn hw=>by
  have NW:Conn g.2.2 0 (ov o i):=by
   have key: ∀e∈(rnG g o).2.2,(Conn g.2.2 0 (ov o e.1)↔Conn g.2.2 0 (ov o e.2.2)):=fun e he=>by
    have hr:=qM mj he;have h3:=(qD mj).1;have hl: -3<=e.2.1/\e.2.1<=3:=tO;have n1:=qAb mj px he;have n2:=qBo mj px he;have f1:=fws e.1 e.2.1 hr.1.1 hr.1.2 hl (by rw[n1];exact hr.2.2.1);have f2:=fws e.2.2 (-e.2.1) hr.2.2.1 hr.2.2.2 tO (by rw[n2];exact hr.1.1);rw[n1] at f1;rw[n2] at f2;constructor
    ·intro c;have:=qBa hl c (by rw[f1];exact(rngs _ hr.2.2.1 hr.2.2.2).1)
     rwa [f1] at this
    ·intro c;have:=qBa (x:= -e.2.1) tO c (by rw[f2];exact(rngs _ hr.1.1 hr.1.2).1)
     rwa [f2] at this
   exact qBI (S:=fun i=>Conn g.2.2 0 (ov o i)) h0 key hc
  have fA:=qHg a b;have:=walks w (ov o i) fA NW hl hn (by rw[hw];exact fA)
  rw[hw,qLN ho.1 a b] at this;rw[show i+1-1=i by omega] at this;exact this⟩
theorem qLH {v x y:Int} {e:EdD} (hx: -3<=x/\x<=3) (h:mt v x e=some y):1<=degE v e:=by
 unfold degE;rcases(qES hx).1 h with ⟨_,_,r,_⟩ | ⟨_,_,r,_⟩
 ·rw[Wm r];omega
 ·rw[Wm r];omega
theorem qJG (e:EdD) (es:List EdD) (v:Int):degL (e::es) v=degE v e+degL es v:=by simp[degL]
theorem qGM {v:Int} {e:EdD}: ∀ {es:List EdD},e∈es->degE v e<=degL es v
 | a::es,h=>by
   rw[qJG];rcases zat.1 h with rfl | h
   ·omega
   ·have:=qGM (v:=v) h;omega
theorem qKv {v:Int} {e1 e2:EdD} (ai:e1≠e2): ∀ {es:List EdD},e1∈es->e2∈es->degE v e1+degE v e2<=degL es v
 | a::es,h1,h2=>by
   rw[qJG];rcases zat.1 h1 with r1 | h1
   ·rcases zat.1 h2 with r2 | h2
    ·exact absurd (r1.trans r2.symm) ai
    ·have:=qGM (v:=v) h2
     rw[r1];omega
   ·rcases zat.1 h2 with r2 | h2
    ·have:=qGM (v:=v) h1
     rw[r2];omega
    ·have:=qKv (v:=v) ai h1 h2;omega
theorem qKi {es:List EdD} {v l m:Int} (hl: -3<=l/\l<=3) (hm: -3<=m/\m<=3) (hd:degL es v<=1) (h1:0<=qF es v l) (h2:0<=qF es v m):l=m:=by
 obtain⟨e1,pL,m1⟩:=qBf h1;obtain⟨e2,zK,m2⟩:=qBf h2;have p1:=qLH hl m1;have p2:=qLH hm m2;by_cases he:e1=e2
 ·subst he;have tX:=qGM (v:=v) pL;unfold degE at tX;rcases(qES hl).1 m1 with ⟨a1,a2,a3,a4⟩ | ⟨a1,a2,a3,a4⟩<;>rcases(qES hm).1 m2 with ⟨b1,b2,b3,b4⟩ | ⟨b1,b2,b3,b4⟩
  ·omega
  ·rw[Wm a3,Wm b3] at tX;omega
  ·rw[Wm a3,Wm b3] at tX;omega
  ·omega
 ·have:=qKv (v:=v) he pL zK
  omega
theorem qDR (es:List EdD) (n:Nat): ∀f v:Nat,0<=qAM es n f v->qHA es (qAM es n f v).toNat=true
 | 0,v,h=>by unfold qAM at h;exact absurd h tD
 | f+1,v,h=>by
   unfold qAM at h⊢;split
   ·rename_i hv
    rw[Wm hv] at h;split
    ·rename_i hb;simpa using hb
    ·rename_i hb
     rw[Wn hb] at h;exact qDR es n f (v+1) h
   ·rename_i hv
    rw[Wn hv] at h;exact absurd h tD
theorem Sub.leaf {g:GrD} (hf:qO g=true) (hl:0<=qu g.2.2 g.2.1.toNat):Sub (rnG g (delO g.2.1.toNat (qu g.2.2 g.2.1.toNat))) g (ov (delO g.2.1.toNat (qu g.2.2 g.2.1.toNat)))/\ov (delO g.2.1.toNat (qu g.2.2 g.2.1.toNat)) 0=0:=by
 obtain⟨hg,aX⟩:=qE hf;have ar:=(qD hg).2.1;have hr:=qAv g.2.2 g.2.1.toNat;have mY:=qDR g.2.2 g.2.1.toNat _ _ hl;change qHA g.2.2 (qu g.2.2 g.2.1.toNat).toNat=true at mY;generalize qu g.2.2 g.2.1.toNat=u at*;have af:=qDZ (n:=g.2.1.toNat) (x:=u) tO tO;rw[show((g.2.1.toNat:Nat):Int)=g.2.1 by omega] at af;have hz:ov (delO g.2.1.toNat u) 0=0:=by
  have:=af.2.2
  unfold ov;simp[List.getD,this]
 refine⟨Sub.rn hf af.toN (by rw[hz];exact .base) ?_,hz⟩;intro v hv hc l w dH lC hn h0 hm;have OQ:qF g.2.2 v l=u:=zaf fun ai=>by
  rcases qR hg v l with e | ⟨e1,e2⟩
  ·omega
  ·exact hm (qBp.2 ⟨⟨e1,tO⟩,ai⟩)
 have lS:=qBa dH hc h0;rw[OQ] at lS hm⊢;have hd:degL g.2.2 u<2:=by
  unfold qHA at mY;rw[show((u.toNat:Nat):Int)=u by omega,zaY,decide_eq_true_eq] at mY;rcases mY with h | h
  ·exact h
  ·rw[qBA.2 ((qED _ _ _).2 lS)] at h;cases h
 cases w with
 | nil=>exact hm
 | cons m w=>
   have dK:=lC m tZ;rw[qV];by_cases zM:qF g.2.2 u m<0
   ·rw[Wm zM];intro q;have:=(qBp.1 q).1
    omega
   ·have hb:=qAS hg aX dH h0;rw[OQ] at hb;have mJ:=(af.2.1 v hv).1;have:=qKi dK (m:= -l) tO (by omega:degL g.2.2 u<=1) tO (by rw[hb];exact mJ)
    exact absurd this hn.1
theorem Sub.trimF: ∀(f:Nat) (g:GrD) (l:List Int),qO g=true-> ∃s,Sub (trimF f g l).1 g s/\s 0=0
 | 0,g,l,_=>⟨id,Sub.refl,rfl⟩
 | f+1,g,l,hf=>by
   unfold Go.Proofs.YtnjpoljbagfdnaaGreat.trimF;split
   ·exact⟨id,Sub.refl,rfl⟩
   ·rename_i hn
    obtain⟨hg,aX⟩:=qE hf;obtain⟨s1,z1⟩:=Sub.leaf hf tO;have ar:=(qD hg).2.1;have hr:=qAv g.2.2 g.2.1.toNat;have af:=qDZ (n:=g.2.1.toNat) (x:=qu g.2.2 g.2.1.toNat) tO tO;rw[show((g.2.1.toNat:Nat):Int)=g.2.1 by omega] at af;have db:=qEs hf af;obtain⟨s,hs,hz⟩:=Sub.trimF f _ (l.take (qu g.2.2 g.2.1.toNat).toNat++l.drop ((qu g.2.2 g.2.1.toNat).toNat+1)) db;obtain⟨ga,fa⟩:=qE db;obtain⟨gb,fb⟩:=qE (qFe f _ (l.take (qu g.2.2 g.2.1.toNat).toNat++l.drop ((qu g.2.2 g.2.1.toNat).toNat+1)) db);exact⟨_,hs.trans s1 gb fb ga fa hg,by rw[hz,z1]⟩
theorem qNN (es:List EdD):qu es 1= -1:=rfl
theorem qFq: ∀(f:Nat) (g:GrD) (l:List Int),qO g=true->g.2.1<=f+1->qu (Go.Proofs.YtnjpoljbagfdnaaGreat.trimF f g l).1.2.2 (Go.Proofs.YtnjpoljbagfdnaaGreat.trimF f g l).1.2.1.toNat<0
 | 0,g,l,hf,h=>by
   have ar:=(qD (qE hf).1).2.1;have e:g.2.1.toNat=1:=tO;show qu g.2.2 g.2.1.toNat<0
   rw[e,qNN];decide
 | f+1,g,l,hf,h=>by
   unfold Go.Proofs.YtnjpoljbagfdnaaGreat.trimF;split
   ·rename_i hn;exact hn
   ·rename_i hn
    have ar:=(qD (qE hf).1).2.1;have hr:=qAv g.2.2 g.2.1.toNat;have af:=qDZ (n:=g.2.1.toNat) (x:=qu g.2.2 g.2.1.toNat) tO tO;rw[show((g.2.1.toNat:Nat):Int)=g.2.1 by omega] at af;refine qFq f _ _ (qEs hf af) ?_;rw[qEp,qCS,Wm tO];omega
theorem qJz {g:GrD} (hf:qO g=true):qu (qCt g).1.2.2 (qCt g).1.2.1.toNat<0:=by
 have ar:=(qD (qE hf).1).2.1;exact qFq _ _ _ hf tO
theorem qNn (es:List EdD) (u:Int) (o:List Int) (x:Int) {y:Int} (h:y∈o):y∈qd es u o x:=by
 unfold qd;split
 ·split
  ·exact h
  ·exact zai.2 (.inl h)
 ·exact h
theorem qHB (es:List EdD) (u:Int): ∀(ls:List Int) (o:List Int) {y:Int},y∈o->y∈ls.foldl (qd es u) o
 | [],_,_,h=>h
 | x::ls,o,_,h=>qHB es u ls _ (qNn es u o x h)
theorem qIt (es:List EdD) (u:Int): ∀(ls:List Int) (o:List Int) (x:Int),x∈ls->0<=qF es u x->qF es u x∈ls.foldl (qd es u) o
 | a::ls,o,x,hx,h=>by
   rw[zaZ];rcases zat.1 hx with rfl | hx
   ·refine qHB es u ls _ ?_;unfold qd;rw[Wm h];split
    ·rename_i hb;exact qBA.1 hb
    ·exact zai.2 (.inr tZ)
   ·exact qIt es u ls _ x hx h
theorem qGj {g:GrD} (hg:grB g=true) (ls:List Int): ∀(f i:Nat) (o:List Int),qAL g.2.1 o->41<=f+i->
  (∀(j:Nat) (v:Int),j<i->o[j]? =some v-> ∀x∈ls,0<=qF g.2.2 v x->qF g.2.2 v x∈o)->
  ∀v∈canF g.2.2 ls f i o,∀x∈ls,0<=qF g.2.2 v x->qF g.2.2 v x∈canF g.2.2 ls f i o
 | 0,i,o,af,hi,hc=>by
   have hl:=af.len (qD hg).2.1.2 (by have:=(qD hg).2.1.1;omega);intro v hv x hx h0;obtain⟨j,hj,rfl⟩:=zaP hv;exact hc j _ (by have:(canF g.2.2 ls 0 i o).length=o.length:=rfl;omega) (zac hj) x hx h0
 | f+1,i,o,af,hi,hc=>by
   have hl:=af.len (qD hg).2.1.2 (by have:=(qD hg).2.1.1;omega);by_cases kJ:i<o.length
   ·rw[qDq _ _ _ _ _ kJ];refine qGj hg ls f (i+1) _ (qIS hg ls af) tO ?_;intro j v hj hv x hx h0;by_cases zj:j<i
    ·have KR:j<o.length:=tO;have e:=qBU g.2.2 o[i] ls o j _ (zac KR);rw[hv] at e;injection e with e
     subst e;exact qHB _ _ _ _ (hc j _ zj (zac KR) x hx h0)
    ·obtain rfl:j=i:=tO
     have e:=qBU g.2.2 o[j] ls o j _ (zac kJ);rw[hv] at e;injection e with e
     subst e;exact qIt _ _ _ _ _ hx h0
   ·have e:canF g.2.2 ls (f+1) i o=o:=by
     rw[canF,zaL tO]
    rw[e];intro v hv x hx h0;obtain⟨j,hj,rfl⟩:=zaP hv;exact hc j _ tO (zac hj) x hx h0
theorem qDJ {g:GrD} (hg:grB g=true) {v x:Int} (hv:v∈canO g) (hx: -3<=x/\x<=3) (h0:0<=qF g.2.2 v x):qF g.2.2 v x∈canO g:=
 qGj hg _ 41 0 [0] (qAL.one (qD hg).2.1.1) tO (fun j _ hj=>tO) v hv x (qGv hg hx h0) h0
theorem qOB {g:GrD} (hf:qO g=true) {v:Int} (h:Conn g.2.2 0 v):v∈canO g:=by
 obtain⟨hg,aX⟩:=qE hf;refine qBI (S:=fun v=>v∈canO g) (zaq (qAD hg).2.2) (fun e he=> ?_) h;have hr:=qM hg he;have h3:=(qD hg).1;have n1:=qAb hg aX he;have n2:=qBo hg aX he;constructor
 ·intro c;have:=qDJ hg c (x:=e.2.1) tO (by rw[n1];exact hr.2.2.1)
  rwa [n1] at this
 ·intro c;have:=qDJ hg c (x:= -e.2.1) tO (by rw[n2];exact hr.1.1)
  rwa [n2] at this
theorem qMp {n:Int} {o:List Int} (h:qAL n o):ov o 0=0:=by
 have:=h.2.2
 unfold ov;simp[List.getD,this]
theorem Sub.can {g:GrD} (hf:qO g=true):Sub (canG g) g (ov (canO g)):=by
 obtain⟨hg,aX⟩:=qE hf;have af:=qAD hg;refine Sub.rn hf af.toN (by rw[qMp af];exact .base) ?_;intro v hv hc l w hl lC hn h0 hm;exact absurd (qDJ hg hv hl h0) hm
theorem qLs {es:List EdD} (h:Fol es):foL es= []:=by
 cases e:foL es with
 | nil=>rfl
 | cons f l=>
   obtain⟨i,k,hi,hk,hf⟩:=qKk (show f∈foL es by rw[e];simp);have hc:=zaV.1 h i k tO hk hi;unfold qBX at hc;unfold fo2 at hf;rw[zbc] at hc;rcases zai.1 hf with hf | hf
   ·split at hf
    ·rename_i q
     exact absurd (by simp[q.1,q.2]) hc
    ·cases hf
   ·split at hf
    ·rename_i q
     exact absurd (by simp[q.1,q.2]) hc
    ·cases hf
theorem qPP {g:GrD} (hf:qO g=true):folA g=g:=qIR (qLs (qE hf).2) _
theorem qHV {g:GrD} (hf:qO g=true):qO (canG g)=true:=qEs hf (qAD (qE hf).1)
theorem Sub.core {g:GrD} (hf:qO g=true): ∃s,Sub (qCU g) g s/\s 0=0:=by
 obtain⟨hg,aX⟩:=qE hf;unfold qCU;rw[qPP hf];obtain⟨s,hs,hz⟩:=Sub.trimF g.2.1.toNat g ((zao g.2.1.toNat).map fun v=>((v:Nat):Int)) hf;have ht:=qFZ hf;obtain⟨ga,fa⟩:=qE ht;obtain⟨gb,fb⟩:=qE (qHV ht);exact⟨_,(Sub.can ht).trans hs gb fb ga fa hg,by rw[qMp (qAD ga),hz]⟩
theorem qPH {g h:GrD} {o:List Int} {f:Int->Int} {ls:List Int} (hinj: ∀u∈o,∀v∈o,f u=f v->u=v)
  (hst: ∀u∈o,∀x∈ls,(0<=qF g.2.2 u x->qF g.2.2 u x∈o/\qF h.2.2 (f u) x=f (qF g.2.2 u x)/\0<=f (qF g.2.2 u x))/\(qF g.2.2 u x<0->qF h.2.2 (f u) x<0)):
  ∀(n i:Nat) (o1:List Int),(∀y∈o1,y∈o)->canF h.2.2 ls n i (o1.map f)=(canF g.2.2 ls n i o1).map f:=by
 have H7: ∀(o1:List Int) (y:Int),(∀z∈o1,z∈o)->y∈o->hasB (o1.map f) (f y)=hasB o1 y:=fun o1 y ho hy=>by
  rw[Bool.eq_iff_iff,qBA,qBA,List.mem_map];constructor
  ·rintro⟨z,hz,e⟩
   rw[<-hinj z (ho z hz) y hy e];exact hz
  ·intro h;exact⟨y,h,rfl⟩
 have step: ∀(o1:List Int) (u x:Int),(∀z∈o1,z∈o)->u∈o->x∈ls->qd h.2.2 (f u) (o1.map f) x=(qd g.2.2 u o1 x).map f/\ ∀z∈qd g.2.2 u o1 x,z∈o:=fun o1 u x ho hu hx=>by
  have hs:=hst u hu x hx;unfold qd;by_cases h0:0<=qF g.2.2 u x
  ·obtain⟨a,b,c⟩:=hs.1 h0;rw[Wm h0,b,Wm c,H7 o1 _ ho a];by_cases hb:hasB o1 (qF g.2.2 u x)=true
   ·rw[Wm hb,Wm hb];exact⟨rfl,ho⟩
   ·rw[Wn hb,Wn hb];refine⟨tZ,fun z hz=> ?_⟩;rcases zai.1 hz with hz | hz
    ·exact ho z hz
    ·rw[zae.1 hz];exact a
  ·have:=hs.2 tO
   rw[Wn h0,Wn tO];exact⟨rfl,ho⟩
 have fold: ∀(l2:List Int) (o1:List Int) (u:Int),(∀x∈l2,x∈ls)->(∀z∈o1,z∈o)->u∈o->l2.foldl (qd h.2.2 (f u)) (o1.map f)=(l2.foldl (qd g.2.2 u) o1).map f/\ ∀z∈l2.foldl (qd g.2.2 u) o1,z∈o:=by
  intro l2;induction l2 with
  | nil=>intro o1 u _ ho _;exact⟨rfl,ho⟩
  | cons x l2 ih=>
    intro o1 u hl ho hu;have:=step o1 u x ho hu (hl x tZ)
    rw[zaZ,zaZ,this.1];exact ih _ u (fun y hy=>hl y (by simp[hy])) this.2 hu
 intro n;induction n with
 | zero=>intro i o1 _;rfl
 | succ n ih=>
   intro i o1 ho;rw[canF,canF,List.getElem?_map];cases hi:o1[i]? with
   | none=>rfl
   | some u=>
     simp only[Option.map_some];have:=fold ls o1 u (fun _ h=>h) ho (ho u (zaq hi))
     rw[this.1];exact ih _ _ this.2
theorem qMN {n k:Nat} (h:k<(rng n).length):(rng n)[k]=(k:Int):=by simp[rng]
theorem qMu (n:Nat):(rng n).Nodup:=by
 unfold rng List.Nodup;rw[zbd];exact(List.nodup_range (n:=n)).imp fun gq e=>gq tO
theorem qMs {n:Nat} {v:Int} (h:0<=v/\v<n):plv (rng n) v=v+1:=by
 obtain⟨k,rfl⟩: ∃k:Nat,v=(k:Int):=⟨v.toNat,tO⟩;have hk:k<(rng n).length:=by rw[qHq];omega
 have:=qEZ (qMu n) k hk
 rwa [qMN hk] at this
theorem qQB {g:GrD} (hg:grB g=true):rnG g (rng g.2.1.toNat)=g:=by
 have hs:=(qD hg).2.1;have hL:rnL g.2.2 (rng g.2.1.toNat)=g.2.2:=by
  unfold rnL;have: ∀e∈g.2.2,rnE (rng g.2.1.toNat) e=some e:=fun e he=>by
   have hr:=qM hg he;unfold rnE;rw[qMs ⟨hr.1.1,tO⟩,qMs ⟨hr.2.2.1,tO⟩,Wm ⟨tO,tO⟩];obtain⟨a,l,b⟩:=e;simp only
   rw[show a+1-1=a by omega,show b+1-1=b by omega]
  generalize g.2.2=es at*;induction es with
  | nil=>rfl
  | cons e es ih=>
    rw[zaQ,this e tZ];simp only
    rw[ih fun a ha=>this a (by simp[ha])]
 unfold rnG;rw[hL,<-qKl qz (qHe hg) (fun _=>Iff.rfl),qHq];obtain⟨a,b,c⟩:=g;simp only at hs⊢
 rw[show((b.toNat:Nat):Int)=b by omega]
theorem qOA {h:GrD} (hf:qO h=true) (hl:qu h.2.2 h.2.1.toNat<0):qS (canG h)=true:=by
 obtain⟨hg,aX⟩:=qE hf;have M5:=qHV hf;obtain⟨mj,px⟩:=qE M5;have af:=qAD hg;have ar:=(qD hg).2.1;have wU:=(qD mj).2.1;have next: ∀u∈canO h,∀x,-3<=x/\x<=3->(0<=qF h.2.2 u x->qF h.2.2 u x∈canO h/\qF (canG h).2.2 (plv (canO h) u-1) x=plv (canO h) (qF h.2.2 u x)-1/\0<=plv (canO h) (qF h.2.2 u x)-1)/\(qF h.2.2 u x<0->qF (canG h).2.2 (plv (canO h) u-1) x<0):=fun u hu x hx=>by
  have hp:=qFj hu;have hr:=qAu (canO h) u;have e:=qKQ hf af.toN (i:=plv (canO h) u-1) (x:=x) tO tO hx;rw[qHW af.1 hu] at e;constructor
  ·intro h0;have hm:=qDJ hg hu hx h0;have:=qFj hm
   rw[Wm h0] at e;exact⟨hm,e,tO⟩
  ·intro h0;rw[Wn tO] at e;show qF (rnG h (canO h)).2.2 _ x<0
   omega
 have JW:canO (canG h)=rng (canO h).length:=by
  have hm:=qPH (g:=h) (h:=canG h) (o:=canO h) (f:=fun u=>plv (canO h) u-1) (ls:=qB h.1.toNat) (fun u hu v hv e=>by
   have:=qFj hu
   exact qGr (o:=canO h) (by have e':plv (canO h) u-1=plv (canO h) v-1:=e;omega) tO) (fun u hu x hx=>next u hu x (let3 hg hx)) 41 0 [0] (fun y hy=>by
   rw[zae.1 hy];exact zaq af.2.2)
  have e0:plv (canO h) 0-1=0:=by
   have h0:0<(canO h).length:=(zaa.1 af.2.2).1;have:=qEZ af.1 0 h0
   have h1:=(zaa.1 af.2.2).2;rw[h1] at this;omega
  simp only[zaz,List.map_nil,e0] at hm;show canF (canG h).2.2 (qB h.1.toNat) 41 0 [0]=_
  rw[hm];show(canO h).map (fun u=>plv (canO h) u-1)=_
  apply zaI
  ·rw[List.length_map,qHq]
  ·intro k h1 h2;rw[zbg,qMN,qEZ af.1 k (by simpa using h1)];omega
 have gr:canG (canG h)=canG h:=by
  have e:(canO h).length=(canG h).2.1.toNat:=by show _=((canO h).length:Int).toNat;omega
  show rnG (canG h) (canO (canG h))=_
  rw[JW,e,qQB mj]
 have BH:qu (canG h).2.2 (canG h).2.1.toNat<0:=by
  apply zaf
  intro hn;have hb:=qDR (canG h).2.2 (canG h).2.1.toNat _ _ (by omega:0<=qu (canG h).2.2 (canG h).2.1.toNat);change qHA (canG h).2.2 (qu (canG h).2.2 (canG h).2.1.toNat).toNat=true at hb;have hr:=qAv (canG h).2.2 (canG h).2.1.toNat;generalize qu (canG h).2.2 (canG h).2.1.toNat=u at*;have aM:(canG h).2.1=((canO h).length:Int):=rfl;have eW:0<=u:=tO;have kL:u<((canO h).length:Int):=tO;have sT:=qHg eW kL;have xU:=qLN af.1 eW kL;have SQ:=af.2.1 _ sT;have QR:ov (canO h) u≠0:=fun e=>by
   have h0:0<(canO h).length:=(zaa.1 af.2.2).1;have:=qEZ af.1 0 h0
   rw[(zaa.1 af.2.2).2] at this;rw[e] at xU;omega
  have nh:=qIn h.2.2 h.2.1.toNat (h.2.1.toNat-1) 1 tO hl (ov (canO h) u).toNat tO tO;unfold qHA at nh hb;rw[show((u.toNat:Nat):Int)=u by omega] at hb;rw[show(((ov (canO h) u).toNat:Nat):Int)=ov (canO h) u by omega] at nh;simp only[Bool.or_eq_false_iff,decide_eq_false_iff_not,Bool.not_eq_false'] at nh;rw[zaY,decide_eq_true_eq] at hb;rcases hb with hb | hb
  ·--two letters at ov u
   obtain⟨l,m,dH,vW,yY,n1,n2⟩: ∃l m,(-3<=l/\l<=3)/\(-3<=m/\m<=3)/\l≠m/\0<=qF h.2.2 (ov (canO h) u) l/\0<=qF h.2.2 (ov (canO h) u) m:=by
    apply zaf
    intro dz;have all: ∀l m,(-3<=l/\l<=3)->(-3<=m/\m<=3)->0<=qF h.2.2 (ov (canO h) u) l->0<=qF h.2.2 (ov (canO h) u) m->l=m:=fun l m a b c d=>zaf fun e=>dz ⟨l,m,a,b,e,c,d⟩;have hd: ∀l0,(∀l,(-3<=l/\l<=3)->0<=qF h.2.2 (ov (canO h) u) l->l=l0)->degL h.2.2 (ov (canO h) u)<=1:=fun l0 bh=>qNK (l0:=l0) aX (qBu hg) fun e he=>by
     have tT:=qM hg he;have h3:=(qD hg).1;constructor
     ·intro e1;refine bh e.2.1 tO ?_;rw[<-e1,qAb hg aX he];exact tT.2.2.1
     ·intro e1;refine bh (-e.2.1) tO ?_;rw[<-e1,qBo hg aX he];exact tT.1.1
    by_cases re: ∃l,(-3<=l/\l<=3)/\0<=qF h.2.2 (ov (canO h) u) l
    ·obtain⟨l0,a,b⟩:=re;have:=hd l0 fun l c d=>all l l0 c a d b
     omega
    ·have:=hd 0 fun l c d=>absurd ⟨l,c,d⟩ re
     omega
   have t1:=(next _ sT l dH).1 n1;have t2:=(next _ sT m vW).1 n2;rw[xU,show u+1-1=u by omega] at t1 t2;exact yY (qKi (es:=(canG h).2.2) (v:=u) dH vW tO (by rw[t1.2.1];exact t1.2.2) (by rw[t2.2.1];exact t2.2.2))
  ·have hc:=(qED _ _ _).1 (qBA.1 nh.2);have dp:(ov (canO h) u∈canO h/\Conn (canG h).2.2 0 (plv (canO h) (ov (canO h) u)-1)):=by
    have h0:0<(canO h).length:=(zaa.1 af.2.2).1;have n9:=qEZ af.1 0 h0;rw[(zaa.1 af.2.2).2] at n9;refine qBI (S:=fun v=>v∈canO h/\Conn (canG h).2.2 0 (plv (canO h) v-1)) ⟨zaq af.2.2,by rw[n9];exact .base⟩ (fun e he=> ?_) hc;have tT:=qM hg he;have h3:=(qD hg).1;have p1:=qAb hg aX he;have p2:=qBo hg aX he;constructor
    ·rintro⟨a,b⟩
     have t:=(next _ a e.2.1 tO).1 (by rw[p1];exact tT.2.2.1);rw[p1] at t;refine⟨t.1,?_⟩;have:=qBa (x:=e.2.1) tO b (by rw[t.2.1];exact t.2.2)
     rwa [t.2.1] at this
    ·rintro⟨a,b⟩
     have t:=(next _ a (-e.2.1) tO).1 (by rw[p2];exact tT.1.1);rw[p2] at t;refine⟨t.1,?_⟩;have:=qBa (x:= -e.2.1) tO b (by rw[t.2.1];exact t.2.2)
     rwa [t.2.1] at this
   rw[xU,show u+1-1=u by omega] at dp;rw[qBA.2 ((qED _ _ _).2 dp.2)] at hb;cases hb
 unfold qS;rw[M5,gr,decide_eq_true BH,decide_eq_true rfl];rfl
theorem qCV {g:GrD} (hg:grB g=true):qS (qCU g)=true:=by
 have h1:=qFZ (qKD hg);exact qOA h1 (qJz (qKD hg))
theorem qAQ {g:GrD} (h:qS g=true):qO g=true:=by
 unfold qS at h;simp only[zaJ] at h;exact h.1.1
theorem qLK {g:GrD} (hg:grB g=true) {e:EdD} (he:e∈g.2.2) (h1:e.1∈canO g) (h2:e.2.2∈canO g): ∀x∈basW g e,-3<=x/\x<=3:=fun y hy=>by
 unfold basW at hy;rcases zai.1 hy with hy | hy
 ·rcases zai.1 hy with hy | hy
  ·exact qFi hg h1 y hy
  ·rw[zae.1 hy];have:=(qM hg he).2.1
   have:=(qD hg).1
   omega
 ·have:=qFi hg h2 _ (qCj hy)
  omega
theorem qIh {es:List EdD} {u:Int}: ∀(w:List Int) (v:Int),(∀x∈w,-3<=x/\x<=3)->Conn es u v->0<=qQ es v w->Conn es u (qQ es v w)
 | [],_,_,h,_=>h
 | x::w,v,hx,h,h0=>by
   rw[qV] at h0⊢;split at h0
   ·exact absurd h0 tD
   ·rename_i hn
    rw[Wn hn];exact qIh w _ (fun y hy=>hx y (by simp[hy])) (qBa (hx x tZ) h tO) h0
theorem qPo {α:Type} (f:α->Nat): ∀(l:List α),l≠ []-> ∃x∈l,∀y∈l,f y<=f x
 | [x],_=>⟨x,tZ,fun y hy=>by rw[zae.1 hy];exact zad _⟩
 | x::y::l,_=>by
   obtain⟨z,hz,hm⟩:=qPo f (y::l) tZ;by_cases h:f z<=f x
   ·refine⟨x,tZ,fun t ht=> ?_⟩;rcases zat.1 ht with rfl | ht
    ·exact zad _
    ·exact zay (hm t ht) h
   ·refine⟨z,by simp[hz],fun t ht=> ?_⟩;rcases zat.1 ht with rfl | ht
    ·omega
    ·exact hm t ht
theorem Sub.mov {g:GrD} (hf:qO g=true) {u:Nat} (hu:(u:Int)<g.2.1) (hc:Conn g.2.2 0 u): ∃s,Sub (movG g u) g s/\s 0=u:=by
 obtain⟨hg,aX⟩:=qE hf;have ar:=(qD hg).2.1;have af:=qIK (n:=g.2.1.toNat) (u:=u) tO;rw[show((g.2.1.toNat:Nat):Int)=g.2.1 by omega] at af;have hz:ov (movO g.2.1.toNat u) 0=u:=rfl;have s1:=Sub.rn hf af (by rw[hz];exact hc) (by
  intro v hv hc l w hl lC hn h0 hm;refine absurd ?_ hm;unfold movO;rcases qR hg v l with e | ⟨e1,e2⟩
  ·omega
  ·by_cases hx:qF g.2.2 v l=u
   ·rw[hx];simp
   ·exact zat.2 (.inr (qBp.2 ⟨⟨e1,tO⟩,hx⟩)))
 have db:=qCr hf af;obtain⟨s,hs,bQ⟩:=Sub.core db;obtain⟨ga,fa⟩:=qE db;obtain⟨gb,fb⟩:=qE (qAQ (qCV ga));exact⟨_,hs.trans s1 gb fb ga fa hg,by rw[bQ,hz]⟩
theorem qHH {g:GrD} (hf:qO g=true) {u:Nat} (hu:(u:Int)<g.2.1):qS (movG g u)=true:=by
 obtain⟨hg,aX⟩:=qE hf;have af:=qIK (n:=g.2.1.toNat) (u:=u) tO;have ar:=(qD hg).2.1;rw[show((g.2.1.toNat:Nat):Int)=g.2.1 by omega] at af;exact qCV (qE (qCr hf af)).1
theorem qNX (v x:Int):qF [] v x= -1:=rfl
structure GBx (w:Wg) (p base:Nat) (A:Option Addr) (c:Nat) (g:GrD):Prop where
 c0:w.cell? ⟨p,0,none⟩=some (.int .i64 g.1)
 c1:w.cell? ⟨p,1,none⟩=some (.int .i64 g.2.1)
 c2:w.cell? ⟨p,2,none⟩=some (.slice A g.2.2.length c)
 fz: ∀j,w.frozen? ⟨p,j,none⟩=false
 ow:OwE w base (.slice A g.2.2.length c) g.2.2
 ne: ∀b,(zau A g.2.2.length c).ownBlock=some b->b≠p
 i1:I64 g.1
 i2:I64 g.2.1
 lt:p<w.heap.size
theorem GBx.cs {w:Wg} {p base:Nat} {A:Option Addr} {c:Nat} {g:GrD} (h:GBx w p base A c g):w.cell? ⟨p,0,none⟩=some (.int .i64 g.1)/\w.cell? ⟨p,1,none⟩=some (.int .i64 g.2.1)/\w.cell? ⟨p,2,none⟩=some (.slice A g.2.2.length c):=⟨h.c0,h.c1,h.c2⟩
theorem GBx.below {w w':Wg} {p base:Nat} {A:Option Addr} {c:Nat} {g:GrD} (h:GBx w p base A c g) (hb:Wf w w w'):GBx w' p base A c g:=
 ⟨(hb.cell (p:=⟨p,0,none⟩) h.lt).trans h.c0,(hb.cell (p:=⟨p,1,none⟩) h.lt).trans h.c1,(hb.cell (p:=⟨p,2,none⟩) h.lt).trans h.c2,fun j=>(hb.frozen (p:=⟨p,j,none⟩) h.lt).trans (h.fz j),h.ow.below hb,h.ne,h.i1,h.i2,zaA h.lt hb.size⟩
theorem GBx.keep {w w':Wg} {p base:Nat} {A:Option Addr} {c:Nat} {g:GrD} (h:GBx w p base A c g) (hs:w.heap.size<=w'.heap.size) (hk: ∀b,b=p\/(zau A g.2.2.length c).ownBlock=some b->w'.heap[b]? =w.heap[b]?):GBx w' p base A c g:=by
 have hp:=hk p (.inl rfl);exact⟨(zag (w:=w) hp).trans h.c0,(zag (w:=w) hp).trans h.c1,(zag (w:=w) hp).trans h.c2,fun j=>(za1 (w:=w) hp).trans (h.fz j),h.ow.keep fun b hb=>hk b (.inr hb),h.ne,h.i1,h.i2,zaA h.lt hs⟩
theorem GBx.grown {w w':Wg} {p base:Nat} {A:Option Addr} {c:Nat} {g:GrD} {row:Option Nat} (h:GBx w p base A c g) (hg:w.grownBy w' row) (h1: ∀b,row=some b->b≠p/\(zau A g.2.2.length c).ownBlock≠some b):GBx w' p base A c g:=by
 refine h.keep hg.size fun b hb=> ?_;have ac:b<w.heap.size:=by
  rcases hb with rfl | hb
  ·exact h.lt
  ·exact(h.ow.1.lt b hb).2
 refine hg.block b ac fun e=> ?_;have:=h1 b e.symm
 rcases hb with rfl | hb
 ·exact this.1 rfl
 ·exact this.2 hb
theorem GBx.arg {w:Wg} {p base:Nat} {A:Option Addr} {c:Nat} {g:GrD} (h:GBx w p base A c g):ArgG w (.agg #[.int .i64 g.1, .int .i64 g.2.1, .slice A g.2.2.length c]) g:=⟨_,rfl,h.i1,h.i2,h.ow.arg⟩
theorem OwI.keepB {w w':Wg} {base:Nat} {s:Wh} {xs:List Int} (h:OwI w base s xs) (hb: ∀b,s.ownBlock=some b->w'.heap[b]? =w.heap[b]?):OwI w' base s xs:=by
 refine⟨⟨h.1.1,?_⟩,h.2⟩;rcases h.1.2 with h0 | ⟨g,cap,cur,hv,hg,hh,r⟩
 ·exact .inl h0
 ·exact .inr ⟨g,cap,cur,hv,hg,by rw[hb g (by rw[hv];rfl)];exact hh,r⟩
theorem GBx.set {w:Wg} {p base base':Nat} {A A':Option Addr} {c c':Nat} {g m:GrD} (h:GBx w p base A c g) (o:OwE w base' (.slice A' m.2.2.length c') m.2.2) (hn: ∀b,(zau A' m.2.2.length c').ownBlock=some b->b≠p) (h1:I64 m.1) (h2:I64 m.2.1):
  GBx (((w.setCell ⟨p,0,none⟩ (.int .i64 m.1)).setCell ⟨p,1,none⟩ (.int .i64 m.2.1)).setCell ⟨p,2,none⟩ (.slice A' m.2.2.length c')) p base' A' c' m:=by
 obtain⟨e0,e1,e2⟩:=qo (.int .i64 m.1) (.int .i64 m.2.1) (.slice A' m.2.2.length c') h.c0 h.c1 h.c2;refine⟨e0,e1,e2,fun j=>by rw[zah,zah,zah];exact h.fz j,?_,hn,h1,h2,by simpa using h.lt⟩;refine o.keep fun b hb=> ?_;have:=hn b hb
 rw[zab _ _ _ b this,zab _ _ _ b this,zab _ _ _ b this]
structure CBx (w:Wg) (p:Nat) (x y z:Wh):Prop where
 c0:w.cell? ⟨p,0,none⟩=some x
 c1:w.cell? ⟨p,1,none⟩=some y
 c2:w.cell? ⟨p,2,none⟩=some z
 fz: ∀j,w.frozen? ⟨p,j,none⟩=false
 lt:p<w.heap.size
theorem CBx.cs {w:Wg} {p:Nat} {x y z:Wh} (h:CBx w p x y z):w.cell? ⟨p,0,none⟩=some x/\w.cell? ⟨p,1,none⟩=some y/\w.cell? ⟨p,2,none⟩=some z:=⟨h.c0,h.c1,h.c2⟩
theorem CBx.below {w w':Wg} {p:Nat} {x y z:Wh} (h:CBx w p x y z) (hb:Wf w w w'):CBx w' p x y z:=
 ⟨(hb.cell (p:=⟨p,0,none⟩) h.lt).trans h.c0,(hb.cell (p:=⟨p,1,none⟩) h.lt).trans h.c1,(hb.cell (p:=⟨p,2,none⟩) h.lt).trans h.c2,fun j=>(hb.frozen (p:=⟨p,j,none⟩) h.lt).trans (h.fz j),zaA h.lt hb.size⟩
theorem CBx.belowAt {w w':Wg} {p n:Nat} {x y z:Wh} (h:CBx w p x y z) (hb:Wf n w w') (hn:p<n):CBx w' p x y z:=
 ⟨(hb.cell (p:=⟨p,0,none⟩) hn).trans h.c0,(hb.cell (p:=⟨p,1,none⟩) hn).trans h.c1,(hb.cell (p:=⟨p,2,none⟩) hn).trans h.c2,fun j=>(hb.frozen (p:=⟨p,j,none⟩) hn).trans (h.fz j),zaA h.lt hb.size⟩
theorem CBx.other {w:Wg} {p q:Nat} {x y z a b c:Wh} (h:CBx w p x y z) (ai:p≠q):CBx (((w.setCell ⟨q,0,none⟩ a).setCell ⟨q,1,none⟩ b).setCell ⟨q,2,none⟩ c) p x y z:=by
 have hp:(((w.setCell ⟨q,0,none⟩ a).setCell ⟨q,1,none⟩ b).setCell ⟨q,2,none⟩ c).heap[p]? =w.heap[p]? :=by
  rw[zab _ _ _ p ai,zab _ _ _ p ai,zab _ _ _ p ai]
 exact⟨(zag (w:=w) hp).trans h.c0,(zag (w:=w) hp).trans h.c1,(zag (w:=w) hp).trans h.c2,fun j=>(za1 (w:=w) hp).trans (h.fz j),by simpa using h.lt⟩
theorem CBx.set {w:Wg} {p base':Nat} {x y z:Wh} {A':Option Addr} {c':Nat} {m:GrD} (h:CBx w p x y z) (o:OwE w base' (.slice A' m.2.2.length c') m.2.2) (hn: ∀b,(zau A' m.2.2.length c').ownBlock=some b->b≠p) (h1:I64 m.1) (h2:I64 m.2.1):
  GBx (((w.setCell ⟨p,0,none⟩ (.int .i64 m.1)).setCell ⟨p,1,none⟩ (.int .i64 m.2.1)).setCell ⟨p,2,none⟩ (.slice A' m.2.2.length c')) p base' A' c' m:=by
 obtain⟨e0,e1,e2⟩:=qo (.int .i64 m.1) (.int .i64 m.2.1) (.slice A' m.2.2.length c') h.c0 h.c1 h.c2;refine⟨e0,e1,e2,fun j=>by rw[zah,zah,zah];exact h.fz j,?_,hn,h1,h2,by simpa using h.lt⟩;refine o.keep fun b hb=> ?_;have:=hn b hb
 rw[zab _ _ _ b this,zab _ _ _ b this,zab _ _ _ b this]
theorem CBx.new {w W:Wg} {x y z:Wh} {t:TypeId} (hW:W=w.alloc (.cells #[x,y,z] t)):CBx W w x y z/\Wf w w W/\W.heap.size=w.heap.size+1:=by
 refine⟨⟨by rw[hW];simp[go_sem],by rw[hW];simp[go_sem],by rw[hW];simp[go_sem],fun j=>by rw[hW];simp[go_sem],by rw[hW];simp⟩,by rw[hW];exact(zan _ _).alloc (zad _) _,by rw[hW];simp⟩
theorem GBx.cbx {w:Wg} {p base:Nat} {A:Option Addr} {c:Nat} {g:GrD} (h:GBx w p base A c g):CBx w p (.int .i64 g.1) (.int .i64 g.2.1) (.slice A g.2.2.length c):=⟨h.c0,h.c1,h.c2,h.fz,h.lt⟩
theorem GBx.belowAt {w w':Wg} {p n base:Nat} {A:Option Addr} {c:Nat} {g:GrD} (h:GBx w p base A c g) (hb:Wf n w w') (hn:p<n) (hr: ∀b,(zau A g.2.2.length c).ownBlock=some b->b<n):GBx w' p base A c g:=by
 have h2:=h.cbx.belowAt hb hn;exact⟨h2.c0,h2.c1,h2.c2,h2.fz,h.ow.keep fun b aL=>hb.block b (hr b aL),h.ne,h.i1,h.i2,h2.lt⟩
theorem qI (w:Wg) (p:Nat) (x y z:Wh) {b:Nat} (h:b≠p):(((w.setCell ⟨p,0,none⟩ x).setCell ⟨p,1,none⟩ y).setCell ⟨p,2,none⟩ z).heap[b]? =w.heap[b]? :=by
 rw[zab _ _ _ b h,zab _ _ _ b h,zab _ _ _ b h]
theorem qH {w0 w:Wg} {n p:Nat} (x y z:Wh) (h:Wf n w0 w) (hp:n<=p):Wf n w0 (((w.setCell ⟨p,0,none⟩ x).setCell ⟨p,1,none⟩ y).setCell ⟨p,2,none⟩ z):=((h.setCell hp _).setCell hp _).setCell hp _
theorem qZ (w:Wg) (p:Nat) (x y z:Wh):(((w.setCell ⟨p,0,none⟩ x).setCell ⟨p,1,none⟩ y).setCell ⟨p,2,none⟩ z).heap.size=w.heap.size:=tZ
theorem GBx.new {w W:Wg} {base:Nat} {A:Option Addr} {c:Nat} {m:GrD} {t:TypeId} (o:OwE w base (.slice A m.2.2.length c) m.2.2) (h1:I64 m.1) (h2:I64 m.2.1) (hW:W=w.alloc (.cells #[.int .i64 m.1, .int .i64 m.2.1, .slice A m.2.2.length c] t)):
  GBx W w base A c m:=by
 have hb:Wf w w W:=by rw[hW];exact(zan _ _).alloc (zad _) _
 exact⟨by rw[hW];simp[go_sem],by rw[hW];simp[go_sem],by rw[hW];simp[go_sem],fun j=>by rw[hW];simp[go_sem],o.below hb,fun b hb=>by have:=(o.1.lt b hb).2;omega,h1,h2,by rw[hW];simp⟩
theorem GBx.mono {w:Wg} {p base base':Nat} {A:Option Addr} {c:Nat} {g:GrD} (h:GBx w p base A c g) (hb:base'<=base):GBx w p base' A c g:=
 ⟨h.c0,h.c1,h.c2,h.fz,h.ow.mono hb,h.ne,h.i1,h.i2,h.lt⟩
theorem qCM {g:GrD} (h:qS g=true):qO g=true:=by
 unfold qS at h;simp only[zaJ] at h;exact h.1.1
def pnx (ea eb:List EdD) (B:Nat) (p:Nat) (x:Int):Option Nat:=
 if 0<=qF ea ((p/B:Nat):Int) x/\0<=qF eb ((p%B:Nat):Int) x then some ((qF ea ((p/B:Nat):Int) x).toNat*B+(qF eb ((p%B:Nat):Int) x).toNat) else none
def pst (ea eb:List EdD) (B:Nat) (p:Nat) (o:List Nat) (x:Int):List Nat:=
 match pnx ea eb B p x with
 | some q=>if q∈o then o else o++ [q]
 | none=>o
def bfsF (ea eb:List EdD) (B:Nat) (ls:List Int):Nat->Nat->List Nat->List Nat
 | 0,_,o=>o
 | f+1,i,o=>match o[i]? with
   | some p=>bfsF ea eb B ls f (i+1) (ls.foldl (pst ea eb B p) o)
   | none=>o
structure Two (a b:GrD) (A B:Nat):Prop where
 ga:grB a=true
 gb:grB b=true
 fa:Fol a.2.2
 fb:Fol b.2.2
 sa:a.2.1=(A:Int)
 sb:b.2.1=(B:Int)
section
variable {a b:GrD} {A B:Nat} {p q:Nat} {x:Int} {o:List Nat} {ls:List Int}
theorem Two.bd (h:Two a b A B):(1<=A/\A<=40)/\(1<=B/\B<=40):=by
 have h1:=(qD h.ga).2.1;have h2:=(qD h.gb).2.1;have h3:=h.sa;have h4:=h.sb;omega
theorem qHk (h:Two a b A B) (hq:pnx a.2.2 b.2.2 B p x=some q):q<A*B:=by
 unfold pnx at hq;split at hq
 ·rename_i hc
  injection hq with hq
  rcases qR h.ga ((p/B:Nat):Int) x with h1 | h1
  ·omega
  rcases qR h.gb ((p%B:Nat):Int) x with h2 | h2
  ·omega
  have h3:=h.sa;have h4:=h.sb;have e1:(qF a.2.2 ((p/B:Nat):Int) x).toNat+1<=A:=tO;have e2:(qF b.2.2 ((p%B:Nat):Int) x).toNat<B:=tO;have:=za7 B e1
  rw[Nat.add_mul,Nat.one_mul] at this;omega
 ·cases hq
theorem qHM (h:Two a b A B) (hq:pnx a.2.2 b.2.2 B p x=some q):((q/B:Nat):Int)=qF a.2.2 ((p/B:Nat):Int) x/\((q%B:Nat):Int)=qF b.2.2 ((p%B:Nat):Int) x:=by
 unfold pnx at hq;split at hq
 ·rename_i hc
  injection hq with hq
  rcases qR h.gb ((p%B:Nat):Int) x with h2 | h2
  ·omega
  have h4:=h.sb;obtain⟨_,hB⟩:=h.bd;have e2:(qF b.2.2 ((p%B:Nat):Int) x).toNat<B:=tO;rw[<-hq];constructor
  ·rw[zaF,zaN tO,zaK e2];omega
  ·rw[zaF,zbk,zbh e2];omega
 ·cases hq
theorem qBT (h:Two a b A B) (hx: -3<=x/\x<=3) (hq:pnx a.2.2 b.2.2 B p x=some q):pnx a.2.2 b.2.2 B q (-x)=some p:=by
 have hp:=qHM h hq;have hc:0<=qF a.2.2 ((p/B:Nat):Int) x/\0<=qF b.2.2 ((p%B:Nat):Int) x:=by
  unfold pnx at hq;split at hq
  ·assumption
  ·cases hq
 unfold pnx;rw[hp.1,hp.2,qAS h.ga h.fa hx hc.1,qAS h.gb h.fb hx hc.2,Wm ⟨zas _,zas _⟩,zaw,zaw];have:=Nat.div_add_mod p B
 rw[zaF] at this;rw[this]
theorem qQO (hy:p∈o) (q:Nat) (x:Int):p∈pst a.2.2 b.2.2 B q o x:=by
 unfold pst;cases pnx a.2.2 b.2.2 B q x with
 | none=>exact hy
 | some z=>
   simp only
   split
   ·exact hy
   ·exact za8 _ hy
theorem qFA (ls:List Int) (q:Nat): ∀(o:List Nat),p∈o->p∈ls.foldl (pst a.2.2 b.2.2 B q) o:=by
 induction ls with
 | nil=>intro o h;exact h
 | cons x ls ih=>intro o h;exact ih _ (qQO h q x)
theorem qHb {i y:Nat} (hi:o[i]? =some y) (q:Nat) (x:Int):(pst a.2.2 b.2.2 B q o x)[i]? =some y:=by
 unfold pst;cases pnx a.2.2 b.2.2 B q x with
 | none=>exact hi
 | some z=>
   simp only
   split
   ·exact hi
   ·rw[zaE (zaa.1 hi).1];exact hi
theorem qAO {i y:Nat} (ls:List Int) (q:Nat): ∀(o:List Nat),o[i]? =some y->(ls.foldl (pst a.2.2 b.2.2 B q) o)[i]? =some y:=by
 induction ls with
 | nil=>intro o h;exact h
 | cons x ls ih=>intro o h;exact ih _ (qHb h q x)
theorem qMX (ls:List Int) (q:Nat): ∀(o:List Nat) (x:Int) (z:Nat),x∈ls->pnx a.2.2 b.2.2 B q x=some z->z∈ls.foldl (pst a.2.2 b.2.2 B q) o:=by
 induction ls with
 | nil=>intro o x z hx;cases hx
 | cons y ls ih=>
   intro o x z hx hz;rcases zat.1 hx with rfl | hx
   ·refine qFA ls q _ ?_;unfold pst;rw[hz];simp only
    split
    ·assumption
    ·simp
   ·exact ih _ x z hx hz
theorem qDb {S:Nat->Prop} (hs: ∀p x q,S p->x∈ls->pnx a.2.2 b.2.2 B p x=some q->S q) {q:Nat} (hq:S q): ∀(l2:List Int) (o:List Nat),(∀x∈l2,x∈ls)->(∀p∈o,S p)-> ∀p∈l2.foldl (pst a.2.2 b.2.2 B q) o,S p:=by
 intro l2;induction l2 with
 | nil=>intro o _ ho;exact ho
 | cons x l2 ih=>
   intro o hl ho;refine ih _ (fun y hy=>hl y (List.mem_cons_of_mem _ hy)) fun p hp=> ?_;unfold pst at hp;cases hz:pnx a.2.2 b.2.2 B q x with
   | none=>rw[hz] at hp;exact ho p hp
   | some z=>
     rw[hz] at hp;simp only at hp
     split at hp
     ·exact ho p hp
     ·rcases zai.1 hp with hp | hp
      ·exact ho p hp
      ·rw[zae.1 hp];exact hs q x z hq (hl x tZ) hz
theorem qEg {S:Nat->Prop} (hs: ∀p x q,S p->x∈ls->pnx a.2.2 b.2.2 B p x=some q->S q): ∀(f i:Nat) (o:List Nat),(∀p∈o,S p)-> ∀p∈bfsF a.2.2 b.2.2 B ls f i o,S p:=by
 intro f;induction f with
 | zero=>intro i o ho;exact ho
 | succ f ih=>
   intro i o ho;unfold bfsF;cases hi:o[i]? with
   | none=>exact ho
   | some p=>exact ih _ _ (qDb hs (ho p (zaq hi)) ls o (fun _ h=>h) ho)
theorem qOJ (h:o.Nodup) (q:Nat) (x:Int):(pst a.2.2 b.2.2 B q o x).Nodup:=by
 unfold pst;cases pnx a.2.2 b.2.2 B q x with
 | none=>exact h
 | some z=>
   simp only
   split
   ·exact h
   ·rename_i hz
    rw[zaT];exact⟨h,tZ,fun y hy z' hz' e=>by rw[zae.1 hz'] at e;exact hz (e▸hy)⟩
theorem qCP (ls:List Int) (q:Nat): ∀(o:List Nat),o.Nodup->(ls.foldl (pst a.2.2 b.2.2 B q) o).Nodup:=by
 induction ls with
 | nil=>intro o h;exact h
 | cons x ls ih=>intro o h;exact ih _ (qOJ h q x)
theorem qNF (ls:List Int): ∀(f i:Nat) (o:List Nat),o.Nodup->(bfsF a.2.2 b.2.2 B ls f i o).Nodup:=by
 intro f;induction f with
 | zero=>intro i o h;exact h
 | succ f ih=>
   intro i o h;unfold bfsF;cases hi:o[i]? with
   | none=>exact h
   | some p=>exact ih _ _ (qCP ls p o h)
theorem qBr {n:Nat} {o:List Nat} (h:o.Nodup) (hl: ∀p∈o,p<n):o.length<=n:=by
 have h1:(o.map fun v=>((v:Nat):Int)).Nodup:=by
  unfold List.Nodup at*;rw[zbd];exact h.imp fun gq e=>gq tO
 have:=qBM n (o.map fun v=>((v:Nat):Int)) h1 fun y hy=>by
  obtain⟨v,hv,rfl⟩:=List.mem_map.1 hy;have:=hl v hv
  omega
 simpa using this
theorem qLi (h:Two a b A B) (hx: ∀x∈ls,-3<=x/\x<=3): ∀(f i:Nat) (o:List Nat),o.Nodup->(∀p∈o,p<A*B)->i+f=A*B+1->i<=o.length->
  (∀(j:Nat) (p:Nat),j<i->o[j]? =some p-> ∀x q,x∈ls->pnx a.2.2 b.2.2 B p x=some q->q∈o)->
  ∀p∈bfsF a.2.2 b.2.2 B ls f i o,∀x q,x∈ls->pnx a.2.2 b.2.2 B p x=some q->q∈bfsF a.2.2 b.2.2 B ls f i o:=by
 intro f;induction f with
 | zero=>
   intro i o hn hl hf hi _;have:=qBr hn hl
   omega
 | succ f ih=>
   intro i o hn hl hf hi hc;unfold bfsF;cases ho:o[i]? with
   | none=>
     simp only
     intro p hp x q hx hq;obtain⟨j,hj⟩:=List.mem_iff_getElem?.1 hp;refine hc j p ?_ hj x q hx hq;have h1:=(zaa.1 hj).1;have h2:=List.getElem?_eq_none_iff.1 ho;omega
   | some p=>
     simp only
     have aM:i<o.length:=(zaa.1 ho).1;have C7: ∀y,y∈o->y∈ls.foldl (pst a.2.2 b.2.2 B p) o:=fun y hy=>qFA ls p o hy;have aj:o.length<=(ls.foldl (pst a.2.2 b.2.2 B p) o).length:=by
      have hk:o[o.length-1]? =some (o[o.length-1]'tO):=zac tO;have:=(zaa.1 (qAO (a:=a) (b:=b) (B:=B) ls p o hk)).1
      omega
     refine ih (i+1) _ (qCP ls p o hn) ?_ tO tO ?_
     ·exact qDb (S:=fun q=>q<A*B) (fun p x q _ _ hq=>qHk h hq) (hl p (zaq ho)) ls o (fun _ h=>h) hl
     ·intro j p' hj hp' x q ei hq;rcases Nat.lt_or_ge j i with h1 | h1
      ·have h2:o[j]? =some (o[j]'tO):=zac tO;have h3:=qAO (a:=a) (b:=b) (B:=B) ls p o h2;rw[hp'] at h3;injection h3 with h3
       exact C7 q (hc j p' h1 (by rw[h2,<-h3]) x q ei hq)
      ·obtain rfl:j=i:=tO
       have h3:=qAO (a:=a) (b:=b) (B:=B) ls p o ho;rw[hp'] at h3;injection h3 with h3
       subst h3;exact qMX ls p' o x q ei hq
def prsL (a b:GrD) (A B:Nat) (ls:List Int) (p:Nat):List Nat:=bfsF a.2.2 b.2.2 B ls (A*B+1) 0 [p]
theorem qBC (h:Two a b A B) (hx: ∀x∈ls,-3<=x/\x<=3) (hp:p<A*B): ∀q∈prsL a b A B ls p,∀x z,x∈ls->pnx a.2.2 b.2.2 B q x=some z->z∈prsL a b A B ls p:=
 qLi h hx (A*B+1) 0 [p] tZ (fun q hq=>by rw[zae.1 hq];exact hp) tO tO (fun j _ hj=>tO)
theorem qHC (h:Two a b A B) (hp:p<A*B): ∀q∈prsL a b A B ls p,q<A*B:=
 qEg (S:=fun q=>q<A*B) (fun _ _ _ _ _ hq=>qHk h hq) _ _ _ fun q hq=>by rw[zae.1 hq];exact hp
theorem qCL (ls:List Int):(prsL a b A B ls p).Nodup:=qNF ls _ _ _ tZ
theorem qCI (h:Two a b A B):p∈prsL a b A B ls p:=by
 have: ∀(f i:Nat) (o:List Nat),p∈o->p∈bfsF a.2.2 b.2.2 B ls f i o:=by
  intro f;induction f with
  | zero=>intro i o ho;exact ho
  | succ f ih=>
    intro i o ho;unfold bfsF;cases o[i]? with
    | none=>exact ho
    | some q=>exact ih _ _ (qFA ls q o ho)
 exact this _ _ _ tZ
theorem qMy (h:Two a b A B) (hx: ∀x∈ls,(-3<=x/\x<=3)/\ -x∈ls) {M:List Nat} (hM: ∀q∈M,∀x z,x∈ls->pnx a.2.2 b.2.2 B q x=some z->z∈M) (hp:p∉M): ∀q∈prsL a b A B ls p,q∉M:=
 qEg (S:=fun q=>q∉M) (fun q x z hq ei hz hzM=>hq (hM z hzM (-x) q (hx x ei).2 (qBT h (hx x ei).1 hz))) _ _ _ fun q hq=>by rw[zae.1 hq];exact hp
def edgN (ea eb:List EdD) (B r:Nat) (p:Nat):Nat:=((zao r).filter fun (i:Nat)=>(pnx ea eb B p ((i:Int)+1)).isSome).length
def edgL (ea eb:List EdD) (B r:Nat) (o:List Nat):Nat:=(o.map (edgN ea eb B r)).sum
def prk (a b:GrD) (A B r:Nat) (p:Nat):Int:=(edgL a.2.2 b.2.2 B r (prsL a b A B (qB r) p):Int)-(prsL a b A B (qB r) p).length+1
def cst (a b:GrD) (A B r:Nat) (s:List Nat×List Int) (i:Nat):List Nat×List Int:=
 if i∈s.1 then s else(s.1++prsL a b A B (qB r) i,s.2++ [prk a b A B r i])
def qCZ (a b:GrD) (A B r k:Nat):List Nat×List Int:=(zao k).foldl (cst a b A B r) ([],[])
theorem qEA (a b:GrD) (A B r k:Nat):qCZ a b A B r (k+1)=cst a b A B r (qCZ a b A B r k) k:=by
 unfold qCZ;rw[zaO,zaU];rfl
theorem qAT {r:Nat} (hr:r<=3): ∀x∈qB r,(-3<=x/\x<=3)/\ -x∈qB r:=fun x hx=>by
 rw[qw] at*;omega
theorem qDi (h:Two a b A B) {r:Nat} (hr:r<=3): ∀k,k<=A*B->(∀q∈(qCZ a b A B r k).1,q<A*B)/\ ∀q∈(qCZ a b A B r k).1,∀x z,x∈qB r->pnx a.2.2 b.2.2 B q x=some z->z∈(qCZ a b A B r k).1:=by
 intro k;induction k with
 | zero=>intro _;exact⟨fun q hq=>absurd hq (by simp[qCZ]),fun q hq=>absurd hq (by simp[qCZ])⟩
 | succ k ih=>
   intro hk;obtain⟨i1,i2⟩:=ih tO;rw[qEA];unfold cst;split
   ·exact⟨i1,i2⟩
   ·refine⟨fun q hq=> ?_,fun q hq x z hx hz=> ?_⟩
    ·rcases zai.1 hq with hq | hq
     ·exact i1 q hq
     ·exact qHC h tO q hq
    ·rcases zai.1 hq with hq | hq
     ·exact za8 _ (i2 q hq x z hx hz)
     ·exact List.mem_append_right _ (qBC h (fun x hx=>(qAT hr x hx).1) tO q hq x z hx hz)
end
def ns (o:List Nat):List Int:=o.map fun v=>((v:Nat):Int)
theorem qBg (o:List Nat):(ns o).length=o.length:=by simp[ns]
theorem qJk (o:List Nat) (k:Nat) (h:k<o.length):(ns o)[k]'(by rw[qBg];exact h)=((o[k]:Nat):Int):=by simp[ns]
theorem qPz (o:List Nat) (q:Nat):ns (o++ [q])=ns o++ [(q:Int)]:=by simp[ns]
def qCY (n:Nat) (o:List Nat):List Bool:=(zao n).map fun q=>decide (q∈o)
theorem qAk (n:Nat) (o:List Nat):(qCY n o).length=n:=by simp[qCY]
theorem qDa (n:Nat) (o:List Nat) (q:Nat) (h:q<n):(qCY n o)[q]'(by rw[qAk];exact h)=decide (q∈o):=by simp[qCY]
theorem qHP (n:Nat):qCY n []=za6 n false:=by
 refine zaI (by simp[qCY]) fun i h1 h2=> ?_;rw[List.getElem_replicate];simp[qCY]
theorem qFC (n:Nat) (o:List Nat) (q:Nat):(qCY n o).set q true=qCY n (o++ [q]):=by
 refine zaI (by simp[qCY]) fun i h1 h2=> ?_;rw[zbi];have hi:i<n:=by simpa[qCY] using h2
 have e1:=qDa n o i hi;have e2:=qDa n (o++ [q]) i hi;rw[e2];by_cases h:q=i
 ·subst h;simp
 ·rw[Wn h,e1];simp[Ne.symm h]
theorem remB (p B:Nat):Int.tmod (p:Int) (B:Int)=((p%B:Nat):Int):=by
 rw[Int.tmod_eq_emod_of_nonneg (zas _)];rfl
theorem qCd (va vb:Wh) (a b:GrD) (A B r p0 u0 v0:Nat) (w:Wg) (ha:ArgG w va a) (hb:ArgG w vb b) (h2:Two a b A B) (eY:a.1=(r:Int)) (fc:b.1=(r:Int)) (n9:p0<A*B) (pr:p0=u0*B+v0):
  Wk Tryz.prog 106 #[va,vb, .int .i64 u0, .int .i64 v0] w fun e w'=> ∃s,e= .returned s/\OwI w' w s (ns (prsL a b A B (qB r) p0))/\Wf w w w':=by
 have H2:=qA h2;have cJ:=qA ha;have aS:=qA hb;have ONEA:=qA (qAH h2.fa);have ONEB:=qA (qAH h2.fb);obtain⟨⟨pP,fk⟩,EA,rq⟩:=h2.bd;have bT:r<=3/\1<=r:=by have:=(qD h2.ga).1;omega
 obtain⟨n,hn⟩: ∃n,n=A*B:=⟨_,rfl⟩;have eX:n<=1600:=by rw[hn];exact zaG fk rq
 have KV:Wi (prsL a b A B (qB r) p0=bfsF a.2.2 b.2.2 B (qB r) (n+1) 0 [p0]):=qA (by rw[hn];rfl);have nS:Wi (∀(ls:List Int) (p:Nat) (o:List Nat),p<n->(∀q∈o,q<n)-> ∀q∈ls.foldl (pst a.2.2 b.2.2 B p) o,q<n):=qA fun ls p o hp ho=>by
  rw[hn] at*;exact qDb (S:=fun q=>q<A*B) (fun p x q _ _ hq=>qHk h2 hq) hp ls o (fun _ h=>h) ho
 have pA:Wi (∀p x q,pnx a.2.2 b.2.2 B p x=some q->q<n):=qA fun p x q hq=>by rw[hn];exact qHk h2 hq
 have NVA:Wi (∀u x,qF a.2.2 u x= -1\/(0<=qF a.2.2 u x/\qF a.2.2 u x<40)):=qA fun u x=>by
  rcases qR h2.ga u x with e | e
  ·exact .inl e
  ·have:=h2.sa;exact .inr ⟨e.1,tO⟩
 have NVB:Wi (∀u x,qF b.2.2 u x= -1\/(0<=qF b.2.2 u x/\qF b.2.2 u x<40)):=qA fun u x=>by
  rcases qR h2.gb u x with e | e
  ·exact .inl e
  ·have:=h2.sb;exact .inr ⟨e.1,tO⟩
 have yA:p0<n:=tO;have dH:=qAX r;have dX:Wi (∀W:Wg,Wk Tryz.prog 85 #[.int .i64 r] W fun e w'=> ∃s,e= .returned s/\OwI w' W.heap.size s (qB r)/\Wf W.heap.size W w'):=qA fun W=>qCG r W tO;generalize prsL a b A B (qB r) p0=PR at*;generalize qB r=ls at*;have sa:=h2.sa;have sb:=h2.sb;obtain⟨Aa,capa,rfl⟩: ∃A' cap,va= .agg #[.int .i64 r, .int .i64 A, .slice A' a.2.2.length cap]:=by
  obtain⟨s,hv,_,_,ha⟩:=cJ.o;obtain⟨A',cap,rfl⟩:=ha.form;exact⟨A',cap,by rw[hv,eY,sa]⟩
 obtain⟨Ab,capb,rfl⟩: ∃A' cap,vb= .agg #[.int .i64 r, .int .i64 B, .slice A' b.2.2.length cap]:=by
  obtain⟨s,hv,_,_,ha⟩:=aS.o;obtain⟨A',cap,rfl⟩:=ha.form;exact⟨A',cap,by rw[hv,fc,sb]⟩
 have BI:IntKind.i64.wrap ((A:Int)*(B:Int))=(n:Int):=by
  have e:(A:Int)*(B:Int)=(n:Int):=by rw[hn];simp
  rw[e,IntKind.wrap_i64];omega
 have HN:=qA hn;have NJ:(u0:Int)*(B:Int)+(v0:Int)=(p0:Int):=by rw[pr];simp
 have UC:IntKind.i64.wrap ((u0:Int)*(B:Int))=(u0:Int)*(B:Int):=by
  have:(0:Int)<=(u0:Int)*(B:Int):=zbn (zas _) (zas _)
  rw[IntKind.wrap_i64];omega
 have QE:IntKind.i64.wrap ((u0:Int)*(B:Int)+(v0:Int))=(p0:Int):=by rw[NJ,IntKind.wrap_i64];omega
 clear pr NJ;have fB:=qA dH;clear ha hb h2 eY fc n9 sa sb hn dH;go_enter Tryz.func106,Tryz.ntmps106
 obtain⟨i0,ci,cB,bi,bQ⟩:=info_parts qDl;go_wp2_with (at_make;refine wpList_make_full _ rfl _ _ 64 rfl (w.heap.size+1+1) 4 i0 (.bool false) 1 Tryz.underlying64 ci cB bi _ _ _ _ n rfl rfl rfl rfl (by rw[bQ];omega) (by unfold maxLen;omega) tZ ?_)
 have bx:Wf w w ((w.alloc (.cells #[.int .i64 r,.int .i64 A, .slice Aa a.2.2.length capa] 26)).alloc (.cells #[.int .i64 r,.int .i64 B, .slice Ab b.2.2.length capb] 26)):=(by repeat(first | exact .refl _ _ | (refine BxS ?_ _) | (refine qC ?_ _) | (refine Below.drew ?_) | (refine BxA ?_ _)));obtain⟨W0,ah⟩: ∃W,W=(w.alloc (.cells #[.int .i64 r,.int .i64 A, .slice Aa a.2.2.length capa] 26)).alloc (.cells #[.int .i64 r,.int .i64 B, .slice Ab b.2.2.length capb] 26):=⟨_,rfl⟩;rw[<-ah] at bx⊢;have aH:W0.heap.size=w.heap.size+1+1:=by rw[ah];simp
 have A0:Wi (W0.cell? ⟨w,0,none⟩=some (.int .i64 r)):=qA (by rw[ah];simp[go_sem]);have A1:Wi (W0.cell? ⟨w,1,none⟩=some (.int .i64 A)):=qA (by rw[ah];simp[go_sem]);have A2:Wi (W0.cell? ⟨w,2,none⟩=some (.slice Aa a.2.2.length capa)):=qA (by rw[ah];simp[go_sem]);have B0:Wi (W0.cell? ⟨w.heap.size+1,0,none⟩=some (.int .i64 r)):=qA (by rw[ah];simp[go_sem]);have B1:Wi (W0.cell? ⟨w.heap.size+1,1,none⟩=some (.int .i64 B)):=qA (by rw[ah];simp[go_sem]);have B2:Wi (W0.cell? ⟨w.heap.size+1,2,none⟩=some (.slice Ab b.2.2.length capb)):=qA (by rw[ah];simp[go_sem]);clear ah;rw[<-aH];have bh:w.heap.size<W0.heap.size:=tO;have bk:w.heap.size+1<W0.heap.size:=tO;have BX:=qA bx;have fj:=qA aH;clear bx aH;intro w2 hown0 hgrow0;have bU:OwB w2 W0 (.slice (some ⟨W0,0,none⟩) n n) (qCY n []):=by
  unfold OwB;rw[qAk,qHP];have:qFR (za6 n false)=za6 n (Value.bool false):=by simp[qFR]
  rw[this];simpa[toList_madeCells_one] using hown0
 have rF:W0.heap.size<w2.heap.size:=(bU.lt W0 rfl).2;have DW:Wf W0 W0 w2:=(zan W0 W0).grown hgrow0 (zad _) (fun k h=>by cases h);have q1:=(DW.cell (p:=⟨w.heap.size+1,1,none⟩) bk).trans B1.o;have Be:=qA bU;have Bu:=qA DW;have q0:=(DW.cell (p:=⟨w,0,none⟩) bh).trans A0.o;have Q7:=(DW.cell (p:=⟨w.heap.size+1,0,none⟩) bk).trans B0.o;have fL:=bU.cellAt p0 (by rw[qAk];exact yA);have ry:=bU.free p0;have Rp:(p0:Int)<(n:Int):=tO;have Mz:=qA (bU.set p0 true);have n0: ¬W0.heap.size=w.heap.size:=tO;have n1: ¬W0.heap.size=w.heap.size+1:=tO;have TK:w.heap.size<w2.heap.size:=tO;have PC:w.heap.size+1<w2.heap.size:=tO;clear hown0 bU hgrow0 DW;go_wp2_with fail;have oO:OwI ((w2.setCell ⟨W0,p0,none⟩ (.bool true)).alloc (.cells #[.int .i64 p0] 3)) (W0.heap.size+1) (.slice (some ⟨w2,0,none⟩) 1 1) (ns [p0]):=qAc _ [(p0:Int)] w2 tZ (fun x hx=>by simp at hx;subst hx;exact⟨tO,tO⟩) tZ tO;have oB:OwB ((w2.setCell ⟨W0,p0,none⟩ (.bool true)).alloc (.cells #[.int .i64 p0] 3)) W0 (.slice (some ⟨W0,0,none⟩) n n) (qCY n [p0]):=by
  have h1:=Mz.o.1;rw[qFC] at h1;exact h1.below ((zan _ _).alloc (zad _) _)
 have bS:Wf W0 W0 ((w2.setCell ⟨W0,p0,none⟩ (.bool true)).alloc (.cells #[.int .i64 p0] 3)):=(Bu.o.setCell (p:=⟨W0,p0,none⟩) (by show W0.heap.size<=_;exact zad _) _).alloc (by simp;omega) _;have sS:((w2.setCell ⟨W0,p0,none⟩ (.bool true)).alloc (.cells #[.int .i64 p0] 3)).heap.size=w2.heap.size+1:=tZ;generalize (w2.setCell ⟨W0,p0,none⟩ (.bool true)).alloc (.cells #[.int .i64 p0] 3)=wS at oO oB bS sS⊢;refine(dX wS).mono ?_
 rintro e w3 ⟨rl,rfl,ol,bl⟩;have s3:=bl.size;obtain⟨Al,capl,rfl,aZ,dK,_,fJ⟩:=ol.form;obtain⟨gl,rfl,oI,kn⟩:=fJ (by have:=fB.o;omega);unfold maxLen at dK;have OL:=qA ol.rd;have OO:=qA (oO.below bl);have OB:=qA (oB.below bl);have aB:=qA (bS.trans (bl.mono tO));have Pa:=qA KV.o;clear fJ ol bl oO oB bS q0 Q7 q1 fL ry Mz Be Bu;go_wp2;go_loopw [10,12] (fun out i wo=> ∃(k:Nat) (o:List Nat),k<=o.length/\i= .int .i64 k/\o.Nodup/\(∀q∈o,q<n)/\PR=bfsF a.2.2 b.2.2 B ls (n+1-k) k o/\OwI wo (W0.heap.size+1) out (ns o)/\OwB wo W0 (.slice (some ⟨W0,0,none⟩) n n) (qCY n o)/\RdI wo (.slice (some ⟨gl,0,none⟩) ls.length capl) ls/\out.ownBlock≠some gl/\gl<wo.heap.size/\Wf W0 W0 wo) (fun _ i _=>n+1-(intOf i).toNat)
 case atStart=>exact⟨0,[p0],tZ,rfl,tZ,fun q hq=>by rw[zae.1 hq];exact yA,KV.o,OO.o,OB.o,OL.o,by simp[zap];omega,kn,aB.o⟩
 case round=>
  obtain⟨k,o,hk,rfl,eL,iy,LW,aa,dy,aP,ai,Oz,ab⟩:=hrel;obtain⟨wo,rfl⟩: ∃wo:Wg,wo=wr:=⟨_,rfl⟩;have fe:=qBr eL iy;have mT:=qA eL;have lm:=qA iy;have HP:=qA LW;have gG:=qA dy;have dC:=qA aP;have al:=qA ab;have ar:=ab.size;obtain⟨AJ,ak,rfl,_,_,_,db⟩:=aa.form;rw[qBg] at db aa ai⊢;have HO:=qA aa;have a8:=qA ai;have Nd:gl≠W0.heap.size:=tO;clear eL iy LW dy aP ai ab;by_cases ac:k<o.length
  ·obtain⟨p,hp⟩: ∃p,o[k]? =some p:=⟨o[k],tZ⟩;have lR:o[k]=p:=by rw[zac ac] at hp;injection hp
   have km:p<n:=lm.o p (zaq hp);have kX:Wi (PR=bfsF a.2.2 b.2.2 B ls (n+1-(k+1)) (k+1) (ls.foldl (pst a.2.2 b.2.2 B p) o)):=qA (by
    rw[HP.o,show n+1-k=(n+1-(k+1))+1 by omega];conv=>lhs;unfold bfsF
    rw[hp])
   have eE:Wi (∀m:Nat,((ls.take m).foldl (pst a.2.2 b.2.2 B p) o)[k]? =some p):=qA fun m=>qAO (a:=a) (b:=b) (B:=B) _ p o hp;have gy:Wi (∀(m:Nat) (hm:m<ls.length),(ls.take (m+1)).foldl (pst a.2.2 b.2.2 B p) o=pst a.2.2 b.2.2 B p ((ls.take m).foldl (pst a.2.2 b.2.2 B p) o) ls[m]):=qA fun m hm=>by rw[zam hm,zaU];rfl
   have iL:Wi (∀m:Nat,((ls.take m).foldl (pst a.2.2 b.2.2 B p) o).Nodup):=qA fun m=>qCP (a:=a) (b:=b) (B:=B) _ p o mT.o;have mA:Wi (∀m:Nat,∀q∈(ls.take m).foldl (pst a.2.2 b.2.2 B p) o,q<n):=qA fun m=>nS.o _ p o km lm.o;obtain⟨un,cQ⟩: ∃un,un=p/B:=⟨_,rfl⟩;obtain⟨vn,d6⟩: ∃vn,vn=p%B:=⟨_,rfl⟩;have gF:=qA cQ;have nD:=qA d6;have rH:un<=1600:=by rw[cQ];exact zay (za0 _ _) tO
   have Pc:vn<=1600:=by rw[d6];exact zay (Nat.mod_le _ _) tO
   have gd:wrap64 ((p:Int)/(B:Int))=(un:Int):=by
    have:(p:Int)/(B:Int)=(un:Int):=by rw[cQ];rfl
    rw[this];exact IntWalk.wrap64_in _ ⟨tO,tO⟩
   have iA:(p:Int)%(B:Int)=(vn:Int):=by rw[d6];rfl
   have gn:Wi (∀W,Wf W0 W0 W->ArgG W (.agg #[.int .i64 r, .int .i64 A, .slice Aa a.2.2.length capa]) a):=qA fun W hb=>cJ.o.below (BX.trans (hb.mono tO));have kB:Wi (∀W,Wf W0 W0 W->ArgG W (.agg #[.int .i64 r, .int .i64 B, .slice Ab b.2.2.length capb]) b):=qA fun W hb=>aS.o.below (BX.trans (hb.mono tO));have nA:Wi (∀x W,ArgG W (.agg #[.int .i64 r, .int .i64 A, .slice Aa a.2.2.length capa]) a->_):=qA fun x W h=>qe _ a (un:Int) x W h (ONEA (un:Int) x);have nk:Wi (∀x W,ArgG W (.agg #[.int .i64 r, .int .i64 B, .slice Ab b.2.2.length capb]) b->_):=qA fun x W h=>qe _ b (vn:Int) x W h (ONEB (vn:Int) x);clear hp lR db aa cQ d6;go_wp2;go_loopw [10,13] (fun out j wr=> ∃m:Nat,m<=ls.length/\j= .int .i64 m/\OwI wr (W0.heap.size+1) out (ns ((ls.take m).foldl (pst a.2.2 b.2.2 B p) o))/\OwB wr W0 (.slice (some ⟨W0,0,none⟩) n n) (qCY n ((ls.take m).foldl (pst a.2.2 b.2.2 B p) o))/\RdI wr (.slice (some ⟨gl,0,none⟩) ls.length capl) ls/\out.ownBlock≠some gl/\gl<wr.heap.size/\Wf W0 W0 wr) (fun _ j _=>ls.length-(intOf j).toNat)
   case atStart=>
    exact⟨0,zaB _,rfl,HO,gG,dC,a8,Oz,al⟩
   case round=>
    obtain⟨m,fM,rfl,aa,dy,aP,ai,eJ,a6⟩:=hrel;have xK:=a6.size;have cU:=qA a6;have kg:=(a6.cell (p:=⟨w,0,none⟩) bh).trans A0.o;have kw:=(a6.cell (p:=⟨w,1,none⟩) bh).trans A1.o;have jS:=(a6.cell (p:=⟨w,2,none⟩) bh).trans A2.o;have jG:=(a6.cell (p:=⟨w.heap.size+1,0,none⟩) bk).trans B0.o;have jL:=(a6.cell (p:=⟨w.heap.size+1,1,none⟩) bk).trans B1.o;have ju:=(a6.cell (p:=⟨w.heap.size+1,2,none⟩) bk).trans B2.o;have mL:=qA aP;have dG:=qA ai;have jm:=qA dy;have eZ:=qA aa;have hP:=dy.lt W0 rfl;clear a6 dy;by_cases aj:m<ls.length
    ·have yY:=qBr (iL m) (mA m);have dj:=eE.o m;have HS:=qA (gy m aj);obtain⟨_,_,gD,_,gX⟩:=aP.at tO;obtain⟨rfl,rfl⟩:gl=_/\0=_:=by simpa using gD
     have c0:=gX m aj;rw[zaD] at c0;generalize ls[m]=x at c0 HS;generalize (ls.take m).foldl (pst a.2.2 b.2.2 B p) o=om at*;have eV:k<om.length:=(zaa.1 dj).1;have iR:om[k]=p:=by rw[zac eV] at dj;injection dj
     obtain⟨UV,ao,rfl,_,_,_,db⟩:=aa.form;obtain⟨b2,rfl,wO,kt⟩:=db (by rw[qBg];omega);have d0:=aa.cellAt k (by rw[qBg];exact eV);rw[qJk om k eV,iR] at d0;rw[qBg] at eZ⊢;clear gX gD aa aP db dj iR;go_wp2_with fail;have f0:=BelW.cell kg (show w.heap.size<wr.heap.size by omega);have f1:=BelW.cell kw (show w.heap.size<wr.heap.size by omega);have f2:=BelW.cell jS (show w.heap.size<wr.heap.size by omega);have f3:=BelW.cell jG (show w.heap.size+1<wr.heap.size by omega);have f4:=BelW.cell jL (show w.heap.size+1<wr.heap.size by omega);have f5:=BelW.cell ju (show w.heap.size+1<wr.heap.size by omega);have f6:=BelW.cell c0 eJ;have f7:=BelW.cell d0 kt;(refine qG tK tK ?_;(repeat(go_big_quiet_step (first | (go_at_call 86;exact Calls.bel_of (nA x _ (gn _ (cU.trans ((BelW.h _).mono tO))))))));refine wpQuiet_nil ?_;intro wq hw';obtain⟨pq,ae⟩:=hw';have bq:=pq.h;rw[<-ae] at bq;clear ae pq)
     clear f0 f1 f2 f3 f4 f5 f6 f7;have sq:=bq.size;have HQ:=qA (cU.trans (bq.mono tO));have ff:=qA (eZ.below bq);have jA:=qA (mL.below bq);have gY:=qA (jm.below bq);have k0:=(bq.cell (p:=⟨w,0,none⟩) (show w.heap.size<wr.heap.size by omega)).trans kg;have k1:=(bq.cell (p:=⟨w,1,none⟩) (show w.heap.size<wr.heap.size by omega)).trans kw;have k2:=(bq.cell (p:=⟨w,2,none⟩) (show w.heap.size<wr.heap.size by omega)).trans jS;have k3:=(bq.cell (p:=⟨w.heap.size+1,0,none⟩) (show w.heap.size+1<wr.heap.size by omega)).trans jG;have k4:=(bq.cell (p:=⟨w.heap.size+1,1,none⟩) (show w.heap.size+1<wr.heap.size by omega)).trans jL;have k5:=(bq.cell (p:=⟨w.heap.size+1,2,none⟩) (show w.heap.size+1<wr.heap.size by omega)).trans ju;have c1:=(bq.cell (p:=⟨gl,m,none⟩) eJ).trans c0;have d1:=(bq.cell (p:=⟨b2,k,none⟩) kt).trans d0;clear bq kg kw jS jG jL ju c0 d0;go_wp2_with fail;have f0:=BelW.cell k0 (show w.heap.size<wq.heap.size by omega);have f1:=BelW.cell k1 (show w.heap.size<wq.heap.size by omega);have f2:=BelW.cell k2 (show w.heap.size<wq.heap.size by omega);have f3:=BelW.cell k3 (show w.heap.size+1<wq.heap.size by omega);have f4:=BelW.cell k4 (show w.heap.size+1<wq.heap.size by omega);have f5:=BelW.cell k5 (show w.heap.size+1<wq.heap.size by omega);have f6:=BelW.cell c1 (show gl<wq.heap.size by omega);have f7:=BelW.cell d1 (show b2<wq.heap.size by omega);(refine qG tK tK ?_;(repeat(go_big_quiet_step (first | (go_at_call 86;exact Calls.bel_of (nk x _ (kB _ (HQ.trans ((BelW.h _).mono tO))))))));refine wpQuiet_nil ?_;intro wz hw';obtain⟨pq,ae⟩:=hw';have bz:=pq.h;rw[<-ae] at bz;clear ae pq)
     clear f0 f1 f2 f3 f4 f5 f6 f7;have sz:=bz.size;have HZ:=qA (HQ.trans (bz.mono tO));have xl:=qA (ff.below bz);have xM:=qA (jA.below bz);have lH:=qA (gY.below bz);have j4:=(bz.cell (p:=⟨w.heap.size+1,1,none⟩) (show w.heap.size+1<wq.heap.size by omega)).trans k4;clear bz k0 k1 k2 k3 k4 k5 c1 d1;have NA:=qA (NVA un x);have NB:=qA (NVB vn x);have PX:Wi (pst a.2.2 b.2.2 B p om x=if 0<=qF a.2.2 un x/\0<=qF b.2.2 vn x then(if(qF a.2.2 un x).toNat*B+(qF b.2.2 vn x).toNat∈om then om else om++ [(qF a.2.2 un x).toNat*B+(qF b.2.2 vn x).toNat]) else om):=qA (by
      unfold pst pnx;rw[<-gF.o,<-nD.o];split
      ·rename_i z hz
       split at hz
       ·rename_i hc
        rw[Wm hc];injection hz with hz
        rw[hz]
       ·cases hz
      ·rename_i hz
       split at hz
       ·cases hz
       ·rename_i hc
        rw[Wn hc])
     have PN:Wi (0<=qF a.2.2 un x/\0<=qF b.2.2 vn x->(qF a.2.2 un x).toNat*B+(qF b.2.2 vn x).toNat<n):=qA fun hc=>by
      refine pA.o p x _ ?_;unfold pnx;rw[<-gF.o,<-nD.o,Wm hc]
     generalize qF a.2.2 un x=y1 at*;generalize qF b.2.2 vn x=y2 at*;rcases NA.o with hy | hy
     ·subst hy;have F:Wi (pst a.2.2 b.2.2 B p om x=om):=qA (by rw[PX.o,Wn tO]);go_wp2;go_roundw;exact⟨m+1,tO,by go_num,by rw[HS.o,F.o];exact xl.o,by rw[HS.o,F.o];exact lH.o,xM.o,dG.o,tO,HZ.o⟩;exact tM
     rcases NB.o with hz | hz
     ·subst hz;have eK:(0:Int)<=y1:=hy.1;have F:Wi (pst a.2.2 b.2.2 B p om x=om):=qA (by rw[PX.o,Wn tO]);go_wp2;go_roundw;exact⟨m+1,tO,by go_num,by rw[HS.o,F.o];exact xl.o,by rw[HS.o,F.o];exact lH.o,xM.o,dG.o,tO,HZ.o⟩;exact tM
     obtain⟨s1,rfl⟩: ∃s1:Nat,y1=(s1:Int):=⟨y1.toNat,tO⟩;obtain⟨t1,rfl⟩: ∃t1:Nat,y2=(t1:Int):=⟨y2.toNat,tO⟩;simp only[zaw] at PX PN;have jE:=PN.o ⟨hy.1,hz.1⟩;have PY:Wi (pst a.2.2 b.2.2 B p om x=if s1*B+t1∈om then om else om++ [s1*B+t1]):=qA (by rw[PX.o,Wm ⟨hy.1,hz.1⟩]);obtain⟨q,hq⟩: ∃q,q=s1*B+t1:=⟨_,rfl⟩;rw[<-hq] at PY jE;have FB:(s1:Int)*(B:Int)+(t1:Int)=(q:Int):=by rw[hq];simp
     have dh:IntKind.i64.wrap ((s1:Int)*(B:Int))=(s1:Int)*(B:Int):=by
      have:(0:Int)<=(s1:Int)*(B:Int):=zbn (zas _) (zas _)
      rw[IntKind.wrap_i64];omega
     have je:IntKind.i64.wrap ((s1:Int)*(B:Int)+(t1:Int))=(q:Int):=by rw[FB,IntKind.wrap_i64];omega
     have cZ:(0:Int)<=(s1:Int):=hy.1;have S7:(0:Int)<=(t1:Int):=hz.1;have Qw:(q:Int)<(n:Int):=tO;have cq:=lH.o.cellAt q (by rw[qAk];exact jE);rw[qDa n om q jE] at cq;have fq:=lH.o.free q;clear PX PN hq FB hy hz NA NB;by_cases dx:q∈om
     ·have F:Wi (pst a.2.2 b.2.2 B p om x=om):=qA (by rw[PY.o,Wm dx]);have hd:decide (q∈om)=true:=by simp[dx]
      rw[hd] at cq;clear dx hd;go_wp2;go_roundw;exact⟨m+1,tO,by go_num,by rw[HS.o,F.o];exact xl.o,by rw[HS.o,F.o];exact lH.o,xM.o,dG.o,tO,HZ.o⟩;exact tM
     ·have F:Wi (pst a.2.2 b.2.2 B p om x=om++ [q]):=qA (by rw[PY.o,Wn dx]);have hd:decide (q∈om)=false:=by simp[dx]
      rw[hd] at cq;clear dx hd;have HY:Wi (I64 (q:Int)):=qA ⟨tO,tO⟩;have bK:=lH.o.set q true;rw[qFC] at bK;have tQ:Wi (OwI (wz.setCell ⟨W0,q,none⟩ (.bool true)) (W0.heap.size+1) (.slice (some ⟨b2,0,none⟩) om.length ao) (ns om)):=qA (xl.o.far (p:=⟨W0,q,none⟩) tB _);have jJ:=qA bK.1;have mD:Wi (RdI (wz.setCell ⟨W0,q,none⟩ (.bool true)) (.slice (some ⟨gl,0,none⟩) ls.length capl) ls):=qA (xM.o.grown bK.2 fun x hx gw=>by simp[zap] at hx gw;omega);have Qm:Wi (Wf W0 W0 (wz.setCell ⟨W0,q,none⟩ (.bool true))):=qA (HZ.o.setCell (by show W0.heap.size<=W0.heap.size;omega) _);have hS:(wz.setCell ⟨W0,q,none⟩ (.bool true)).heap.size=wz.heap.size:=tZ;have rz:=qBg om;clear bK;go_wp2_with (at_builtin;refine qW rfl (.tmp 104) (.tmp 111) rfl _ _ _ (OwI.alloc tQ _) rfl _ _ rfl (by simp[go_sem]) HY.o tB tB ?_;intro v9 wv9 o9 g9 p9)
      have gh:=g9.size;simp at gh
      go_roundw
      case rel=>
       refine⟨m+1,tO,by go_num,by rw[HS.o,F.o,qPz];exact o9,by rw[HS.o,F.o];exact(jJ.below ((zan _ _).alloc (zad _) _)).kept g9 (.inr (by simp[zap];omega)),(mD.alloc _).grown g9 (fun x hx gw=> ?_),fun e=> ?_,tO,qh Qm.o tO tQ.o.1 tO g9⟩
       ·have:=dG.o
        simp[zap] at hx gw this
        omega
       ·rcases p9 with p9 | p9
        ·rw[p9] at e;exact dG.o e
        ·rw[p9] at e;simp at e;omega
      case measure=>exact tM
    ·obtain rfl:m=ls.length:=tO
     rw[zar] at aa jm;have jQ:=iL.o ls.length;have jT:=mA.o ls.length;rw[zar] at jQ jT;have yV:=qA jQ;have C9:=qA jT;have Id:=qA aa;have aM:k+1<=(ls.foldl (pst a.2.2 b.2.2 B p) o).length:=by
      have:=eE.o ls.length
      rw[zar] at this;have:=(zaa.1 this).1
      omega
     have Ts:=qBr jQ jT;clear aa aP ai jQ jT kg kw jS jG jL ju eZ;go_wp2;go_roundw;exact⟨k+1,_,aM,by go_num,yV.o,C9.o,kX.o,Id.o,jm.o,mL.o,dG.o,eJ,cU.o⟩;exact tM
  ·obtain rfl:k=o.length:=tO
   have F:Wi (PR=o):=qA (by
    rw[HP.o];cases n+1-o.length with
    | zero=>rfl
    | succ f=>unfold bfsF;rw[zaL (zad _)])
   clear db aa;have cA:Wi (Wf w w wo):=qA (BX.trans (al.mono tO));have au:w.heap.size<=W0.heap.size+1:=tO;go_wp2;exact Wj (v:= .slice AJ o.length ak) (by simp[results,Tryz.results106]) rfl ⟨_,rfl,by rw[F.o];exact HO.o.mono au,cA.o⟩
def cntE (ea eb:List EdD) (B p m:Nat):Nat:=((zao m).filter fun (i:Nat)=>(pnx ea eb B p ((i:Int)+1)).isSome).length
theorem qJa (ea eb:List EdD) (B p m:Nat):cntE ea eb B p (m+1)=cntE ea eb B p m+if(pnx ea eb B p ((m:Int)+1)).isSome then 1 else 0:=by
 unfold cntE;rw[zaO,za9,zaj];congr 1
 simp only[List.filter_cons,List.filter_nil];split<;>rfl
theorem qKU (ea eb:List EdD) (B p m:Nat):cntE ea eb B p m<=m:=by
 have:=za5 (fun (i:Nat)=>(pnx ea eb B p ((i:Int)+1)).isSome) (zao m)
 simpa[cntE] using this
theorem qGw (ea eb:List EdD) (B r:Nat) (o:List Nat) (k:Nat) (h:k<o.length):edgL ea eb B r (o.take (k+1))=edgL ea eb B r (o.take k)+cntE ea eb B o[k] r:=by
 unfold edgL;rw[zam h,List.map_append,List.sum_append];simp[edgN,cntE]
theorem qGn (ea eb:List EdD) (B r:Nat) (hr:r<=3) (o:List Nat):edgL ea eb B r o<=3*o.length:=by
 unfold edgL;induction o with
 | nil=>simp
 | cons p o ih=>
   have:=qKU ea eb B p r
   have e:edgN ea eb B r p=cntE ea eb B p r:=rfl;simp only[zaz,List.sum_cons,zbj];omega
theorem qCk (va vb vo:Wh) (a b:GrD) (A B r:Nat) (o:List Nat) (w:Wg) (ha:ArgG w va a) (hb:ArgG w vb b) (ho:RdI w vo (ns o)) (h2:Two a b A B) (eY:a.1=(r:Int)) (fc:b.1=(r:Int)) (iy: ∀q∈o,q<A*B) (fe:o.length<=1600):
  Wk Tryz.prog 107 #[va,vb,vo] w fun e w'=>e= .returned (.int .i64 (edgL a.2.2 b.2.2 B r o:Nat))/\Wf w w w':=by
 have cJ:=qA ha;have aS:=qA hb;have kH:=qA ho;have ONEA:=qA (qAH h2.fa);have ONEB:=qA (qAH h2.fb);obtain⟨⟨pP,fk⟩,EA,rq⟩:=h2.bd;have bT:r<=3/\1<=r:=by have:=(qD h2.ga).1;omega
 have eX:A*B<=1600:=zaG fk rq;have lm:Wi (∀k (hk:k<o.length),o[k]<1600):=qA fun k hk=>zaA (iy o[k] tZ) eX;have Ql:Wi (∀k (h:k<o.length),edgL a.2.2 b.2.2 B r (o.take (k+1))=edgL a.2.2 b.2.2 B r (o.take k)+cntE a.2.2 b.2.2 B o[k] r):=qA fun k h=>qGw _ _ _ _ o k h;have yP:Wi (∀k,k<=o.length->edgL a.2.2 b.2.2 B r (o.take k)<=4800):=qA fun k hk=>by
  have:=qGn a.2.2 b.2.2 B r bT.1 (o.take k)
  rw[zbf] at this;omega
 have PQ:Wi (edgL a.2.2 b.2.2 B r (o.take 0)=0):=qA rfl;have Qj:Wi (edgL a.2.2 b.2.2 B r o=edgL a.2.2 b.2.2 B r (o.take o.length)):=qA (by rw[zar]);generalize edgL a.2.2 b.2.2 B r o=EE at*;have sa:=h2.sa;have sb:=h2.sb;obtain⟨Aa,capa,rfl⟩: ∃A' cap,va= .agg #[.int .i64 r, .int .i64 A, .slice A' a.2.2.length cap]:=by
  obtain⟨s,hv,_,_,ha⟩:=cJ.o;obtain⟨A',cap,rfl⟩:=ha.form;exact⟨A',cap,by rw[hv,eY,sa]⟩
 obtain⟨Ab,capb,rfl⟩: ∃A' cap,vb= .agg #[.int .i64 r, .int .i64 B, .slice A' b.2.2.length cap]:=by
  obtain⟨s,hv,_,_,ha⟩:=aS.o;obtain⟨A',cap,rfl⟩:=ha.form;exact⟨A',cap,by rw[hv,fc,sb]⟩
 obtain⟨Ao,capo,rfl,jn,uu,_⟩:=ho.arg;rw[qBg] at jn kH⊢;unfold maxLen at uu;clear ha hb h2 eY fc iy sa sb ho eX;go_enter Tryz.func107,Tryz.ntmps107
 go_wp2;have bx:Wf w w ((w.alloc (.cells #[.int .i64 r,.int .i64 A, .slice Aa a.2.2.length capa] 26)).alloc (.cells #[.int .i64 r,.int .i64 B, .slice Ab b.2.2.length capb] 26)):=(by repeat(first | exact .refl _ _ | (refine BxS ?_ _) | (refine qC ?_ _) | (refine Below.drew ?_) | (refine BxA ?_ _)));obtain⟨W0,ah⟩: ∃W,W=(w.alloc (.cells #[.int .i64 r,.int .i64 A, .slice Aa a.2.2.length capa] 26)).alloc (.cells #[.int .i64 r,.int .i64 B, .slice Ab b.2.2.length capb] 26):=⟨_,rfl⟩;rw[<-ah] at bx⊢;have aH:W0.heap.size=w.heap.size+1+1:=by rw[ah];simp
 have A0:Wi (W0.cell? ⟨w,0,none⟩=some (.int .i64 r)):=qA (by rw[ah];simp[go_sem]);have A1:Wi (W0.cell? ⟨w,1,none⟩=some (.int .i64 A)):=qA (by rw[ah];simp[go_sem]);have A2:Wi (W0.cell? ⟨w,2,none⟩=some (.slice Aa a.2.2.length capa)):=qA (by rw[ah];simp[go_sem]);have B0:Wi (W0.cell? ⟨w.heap.size+1,0,none⟩=some (.int .i64 r)):=qA (by rw[ah];simp[go_sem]);have B1:Wi (W0.cell? ⟨w.heap.size+1,1,none⟩=some (.int .i64 B)):=qA (by rw[ah];simp[go_sem]);have B2:Wi (W0.cell? ⟨w.heap.size+1,2,none⟩=some (.slice Ab b.2.2.length capb)):=qA (by rw[ah];simp[go_sem]);clear ah;have bh:w.heap.size<W0.heap.size:=tO;have bk:w.heap.size+1<W0.heap.size:=tO;have BX:=qA bx;have se:Wi (∀(k:Nat) (hk:k<o.length) (wr:Wg),Wf W0 W0 wr-> ∃bo offo,Ao=some ⟨bo,offo,none⟩/\bo<wr.heap.size/\wr.cell? ⟨bo,offo+k,none⟩=some (.int .i64 ((o[k]:Nat):Int))):=qA fun k hk wr hb=>by
  obtain⟨bo,offo,hA,oV,hc⟩:=(kH.below (BX.trans (hb.mono tO))).at (by rw[qBg];omega);have:=hc k (by rw[qBg];exact hk)
  rw[qJk o k hk] at this;exact⟨bo,offo,hA,oV,this⟩
 clear bx aH;go_loopw [7,8] (fun c i wo=> ∃k:Nat,k<=o.length/\i= .int .i64 k/\c= .int .i64 (edgL a.2.2 b.2.2 B r (o.take k):Nat)/\Wf W0 W0 wo) (fun _ i _=>o.length-(intOf i).toNat)
 case atStart=>exact⟨0,zaB _,rfl,by rw[PQ.o];rfl,zan _ _⟩
 case round=>
  obtain⟨k,hk,rfl,rfl,ab⟩:=hrel;obtain⟨wo,rfl⟩: ∃wo:Wg,wo=wr:=⟨_,rfl⟩;have al:=qA ab;by_cases ac:k<o.length
  ·have km:=lm.o k ac;have HS:=qA (Ql k ac);have pL:=yP.o k hk;have Ce:=qA (se k ac);obtain⟨bo,offo,rfl,_,_⟩:=Ce.o wo ab;generalize hp:o[k]=p at*;generalize edgL a.2.2 b.2.2 B r (o.take k)=E0 at*;obtain⟨un,cQ⟩: ∃un,un=p/B:=⟨_,rfl⟩;obtain⟨vn,d6⟩: ∃vn,vn=p%B:=⟨_,rfl⟩;have gF:=qA cQ;have nD:=qA d6;have rH:un<=1600:=by rw[cQ];exact zay (za0 _ _) tO
   have gd:wrap64 ((p:Int)/(B:Int))=(un:Int):=by
    have:(p:Int)/(B:Int)=(un:Int):=by rw[cQ];rfl
    rw[this];exact IntWalk.wrap64_in _ ⟨tO,tO⟩
   have iA:(p:Int)%(B:Int)=(vn:Int):=by rw[d6];rfl
   have gn:Wi (∀W,Wf W0 W0 W->ArgG W (.agg #[.int .i64 r, .int .i64 A, .slice Aa a.2.2.length capa]) a):=qA fun W hb=>cJ.o.below (BX.trans (hb.mono tO));have kB:Wi (∀W,Wf W0 W0 W->ArgG W (.agg #[.int .i64 r, .int .i64 B, .slice Ab b.2.2.length capb]) b):=qA fun W hb=>aS.o.below (BX.trans (hb.mono tO));clear hp cQ d6 ab se;go_wp2;go_loopw [7,9] (fun c j wr=> ∃m:Nat,m<=r/\j= .int .i64 ((m:Int)+1)/\c= .int .i64 ((E0+cntE a.2.2 b.2.2 B p m:Nat):Int)/\Wf W0 W0 wr) (fun _ j _=>r+1-(intOf j).toNat)
   case atStart=>exact⟨0,zaB _,rfl,rfl,al⟩
   case round=>
    obtain⟨m,fM,rfl,rfl,a6⟩:=hrel;have xK:=a6.size;have cU:=qA a6;have kg:=(a6.cell (p:=⟨w,0,none⟩) bh).trans A0.o;have kw:=(a6.cell (p:=⟨w,1,none⟩) bh).trans A1.o;have jS:=(a6.cell (p:=⟨w,2,none⟩) bh).trans A2.o;have jG:=(a6.cell (p:=⟨w.heap.size+1,0,none⟩) bk).trans B0.o;have jL:=(a6.cell (p:=⟨w.heap.size+1,1,none⟩) bk).trans B1.o;have ju:=(a6.cell (p:=⟨w.heap.size+1,2,none⟩) bk).trans B2.o;by_cases aj:m<r
    ·have fA:(m:Int)+1<=(r:Int):=tO;obtain⟨bo',offo',CZ,fv,kK⟩:=Ce.o wr a6;obtain⟨rfl,rfl⟩:bo=bo'/\offo=offo':=by simpa using CZ
     have ST:=qA (qJa a.2.2 b.2.2 B p m);have CL:=qKU a.2.2 b.2.2 B p m;have PX:Wi ((pnx a.2.2 b.2.2 B p ((m:Int)+1)).isSome=(decide (0<=qF a.2.2 un ((m:Int)+1))&&decide (0<=qF b.2.2 vn ((m:Int)+1)))):=qA (by
      unfold pnx;rw[<-gF.o,<-nD.o];split
      ·rename_i hc
       simp[hc.1,hc.2]
      ·rename_i hc
       rcases Classical.em (0<=qF a.2.2 un ((m:Int)+1)) with h1 | h1
       ·have h2: ¬0<=qF b.2.2 vn ((m:Int)+1):=fun h=>hc ⟨h1,h⟩;simp[h2]
       ·simp[h1])
     have nA:=qA (fun W h=>qe (.agg #[.int .i64 r, .int .i64 A, .slice Aa a.2.2.length capa]) a (un:Int) ((m:Int)+1) W h (ONEA (un:Int) _));have nk:=qA (fun W h=>qe (.agg #[.int .i64 r, .int .i64 B, .slice Ab b.2.2.length capb]) b (vn:Int) ((m:Int)+1) W h (ONEB (vn:Int) _));generalize qF a.2.2 un ((m:Int)+1)=y1 at*;generalize qF b.2.2 vn ((m:Int)+1)=y2 at*;generalize cntE a.2.2 b.2.2 B p m=cm at*;clear CZ a6;by_cases hy:0<=y1
     ·by_cases hz:0<=y2
      ·have F:Wi (cntE a.2.2 b.2.2 B p (m+1)=cm+1):=qA (by rw[ST.o,PX.o];simp[hy,hz]);go_wp2_with fail;have f0:=BelW.cell kg (show w.heap.size<wr.heap.size by omega);have f1:=BelW.cell kw (show w.heap.size<wr.heap.size by omega);have f2:=BelW.cell jS (show w.heap.size<wr.heap.size by omega);have f3:=BelW.cell jG (show w.heap.size+1<wr.heap.size by omega);have f4:=BelW.cell jL (show w.heap.size+1<wr.heap.size by omega);have f5:=BelW.cell ju (show w.heap.size+1<wr.heap.size by omega);have f6:=BelW.cell kK fv;(refine qG tK tK ?_;(repeat(go_big_quiet_step (first | (go_at_call 86;with_reducible exact Calls.bel_of (nA.o _ (gn.o _ (cU.o.trans ((BelW.h _).mono tO))))) | (go_at_call 86;with_reducible exact Calls.bel_of (nk.o _ (kB.o _ (cU.o.trans ((BelW.h _).mono tO))))))));refine wpQuiet_nil ?_;intro wq hw';obtain⟨pq,ae⟩:=hw';have bq:=pq.h;rw[<-ae] at bq;clear ae pq)
       have HQ:=qA (cU.trans (bq.mono tO));clear bq f0 f1 f2 f3 f4 f5 f6 kg kw jS jG jL ju kK;go_wp2;go_roundw;exact⟨m+1,tO,by go_num,by rw[F.o];go_num,HQ.o⟩;exact tM
      ·have F:Wi (cntE a.2.2 b.2.2 B p (m+1)=cm):=qA (by rw[ST.o,PX.o];simp[hy,hz]);go_wp2_with fail;have f0:=BelW.cell kg (show w.heap.size<wr.heap.size by omega);have f1:=BelW.cell kw (show w.heap.size<wr.heap.size by omega);have f2:=BelW.cell jS (show w.heap.size<wr.heap.size by omega);have f3:=BelW.cell jG (show w.heap.size+1<wr.heap.size by omega);have f4:=BelW.cell jL (show w.heap.size+1<wr.heap.size by omega);have f5:=BelW.cell ju (show w.heap.size+1<wr.heap.size by omega);have f6:=BelW.cell kK fv;(refine qG tK tK ?_;(repeat(go_big_quiet_step (first | (go_at_call 86;with_reducible exact Calls.bel_of (nA.o _ (gn.o _ (cU.o.trans ((BelW.h _).mono tO))))) | (go_at_call 86;with_reducible exact Calls.bel_of (nk.o _ (kB.o _ (cU.o.trans ((BelW.h _).mono tO))))))));refine wpQuiet_nil ?_;intro wq hw';obtain⟨pq,ae⟩:=hw';have bq:=pq.h;rw[<-ae] at bq;clear ae pq)
       have HQ:=qA (cU.trans (bq.mono tO));clear bq f0 f1 f2 f3 f4 f5 f6 kg kw jS jG jL ju kK;go_wp2;go_roundw;exact⟨m+1,tO,by go_num,by rw[F.o];rfl,HQ.o⟩;exact tM
     ·have F:Wi (cntE a.2.2 b.2.2 B p (m+1)=cm):=qA (by rw[ST.o,PX.o];simp[hy]);have VL:decide (0<=y1)=false:=by simp;omega
      go_wp2_with fail;have f0:=BelW.cell kg (show w.heap.size<wr.heap.size by omega);have f1:=BelW.cell kw (show w.heap.size<wr.heap.size by omega);have f2:=BelW.cell jS (show w.heap.size<wr.heap.size by omega);have f3:=BelW.cell jG (show w.heap.size+1<wr.heap.size by omega);have f4:=BelW.cell jL (show w.heap.size+1<wr.heap.size by omega);have f5:=BelW.cell ju (show w.heap.size+1<wr.heap.size by omega);have f6:=BelW.cell kK fv;(refine qG tK tK ?_;(repeat(go_big_quiet_step (first | (go_at_call 86;with_reducible exact Calls.bel_of (nA.o _ (gn.o _ (cU.o.trans ((BelW.h _).mono tO))))) | (go_at_call 86;with_reducible exact Calls.bel_of (nk.o _ (kB.o _ (cU.o.trans ((BelW.h _).mono tO))))))));refine wpQuiet_nil ?_;intro wq hw';obtain⟨pq,ae⟩:=hw';have bq:=pq.h;rw[<-ae] at bq;clear ae pq)
      have HQ:=qA (cU.trans (bq.mono tO));clear bq f0 f1 f2 f3 f4 f5 f6 kg kw jS jG jL ju kK;go_wp2;go_roundw;exact⟨m+1,tO,by go_num,by rw[F.o];rfl,HQ.o⟩;exact tM
    ·obtain rfl:m=r:=tO
     have CL:=qKU a.2.2 b.2.2 B p m;have vM: ¬(m:Int)+1<=(m:Int):=tO;generalize ke:cntE a.2.2 b.2.2 B p m=cm at*;have Vc:=qA ke;clear ke a6;go_wp2;go_roundw;exact⟨k+1,tO,by go_num,by rw[HS.o],cU.o⟩;exact tM
  ·obtain rfl:k=o.length:=tO
   have F:Wi (EE=edgL a.2.2 b.2.2 B r (o.take o.length)):=Qj;clear ab;generalize edgL a.2.2 b.2.2 B r (o.take o.length)=E0 at*;go_wp2;exact Wj (v:= .int .i64 (E0:Nat)) (by simp[results,Tryz.results107]) rfl ⟨by rw[F.o],BX.o.trans (al.mono tO)⟩
def peE (ea eb:List EdD) (B:Nat) (P:List Nat) (i:Nat) (x:Int):Option EdD:=(pnx ea eb B (P.getD i 0) x).map fun q=>((i:Int),x,((P.idxOf q:Nat):Int))
def peR (ea eb:List EdD) (B:Nat) (P:List Nat) (i m:Nat):List EdD:=(zao m).filterMap fun (j:Nat)=>peE ea eb B P i ((j:Int)+1)
def peL (ea eb:List EdD) (B r:Nat) (P:List Nat) (n:Nat):List EdD:=(zao n).flatMap fun i=>peR ea eb B P i r
theorem qGK (ea eb:List EdD) (B:Nat) (P:List Nat) (i m:Nat):peR ea eb B P i (m+1)=peR ea eb B P i m++(peE ea eb B P i ((m:Int)+1)).toList:=by
 unfold peR;rw[zaO,zaM];congr 1
theorem qFG (ea eb:List EdD) (B r:Nat) (P:List Nat) (n:Nat):peL ea eb B r P (n+1)=peL ea eb B r P n++peR ea eb B P n r:=by
 unfold peL;rw[zaO,List.flatMap_append];simp
theorem qOj {α:Type} (c:α->α->Int) (L:List α) (e:α):srt c (L++ [e])=insF c (srt c L) e:=by
 unfold srt;rw[zaU];rfl
theorem qQe (ea eb:List EdD) (B:Nat) (P:List Nat) (i m:Nat) (hi:i<P.length):(peR ea eb B P i m).length=cntE ea eb B P[i] m:=by
 induction m with
 | zero=>rfl
 | succ m ih=>
   rw[qGK,zaj,ih,qJa];unfold peE;rw[show P.getD i 0=P[i] by simp[hi]];cases pnx ea eb B P[i] ((m:Int)+1)<;>simp
theorem qNS (ea eb:List EdD) (B r:Nat) (P:List Nat): ∀n,n<=P.length->(peL ea eb B r P n).length=edgL ea eb B r (P.take n)
 | 0,_=>by simp[peL,edgL]
 | n+1,h=>by
   rw[qFG,zaj,qNS ea eb B r P n tO,qGw _ _ _ _ _ _ tO,qQe _ _ _ _ _ _ tO]
theorem qPb (ea eb:List EdD) (B:Nat) (P:List Nat) (i m:Nat):(peR ea eb B P i m).length<=m:=by
 unfold peR;refine zay (zaW _ _) ?_;simp
theorem qOG (ea eb:List EdD) (B r:Nat) (P:List Nat): ∀n,(peL ea eb B r P n).length<=n*r
 | 0=>by simp[peL]
 | n+1=>by
   rw[qFG,zaj,Nat.succ_mul];have:=qOG ea eb B r P n
   have:=qPb ea eb B P n r
   omega
theorem qIU {ea eb:List EdD} {B:Nat} {P:List Nat} {i m:Nat} {e:EdD}:e∈peR ea eb B P i m↔ ∃j,j<m/\peE ea eb B P i ((j:Int)+1)=some e:=by
 unfold peR;rw[zba];constructor
 ·rintro⟨j,hj,h⟩;exact⟨j,zaR.1 hj,h⟩
 ·rintro⟨j,hj,h⟩;exact⟨j,zaR.2 hj,h⟩
theorem qFo {ea eb:List EdD} {B r:Nat} {P:List Nat} {n:Nat} {e:EdD}:e∈peL ea eb B r P n↔ ∃i j,i<n/\j<r/\peE ea eb B P i ((j:Int)+1)=some e:=by
 unfold peL;rw[List.mem_flatMap];constructor
 ·rintro⟨i,hi,h⟩
  obtain⟨j,hj,h⟩:=qIU.1 h;exact⟨i,j,zaR.1 hi,hj,h⟩
 ·rintro⟨i,j,hi,hj,h⟩
  exact⟨i,zaR.2 hi,qIU.2 ⟨j,hj,h⟩⟩
theorem qBx {ea eb:List EdD} {B:Nat} {P:List Nat} {i:Nat} {x:Int} {e:EdD} (h:peE ea eb B P i x=some e): ∃q,pnx ea eb B (P.getD i 0) x=some q/\e=((i:Int),x,((P.idxOf q:Nat):Int)):=by
 unfold peE at h;rw[Option.map_eq_some_iff] at h;obtain⟨q,h1,h2⟩:=h;exact⟨q,h1,h2.symm⟩
theorem qMT (ea eb:List EdD) (B:Nat) (P:List Nat) (i m:Nat):(peR ea eb B P i m).Nodup:=by
 induction m with
 | zero=>exact zbo
 | succ m ih=>
   rw[qGK,zaT];refine⟨ih,by cases peE ea eb B P i ((m:Int)+1)<;>simp,fun a ha b hb e=> ?_⟩;subst e;obtain⟨j,hj,h1⟩:=qIU.1 ha;have h2:peE ea eb B P i ((m:Int)+1)=some a:=by simpa using hb
   obtain⟨q1,_,e1⟩:=qBx h1;obtain⟨q2,_,e2⟩:=qBx h2;rw[e1] at e2;have:=congrArg (fun e:EdD=>e.2.1) e2
   simp only at this
   omega
theorem qNv (ea eb:List EdD) (B r:Nat) (P:List Nat) (n:Nat):(peL ea eb B r P n).Nodup:=by
 induction n with
 | zero=>exact zbo
 | succ n ih=>
   rw[qFG,zaT];refine⟨ih,qMT _ _ _ _ _ _,fun a ha b hb e=> ?_⟩;subst e;obtain⟨i,j,hi,_,h1⟩:=qFo.1 ha;obtain⟨j2,_,h2⟩:=qIU.1 hb;obtain⟨q1,_,e1⟩:=qBx h1;obtain⟨q2,_,e2⟩:=qBx h2;rw[e1] at e2;have:=congrArg (fun e:EdD=>e.1) e2
   simp only at this
   omega
def pbP (a b:GrD) (u v:Nat):List Nat:=prsL a b a.2.1.toNat b.2.1.toNat (qB a.1.toNat) (u*b.2.1.toNat+v)
def pbG (a b:GrD) (u v:Nat):GrD:=(a.1,((pbP a b u v).length:Int),srt cmpE (peL a.2.2 b.2.2 b.2.1.toNat a.1.toNat (pbP a b u v) (pbP a b u v).length))
def pbOk (a b:GrD) (u v:Nat):Bool:=decide ((pbP a b u v).length<=40)&&decide ((peL a.2.2 b.2.2 b.2.1.toNat a.1.toNat (pbP a b u v) (pbP a b u v).length).length<=120)
theorem qBP {a b:GrD} (h1:qO a=true) (h2:qO b=true):Two a b a.2.1.toNat b.2.1.toNat:=by
 obtain⟨ga,fa⟩:=qE h1;obtain⟨gb,fb⟩:=qE h2;have s1:=(qD ga).2.1;have s2:=(qD gb).2.1;exact⟨ga,gb,fa,fb,tO,tO⟩
theorem qDO {A B u v:Nat} (hu:u<A) (hv:v<B):u*B+v<A*B:=by
 have:(u+1)*B<=A*B:=za7 _ hu
 rw[Nat.succ_mul] at this;omega
theorem qDp {α:Type} {l:List α} (h:l.Nodup) {i j:Nat} (hi:i<l.length) (hj:j<l.length) (e:l[i]=l[j]):i=j:=by
 have hp:=zaV.1 h;rcases Nat.lt_trichotomy i j with q | q | q
 ·exact absurd e (hp i j hi hj q)
 ·exact q
 ·exact absurd e.symm (hp j i hj hi q)
section
variable {a b:GrD} {u v:Nat}
theorem qFJ (h1:qO a=true) (h2:qO b=true) (hu:(u:Int)<a.2.1) (hv:(v:Int)<b.2.1):(pbP a b u v).Nodup/\(∀q∈pbP a b u v,q<a.2.1.toNat*b.2.1.toNat)/\1<=(pbP a b u v).length/\(pbP a b u v).length<=1600/\
  ∀q∈pbP a b u v,∀x z,x∈qB a.1.toNat->pnx a.2.2 b.2.2 b.2.1.toNat q x=some z->z∈pbP a b u v:=by
 have h:=qBP h1 h2;have hb:=h.bd;have hp:u*b.2.1.toNat+v<a.2.1.toNat*b.2.1.toNat:=qDO tO tO;have hr:=(qD h.ga).1;have ac: ∀q∈pbP a b u v,q<a.2.1.toNat*b.2.1.toNat:=qHC h hp;have eL:(pbP a b u v).Nodup:=qCL _;refine⟨eL,ac,?_,?_,qBC h (fun x hx=>(qAT tO x hx).1) hp⟩
 ·have:u*b.2.1.toNat+v∈pbP a b u v:=qCI h
  exact List.length_pos_of_mem this
 ·have:=qBr eL ac
  have:=zaG hb.1.2 hb.2.2
  omega
theorem qOg (h1:qO a=true) (h2:qO b=true) (hu:(u:Int)<a.2.1) (hv:(v:Int)<b.2.1) {e:EdD} (he:e∈peL a.2.2 b.2.2 b.2.1.toNat a.1.toNat (pbP a b u v) (pbP a b u v).length):
  (0<=e.1/\e.1<(pbP a b u v).length)/\(1<=e.2.1/\e.2.1<=a.1)/\(0<=e.2.2/\e.2.2<(pbP a b u v).length):=by
 obtain⟨f1,f2,f3,f4,f5⟩:=qFJ h1 h2 hu hv;have hr:=(qD (qE h1).1).1;obtain⟨i,j,hi,hj,hp⟩:=qFo.1 he;obtain⟨q,hq,rfl⟩:=qBx hp;rw[show(pbP a b u v).getD i 0=(pbP a b u v)[i] by simp[hi]] at hq;have hm:=f5 _ (zal hi) _ q (qw.2 (.inl ⟨tO,tO⟩)) hq;have:=zak hm
 simp only
 omega
theorem qGY (h1:qO a=true) (h2:qO b=true) (hu:(u:Int)<a.2.1) (hv:(v:Int)<b.2.1) (af:pbOk a b u v=true):qO (pbG a b u v)=true:=by
 obtain⟨f1,f2,f3,f4,f5⟩:=qFJ h1 h2 hu hv;have hr:=(qD (qE h1).1).1;have cR:=qBP h1 h2;unfold pbOk at af;rw[zaJ,decide_eq_true_eq,decide_eq_true_eq] at af;have et:=qAq qz (peL a.2.2 b.2.2 b.2.1.toNat a.1.toNat (pbP a b u v) (pbP a b u v).length);have hg:grB (pbG a b u v)=true:=by
  refine qEr hr ⟨by show(1:Int)<=((pbP a b u v).length:Int);omega,by show((pbP a b u v).length:Int)<=40;omega⟩ ?_ et.1 (fun e he=>qOg h1 h2 hu hv ((et.2 e).1 he));refine zay (qCp _) af.2
 unfold qO;rw[hg,Bool.true_and,decide_eq_true_eq];unfold Fol;refine et.1.imp_of_mem fun {x y} hx hy hxy=> ?_;have ai:x≠y:=fun e=>by
  rw[e,qBc.2 rfl] at hxy;omega
 obtain⟨i,j,hi,hj,hp⟩:=qFo.1 ((et.2 x).1 hx);obtain⟨i2,j2,aQ,bV,rC⟩:=qFo.1 ((et.2 y).1 hy);have ue:=hp;have tF:=rC;obtain⟨q,hq,rfl⟩:=qBx hp;obtain⟨q2,ni,rfl⟩:=qBx rC;rw[show(pbP a b u v).getD i 0=(pbP a b u v)[i] by simp[hi]] at hq;rw[show(pbP a b u v).getD i2 0=(pbP a b u v)[i2] by simp[aQ]] at ni;rw[zbc];intro hc;unfold qBX at hc;simp only[zaJ,zaY,beq_iff_eq] at hc;obtain⟨hl,rB⟩:=hc;have SI:j=j2:=tO;subst SI;rcases rB with rB | rB
 ·have:i=i2:=tO
  subst this;rw[ue] at tF;injection tF with tF
  exact ai tF
 ·have hm:=f5 _ (zal hi) _ q (qw.2 (.inl ⟨tO,tO⟩)) hq;have nm:=f5 _ (zal aQ) _ q2 (qw.2 (.inl ⟨tO,tO⟩)) ni;have RK:q=q2:=by
   have e1:=zav (zak hm);have e2:=zav (zak nm);have e3:(pbP a b u v).idxOf q=(pbP a b u v).idxOf q2:=tO;rw[<-e1,<-e2];simp only[e3]
  subst RK;have b1:=qBT cR tO hq;have b2:=qBT cR tO ni;rw[b1] at b2;injection b2 with b2
  have:=qDp f1 hi aQ b2
  subst this;rw[ue] at tF;injection tF with tF
  exact ai tF
theorem qNI (h1:qO a=true) (h2:qO b=true):(peL a.2.2 b.2.2 b.2.1.toNat a.1.toNat (pbP a b u v) (pbP a b u v).length).length=edgL a.2.2 b.2.2 b.2.1.toNat a.1.toNat (pbP a b u v):=by
 rw[qNS _ _ _ _ _ _ (zad _),zar]
end
def qAW (a b:GrD) (u v:Nat):GrD×Bool:=if a.1=b.1/\pbOk a b u v=true then(pbG a b u v,true) else((0,0,[]),false)
theorem GBx.put {w:Wg} {p base base':Nat} {A A':Option Addr} {c c':Nat} {g:GrD} {ms:List EdD} (h:GBx w p base A c g) (o:OwE w base' (.slice A' ms.length c') ms) (hn: ∀b,(zau A' ms.length c').ownBlock=some b->b≠p):
  GBx (w.setCell ⟨p,2,none⟩ (.slice A' ms.length c')) p base' A' c' (g.1,g.2.1,ms):=by
 refine⟨(zax _ _ _ _ tZ).trans h.c0,(zax _ _ _ _ tZ).trans h.c1,zaX _ _ _ h.c2,fun j=>by rw[zah];exact h.fz j,?_,hn,h.i1,h.i2,by simpa using h.lt⟩;exact o.keep fun b hb=>zab _ _ _ b (hn b hb)
def pkL (base:List EdD) (e:Option EdD) (j K:Nat):List EdD:=match e with
 | some e=>if j<K then srt cmpE (base++ [e]) else srt cmpE base
 | none=>srt cmpE base
theorem qQj (base:List EdD) (e:Option EdD) (j K:Nat):(pkL base e j K).length<=base.length+1:=by
 unfold pkL;have h1:=qCp (c:=cmpE) base;cases e with
 | none=>simp only;omega
 | some e=>
   simp only
   split
   ·have:=qCp (c:=cmpE) (base++ [e]);simp at this;omega
   ·omega
theorem qCe (va vb:Wh) (a b:GrD) (u v:Nat) (w:Wg) (ha:ArgG w va a) (hb:ArgG w vb b) (gQ:qO a=true) (fH:qO b=true) (hu:(u:Int)<a.2.1) (hv:(v:Int)<b.2.1):
  Wk Tryz.prog 89 #[va,vb, .int .i64 (u:Int), .int .i64 (v:Int)] w fun e w'=> ∃r,e= .returned (.tuple #[r, .bool (qAW a b u v).2])/\OwG w' w r (qAW a b u v).1/\Wf w w w':=by
 have cJ:=qA ha;have aS:=qA hb;have nS:=qA gQ;have yC:=qA fH;have cR:=qBP gQ fH;have mF:=cR.bd;have aF:=(qD cR.ga).1;obtain⟨pn,pl,p1,mf,pcl⟩:=qFJ gQ fH hu hv;have fY:Wi (a.1≠b.1->qAW a b u v=((0,0,[]),false)):=qA fun h=>by unfold qAW;rw[Wn fun q=>h q.1]
 have jo:Wi (pbOk a b u v=false->qAW a b u v=((0,0,[]),false)):=qA fun h=>by unfold qAW;rw[Wn fun q=>by rw[h] at q;exact absurd q.2 tD]
 have kP:Wi (a.1=b.1->pbOk a b u v=true->qAW a b u v=(pbG a b u v,true)):=qA fun h1 h2=>by unfold qAW;rw[Wm ⟨h1,h2⟩]
 have zJ:Wi (pbG a b u v=(a.1,((pbP a b u v).length:Int),srt cmpE (peL a.2.2 b.2.2 b.2.1.toNat a.1.toNat (pbP a b u v) (pbP a b u v).length))):=qA rfl;have kq:Wi (pbOk a b u v=(decide ((pbP a b u v).length<=40)&&decide (edgL a.2.2 b.2.2 b.2.1.toNat a.1.toNat (pbP a b u v)<=120))):=qA (by unfold pbOk;rw[qNI gQ fH]);have Ke:Wi (pbP a b u v=prsL a b a.2.1.toNat b.2.1.toNat (qB a.1.toNat) (u*b.2.1.toNat+v)):=qA rfl;have yP:Wi (∀n,(peL a.2.2 b.2.2 b.2.1.toNat a.1.toNat (pbP a b u v) n).length<=n*a.1.toNat):=qA fun n=>qOG _ _ _ _ _ n;have nV:inB (u:Int) 0 (a.2.1-1)=true:=qm.2 ⟨tO,tO⟩;have oz:inB (v:Int) 0 (b.2.1-1)=true:=qm.2 ⟨tO,tO⟩;have yz:=qA nV;have kS:=qA oz;generalize qAW a b u v=RES at*;generalize pbG a b u v=PG at*;generalize pbOk a b u v=PO at*;generalize pbP a b u v=P at*;have kz:=qA cR;have iM:=qA pl;have II:=qA pn;have Iw:=qA pcl;have OA:=qA (qAH cR.fa);have OB:=qA (qAH cR.fb);have nA:=qA (qR cR.ga);have nk:=qA (qR cR.gb);obtain⟨sa,rfl,rG,sg,lU⟩:=ha;obtain⟨A,ca,rfl⟩:=lU.form;obtain⟨sb,rfl,ta,rM,gC⟩:=hb;obtain⟨B,cb,rfl⟩:=gC.form;obtain⟨a1,a2,as'⟩:=a;obtain⟨b1,b2,bs⟩:=b;obtain⟨rn,rfl⟩: ∃rn:Nat,a1=(rn:Int):=⟨a1.toNat,by simp only at aF;omega⟩;obtain⟨na,rfl⟩: ∃n:Nat,a2=(n:Int):=⟨a2.toNat,by have:=cR.sa;simp only at this;omega⟩;obtain⟨nb,rfl⟩: ∃n:Nat,b2=(n:Int):=⟨b2.toNat,by have:=cR.sb;simp only at this;omega⟩;simp only[zaw] at*;clear lU gC gQ fH cR pl pn pcl nV oz;have Ti:wrap64 ((na:Int)-1)=(na:Int)-1:=IntWalk.wrap64_in _ ⟨tO,tO⟩;have UQ:wrap64 ((nb:Int)-1)=(nb:Int)-1:=IntWalk.wrap64_in _ ⟨tO,tO⟩;go_enter Tryz.func89,Tryz.ntmps89
 go_wp2_with fail;obtain⟨W1,aq⟩: ∃W,W=w.alloc (.cells #[.int .i64 (rn:Int),.int .i64 (na:Int), .slice A as'.length ca] 26):=⟨_,rfl⟩;rw[<-aq];obtain⟨x1,tW,s1⟩:=CBx.new aq;obtain⟨W2,aT⟩: ∃W,W=W1.alloc (.cells #[.int .i64 b1,.int .i64 (nb:Int), .slice B bs.length cb] 26):=⟨_,rfl⟩;rw[<-aT];obtain⟨x2,nO,s2⟩:=CBx.new aT;obtain⟨W,hW⟩: ∃W,W=W2.alloc (.cells #[.int .i64 0,.int .i64 0, .slice none 0 0] 26):=⟨_,rfl⟩;rw[<-hW];obtain⟨x3,ma,s3⟩:=CBx.new hW;have XA:=qA ((x1.below nO).below ma);have XB:=qA (x2.below ma);have XR:=qA x3;rw[s1] at XB;rw[s2,s1] at XR;have BX:Wi (Wf w w W):=qA (tW.trans ((nO.trans (ma.mono tO)).mono tO));have aH:W.heap.size=w.heap.size+3:=tO;clear hW aq aT tW nO ma x1 x2 x3 s1 s2 s3;have HA:Wi (∀w',Wf W.heap.size W w'->ArgG w' (.agg #[.int .i64 (rn:Int), .int .i64 (na:Int), .slice A as'.length ca]) ((rn:Int),(na:Int),as')):=qA fun w' hb=>cJ.o.below (BX.trans (hb.mono tO));have HB:Wi (∀w',Wf W.heap.size W w'->ArgG w' (.agg #[.int .i64 b1, .int .i64 (nb:Int), .slice B bs.length cb]) (b1,(nb:Int),bs)):=qA fun w' hb=>aS.o.below (BX.trans (hb.mono tO));have h1:=qj _ ((rn:Int),(na:Int),as') W (HA W (zan _ _));rw[nS.o] at h1;refine h1.mono ?_;clear h1;rintro e w1 ⟨rfl,iK⟩;have B1:=qA iK;obtain⟨u0,u1,u2⟩:=(XB.below iK).cs;have dh:=iK.size;have bk:w.heap.size+1<w1.heap.size:=tO;clear iK;go_wp2_with fail;have h1:=qj _ (b1,(nb:Int),bs) w1 (HB w1 B1);rw[yC.o] at h1;refine h1.mono ?_;clear h1 u0 u1 u2;rintro e w2 ⟨rfl,lL⟩;have B2:=qA (B1.trans (lL.mono B1.size));have je:=lL.size;clear lL;obtain⟨u0,u1,u2⟩:=(XA.below B2).cs;obtain⟨v0,v1,v2⟩:=(XB.below B2).cs;obtain⟨z0,z1,z2⟩:=(XR.below B2).cs;have k7:=(XR.below B2).fz 0;have ig:=(XR.below B2).fz 1;have gI:=(XR.below B2).fz 2;have uN:w.heap.size<w2.heap.size:=tO;have nh:w.heap.size+1<w2.heap.size:=tO;have rA:w.heap.size+1+1<w2.heap.size:=tO;rcases er:((rn:Int) != b1) with _ | _
 rotate_left
 ·have fc:(rn:Int)≠b1:=by simpa using er
  have F:=qA (fY fc);have aV:=qA (BX.trans (B2.mono tO));go_wp2;obtain⟨e0,e1,e2⟩:=qo (.int .i64 0) (.int .i64 0) (.slice none 0 0) z0 z1 z2;have bw:Wf w w (((w2.setCell ⟨w.heap.size+1+1,0,none⟩ (.int .i64 0)).setCell ⟨w.heap.size+1+1,1,none⟩ (.int .i64 0)).setCell ⟨w.heap.size+1+1,2,none⟩ (.slice none 0 0)):=qH _ _ _ aV.o tO;generalize (((w2.setCell ⟨w.heap.size+1+1,0,none⟩ (.int .i64 0)).setCell ⟨w.heap.size+1+1,1,none⟩ (.int .i64 0)).setCell ⟨w.heap.size+1+1,2,none⟩ (.slice none 0 0))=wf at*;rw[F.o];exact Wj (v:= .tuple #[.agg #[.int .i64 0, .int .i64 0, .slice none 0 0], .bool false]) (by simp[results,Tryz.results89,go_sem,e0,e1,e2]) rfl ⟨_,rfl,⟨.slice none 0 0,rfl,⟨by decide,by decide⟩,⟨by decide,by decide⟩,OwE.nil⟩,bw⟩
 have fc:(rn:Int)=b1:=by simpa using er
 subst fc;have TH:IntKind.i64.wrap ((na:Int)-1)=(na:Int)-1:=by rw[IntKind.wrap_i64];omega
 have RQ:IntKind.i64.wrap ((nb:Int)-1)=(nb:Int)-1:=by rw[IntKind.wrap_i64];omega
 have vE:Wi (PO=true->RES=(PG,true)):=qA fun h=>kP.o rfl h;clear er fY kP z0 z1 z2 k7 ig gI;go_wp2_with (go_at_call 138;refine(qi _ _ _ _).mono ?_;rintro e w' ⟨rfl,rfl⟩;first | rw[yz.o] | rw[kS.o])
 have n9:u*nb+v<na*nb:=qDO tO tO;have rm:=qCd _ _ _ _ na nb rn (u*nb+v) u v w2 (HA w2 B2) (HB w2 B2) kz.o rfl rfl n9 rfl;rw[<-Ke.o] at rm;refine rm.mono ?_;clear rm n9 u0 u1 u2 v0 v1 v2;rintro e w3 ⟨sP,rfl,oP,pC⟩;have B3:=qA (B2.trans (pC.mono B2.size));have dZ:=pC.size;obtain⟨AP,cP,rfl,Bl,UL,_,ld⟩:=oP.form;obtain⟨bP,rfl,Tt,Sl⟩:=ld (by rw[qBg];omega);have OP:=qA oP;clear pC oP ld;obtain⟨u0,u1,u2⟩:=(XA.below B3).cs;obtain⟨v0,v1,v2⟩:=(XB.below B3).cs;have QP:w.heap.size<w3.heap.size:=tO;have H8:w.heap.size+1<w3.heap.size:=tO;go_wp2_with fail;refine(qCk _ _ _ _ _ na nb rn P w3 (HA w3 B3) (HB w3 B3) OP.rd kz rfl rfl iM mf).mono ?_
 rintro e w4 ⟨rfl,iI⟩;have B4:=qA (B3.trans (iI.mono B3.size));have jH:=iI.size;have KC:=qA (OP.below iI);clear iI u0 u1 u2 v0 v1 v2;have hE:=qGn as' bs nb rn tO P;obtain⟨np,FM⟩: ∃np,np=P.length:=⟨_,rfl⟩;have yS:=qA FM;have oX:(ns P).length=np:=by rw[qBg,FM]
 have P4:np<=cP:=by rw[<-oX];exact Bl
 obtain⟨NS,Hr⟩: ∃NS,NS=ns P:=⟨_,rfl⟩;rw[<-Hr] at oX OP KC⊢;have Mc:Wi (∀(k:Nat) (hk:k<P.length),∃fo:k<NS.length,NS[k]=((P[k]:Nat):Int)):=qA fun k hk=>⟨tO,by simp only[Hr];exact qJk P k hk⟩;have ID:Wi (∀i,(peL as' bs nb rn P i).length<=i*rn):=yP;rw[<-FM] at kq zJ p1 mf hE;obtain⟨EL,ER⟩: ∃EL,edgL as' bs nb rn P=EL:=⟨_,rfl⟩;have Ba:edgL ((rn:Int),(na:Int),as').2.2 ((rn:Int),(nb:Int),bs).2.2 nb rn P=EL:=ER;rw[Ba];have m7:Wi (PO=(decide (np<=40)&&decide (EL<=120))):=qA (by rw[<-ER];exact kq.o);clear kq;have kq:=m7;rw[ER] at hE;clear ER Ba m7;rw[oX];clear Bl;obtain⟨u0,u1,u2⟩:=(XA.below B4).cs;obtain⟨v0,v1,v2⟩:=(XB.below B4).cs;obtain⟨z0,z1,z2⟩:=(XR.below B4).cs;have k7:=(XR.below B4).fz 0;have ig:=(XR.below B4).fz 1;have gI:=(XR.below B4).fz 2;have FZ:w.heap.size<w4.heap.size:=tO;have PW:w.heap.size+1<w4.heap.size:=tO;have PA:w.heap.size+1+1<w4.heap.size:=tO;have oY:Wi (NS.length=np):=qA oX;clear Hr FM oX;rcases el:decide (40<np) with _ | _
 rotate_left
 ·have bn:40<np:=by simpa using el
  have lj:(40:Int)<(np:Int):=tO;have F:=qA (jo (by rw[kq.o,decide_eq_false (by omega: ¬np<=40)];rfl));have aV:=qA (BX.trans (B4.mono tO));go_wp2;obtain⟨e0,e1,e2⟩:=qo (.int .i64 0) (.int .i64 0) (.slice none 0 0) z0 z1 z2;have bw:Wf w w (((w4.setCell ⟨w.heap.size+1+1,0,none⟩ (.int .i64 0)).setCell ⟨w.heap.size+1+1,1,none⟩ (.int .i64 0)).setCell ⟨w.heap.size+1+1,2,none⟩ (.slice none 0 0)):=qH _ _ _ aV.o tO;generalize (((w4.setCell ⟨w.heap.size+1+1,0,none⟩ (.int .i64 0)).setCell ⟨w.heap.size+1+1,1,none⟩ (.int .i64 0)).setCell ⟨w.heap.size+1+1,2,none⟩ (.slice none 0 0))=wf at*;rw[F.o];exact Wj (v:= .tuple #[.agg #[.int .i64 0, .int .i64 0, .slice none 0 0], .bool false]) (by simp[results,Tryz.results89,go_sem,e0,e1,e2]) rfl ⟨_,rfl,⟨.slice none 0 0,rfl,⟨by decide,by decide⟩,⟨by decide,by decide⟩,OwE.nil⟩,bw⟩
 have bn:np<=40:=by simp at el;omega
 have lj: ¬(40:Int)<(np:Int):=tO;rcases ee:decide (120<EL) with _ | _
 rotate_left
 ·have a7:120<EL:=by simpa using ee
  have pM:(120:Int)<(EL:Int):=tO;have F:=qA (jo (by rw[kq.o,decide_eq_false (by omega: ¬EL<=120),Bool.and_false]));clear el ee bn a7 hE mf;have aV:=qA (BX.trans (B4.mono tO));go_wp2;obtain⟨e0,e1,e2⟩:=qo (.int .i64 0) (.int .i64 0) (.slice none 0 0) z0 z1 z2;have bw:Wf w w (((w4.setCell ⟨w.heap.size+1+1,0,none⟩ (.int .i64 0)).setCell ⟨w.heap.size+1+1,1,none⟩ (.int .i64 0)).setCell ⟨w.heap.size+1+1,2,none⟩ (.slice none 0 0)):=qH _ _ _ aV.o tO;generalize (((w4.setCell ⟨w.heap.size+1+1,0,none⟩ (.int .i64 0)).setCell ⟨w.heap.size+1+1,1,none⟩ (.int .i64 0)).setCell ⟨w.heap.size+1+1,2,none⟩ (.slice none 0 0))=wf at*;rw[F.o];exact Wj (v:= .tuple #[.agg #[.int .i64 0, .int .i64 0, .slice none 0 0], .bool false]) (by simp[results,Tryz.results89,go_sem,e0,e1,e2]) rfl ⟨_,rfl,⟨.slice none 0 0,rfl,⟨by decide,by decide⟩,⟨by decide,by decide⟩,OwE.nil⟩,bw⟩
 have a7:EL<=120:=by simp at ee;omega
 have pM: ¬(120:Int)<(EL:Int):=tO;have mD:=qA (vE (by rw[kq.o,decide_eq_true bn,decide_eq_true a7];rfl));clear el ee z0 z1 z2 k7 ig gI;have eX:1<=np:=p1;go_wp2;obtain⟨w5,eH⟩: ∃W,W=w4.alloc (.cells #[.int .i64 (rn:Int),.int .i64 (np:Int), .slice none 0 0] 26):=⟨_,rfl⟩;have Lu:=qA (GBx.new (m:=((rn:Int),(np:Int),[])) (base:=w.heap.size+3) (A:=none) (c:=0) OwE.nil (by unfold I64;simp only;omega) (by unfold I64;simp only;omega) eH);obtain⟨_,zq,RD⟩:=CBx.new eH;rw[<-eH];obtain⟨p,hp⟩: ∃p,p=w4.heap.size:=⟨_,rfl⟩;rw[<-hp] at Lu⊢;have B5:Wi (Wf p w4 w5):=qA (by rw[hp];exact zq);have V2:W.heap.size<=p:=by have:=B4.o.size;omega
 have yK:w.heap.size+3<=p:=tO;have l7:Wi (∀w',Wf p w4 w'->Wf W W w'):=qA fun w' hb=>B4.o.trans (hb.mono tO);have gJ:Wi (∀w',Wf p w4 w'->CBx w' w (.int .i64 (rn:Int)) (.int .i64 (na:Int)) (.slice A as'.length ca)/\CBx w' (w.heap.size+1) (.int .i64 (rn:Int)) (.int .i64 (nb:Int)) (.slice B bs.length cb)):=qA fun w' hb=>⟨XA.below (l7 w' hb),XB.below (l7 w' hb)⟩;have AU:Wi (∀w',Wf p w4 w'->OwI w' w2 (.slice (some ⟨bP,0,none⟩) NS.length cP) NS):=qA fun w' hb=>KC.o.keepB fun b aL=>hb.block b (by have:=(KC.o.1.lt b aL).2;omega);have Q6:bP<p:=tO;clear eH hp zq u0 u1 u2 v0 v1 v2;go_loopw [13] (fun i wr=> ∃(k:Nat) (A2:Option Addr) (c2:Nat),k<=np/\i= .int .i64 k/\GBx wr p (w.heap.size+3) A2 c2 ((rn:Int),(np:Int),srt cmpE (peL as' bs nb rn P k))/\Wf p w4 wr) (fun i _=>np-(intOf i).toNat)
 case atStart=>exact⟨0,none,0,zaB _,rfl,Lu,B5⟩
 case round=>
  obtain⟨k,A2,c2,hk,rfl,dg,bJ⟩:=hrel;obtain⟨wk,rfl⟩: ∃wk:Wg,wk=wr:=⟨_,rfl⟩;have iw:=qA dg;have fl:=qA bJ;clear dg bJ;by_cases ac:k<np
  ·have km:=iM.o _ (zal (by have:=yS.o;omega:k<P.length));obtain⟨pk,n4⟩: ∃pk,P[k]'(by have:=yS.o;omega)=pk:=⟨_,rfl⟩;have yF:=qA n4;have pJ:Wi (P.getD k 0=pk):=qA (by rw[<-n4];simp[show k<P.length by have:=yS.o;omega]);have Mh:Wi (∃fo:k<NS.length,NS[k]=(pk:Int)):=qA (by
    obtain⟨h1,h2⟩:=Mc.o k (by have:=yS.o;omega);exact⟨h1,by rw[h2,n4]⟩)
   rw[n4] at km;have Bn:na*nb<=1600:=zaG mF.1.2 mF.2.2;obtain⟨un,cQ⟩: ∃un,un=pk/nb:=⟨_,rfl⟩;obtain⟨vn,d6⟩: ∃vn,vn=pk%nb:=⟨_,rfl⟩;have gF:=qA cQ;have nD:=qA d6;have rH:un<=1600:=by rw[cQ];exact zay (za0 _ _) tO
   have gd:wrap64 ((pk:Int)/(nb:Int))=(un:Int):=by
    have:(pk:Int)/(nb:Int)=(un:Int):=by rw[cQ];rfl
    rw[this];exact IntWalk.wrap64_in _ ⟨tO,tO⟩
   have iA:(pk:Int)%(nb:Int)=(vn:Int):=by rw[d6];rfl
   have Oy:=qA gd;have LD:=qA iA;clear gd iA;have tV:Wi ((peL as' bs nb rn P k).length<=4800):=qA (by
    have h1:=ID.o k;have h2:=zaG (show k<=1600 by omega) (show rn<=3 by omega);omega)
   have pZ:=qA (qFG as' bs nb rn P k);obtain⟨BL,Ci⟩: ∃L,peL as' bs nb rn P k=L:=⟨_,rfl⟩;rw[Ci] at tV pZ iw;clear Ci cQ d6 n4;go_wp2;go_loopw [14] (fun x wr=> ∃(m:Nat) (A2:Option Addr) (c2:Nat),m<=rn/\x= .int .i64 ((m:Int)+1)/\GBx wr p (w.heap.size+3) A2 c2 ((rn:Int),(np:Int),srt cmpE (BL++peR as' bs nb P k m))/\Wf p w4 wr) (fun x _=>rn+1-(intOf x).toNat)
   case atStart=>exact⟨0,A2,c2,zaB _,rfl,by simpa[peR] using iw.o,fl.o⟩
   case round=>
    obtain⟨m,A2,c2,hm,rfl,dg,bJ⟩:=hrel;obtain⟨wm,rfl⟩: ∃wm:Wg,wm=wr:=⟨_,rfl⟩;have zY:=qA dg;have JS:=qA bJ;have VF:=bJ.size;obtain⟨kg,kw,jS⟩:=(gJ wm bJ).1.cs;obtain⟨jG,jL,ju⟩:=(gJ wm bJ).2.cs;obtain⟨fo,jC⟩:=Mh.o;have kK:=(AU wm bJ).cellAt k fo;rw[jC] at kK;have rm:=dg.lt;clear dg bJ jC;by_cases aj:m<rn
    ·have fA:(m:Int)+1<=(rn:Int):=tO;have zT:=qA (qGK as' bs nb P k m);have JF:=qPb as' bs nb P k m;have ka:Wi (peE as' bs nb P k ((m:Int)+1)=(pnx as' bs nb pk ((m:Int)+1)).map fun q=>((k:Int),(m:Int)+1,((P.idxOf q:Nat):Int))):=qA (by unfold peE;rw[pJ.o]);have pA:Wi (pnx as' bs nb pk ((m:Int)+1)=if 0<=qF as' (un:Int) ((m:Int)+1)/\0<=qF bs (vn:Int) ((m:Int)+1) then some ((qF as' (un:Int) ((m:Int)+1)).toNat*nb+(qF bs (vn:Int) ((m:Int)+1)).toNat) else none):=qA (by unfold pnx;rw[<-gF.o,<-nD.o]);have JJ:Wi (∀q,pnx as' bs nb pk ((m:Int)+1)=some q->q∈P):=qA fun q hq=>Iw.o pk (by rw[<-yF.o];exact zal _) _ q (qw.2 (.inl ⟨tO,tO⟩)) hq;have lk:=qA (fun W h=>qe (.agg #[.int .i64 (rn:Int), .int .i64 (na:Int), .slice A as'.length ca]) ((rn:Int),(na:Int),as') (un:Int) ((m:Int)+1) W h (OA.o (un:Int) _));have lI:=qA (fun W h=>qe (.agg #[.int .i64 (rn:Int), .int .i64 (nb:Int), .slice B bs.length cb]) ((rn:Int),(nb:Int),bs) (vn:Int) ((m:Int)+1) W h (OB.o (vn:Int) _));have AR:=qA (nA.o (un:Int) ((m:Int)+1));have Dw:=qA (nk.o (vn:Int) ((m:Int)+1));have g0:w.heap.size<wm.heap.size:=tO;have g1:w.heap.size+1<wm.heap.size:=tO;have g2:bP<wm.heap.size:=tO;have gd:=Oy.o;have iA:=LD.o;go_wp2_with fail;have f0:=BelW.cell kg g0;have f1:=BelW.cell kw g0;have f2:=BelW.cell jS g0;have f3:=BelW.cell jG g1;have f4:=BelW.cell jL g1;have f5:=BelW.cell ju g1;have f6:=BelW.cell kK g2;(refine qG tK tK ?_;(repeat(go_big_quiet_step (first | (go_at_call 86;with_reducible exact Calls.bel_of (lk.o _ (HA.o _ (l7.o _ (JS.o.trans ((BelW.h _).mono (zbb rm))))))))));refine wpQuiet_nil ?_;intro wq hw';obtain⟨pq,ae⟩:=hw';have bq:=pq.h;rw[<-ae] at bq;clear ae pq)
     clear f0 f1 f2 f3 f4 f5 f6 gd iA;have sq:=bq.size;have GM:p<wq.heap.size:=tO;have gY:=qA (JS.trans (bq.mono tO));have BQ:=qA bq;clear bq kg kw jS jG jL ju kK;obtain⟨kg,kw,jS⟩:=(gJ wq gY).1.cs;obtain⟨jG,jL,ju⟩:=(gJ wq gY).2.cs;have kK:wq.cell? ⟨bP,k,none⟩=some (.int .i64 (pk:Int)):=by
      obtain⟨fo,jC⟩:=Mh.o;have:=(AU wq gY).cellAt k fo
      rwa [jC] at this
     clear g0 g1 g2;have g0:w.heap.size<wq.heap.size:=tO;have g1:w.heap.size+1<wq.heap.size:=tO;have g2:bP<wq.heap.size:=tO;have gd:=Oy.o;have iA:=LD.o;go_wp2_with fail;have f0:=BelW.cell kg g0;have f1:=BelW.cell kw g0;have f2:=BelW.cell jS g0;have f3:=BelW.cell jG g1;have f4:=BelW.cell jL g1;have f5:=BelW.cell ju g1;have f6:=BelW.cell kK g2;(refine qG tK tK ?_;(repeat(go_big_quiet_step (first | (go_at_call 86;with_reducible exact Calls.bel_of (lI.o _ (HB.o _ (l7.o _ (gY.o.trans ((BelW.h _).mono (zbb GM))))))))));refine wpQuiet_nil ?_;intro wz hw';obtain⟨pq,ae⟩:=hw';have bz:=pq.h;rw[<-ae] at bz;clear ae pq)
     clear f0 f1 f2 f3 f4 f5 f6 gd iA g0 g1 g2;have sz:=bz.size;have lH:=qA (gY.trans (bz.mono tO));have EG:=qA ((zY.below BQ).below bz);clear bz kg kw jS jG jL ju kK;rcases ey:decide (0<=qF as' (un:Int) ((m:Int)+1)/\0<=qF bs (vn:Int) ((m:Int)+1)) with _ | _
     ·have D8: ¬(0<=qF as' (un:Int) ((m:Int)+1)/\0<=qF bs (vn:Int) ((m:Int)+1)):=by simpa using ey
      have AV:Wi (peR as' bs nb P k (m+1)=peR as' bs nb P k m):=qA (by rw[zT.o,ka.o,pA.o,Wn D8];simp);generalize qF as' (un:Int) ((m:Int)+1)=y1 at*;generalize qF bs (vn:Int) ((m:Int)+1)=y2 at*;have Te:(0:Int)<(np:Int):=tO;have GY:=oY.o;clear ka pA JJ lk lI;go_wp2;go_loopw [17] (fun x wr=>x= .int .i64 0/\wr=wz) (fun _ _=>0)
      case atStart=>exact⟨rfl,rfl⟩
      case round=>
       obtain⟨rfl,rfl⟩:=hrel;rcases e1:decide (0<=y1) with _ | _
       ·have h1: ¬0<=y1:=by simpa using e1
        go_wp2;go_roundw;exact⟨m+1,A2,c2,tO,by go_num,by rw[AV.o];exact EG.o,lH.o⟩;exact tM
       ·have h1:0<=y1:=by simpa using e1
        have h2: ¬0<=y2:=fun h=>D8 ⟨h1,h⟩;go_wp2;go_roundw;exact⟨m+1,A2,c2,tO,by go_num,by rw[AV.o];exact EG.o,lH.o⟩;exact tM
     ·have xi:0<=qF as' (un:Int) ((m:Int)+1)/\0<=qF bs (vn:Int) ((m:Int)+1):=by simpa using ey
      have vC:=AR.o;have xy:=Dw.o;obtain⟨y1,nl⟩: ∃y:Nat,qF as' (un:Int) ((m:Int)+1)=(y:Int):=⟨(qF as' (un:Int) ((m:Int)+1)).toNat,tO⟩;obtain⟨y2,sY⟩: ∃y:Nat,qF bs (vn:Int) ((m:Int)+1)=(y:Int):=⟨(qF bs (vn:Int) ((m:Int)+1)).toNat,tO⟩;have fK:pnx as' bs nb pk ((m:Int)+1)=some (y1*nb+y2):=by
       rw[pA.o,Wm xi,nl,sY];rfl
      have zC:=JJ.o _ fK;have pm:Wi (peR as' bs nb P k (m+1)=peR as' bs nb P k m++ [((k:Int),(m:Int)+1,((P.idxOf (y1*nb+y2):Nat):Int))]):=qA (by rw[zT.o,ka.o,fK];rfl);have eF:=zak zC;have IB:Wi (∀K (hK:K<P.length),P[K]=y1*nb+y2↔K=P.idxOf (y1*nb+y2)):=qA fun K hK=>by
       constructor
       ·intro h;refine qDp II.o hK eF ?_;rw[h,zav eF]
       ·intro h;subst h;exact zav eF
      rw[<-yS.o] at eF;rw[nl,sY] at xi⊢;obtain⟨jx,sQ⟩: ∃j,P.idxOf (y1*nb+y2)=j:=⟨_,rfl⟩;rw[sQ] at pm IB eF;have Bm:y1<na:=tO;have li:y2<nb:=tO;have VG:y1*nb+y2<=1600:=by have:=qDO Bm li;omega
      have da:(-9223372036854775808:Int)<=((y1*nb:Nat):Int)/\((y1*nb:Nat):Int)<=9223372036854775807:=⟨tO,tO⟩;have cF:(-9223372036854775808:Int)<=((y1*nb+y2:Nat):Int)/\((y1*nb+y2:Nat):Int)<=9223372036854775807:=⟨tO,tO⟩;have QV:(0:Int)<=(y1:Int):=tO;have SW:(0:Int)<=(y2:Int):=tO;have nc:Wi (IntKind.i64.wrap ((y1:Int)*(nb:Int))=((y1*nb:Nat):Int)):=qA (by rw[<-zbl,qDI];exact IntWalk.wrap64_in _ da);have lV:Wi (IntKind.i64.wrap (((y1*nb:Nat):Int)+(y2:Int))=((y1*nb+y2:Nat):Int)):=qA (by rw[<-zbm,qDI];exact IntWalk.wrap64_in _ cF);have FY:Wi (wrap64 ((y1:Int)*(nb:Int))=((y1*nb:Nat):Int)):=qA (by rw[<-zbl];exact IntWalk.wrap64_in _ da);have Fl:Wi (wrap64 (((y1*nb:Nat):Int)+(y2:Int))=((y1*nb+y2:Nat):Int)):=qA (by rw[<-zbm];exact IntWalk.wrap64_in _ cF);clear da cF;obtain⟨qn,jE⟩: ∃q,y1*nb+y2=q:=⟨_,rfl⟩;rw[jE] at lV Fl IB;obtain⟨Vk,AC⟩: ∃q,y1*nb=q:=⟨_,rfl⟩;rw[AC] at nc lV FY Fl;obtain⟨L0,Es⟩: ∃L,BL++peR as' bs nb P k m=L:=⟨_,rfl⟩;have Qr:L0.length<=4900:=by rw[<-Es,zaj];have:=tV.o;omega
      rw[Es] at EG;have RY:=qA Es;clear nl sY xi vC xy fK zC sQ jE AC Es ka pA JJ lk lI AR Dw ey;go_wp2;go_loopw [17] (fun x wr=> ∃(K:Nat) (A2:Option Addr) (c2:Nat),K<=np/\x= .int .i64 K/\GBx wr p (w.heap.size+3) A2 c2 ((rn:Int),(np:Int),pkL L0 (some ((k:Int),(m:Int)+1,(jx:Int))) jx K)/\Wf p w4 wr) (fun x _=>np-(intOf x).toNat)
      case atStart=>exact⟨0,A2,c2,zaB _,rfl,by rw[show pkL L0 (some ((k:Int),(m:Int)+1,(jx:Int))) jx 0=srt cmpE L0 by simp[pkL]];exact EG.o,lH.o⟩
      case round=>
       obtain⟨K,A2,c2,hK,rfl,dg,bJ⟩:=hrel;have Db:=qA dg;have aB:=qA bJ;have d5:=bJ.size;have Kh:=dg.lt;by_cases mE:K<np
       ·have VY:(K:Int)<(np:Int):=tO;have NO:K<P.length:=by have:=yS.o;omega
        obtain⟨pK,Hn⟩: ∃q,P[K]=q:=⟨_,rfl⟩;have Ee:=qA (IB K NO);rw[Hn] at Ee;have kK:wr.cell? ⟨bP,K,none⟩=some (.int .i64 (pK:Int)):=by
         obtain⟨h1,h2⟩:=Mc.o K NO;have:=(AU wr bJ).cellAt K h1
         rwa [h2,Hn] at this
        obtain⟨jG,jL,ju⟩:=(gJ wr bJ).2.cs;have Ua:w.heap.size+1<wr.heap.size:=tO;have R7:bP<wr.heap.size:=tO;have IC:Wi (jx≠K->pkL L0 (some ((k:Int),(m:Int)+1,(jx:Int))) jx (K+1)=pkL L0 (some ((k:Int),(m:Int)+1,(jx:Int))) jx K):=qA fun ai=>by
         unfold pkL;simp only
         by_cases h:jx<K
         ·rw[Wm h,Wm tO]
         ·rw[Wn h,Wn tO]
        have JT:Wi (jx=K->pkL L0 (some ((k:Int),(m:Int)+1,(jx:Int))) jx (K+1)=insF cmpE (pkL L0 (some ((k:Int),(m:Int)+1,(jx:Int))) jx K) ((k:Int),(m:Int)+1,(K:Int))):=qA fun he=>by
         subst he;unfold pkL;simp only
         rw[Wm tO,Wn tO,qOj]
        clear dg bJ Hn;rcases eqk:((pK:Int)==(qn:Int)) with _ | _
        ·have ai:jx≠K:=fun h=>by
          have:=Ee.o.2 h.symm
          rw[this] at eqk;simp at eqk
         have F:=qA (IC ai);clear ai JT IC;have m1:=nc.o;have m2:=lV.o;have m3:=FY.o;have m4:=Fl.o;go_wp2_with fail;go_quiet (fail)
         go_wp2;clear m1 m2 m3 m4;go_roundw;exact⟨K+1,A2,c2,tO,by go_num,by rw[F.o];exact Db.o.below (qC (zan _ _) _),qC aB.o _⟩;exact tM
        ·have F:=qA (JT (Ee.o.1 (Int.ofNat_inj.1 (eq_of_beq eqk))).symm);have oq:=qQj L0 (some ((k:Int),(m:Int)+1,(jx:Int))) jx K;clear JT IC Ee;obtain⟨LK,N4⟩: ∃L,pkL L0 (some ((k:Int),(m:Int)+1,(jx:Int))) jx K=L:=⟨_,rfl⟩;obtain⟨LN,Ip⟩: ∃L,insF cmpE LK ((k:Int),(m:Int)+1,(K:Int))=L:=⟨_,rfl⟩;rw[N4] at F Db oq;rw[Ip] at F;have GG:=qA Ip;clear N4 Ip;have z2:=Db.o.c2;simp only at z2
         have dl:E64 ((k:Int),(m:Int)+1,(K:Int)):=⟨⟨by simp only;omega,by simp only;omega⟩,⟨by simp only;omega,by simp only;omega⟩,⟨by simp only;omega,by simp only;omega⟩⟩;have ce:=qA dl;have Kz:LK.length<=268435456:=tO;clear dl;have m1:=nc.o;have m2:=lV.o;have m3:=FY.o;have m4:=Fl.o;go_wp2_with fail;go_quiet (fail)
         go_wp2_with fail;clear m1 m2 m3 m4 z2;have Ed:=qA (Db.below (qC (zan _ _) nq));have aU:=qA (qC aB nq);have Bq:p<(wr.drewN nq).heap.size:=Kh;generalize wr.drewN nq=wd at*;refine(qBy _ LK ((k:Int),(m:Int)+1,(K:Int)) wd Ed.o.ow.arg ce Kz).mono ?_
         rintro e w9 ⟨r9,rfl,o9,b9⟩;rw[GG.o] at o9;have lJ:=b9.size;have rg:=qA (Ed.below b9);have iO:=qA (aU.trans (b9.mono (zbb Bq)));obtain⟨A9,c9,rfl,_⟩:=o9.form;have sr:Wi (∀b,(zau A9 LN.length c9).ownBlock=some b->b≠p):=qA fun b hb=>by have:=(o9.1.lt b hb).1;omega
         have AD:=qA (rg.o.put o9 sr);have yH:=qA (iO.o.setCell (p:=⟨p,2,none⟩) (zad _) (.slice A9 LN.length c9));have z2:=rg.o.c2;have gI:=rg.o.fz 2;simp only at z2
         clear o9 b9;go_wp2;go_roundw;exact⟨K+1,A9,c9,tO,by go_num,by rw[F.o];exact AD.o.mono tO,yH.o⟩;exact tM
       ·obtain rfl:K=np:=tO
        have F:Wi (pkL L0 (some ((k:Int),(m:Int)+1,(jx:Int))) jx K=srt cmpE (BL++peR as' bs nb P k (m+1))):=qA (by
         unfold pkL;simp only
         rw[Wm eF,pm.o,<-RY.o,List.append_assoc])
        have Ed:=Db;rw[F.o] at Ed;have GY:=oY.o;clear dg bJ;go_wp2;go_roundw;exact⟨m+1,A2,c2,tO,by go_num,Ed.o,aB.o⟩;exact tM
    ·obtain rfl:m=rn:=tO
     have vM: ¬(m:Int)+1<=(m:Int):=tO;go_wp2;go_roundw;exact⟨k+1,A2,c2,tO,by go_num,by rw[pZ.o];exact zY.o,JS.o⟩;exact tM
  ·obtain rfl:k=np:=tO
   have DC:=zJ.o;have F:=qA (mD.trans (by rw[DC]:(PG,true)=(((rn:Int),(k:Int),srt cmpE (peL as' bs nb rn P k)),true)));clear DC mD zJ;obtain⟨LL,NT⟩: ∃L,srt cmpE (peL as' bs nb rn P k)=L:=⟨_,rfl⟩;rw[NT] at F iw;clear NT;have BF:=qA (l7 _ fl);obtain⟨z0,z1,z2⟩:=(XR.below BF).cs;have k7:=(XR.below BF).fz 0;have ig:=(XR.below BF).fz 1;have gI:=(XR.below BF).fz 2;obtain⟨y0,y1,y2⟩:=iw.o.cs;simp only at y0 y1 y2
   have E7:=iw.o.lt;have Bd:w.heap.size+1+1<wk.heap.size:=tO;have lz:w.heap.size+1+1≠p:=tO;have aV:=qA (BX.trans (BF.mono tO));have Np:=qA iw.o.ow;have aN:=iw.o.i1;have aQ:=iw.o.i2;go_wp2;obtain⟨e0,e1,e2⟩:=qo (.int .i64 (rn:Int)) (.int .i64 (k:Int)) (.slice A2 LL.length c2) z0 z1 z2;have bw:Wf w w (((wk.setCell ⟨w.heap.size+1+1,0,none⟩ (.int .i64 (rn:Int))).setCell ⟨w.heap.size+1+1,1,none⟩ (.int .i64 (k:Int))).setCell ⟨w.heap.size+1+1,2,none⟩ (.slice A2 LL.length c2)):=qH _ _ _ aV.o tO;have ow:OwE (((wk.setCell ⟨w.heap.size+1+1,0,none⟩ (.int .i64 (rn:Int))).setCell ⟨w.heap.size+1+1,1,none⟩ (.int .i64 (k:Int))).setCell ⟨w.heap.size+1+1,2,none⟩ (.slice A2 LL.length c2)) (w.heap.size+3) (.slice A2 LL.length c2) LL:=Np.o.keep fun b hb=>qI _ _ _ _ _ (by have:=(Np.o.1.lt b hb).1;omega);generalize (((wk.setCell ⟨w.heap.size+1+1,0,none⟩ (.int .i64 (rn:Int))).setCell ⟨w.heap.size+1+1,1,none⟩ (.int .i64 (k:Int))).setCell ⟨w.heap.size+1+1,2,none⟩ (.slice A2 LL.length c2))=wf at*;rw[F.o];exact Wj (v:= .tuple #[.agg #[.int .i64 (rn:Int), .int .i64 (k:Int), .slice A2 LL.length c2], .bool true]) (by simp[results,Tryz.results89,go_sem,e0,e1,e2]) rfl ⟨_,rfl,⟨.slice A2 LL.length c2,rfl,aN,aQ,ow.mono tO⟩,bw⟩
structure MatI (X bb P A B:Nat) (w:Wg) (Q:Nat->Nat) (f:Nat->Nat->Int):Prop where
 outer:w.ownsRow bb 37 1 (.slice (some ⟨P,0,none⟩) A A) A ((zao A).map fun i=> .slice (some ⟨Q i,0,none⟩) B B)
 rows: ∀i,i<A->OwI w bb (.slice (some ⟨Q i,0,none⟩) B B) ((zao B).map (f i))
 inj: ∀i j,i<A->j<A->Q i=Q j->i=j
 neP: ∀i,i<A->Q i≠P
 ltP:P<X
 ltQ: ∀i,i<A->Q i<X
section
variable {X bb P A B:Nat} {w w':Wg} {Q:Nat->Nat} {f:Nat->Nat->Int}
theorem MatI.cellO (h:MatI X bb P A B w Q f) {i:Nat} (hi:i<A):w.cell? ⟨P,i,none⟩=some (.slice (some ⟨Q i,0,none⟩) B B):=by
 rw[World.ownsRow.cellAt h.outer i tO];simp[hi]
theorem MatI.cellI (h:MatI X bb P A B w Q f) {i j:Nat} (hi:i<A) (hj:j<B):w.cell? ⟨Q i,j,none⟩=some (.int .i64 (f i j)):=by
 have:=(h.rows i hi).cellAt j (by simpa using hj)
 simpa using this
theorem MatI.free (h:MatI X bb P A B w Q f) {i:Nat} (hi:i<A) (j:Nat):w.frozen? ⟨Q i,j,none⟩=false:=(h.rows i hi).free j
theorem qAA {base:Nat} {e:TypeId} {sz n:Nat} {v:Wh} {cs:List Wh} (h:w.ownsRow base e sz v n cs) (hb: ∀b,v.ownBlock=some b->w'.heap[b]? =w.heap[b]?):w'.ownsRow base e sz v n cs:=by
 refine⟨h.1,?_⟩;rcases h.2 with h0 | ⟨g,cap,cur,hv,hg,hh,r⟩
 ·exact .inl h0
 ·exact .inr ⟨g,cap,cur,hv,hg,by rw[hb g (by rw[hv];rfl)];exact hh,r⟩
theorem MatI.keep (h:MatI X bb P A B w Q f) (hb: ∀b,b<X->w'.heap[b]? =w.heap[b]?):MatI X bb P A B w' Q f:=by
 refine⟨qAA h.outer fun b e=> ?_,fun i hi=>⟨qAA (h.rows i hi).1 fun b e=> ?_,(h.rows i hi).2⟩,h.inj,h.neP,h.ltP,h.ltQ⟩
 ·simp only[zap,za2.injEq] at e;subst e;exact hb _ h.ltP
 ·simp only[zap,za2.injEq] at e;subst e;exact hb _ (h.ltQ i hi)
def upd (f:Nat->Nat->Int) (i j:Nat) (z:Int):Nat->Nat->Int:=fun i' j'=>if i'=i/\j'=j then z else f i' j'
theorem MatI.set (h:MatI X bb P A B w Q f) {i j:Nat} (hi:i<A) (hj:j<B) {z:Int} (hz:I64 z):MatI X bb P A B (w.setCell ⟨Q i,j,none⟩ (.int .i64 z)) Q (upd f i j z):=by
 have hs: ∀b,b≠Q i->(w.setCell ⟨Q i,j,none⟩ (.int .i64 z)).heap[b]? =w.heap[b]? :=fun b hb=>zab w _ _ b hb;refine⟨qAA h.outer fun b e=> ?_,fun i' dB=> ?_,h.inj,h.neP,h.ltP,h.ltQ⟩
 ·simp only[zap,za2.injEq] at e;subst e;exact hs _ (fun e=>h.neP i hi e.symm)
 ·by_cases CJ:i'=i
  ·subst CJ;have h1:=((h.rows i' hi).set j z hz).1;have e:((zao B).map (f i')).set j z=(zao B).map (upd f i' j z i'):=by
    refine zaI tZ fun k h1 h2=> ?_;rw[zbi];simp only[zbg,List.getElem_range];unfold upd;by_cases hk:j=k
    ·subst hk;simp
    ·rw[Wn hk,Wn (fun h=>hk h.2.symm)]
   rwa [e] at h1
  ·have h1:OwI (w.setCell ⟨Q i,j,none⟩ (.int .i64 z)) bb (.slice (some ⟨Q i',0,none⟩) B B) ((zao B).map (f i')):=
    ⟨qAA (h.rows i' dB).1 fun b e=>by
     simp only[zap,za2.injEq] at e;subst e;exact hs _ (fun e=>CJ (h.inj _ _ dB hi e)),(h.rows i' dB).2⟩
   have e:(zao B).map (f i')=(zao B).map (upd f i j z i'):=by
    refine List.map_congr_left fun k _=> ?_;unfold upd;rw[Wn (fun h=>CJ h.1)]
   rwa [e] at h1
end
def prC (B:Nat) (p:Nat):List Wh:= [.int .i64 ((p/B:Nat):Int), .int .i64 ((p%B:Nat):Int)]
def prCs (B:Nat) (o:List Nat):List Wh:=(o.map (prC B)).flatten
theorem qEN (B:Nat) (o:List Nat) (k j:Nat) (hk:k<o.length) (hj:j<2):(prCs B o)[k*2+j]? =(prC B o[k])[j]? :=by
 unfold prCs;induction o generalizing k with
 | nil=>simp at hk
 | cons p o ih=>
   cases k with
   | zero=>
     simp only[Nat.zero_mul,zaD,zaz,zaC,za3];rw[zaE (by simpa[prC] using hj)]
   | succ k=>
     simp only[zaz,zaC,zaH];rw[zaS (by simp[prC];omega)];have:(k+1)*2+j-(prC B p).length=k*2+j:=by simp[prC];omega
     rw[this];exact ih k (by simpa using hk)
theorem qND (B:Nat) (o:List Nat) (p:Nat):prCs B (o++ [p])=prCs B o++prC B p:=by simp[prCs]
def OwPr (w:Wg) (base:Nat) (v:Wh) (B:Nat) (o:List Nat):Prop:=w.ownsRow base 131 2 v o.length (prCs B o)
theorem qMx:(Tryz.prog.info? 131).map (fun i=>(i.zero,i.size,i.bytes))=some (some (.agg #[.int .i64 0, .int .i64 0]),2,16):=by kernel_rfl
theorem qFL {w:Wg} {ops:Array Oper} {rest:List Oper} {o:Oper} {a:Act} {R:Exit->Act->Wg->Prop} (dq:o.guard=none) (s x:Operand)
  (ho:o.op= .call {callee:= .builtin .append,args:= #[s,x],argTypes:= #[132,132]})
  (base:Nat) (v:Wh) (B:Nat) (es:List Nat) (aa:OwPr w base v B es) (hs:a.eval s=v) (b:Nat) (e:Nat) (hx:a.eval x= .slice (some ⟨b,0,none⟩) 1 1)
  (hc: ∀j u,(prC B e)[j]? =some u->w.cell? ⟨b,j,none⟩=some u) (hl:es.length<=1073741824) (au:base<=w.heap.size)
  (h: ∀v' w',OwPr w' base v' B (es++ [e])->w.grownBy w' v.ownBlock->(v'.ownBlock=v.ownBlock\/v'.ownBlock=some w)->wpList Tryz.prog ops R rest (a.put o.dst v') w'):
  wpList Tryz.prog ops R (o::rest) a w:=by
 obtain⟨i0,ci,cB,bi,bQ⟩:=info_parts qMx;refine wpList_append_own_at _ dq s x 132 ho base 131 i0 _ 2 16 Tryz.underlying132 ci cB bi bQ rfl tD v es.length (prCs B es) hs aa ⟨b,0,none⟩ 1 1 (prC B e) hx rfl ?_ ?_ (by unfold maxLen;omega) tO au ?_
 ·intro j u hj;rw[Addr.add_lit,zaD];exact hc j u hj
 ·intro u hu;simp[prC] at hu
  rcases hu with rfl | rfl<;>rfl
 ·intro v' w' h1 h2 h3 h5;refine h v' w' ?_ h2 h5;unfold OwPr;rw[qND,zaj];exact h1
def PcD:=Int×Int×Int×Int×Bool
def pcC (d:PcD):List Wh:= [.int .i64 d.1, .int .i64 d.2.1, .int .i64 d.2.2.1, .int .i64 d.2.2.2.1, .bool d.2.2.2.2]
def pcCs (l:List PcD):List Wh:=(l.map pcC).flatten
theorem qNz (l:List PcD) (d:PcD):pcCs (l++ [d])=pcCs l++pcC d:=by simp[pcCs]
theorem qHr (l:List PcD) (k j:Nat) (hk:k<l.length) (hj:j<5):(pcCs l)[k*5+j]? =(pcC l[k])[j]? :=by
 unfold pcCs;induction l generalizing k with
 | nil=>simp at hk
 | cons p o ih=>
   cases k with
   | zero=>
     simp only[Nat.zero_mul,zaD,zaz,zaC,za3];rw[zaE (by simpa[pcC] using hj)]
   | succ k=>
     simp only[zaz,zaC,zaH];rw[zaS (by simp[pcC];omega)];have:(k+1)*5+j-(pcC p).length=k*5+j:=by simp[pcC];omega
     rw[this];exact ih k (by simpa using hk)
theorem qLx:(Tryz.prog.info? 92).map (fun i=>(i.zero,i.size,i.bytes))=some (some (.agg #[.int .i64 0, .int .i64 0, .int .i64 0, .int .i64 0, .bool false]),5,40):=by kernel_rfl
def OwPc (w:Wg) (base:Nat) (v:Wh) (l:List PcD):Prop:=w.ownsRow base 92 5 v l.length (pcCs l)
theorem qMB {w:Wg} {ops:Array Oper} {rest:List Oper} {o:Oper} {a:Act} {R:Exit->Act->Wg->Prop} (dq:o.guard=none) (s x:Operand)
  (ho:o.op= .call {callee:= .builtin .append,args:= #[s,x],argTypes:= #[88,88]})
  (base:Nat) (v:Wh) (es:List PcD) (aa:OwPc w base v es) (hs:a.eval s=v) (b:Nat) (e:PcD) (hx:a.eval x= .slice (some ⟨b,0,none⟩) 1 1)
  (hc: ∀j u,(pcC e)[j]? =some u->w.cell? ⟨b,j,none⟩=some u) (hl:es.length<=1073741824) (au:base<=w.heap.size)
  (h: ∀v' w',OwPc w' base v' (es++ [e])->w.grownBy w' v.ownBlock->(v'.ownBlock=v.ownBlock\/v'.ownBlock=some w)->wpList Tryz.prog ops R rest (a.put o.dst v') w'):
  wpList Tryz.prog ops R (o::rest) a w:=by
 obtain⟨i0,ci,cB,bi,bQ⟩:=info_parts qLx;refine wpList_append_own_at _ dq s x 88 ho base 92 i0 _ 5 40 Tryz.underlying88 ci cB bi bQ rfl tD v es.length (pcCs es) hs aa ⟨b,0,none⟩ 1 1 (pcC e) hx rfl ?_ ?_ (by unfold maxLen;omega) tO au ?_
 ·intro j u hj;rw[Addr.add_lit,zaD];exact hc j u hj
 ·intro u hu;simp[pcC] at hu
  rcases hu with rfl | rfl | rfl | rfl | rfl<;>rfl
 ·intro v' w' h1 h2 h3 h5;refine h v' w' ?_ h2 h5;unfold OwPc;rw[qNz,zaj];exact h1
open Go.Maps in
theorem arrP:Go.WideMaps.ArrKey Tryz.prog 131 3 2:=⟨Tryz.underlying131,by kernel_rfl,by kernel_rfl,by kernel_rfl⟩
theorem lawP:Go.Maps.Keyed Tryz.prog 131:=Go.Maps.Keyed.of_law arrP.law
theorem qOq (w:Wg):(zeroValue 3).run Tryz.prog w= .ok (.int .i64 0) w:=by kernel_rfl
def kp (s t:Int):Lit:= .string (keyBytes [.int .i64 s, .int .i64 t])
theorem qLc {s:Int} (h:I64 s):(Lit.int .i64 s).wf=true:=by
 unfold I64 at h;simpa[Lit.wf,IntKind.min,IntKind.max,IntKind.signed,IntKind.bits] using h
theorem qJo {s t:Int} (hs:I64 s) (ht:I64 t):keyOf Tryz.prog 131 (.agg #[.int .i64 s, .int .i64 t])=some (kp s t):=
 Go.WideMaps.keyOf_pair arrP Tryz.underlying3 ⟨Tryz.prog.types.size-1,by kernel_rfl⟩ (qLc hs) (qLc ht)
theorem qQq {s t s' t':Int} (hs:I64 s) (ht:I64 t) (hs':I64 s') (ht':I64 t') (h:kp s t=kp s' t'):s=s'/\t=t':=by
 have h1:=qJo hs ht;have h2:=qJo hs' ht';rw[<-h] at h2;have:=lawP.inj h1 h2
 simpa using this
theorem qCn {n:Nat} (h:n<=1000000):I64 (n:Int):=by unfold I64;omega
theorem qPI {s t:Int} (hs:I64 s) (ht:I64 t):WideAt.IsKeyLit (kp s t):=lawP.key (qJo hs ht)
structure MapI (B:Nat) (D:DataW Unit) (o:List Nat):Prop where
 im:Go.Maps.IsMap D
 has: ∀s t:Nat,s<=40->t<B->Go.Maps.has D (kp (s:Int) (t:Int))=decide (s*B+t∈o)
 at_: ∀s t:Nat,s<=40->t<B->s*B+t∈o->D.atKey (kp (s:Int) (t:Int)) (.lit (.int .i64 0))= .lit (.int .i64 ((o.idxOf (s*B+t):Nat):Int))
theorem MapI.nil (B:Nat):MapI B (.map []) []:=⟨Go.Maps.isMap_empty,fun s t _ _=>by simp[Go.Maps.has],fun s t _ _ h=>by cases h⟩
theorem qLb {B s t s' t':Nat} (ht:t<B) (ht':t'<B) (h:s*B+t=s'*B+t'):s=s'/\t=t':=by
 have hB:0<B:=tO;have h1:(s*B+t)/B=s:=by rw[zaF,zaN hB,zaK ht];omega
 have h2:(s'*B+t')/B=s':=by rw[zaF,zaN hB,zaK ht'];omega
 have h3:s=s':=by rw[<-h1,<-h2,h]
 subst h3;exact⟨rfl,tO⟩
theorem MapI.put {B:Nat} {D:DataW Unit} {o:List Nat} (h:MapI B D o) (hB:B<=40) {s t:Nat} (hs:s<=40) (ht:t<B) (hn:s*B+t∉o):
  MapI B (D.put (kp (s:Int) (t:Int)) (.lit (.int .i64 (o.length:Int)))) (o++ [s*B+t]):=by
 have i1:=qCn (n:=s) tO;have i2:=qCn (n:=t) tO;have hk:=qPI i1 i2;have ne: ∀s' t':Nat,s'<=40->t'<B->s'*B+t'≠s*B+t->kp (s':Int) (t':Int)≠kp (s:Int) (t:Int):=fun s' t' hs' ht' ai e=>by
  have:=qQq (qCn (n:=s') tO) (qCn (n:=t') tO) i1 i2 e
  have e1:s'=s:=tO;have e2:t'=t:=tO;exact ai (by rw[e1,e2])
 refine⟨h.im.put _ _,fun s' t' hs' ht'=> ?_,fun s' t' hs' ht' hm=> ?_⟩
 ·by_cases e:s'*B+t'=s*B+t
  ·obtain⟨rfl,rfl⟩:=qLb ht' ht e;rw[Go.Maps.has_put_same h.im hk];simp
  ·rw[Go.Maps.has_put_other (ne s' t' hs' ht' e),h.has s' t' hs' ht'];simp[e]
 ·by_cases e:s'*B+t'=s*B+t
  ·obtain⟨rfl,rfl⟩:=qLb ht' ht e;rw[Go.Maps.atKey_put_same h.im hk,zbe,Wn hn];simp
  ·have kQ:s'*B+t'∈o:=by
    rcases zai.1 hm with hm | hm
    ·exact hm
    ·exact absurd (zae.1 hm) e
   rw[Go.Maps.atKey_put_other (ne s' t' hs' ht' e),h.at_ s' t' hs' ht' kQ,zbe,Wm kQ]
theorem qNV {P:Program} (w:Wg) {ops:Array Oper} {rest:List Oper} {o:Oper} {a:Act} {Q:Exit->Act->Wg->Prop}
  (hg:o.guard=none) (m x v:Operand) (t:TypeId) (dD:o.op=Op.insert t m x v)
  (k e:TypeId) (K:Go.Maps.Keyed P k) (ht:P.underlying t=some (.map k e)) (R:Wh->Option (DataW Unit×List MemPlace)) (b n:Nat) (D:DataW Unit)
  (hm:a.eval m= .map (some b)) (aa:w.ownsMap P k R b n D) (hn:n<maxLen) (key val:Wh) (kl:Lit) (hx:a.eval x=key) (hv:a.eval v=val) (hkey:keyOf P k key=some kl)
  (d:DataW Unit) (ps:List MemPlace) (sD:R val=some (d,ps))
  (hK: ∀w',w'.ownsMap P k R b (n+1) (D.put kl d)->w.grownBy w' (some b)->wpList P ops Q rest (a.put o.dst undef) w'):wpList P ops Q (o::rest) a w:=by
 refine wpList_plain hg fun K' hK'=> ?_;obtain⟨w',gV,r1,r2⟩:=aa.update K ht hn hkey sD;unfold Oper.wp;simp[execOp,dD,hm,hx,hv,gV,Result.andThen]
 exact hK' _ _ (hK w' r1 r2)
theorem qHm {ea eb:List EdD} {B:Nat} (ls:List Int): ∀(f i:Nat) (o:List Nat) (j y:Nat),o[j]? =some y->(bfsF ea eb B ls f i o)[j]? =some y
 | 0,_,_,_,_,h=>h
 | f+1,i,o,j,y,h=>by
   rw[bfsF];cases hi:o[i]? with
   | none=>exact h
   | some p=>
     have:=qAO (a:=(0,0,ea)) (b:=(0,0,eb)) (B:=B) ls p o h
     exact qHm ls f _ _ j y this
theorem qOL {ea eb:List EdD} {B:Nat} (ls:List Int) (f:Nat) (o:List Nat):bfsF ea eb B ls f o.length o=o:=by
 cases f with
 | zero=>rfl
 | succ f=>rw[bfsF,zaL (zad _)]
theorem qPC {ea eb:List EdD} {B:Nat} (ls:List Int) {f i:Nat} {o:List Nat} {p:Nat} (h:o[i]? =some p):bfsF ea eb B ls (f+1) i o=bfsF ea eb B ls f (i+1) (ls.foldl (pst ea eb B p) o):=by
 rw[bfsF,h]
theorem qLj {o P:List Nat} (hP:P.Nodup) (h: ∀j y:Nat,o[j]? =some y->P[j]? =some y) {q:Nat} (hq:q∈o):P.idxOf q=o.idxOf q:=by
 have h1:=zak hq;have h2:=h _ _ (zac h1);rw[zav h1] at h2;obtain⟨h3,h4⟩:=zaa.1 h2;have h5:q∈P:=by rw[<-h4];exact zal _
 have h6:=zak h5;exact qDp hP h6 h3 (by rw[zav h6,h4])
def peF (ea eb:List EdD) (B:Nat) (P:List Nat) (k:Nat) (l:List Int):List EdD:=l.filterMap fun x=>if 0<x then peE ea eb B P k x else none
theorem qGp (ea eb:List EdD) (B:Nat) (P:List Nat) (k:Nat): ∀r,peF ea eb B P k (qB r)=peR ea eb B P k r
 | 0=>rfl
 | r+1=>by
   have h1:peF ea eb B P k (qB (r+1))=peF ea eb B P k (qB r)++peF ea eb B P k [(r:Int)+1,-((r:Int)+1)]:=by
    rw[show qB (r+1)=qB r++ [(r:Int)+1,-((r:Int)+1)] from rfl];unfold peF;rw[zaM]
   have h2:peF ea eb B P k [(r:Int)+1,-((r:Int)+1)]=(peE ea eb B P k ((r:Int)+1)).toList:=by
    unfold peF;rw[zaQ,Wm (by omega:(0:Int)<(r:Int)+1)];have h3:List.filterMap (fun x=>if 0<x then peE ea eb B P k x else none) [-((r:Int)+1)]= []:=by
     rw[zaQ,Wn (by omega: ¬(0:Int)< -((r:Int)+1))];rfl
    rw[h3];cases peE ea eb B P k ((r:Int)+1)<;>rfl
   rw[h1,h2,qGp ea eb B P k r,qGK]
theorem qPD (ea eb:List EdD) (B:Nat) (P:List Nat) (k:Nat) (ls:List Int) (m:Nat) (h:m<ls.length):peF ea eb B P k (ls.take (m+1))=peF ea eb B P k (ls.take m)++(if 0<ls[m] then peE ea eb B P k ls[m] else none).toList:=by
 unfold peF;rw[zam h,zaM];congr 1
theorem qQz (ea eb:List EdD) (B:Nat) (P:List Nat) (k:Nat) (l:List Int):(peF ea eb B P k l).length<=l.length:=zaW _ _
theorem CBx.put {w:Wg} {p base':Nat} {z:Wh} {A':Option Addr} {c':Nat} {r n:Int} {ms:List EdD} (h:CBx w p (.int .i64 r) (.int .i64 n) z) (o:OwE w base' (.slice A' ms.length c') ms) (hn: ∀b,(zau A' ms.length c').ownBlock=some b->b≠p) (h1:I64 r) (h2:I64 n):
  GBx (w.setCell ⟨p,2,none⟩ (.slice A' ms.length c')) p base' A' c' (r,n,ms):=
 ⟨(zax _ _ _ _ tZ).trans h.c0,(zax _ _ _ _ tZ).trans h.c1,zaX _ _ _ h.c2,fun j=>by rw[zah];exact h.fz j,o.keep fun b hb=>zab _ _ _ b (hn b hb),hn,h1,h2,by simpa using h.lt⟩
theorem qNM {k B m:Nat} (hm:m<B):prC B (k*B+m)= [.int .i64 k, .int .i64 m]:=by
 unfold prC;rw[zaF,zaN tO,zaK hm,zbk,zbh hm,Nat.add_zero]
theorem qMe (w:Wg) {base k m B:Nat} (hb:base<=w.heap.size) (hm:m<B):OwPr (w.alloc (.cells #[.int .i64 k, .int .i64 m] 131)) base (.slice (some ⟨w,0,none⟩) 1 1) B [k*B+m]:=by
 have:=World.ownsRow_lit (e:=131) (size:=2) w #[.int .i64 k, .int .i64 m] 1 hb (by unfold maxLen;omega) tZ
 unfold OwPr prCs;simp only[zaz,List.map_nil,zaC,List.flatten_nil,List.append_nil,qNM hm,zbj,List.length_nil,zaD];simpa using this
end Go.Proofs.YtnjpoljbagfdnaaGreat
