/- Parts of the proof (2). -/
import Derived.Test.YtnjpoljbagfdnaaGreatM01
import Derived.Deep.RegionHeld3
import Derived.Ground.SlsfProg
import Derived.Lib.SliceRun
import Derived.Outline
import Derived.Shelf.SlSortCmp.WholeK
set_option maxRecDepth 100000
set_option maxHeartbeats 16000000
set_option linter.unusedVariables false
set_option linter.unusedSimpArgs false
namespace Go.Proofs.YtnjpoljbagfdnaaGreat
open Go.RowKit
open Go.RowKit renaming Below→Wf,Hid→Wi
open Go renaming Calls→Wk,Value→Wh,World→Wg,bodyPost_ret→Wj
open _root_.Nat renaming le_refl->zaa,zero_le->zaf,add_zero->zah,lt_or_eq_of_le->zak,zero_add->zal,le_of_lt_succ->zam,le_of_not_lt->za7
open _root_.Bool renaming and_eq_true->zab,or_eq_true->zaq,eq_iff_iff->zaL,or_false->zaY,false_eq_true->za1,not_eq_true'->za4,and_false->za9
open Go.RowKit.Below renaming refl->zac,drew->zap
open _root_.List renaming getElem?_eq_some_iff->zad,take_succ_eq_append_getElem->zai,range->zaj,all_eq_true->zan,mem_range->zao,getD->zar,filter_cons->zas,length_take_le->zau,length_append->zav,eq_nil_of_length_eq_zero->zaw,getElem?_append_left->zaA,length_nil->zaB,mem_filterMap->zaD,foldl_append->zaE,mem_cons->zaH,any_eq_true->zaI,take_length->zaJ,mem_append->zaM,pairwise_iff_getElem->zaO,drop_eq_getElem_cons->zaP,getElem?_eq_getElem->zaQ,foldl_cons->zaS,take_of_length_le->zaT,dropLast_eq_take->zaV,length_singleton->zaW,contains_iff_mem->zaX,getElem?_take->zaZ,getElem?_drop->za0,filter_append->za2,length_cons->za6,filter_nil->za8
open Go.World renaming cell?_setCell_other->zae,cell?_setCell_same->zat,drewN_drewN->zax,alloc->zaF
open _root_.Array renaming getElem?_setIfInBounds_self_of_lt->zag,getD_eq_getD_getElem?->zay,replicate->zaC,getElem?_eq_none->zaG,all_eq_true_iff_forall_mem->zaK,mem_toList_iff->zaN,size_setIfInBounds->zaR
open _root_.Classical renaming byContradiction->zaz
open Go.Value renaming ownBlock->zaU
open Go.Act renaming put->za3
open _root_.Int renaming neg_neg->za5
theorem qAf (v:Wh) (g:GrD) (w:Wg) (h:ArgG w v g):
  Wk Tryz.prog 187 #[v] w fun e w'=>e= .returned (.bool (grB g))/\Wf w w w':=by
 obtain⟨s,rfl,_,_,ha⟩:=h;have H:=qA ha;obtain⟨A,cap,rfl,aR,hm,_⟩:=ha;unfold maxLen at hm;rcases t1:inB g.1 1 3 with _ | _
 ·go_enter Tryz.func187,Tryz.ntmps187
  go_wp2_with (go_at_call 137;refine(qAn _ _ _ _).mono ?_;rintro e w' ⟨rfl,rfl⟩)
  go_ret;exact⟨qJ (by unfold grB;rw[t1];rfl),ZZ⟩
 rcases t2:inB g.2.1 1 40 with _ | _
 ·go_enter Tryz.func187,Tryz.ntmps187
  go_wp2_with (go_at_call 137;refine(qAn _ _ _ _).mono ?_;rintro e w' ⟨rfl,rfl⟩)
  go_ret;exact⟨qJ (by unfold grB;rw[t1,t2];rfl),ZZ⟩
 by_cases t3:120<g.2.2.length
 ·go_enter Tryz.func187,Tryz.ntmps187
  go_wp2_with (go_at_call 137;refine(qAn _ _ _ _).mono ?_;rintro e w' ⟨rfl,rfl⟩)
  go_ret;exact⟨qJ (by unfold grB;rw[t1,t2,decide_eq_false tO];rfl),ZZ⟩
 go_enter Tryz.func187,Tryz.ntmps187
 go_wp2_with (go_at_call 137;refine(qAn _ _ _ _).mono ?_;rintro e w' ⟨rfl,rfl⟩)
 have hb:Wf w w (w.alloc (.cells #[.int .i64 g.1,.int .i64 g.2.1, .slice A g.2.2.length cap] 26)):=ZZ;have k0:(w.alloc (.cells #[.int .i64 g.1,.int .i64 g.2.1, .slice A g.2.2.length cap] 26)).cell? ⟨w,0,none⟩=some (.int .i64 g.1):=by simp[go_sem]
 have k1:(w.alloc (.cells #[.int .i64 g.1,.int .i64 g.2.1, .slice A g.2.2.length cap] 26)).cell? ⟨w,1,none⟩=some (.int .i64 g.2.1):=by simp[go_sem]
 have k2:(w.alloc (.cells #[.int .i64 g.1,.int .i64 g.2.1, .slice A g.2.2.length cap] 26)).cell? ⟨w,2,none⟩=some (.slice A g.2.2.length cap):=by simp[go_sem]
 have cZ:w.heap.size<(w.alloc (.cells #[.int .i64 g.1,.int .i64 g.2.1, .slice A g.2.2.length cap] 26)).heap.size:=tZ;generalize w.alloc (.cells #[.int .i64 g.1,.int .i64 g.2.1, .slice A g.2.2.length cap] 26)=w1 at hb k0 k1 k2 cZ⊢;have HB:=qA hb;have K0:=qA k0;have K1:=qA k1;have K2:=qA k2;clear hb;clear k0 k1 k2;go_loopw [24] (fun i wr=> ∃k:Nat,k<=g.2.2.length/\i= .int .i64 k/\(∀j,j<k->okE g j=true)/\Wf w1 w1 wr) (fun i _=>g.2.2.length-(intOf i).toNat)
 case atStart=>exact⟨0,zaf _,rfl,fun j hj=>absurd hj tO,zac _ _⟩
 case round=>
  obtain⟨k,hk,rfl,aG,ab⟩:=hrel;have HA:=qA aG;have al:=qA ab;have aB:=qA (HB.trans (ab.mono HB.size));have ar:=ab.size;have p0:=(ab.cell (p:=⟨w,0,none⟩) cZ).trans K0.o;have p1:=(ab.cell (p:=⟨w,1,none⟩) cZ).trans K1.o;have p2:=(ab.cell (p:=⟨w,2,none⟩) cZ).trans K2.o;have bZ:w.heap.size<wr.heap.size:=tO;by_cases ac:k<g.2.2.length
  ·obtain⟨b,off,rfl,cX,c0,c1,c2,_⟩:=(H.below aB).at ac;have ST:Wi (okE g k=true-> ∀j,j<k+1->okE g j=true):=qA fun F j hj=>by
    rcases zak (zam hj) with hj | rfl
    ·exact HA.o j hj
    ·exact F
   have FA:Wi (okE g k=false->grB g=false):=qA (qJe k ac);clear aG ab;by_cases h0:0<k
   ·obtain⟨j,rfl⟩: ∃j,k=j+1:=⟨k-1,tO⟩;obtain⟨b2,iY,fk,_,d0,d1,d2,_⟩:=(H.below aB).at (k:=j) tO;obtain⟨rfl,rfl⟩:b=b2/\off=iY:=by simpa using fk
    have HZ:Wi (okE g (j+1)=(qAh g.1 g.2.1 g.2.2[j+1]&& !decide (0<=cmpE g.2.2[j] g.2.2[j+1]))):=qA (qGd h0 ac);have i0:(0:Int)<=(j:Int):=tO;have i1:(j:Int)<(g.2.2.length:Int):=tO;have i2:(j:Int)+1<(g.2.2.length:Int):=tO;clear fk h0;generalize g.2.2[j]=y at d0 d1 d2 HZ;generalize g.2.2[j+1]=x at c0 c1 c2 HZ;have hE:=fun w=>qHG g.1 g.2.1 (some ⟨b,off,none⟩) g.2.2.length cap x w;rcases e1:qAh g.1 g.2.1 x with _ | _
    ·have F:Wi (okE g (j+1)=false):=qA (by rw[HZ.o,e1];rfl);simp only[e1] at hE;have HE:=qA hE;clear hE;go_wp2_with fail;obtain⟨W,hW⟩: ∃W,W=zaF wr (.cells #[.int .i64 x.1, .int .i64 x.2.1, .int .i64 x.2.2] 97):=⟨_,rfl⟩;rw[<-hW];have bW:Wf wr wr W:=by rw[hW];exact(zac _ _).alloc (zaa _) _
     have sW:wr.heap.size<W.heap.size:=by rw[hW];simp
     replace p0:=(bW.cell (p:=⟨w,0,none⟩) (show w.heap.size<wr.heap.size by omega)).trans p0;replace p1:=(bW.cell (p:=⟨w,1,none⟩) (show w.heap.size<wr.heap.size by omega)).trans p1;replace p2:=(bW.cell (p:=⟨w,2,none⟩) (show w.heap.size<wr.heap.size by omega)).trans p2;replace c0:=(bW.cell (p:=⟨b,off+(j+1)*3,none⟩) (show b<wr.heap.size by omega)).trans c0;replace c1:=(bW.cell (p:=⟨b,off+(j+1)*3+1,none⟩) (show b<wr.heap.size by omega)).trans c1;replace c2:=(bW.cell (p:=⟨b,off+(j+1)*3+2,none⟩) (show b<wr.heap.size by omega)).trans c2;replace d0:=(bW.cell (p:=⟨b,off+j*3,none⟩) (show b<wr.heap.size by omega)).trans d0;replace d1:=(bW.cell (p:=⟨b,off+j*3+1,none⟩) (show b<wr.heap.size by omega)).trans d1;replace d2:=(bW.cell (p:=⟨b,off+j*3+2,none⟩) (show b<wr.heap.size by omega)).trans d2;have l0:W.cell? ⟨wr,0,none⟩=some (.int .i64 x.1):=by rw[hW];simp[go_sem]
     have l1:W.cell? ⟨wr,1,none⟩=some (.int .i64 x.2.1):=by rw[hW];simp[go_sem]
     have l2:W.cell? ⟨wr,2,none⟩=some (.int .i64 x.2.2):=by rw[hW];simp[go_sem]
     clear hW;have f0:=BelW.cell p0 (show w.heap.size<W.heap.size by omega);have f1:=BelW.cell p1 (show w.heap.size<W.heap.size by omega);have f2:=BelW.cell p2 (show w.heap.size<W.heap.size by omega);have f3:=BelW.cell c0 (show b<W.heap.size by omega);have f4:=BelW.cell c1 (show b<W.heap.size by omega);have f5:=BelW.cell c2 (show b<W.heap.size by omega);have f6:=BelW.cell d0 (show b<W.heap.size by omega);have f7:=BelW.cell d1 (show b<W.heap.size by omega);have f8:=BelW.cell d2 (show b<W.heap.size by omega);have f9:=BelW.cell l0 (show wr.heap.size<W.heap.size by omega);have DN:=BelW.cell l1 (show wr.heap.size<W.heap.size by omega);have DI:=BelW.cell l2 (show wr.heap.size<W.heap.size by omega);(refine qG tK tK ?_;(repeat(go_big_quiet_step (first | (go_at_call 227;exact Calls.bel_of (HE _)))));refine wpQuiet_nil ?_;intro wq hw';obtain⟨pq,ae⟩:=hw';have bq:=pq.h;rw[<-ae] at bq;clear ae pq)
     clear f0 f1 f2 f3 f4 f5 f6 f7 f8 f9 DN DI;go_wp2;go_ret;exact⟨qJ (FA F).symm,(aB.trans (bW.mono tO)).trans (bq.mono tO)⟩
    ·simp only[e1] at hE;have HE:=qA hE;clear hE;rcases e2:decide (0<=cmpE y x) with _ | _
     ·have F:Wi (okE g (j+1)=true):=qA (by rw[HZ.o,e1,e2];rfl);go_wp2_with fail;obtain⟨W,hW⟩: ∃W,W=zaF wr (.cells #[.int .i64 x.1, .int .i64 x.2.1, .int .i64 x.2.2] 97):=⟨_,rfl⟩;rw[<-hW];have bW:Wf wr wr W:=by rw[hW];exact(zac _ _).alloc (zaa _) _
      have sW:wr.heap.size<W.heap.size:=by rw[hW];simp
      replace p0:=(bW.cell (p:=⟨w,0,none⟩) (show w.heap.size<wr.heap.size by omega)).trans p0;replace p1:=(bW.cell (p:=⟨w,1,none⟩) (show w.heap.size<wr.heap.size by omega)).trans p1;replace p2:=(bW.cell (p:=⟨w,2,none⟩) (show w.heap.size<wr.heap.size by omega)).trans p2;replace c0:=(bW.cell (p:=⟨b,off+(j+1)*3,none⟩) (show b<wr.heap.size by omega)).trans c0;replace c1:=(bW.cell (p:=⟨b,off+(j+1)*3+1,none⟩) (show b<wr.heap.size by omega)).trans c1;replace c2:=(bW.cell (p:=⟨b,off+(j+1)*3+2,none⟩) (show b<wr.heap.size by omega)).trans c2;replace d0:=(bW.cell (p:=⟨b,off+j*3,none⟩) (show b<wr.heap.size by omega)).trans d0;replace d1:=(bW.cell (p:=⟨b,off+j*3+1,none⟩) (show b<wr.heap.size by omega)).trans d1;replace d2:=(bW.cell (p:=⟨b,off+j*3+2,none⟩) (show b<wr.heap.size by omega)).trans d2;have l0:W.cell? ⟨wr,0,none⟩=some (.int .i64 x.1):=by rw[hW];simp[go_sem]
      have l1:W.cell? ⟨wr,1,none⟩=some (.int .i64 x.2.1):=by rw[hW];simp[go_sem]
      have l2:W.cell? ⟨wr,2,none⟩=some (.int .i64 x.2.2):=by rw[hW];simp[go_sem]
      clear hW;have f0:=BelW.cell p0 (show w.heap.size<W.heap.size by omega);have f1:=BelW.cell p1 (show w.heap.size<W.heap.size by omega);have f2:=BelW.cell p2 (show w.heap.size<W.heap.size by omega);have f3:=BelW.cell c0 (show b<W.heap.size by omega);have f4:=BelW.cell c1 (show b<W.heap.size by omega);have f5:=BelW.cell c2 (show b<W.heap.size by omega);have f6:=BelW.cell d0 (show b<W.heap.size by omega);have f7:=BelW.cell d1 (show b<W.heap.size by omega);have f8:=BelW.cell d2 (show b<W.heap.size by omega);have f9:=BelW.cell l0 (show wr.heap.size<W.heap.size by omega);have DN:=BelW.cell l1 (show wr.heap.size<W.heap.size by omega);have DI:=BelW.cell l2 (show wr.heap.size<W.heap.size by omega);(refine qG tK tK ?_;(repeat(go_big_quiet_step (first | (go_at_call 227;exact Calls.bel_of (HE _)) | (go_at_call 218;exact Calls.bel_of (qCC y x _)))));refine wpQuiet_nil ?_;intro wq hw';obtain⟨pq,ae⟩:=hw';have bq:=pq.h;rw[<-ae] at bq;clear ae pq)
      clear f0 f1 f2 f3 f4 f5 f6 f7 f8 f9 DN DI;go_wp2;go_roundw;exact⟨j+1+1,tO,by go_num,ST.o F.o,(al.trans (bW.mono tO)).trans (bq.mono tO)⟩;exact tM
     ·have F:Wi (okE g (j+1)=false):=qA (by rw[HZ.o,e1,e2];rfl);go_wp2_with fail;obtain⟨W,hW⟩: ∃W,W=zaF wr (.cells #[.int .i64 x.1, .int .i64 x.2.1, .int .i64 x.2.2] 97):=⟨_,rfl⟩;rw[<-hW];have bW:Wf wr wr W:=by rw[hW];exact(zac _ _).alloc (zaa _) _
      have sW:wr.heap.size<W.heap.size:=by rw[hW];simp
      replace p0:=(bW.cell (p:=⟨w,0,none⟩) (show w.heap.size<wr.heap.size by omega)).trans p0;replace p1:=(bW.cell (p:=⟨w,1,none⟩) (show w.heap.size<wr.heap.size by omega)).trans p1;replace p2:=(bW.cell (p:=⟨w,2,none⟩) (show w.heap.size<wr.heap.size by omega)).trans p2;replace c0:=(bW.cell (p:=⟨b,off+(j+1)*3,none⟩) (show b<wr.heap.size by omega)).trans c0;replace c1:=(bW.cell (p:=⟨b,off+(j+1)*3+1,none⟩) (show b<wr.heap.size by omega)).trans c1;replace c2:=(bW.cell (p:=⟨b,off+(j+1)*3+2,none⟩) (show b<wr.heap.size by omega)).trans c2;replace d0:=(bW.cell (p:=⟨b,off+j*3,none⟩) (show b<wr.heap.size by omega)).trans d0;replace d1:=(bW.cell (p:=⟨b,off+j*3+1,none⟩) (show b<wr.heap.size by omega)).trans d1;replace d2:=(bW.cell (p:=⟨b,off+j*3+2,none⟩) (show b<wr.heap.size by omega)).trans d2;have l0:W.cell? ⟨wr,0,none⟩=some (.int .i64 x.1):=by rw[hW];simp[go_sem]
      have l1:W.cell? ⟨wr,1,none⟩=some (.int .i64 x.2.1):=by rw[hW];simp[go_sem]
      have l2:W.cell? ⟨wr,2,none⟩=some (.int .i64 x.2.2):=by rw[hW];simp[go_sem]
      clear hW;have f0:=BelW.cell p0 (show w.heap.size<W.heap.size by omega);have f1:=BelW.cell p1 (show w.heap.size<W.heap.size by omega);have f2:=BelW.cell p2 (show w.heap.size<W.heap.size by omega);have f3:=BelW.cell c0 (show b<W.heap.size by omega);have f4:=BelW.cell c1 (show b<W.heap.size by omega);have f5:=BelW.cell c2 (show b<W.heap.size by omega);have f6:=BelW.cell d0 (show b<W.heap.size by omega);have f7:=BelW.cell d1 (show b<W.heap.size by omega);have f8:=BelW.cell d2 (show b<W.heap.size by omega);have f9:=BelW.cell l0 (show wr.heap.size<W.heap.size by omega);have DN:=BelW.cell l1 (show wr.heap.size<W.heap.size by omega);have DI:=BelW.cell l2 (show wr.heap.size<W.heap.size by omega);(refine qG tK tK ?_;(repeat(go_big_quiet_step (first | (go_at_call 227;exact Calls.bel_of (HE _)) | (go_at_call 218;exact Calls.bel_of (qCC y x _)))));refine wpQuiet_nil ?_;intro wq hw';obtain⟨pq,ae⟩:=hw';have bq:=pq.h;rw[<-ae] at bq;clear ae pq)
      clear f0 f1 f2 f3 f4 f5 f6 f7 f8 f9 DN DI;go_wp2;go_ret;exact⟨qJ (FA F).symm,(aB.trans (bW.mono tO)).trans (bq.mono tO)⟩
   ·obtain rfl:k=0:=tO
    have HZ:=qA (qGP ac);generalize g.2.2[0]=x at c0 c1 c2 HZ;simp only[Nat.zero_mul,zah] at c0 c1 c2;have hE:=fun w=>qHG g.1 g.2.1 (some ⟨b,off,none⟩) g.2.2.length cap x w;rcases e1:qAh g.1 g.2.1 x with _ | _
    ·have F:Wi (okE g 0=false):=qA (by rw[HZ.o,e1]);simp only[e1] at hE;have HE:=qA hE;clear hE;go_wp2_with fail;obtain⟨W,hW⟩: ∃W,W=zaF wr (.cells #[.int .i64 x.1, .int .i64 x.2.1, .int .i64 x.2.2] 97):=⟨_,rfl⟩;rw[<-hW];have bW:Wf wr wr W:=by rw[hW];exact(zac _ _).alloc (zaa _) _
     have sW:wr.heap.size<W.heap.size:=by rw[hW];simp
     replace p0:=(bW.cell (p:=⟨w,0,none⟩) (show w.heap.size<wr.heap.size by omega)).trans p0;replace p1:=(bW.cell (p:=⟨w,1,none⟩) (show w.heap.size<wr.heap.size by omega)).trans p1;replace p2:=(bW.cell (p:=⟨w,2,none⟩) (show w.heap.size<wr.heap.size by omega)).trans p2;replace c0:=(bW.cell (p:=⟨b,off,none⟩) (show b<wr.heap.size by omega)).trans c0;replace c1:=(bW.cell (p:=⟨b,off+1,none⟩) (show b<wr.heap.size by omega)).trans c1;replace c2:=(bW.cell (p:=⟨b,off+2,none⟩) (show b<wr.heap.size by omega)).trans c2;have l0:W.cell? ⟨wr,0,none⟩=some (.int .i64 x.1):=by rw[hW];simp[go_sem]
     have l1:W.cell? ⟨wr,1,none⟩=some (.int .i64 x.2.1):=by rw[hW];simp[go_sem]
     have l2:W.cell? ⟨wr,2,none⟩=some (.int .i64 x.2.2):=by rw[hW];simp[go_sem]
     clear hW;have f0:=BelW.cell p0 (show w.heap.size<W.heap.size by omega);have f1:=BelW.cell p1 (show w.heap.size<W.heap.size by omega);have f2:=BelW.cell p2 (show w.heap.size<W.heap.size by omega);have f3:=BelW.cell c0 (show b<W.heap.size by omega);have f4:=BelW.cell c1 (show b<W.heap.size by omega);have f5:=BelW.cell c2 (show b<W.heap.size by omega);have f6:=BelW.cell l0 (show wr.heap.size<W.heap.size by omega);have f7:=BelW.cell l1 (show wr.heap.size<W.heap.size by omega);have f8:=BelW.cell l2 (show wr.heap.size<W.heap.size by omega);(refine qG tK tK ?_;(repeat(go_big_quiet_step (first | (go_at_call 227;exact Calls.bel_of (HE _)))));refine wpQuiet_nil ?_;intro wq hw';obtain⟨pq,ae⟩:=hw';have bq:=pq.h;rw[<-ae] at bq;clear ae pq)
     clear f0 f1 f2 f3 f4 f5 f6 f7 f8;go_wp2;go_ret;exact⟨qJ (FA F).symm,(aB.trans (bW.mono tO)).trans (bq.mono tO)⟩
    ·have F:Wi (okE g 0=true):=qA (by rw[HZ.o,e1]);simp only[e1] at hE;have HE:=qA hE;clear hE;go_wp2_with fail;obtain⟨W,hW⟩: ∃W,W=zaF wr (.cells #[.int .i64 x.1, .int .i64 x.2.1, .int .i64 x.2.2] 97):=⟨_,rfl⟩;rw[<-hW];have bW:Wf wr wr W:=by rw[hW];exact(zac _ _).alloc (zaa _) _
     have sW:wr.heap.size<W.heap.size:=by rw[hW];simp
     replace p0:=(bW.cell (p:=⟨w,0,none⟩) (show w.heap.size<wr.heap.size by omega)).trans p0;replace p1:=(bW.cell (p:=⟨w,1,none⟩) (show w.heap.size<wr.heap.size by omega)).trans p1;replace p2:=(bW.cell (p:=⟨w,2,none⟩) (show w.heap.size<wr.heap.size by omega)).trans p2;replace c0:=(bW.cell (p:=⟨b,off,none⟩) (show b<wr.heap.size by omega)).trans c0;replace c1:=(bW.cell (p:=⟨b,off+1,none⟩) (show b<wr.heap.size by omega)).trans c1;replace c2:=(bW.cell (p:=⟨b,off+2,none⟩) (show b<wr.heap.size by omega)).trans c2;have l0:W.cell? ⟨wr,0,none⟩=some (.int .i64 x.1):=by rw[hW];simp[go_sem]
     have l1:W.cell? ⟨wr,1,none⟩=some (.int .i64 x.2.1):=by rw[hW];simp[go_sem]
     have l2:W.cell? ⟨wr,2,none⟩=some (.int .i64 x.2.2):=by rw[hW];simp[go_sem]
     clear hW;have f0:=BelW.cell p0 (show w.heap.size<W.heap.size by omega);have f1:=BelW.cell p1 (show w.heap.size<W.heap.size by omega);have f2:=BelW.cell p2 (show w.heap.size<W.heap.size by omega);have f3:=BelW.cell c0 (show b<W.heap.size by omega);have f4:=BelW.cell c1 (show b<W.heap.size by omega);have f5:=BelW.cell c2 (show b<W.heap.size by omega);have f6:=BelW.cell l0 (show wr.heap.size<W.heap.size by omega);have f7:=BelW.cell l1 (show wr.heap.size<W.heap.size by omega);have f8:=BelW.cell l2 (show wr.heap.size<W.heap.size by omega);(refine qG tK tK ?_;(repeat(go_big_quiet_step (first | (go_at_call 227;exact Calls.bel_of (HE _)))));refine wpQuiet_nil ?_;intro wq hw';obtain⟨pq,ae⟩:=hw';have bq:=pq.h;rw[<-ae] at bq;clear ae pq)
     clear f0 f1 f2 f3 f4 f5 f6 f7 f8;go_wp2;go_roundw;exact⟨1,tO,by go_num,ST.o F.o,(al.trans (bW.mono tO)).trans (bq.mono tO)⟩;exact tM
  ·obtain rfl:k=g.2.2.length:=tO
   have F:=qA (qPg HA);clear aG ab;go_wp2;go_ret;exact⟨qJ (by rw[F.o,t1,t2,decide_eq_true tO];rfl),aB.o⟩
def qBX (a b:EdD):Bool:=(a.2.1==b.2.1)&&((a.1==b.1)||(a.2.2==b.2.2))
theorem qCq (a b:EdD):qBX a b=qBX b a:=by
 have h: ∀x y:Int,(x==y)=(y==x):=fun x y=>by rw[zaL];simp;constructor<;>(intro h;exact h.symm)
 unfold qBX;rw[h a.2.1,h a.1,h a.2.2]
def Fol (es:List EdD):Prop:=es.Pairwise fun a b=>qBX a b=false
instance (es:List EdD):Decidable (Fol es):=by unfold Fol;infer_instance
def qO (g:GrD):Bool:=grB g&&decide (Fol g.2.2)
theorem qPd {es:List EdD} (h: ∀i (hi:i<es.length),∀k (hk:k<i),qBX es[i] (es[k]'tO)=false):Fol es:=by
 unfold Fol;rw[zaO];intro i j hi hj dU;rw[qCq];exact h j hj i dU
theorem qHd {g:GrD} (h:grB g=true) (hf: ∀i (hi:i<g.2.2.length),∀k (hk:k<i),qBX g.2.2[i] (g.2.2[k]'tO)=false):qO g=true:=by
 unfold qO;rw[h,decide_eq_true (qPd hf)];rfl
theorem qIL {g:GrD} (h:grB g=false):qO g=false:=by
 unfold qO;rw[h];rfl
theorem qGb {g:GrD} {i k:Nat} (hi:i<g.2.2.length) (hk:k<i) (h:qBX g.2.2[i] (g.2.2[k]'tO)=true):qO g=false:=by
 unfold qO;rw[decide_eq_false,za9];intro hf;unfold Fol at hf;rw[zaO] at hf;have:=hf k i tO hi hk
 rw[qCq,h] at this;cases this
theorem qE {g:GrD} (h:qO g=true):grB g=true/\Fol g.2.2:=by
 unfold qO at h;simpa using h
theorem qj (v:Wh) (g:GrD) (w:Wg) (h:ArgG w v g):
  Wk Tryz.prog 148 #[v] w fun e w'=>e= .returned (.bool (qO g))/\Wf w w w':=by
 have HG:=qA h;obtain⟨s,rfl,_,_,ha⟩:=h;have H:=qA ha;obtain⟨A,cap,rfl,aR,hm,_⟩:=ha;unfold maxLen at hm;go_enter Tryz.func148,Tryz.ntmps148
 go_wp2;have hb:Wf w w (w.alloc (.cells #[.int .i64 g.1,.int .i64 g.2.1, .slice A g.2.2.length cap] 26)):=ZZ;have k0:(w.alloc (.cells #[.int .i64 g.1,.int .i64 g.2.1, .slice A g.2.2.length cap] 26)).cell? ⟨w,0,none⟩=some (.int .i64 g.1):=by simp[go_sem]
 have k1:(w.alloc (.cells #[.int .i64 g.1,.int .i64 g.2.1, .slice A g.2.2.length cap] 26)).cell? ⟨w,1,none⟩=some (.int .i64 g.2.1):=by simp[go_sem]
 have k2:(w.alloc (.cells #[.int .i64 g.1,.int .i64 g.2.1, .slice A g.2.2.length cap] 26)).cell? ⟨w,2,none⟩=some (.slice A g.2.2.length cap):=by simp[go_sem]
 have cZ:w.heap.size<(w.alloc (.cells #[.int .i64 g.1,.int .i64 g.2.1, .slice A g.2.2.length cap] 26)).heap.size:=tZ;generalize w.alloc (.cells #[.int .i64 g.1,.int .i64 g.2.1, .slice A g.2.2.length cap] 26)=w1 at hb k0 k1 k2 cZ⊢;have HB:=qA hb;have K0:=qA k0;have K1:=qA k1;have K2:=qA k2;clear hb;clear k0 k1 k2;go_loopw [3] (fun i wo=> ∃k:Nat,k<=g.2.2.length/\i= .int .i64 k/\(0<k->grB g=true)/\(∀i (hi:i<g.2.2.length),i<k-> ∀j (hj:j<i),qBX g.2.2[i] (g.2.2[j]'tO)=false)/\Wf w1 w1 wo) (fun i _=>g.2.2.length-(intOf i).toNat)
 case atStart=>exact⟨0,zaf _,rfl,fun h=>absurd h tO,fun i hi h=>absurd h tO,zac _ _⟩
 case round=>
  obtain⟨k,hk,rfl,Nb,aG,ab⟩:=hrel;obtain⟨wo,rfl⟩: ∃wo:Wg,wo=wr:=⟨_,rfl⟩;have HA:=qA aG;have VH:=qA Nb;have al:=qA ab;have aB:=qA (HB.trans (ab.mono HB.size));have ar:=ab.size;have p0:=(ab.cell (p:=⟨w,0,none⟩) cZ).trans K0.o;have p1:=(ab.cell (p:=⟨w,1,none⟩) cZ).trans K1.o;have p2:=(ab.cell (p:=⟨w,2,none⟩) cZ).trans K2.o;have bZ:w.heap.size<wo.heap.size:=tO;clear Nb aG ab;by_cases ac:k<g.2.2.length
  ·go_wp2_with fail;refine(qk _ g _ (HG.below aB)).mono ?_
   rintro e wp ⟨rfl,bp⟩;have BP:=qA bp;have szp:=bp.size;replace p0:=(bp.cell (p:=⟨w,0,none⟩) bZ).trans p0;replace p1:=(bp.cell (p:=⟨w,1,none⟩) bZ).trans p1;replace p2:=(bp.cell (p:=⟨w,2,none⟩) bZ).trans p2;have aU:=qA (aB.trans (bp.mono tO));have dP:=qA (al.trans (bp.mono tO));clear bp;rcases e0:grB g with _ | _
   ·go_wp2_with fail;refine(qk _ g _ (HG.below aU)).mono ?_
    rintro e wz ⟨rfl,bz⟩;have BZ:=qA bz;clear bz;go_wp2;go_ret;exact⟨qJ (by rw[qIL e0]),aU.o.trans (BZ.mono tO)⟩
   go_wp2;go_loopw [4] (fun j wr=> ∃m:Nat,m<=k/\j= .int .i64 m/\(∀j (hj:j<k),j<m->qBX g.2.2[k] (g.2.2[j]'tO)=false)/\Wf wp wp wr) (fun j _=>k-(intOf j).toNat)
   case atStart=>exact⟨0,zaf _,rfl,fun j hj h=>absurd h tO,zac _ _⟩
   case round=>
    obtain⟨m,fM,rfl,cY,a6⟩:=hrel;have HI:=qA cY;have cU:=qA a6;have szi:=a6.size;replace p0:=(a6.cell (p:=⟨w,0,none⟩) (show w.heap.size<wp.heap.size by omega)).trans p0;replace p1:=(a6.cell (p:=⟨w,1,none⟩) (show w.heap.size<wp.heap.size by omega)).trans p1;replace p2:=(a6.cell (p:=⟨w,2,none⟩) (show w.heap.size<wp.heap.size by omega)).trans p2;have cC:=qA (aU.trans (a6.mono tO));have iX:w.heap.size<wr.heap.size:=tO;clear cY a6;by_cases aj:m<k
    ·obtain⟨b,off,rfl,cX,c0,c1,c2,_⟩:=(H.below cC).at ac;obtain⟨b2,iY,fk,_,d0,d1,d2,_⟩:=(H.below cC).at (k:=m) tO;obtain⟨rfl,rfl⟩:b=b2/\off=iY:=by simpa using fk
     have i1:(m:Int)<(g.2.2.length:Int):=tO;have CL:Wi (qBX g.2.2[k] (g.2.2[m]'tO)=true->qO g=false):=qA (qGb ac aj);have CN:Wi (qBX g.2.2[k] (g.2.2[m]'tO)=false-> ∀j (hj:j<k),j<m+1->qBX g.2.2[k] (g.2.2[j]'tO)=false):=qA fun F j hj hjm=>by
      rcases zak (zam hjm) with h | rfl
      ·exact HI.o j hj h
      ·exact F
     clear fk;generalize g.2.2[k]=x at*;generalize g.2.2[m]'tO=y at*;have hC:Wi (qBX x y=((x.2.1==y.2.1)&&((x.1==y.1)||(x.2.2==y.2.2)))):=qA rfl;rcases t1:(x.2.1==y.2.1) with _ | _
     ·have F:=qA (CN (by rw[hC.o,t1];rfl));go_wp2;go_roundw;exact⟨m+1,tO,by go_num,F.o,(cU.alloc tO _).alloc (by simp;omega) _⟩;exact tM
     rcases t2:(x.1==y.1) with _ | _
     ·rcases t3:(x.2.2==y.2.2) with _ | _
      ·have F:=qA (CN (by rw[hC.o,t1,t2,t3];rfl));go_wp2;go_roundw;exact⟨m+1,tO,by go_num,F.o,(cU.alloc tO _).alloc (by simp;omega) _⟩;exact tM
      ·have F:=qA (CL (by rw[hC.o,t1,t2,t3];rfl));go_wp2;go_ret;exact⟨qJ F.o.symm,(cC.alloc tO _).alloc (by simp;omega) _⟩
     ·have F:=qA (CL (by rw[hC.o,t1,t2];rfl));go_wp2;go_ret;exact⟨qJ F.o.symm,(cC.alloc tO _).alloc (by simp;omega) _⟩
    ·obtain rfl:m=k:=tO
     go_wp2;go_roundw
     case rel=>exact⟨m+1,tO,by go_num,fun _=>e0,fun i hi him j hj=>by
      rcases zak (zam him) with h | rfl
      ·exact HA.o i hi h j hj
      ·exact HI.o j hj hj,dP.o.trans (cU.mono tO)⟩
     case measure=>exact tM
  ·obtain rfl:k=g.2.2.length:=tO
   go_wp2_with fail;refine(qk _ g _ (HG.below aB)).mono ?_
   rintro e wz ⟨rfl,bz⟩;have BZ:=qA bz;have F:Wi (grB g=qO g):=qA (by
    rcases e0:grB g with _ | _
    ·exact(qIL e0).symm
    ·exact(qHd e0 fun i hi j hj=>HA.o i hi hi j hj).symm)
   clear bz;go_wp2;go_ret;exact⟨qJ F,aB.trans (BZ.mono tO)⟩
theorem qAB (v:Wh) (g:GrD) (w:Wg) (h:ArgG w v g):
  Wk Tryz.prog 158 #[v] w fun e w'=>e= .returned (.bool (qO g))/\Wf w w w':=by
 have HG:=qA h;obtain⟨s,rfl,_,_,ha⟩:=h;have H:=qA ha;obtain⟨A,cap,rfl,aR,hm,iS,_⟩:=ha;unfold maxLen at hm;have bx:Wf w w (w.alloc (.cells #[.int .i64 g.1,.int .i64 g.2.1, .slice A g.2.2.length cap] 26)):=ZZ;have kx:(w.alloc (.cells #[.int .i64 g.1,.int .i64 g.2.1, .slice A g.2.2.length cap] 26)).cell? ⟨w,2,none⟩=some (.slice A g.2.2.length cap):=by simp[go_sem]
 have sx:w.heap.size<(w.alloc (.cells #[.int .i64 g.1,.int .i64 g.2.1, .slice A g.2.2.length cap] 26)).heap.size:=tZ;have BX:=qA bx;have KX:=qA kx;clear bx kx;go_enter Tryz.func158,Tryz.ntmps158
 go_wp2_with fail;refine(qAf _ g _ (HG.below BX)).mono ?_
 rintro e w1 ⟨rfl,b1⟩;have HB:=qA (BX.trans (b1.mono BX.size));have k2:=(b1.cell (p:=⟨w,2,none⟩) sx).trans KX.o;have cZ:w.heap.size<w1.heap.size:=by have:=b1.size;omega
 have K2:=qA k2;clear b1 sx;rcases e0:grB g with _ | _
 ·go_wp2;go_ret;exact⟨qJ (qIL e0).symm,HB⟩
 go_wp2;clear k2;go_loopw [13] (fun i wo=> ∃k:Nat,k<=g.2.2.length/\i= .int .i64 k/\(∀i (hi:i<g.2.2.length),i<k-> ∀j (hj:j<g.2.2.length),i<j->qBX g.2.2[j] g.2.2[i]=false)/\Wf w1 w1 wo) (fun i _=>g.2.2.length-(intOf i).toNat)
 case atStart=>exact⟨0,zaf _,rfl,fun i hi h=>absurd h tO,zac _ _⟩
 case round=>
  obtain⟨k,hk,rfl,aG,ab⟩:=hrel;obtain⟨wo,rfl⟩: ∃wo:Wg,wo=wr:=⟨_,rfl⟩;have HA:=qA aG;have al:=qA ab;have aB:=qA (HB.trans (ab.mono HB.size));have ar:=ab.size;have p2:=(ab.cell (p:=⟨w,2,none⟩) cZ).trans K2.o;have bZ:w.heap.size<wo.heap.size:=tO;clear aG ab;by_cases ac:k<g.2.2.length
  ·obtain⟨b,off,rfl,cX,c0,c1,c2,_⟩:=(H.below aB).at ac;have j1:((k:Int)+1)<=(g.2.2.length:Int):=tO;have j0:(0:Int)<=(k:Int)+1:=tO;have j2:((k:Int)+1)<=(cap:Int):=tO;have CUT:=qA (H.o.cut (k:=k+1) tO);generalize hx:g.2.2[k]=x at c0 c1 c2;have HX:=qA hx;clear hx;have QO:w.heap.size<wo.heap.size:=bZ;by_cases Du:cap=k+1
   ·have PZ:g.2.2.length=k+1:=tO;go_wp2;refine wp_loop_rounds 1 ?_;rw[rounds_succ];have cB:g.2.2.length-(k+1)=0:=tO;go_wp2;go_roundw
    case rel=>exact⟨k+1,tO,by go_num,fun i hi him j hj dU=>by
      rcases zak (zam him) with h | rfl
      ·exact HA.o i hi h j hj dU
      ·omega,al.o.alloc tO _⟩
    case measure=>exact tM
   ·have cu:=CUT.o;rw[Wn Du] at cu;simp only[Option.map_some,Addr.add_lit] at cu;have CU:=qA cu;clear cu;obtain⟨N,hN⟩: ∃N,N=g.2.2.length-(k+1):=⟨_,rfl⟩;rw[<-hN] at CU;have yq:(N:Int)=(g.2.2.length:Int)-((k:Int)+1):=tO;have RM:k+1+N=g.2.2.length:=tO;go_wp2;have hq:Wf wo wo (wo.alloc (.cells #[.int .i64 x.1,.int .i64 x.2.1,.int .i64 x.2.2] 97)):=(zac _ _).alloc (zaa _) _;have l0:(wo.alloc (.cells #[.int .i64 x.1,.int .i64 x.2.1,.int .i64 x.2.2] 97)).cell? ⟨wo,0,none⟩=some (.int .i64 x.1):=by simp[go_sem]
    have l1:(wo.alloc (.cells #[.int .i64 x.1,.int .i64 x.2.1,.int .i64 x.2.2] 97)).cell? ⟨wo,1,none⟩=some (.int .i64 x.2.1):=by simp[go_sem]
    have l2:(wo.alloc (.cells #[.int .i64 x.1,.int .i64 x.2.1,.int .i64 x.2.2] 97)).cell? ⟨wo,2,none⟩=some (.int .i64 x.2.2):=by simp[go_sem]
    have sq:wo.heap.size<(wo.alloc (.cells #[.int .i64 x.1,.int .i64 x.2.1,.int .i64 x.2.2] 97)).heap.size:=tZ;generalize wo.alloc (.cells #[.int .i64 x.1,.int .i64 x.2.1,.int .i64 x.2.2] 97)=wq at hq l0 l1 l2 sq⊢;have HQ:=qA hq;have L0:=qA l0;have L1:=qA l1;have L2:=qA l2;have eI:=qA (aB.trans (hq.mono tO));have eQ:=qA (al.trans (hq.mono tO));clear hq l0 l1 l2;go_loopw [24] (fun j wr=> ∃m:Nat,m<=N/\j= .int .i64 m/\(∀j (hj:j<g.2.2.length),k<j->j<k+1+m->qBX g.2.2[j] x=false)/\Wf wq wq wr) (fun j _=>N-(intOf j).toNat)
    case atStart=>exact⟨0,zaf _,rfl,fun j hj h1 h2=>absurd h2 tO,zac _ _⟩
    case round=>
     obtain⟨m,fM,rfl,cY,a6⟩:=hrel;have HI:=qA cY;have cU:=qA a6;have szi:=a6.size;have l0:=(a6.cell (p:=⟨wo,0,none⟩) sq).trans L0.o;have l1:=(a6.cell (p:=⟨wo,1,none⟩) sq).trans L1.o;have l2:=(a6.cell (p:=⟨wo,2,none⟩) sq).trans L2.o;have cC:=qA (eI.trans (a6.mono tO));have iX:wo.heap.size<wr.heap.size:=tO;clear cY a6;by_cases aj:m<N
     ·have MR:(g.2.2.drop (k+1))[m]'(by simp;omega)=g.2.2[k+1+m]'tO:=by rw[List.getElem_drop]
      obtain⟨b2,iY,fk,iW,d0,d1,d2,_⟩:=(CU.below cC).at (k:=m) (by simp;omega);rw[MR] at d0 d1 d2;obtain⟨rfl,rfl⟩:b=b2/\off+(k+1)*3=iY:=by simpa using fk
      have CL:Wi (qBX (g.2.2[k+1+m]'tO) x=true->qO g=false):=qA (fun h=>qGb (i:=k+1+m) (k:=k) tO tO (by rw[HX.o];exact h));have CN:Wi (qBX (g.2.2[k+1+m]'tO) x=false-> ∀j (hj:j<g.2.2.length),k<j->j<k+1+(m+1)->qBX g.2.2[j] x=false):=qA fun F j hj hkj hjm=>by
       by_cases e:j=k+1+m
       ·subst e;exact F
       ·exact HI.o j hj hkj tO
      clear fk MR;generalize g.2.2[k+1+m]'tO=y at*;have hC:Wi (qBX y x=((x.2.1==y.2.1)&&((x.1==y.1)||(x.2.2==y.2.2)))):=qA (by rw[qCq];rfl);rcases t1:(x.2.1==y.2.1) with _ | _
      ·have F:=qA (CN (by rw[hC.o,t1];rfl));go_wp2;go_roundw;exact⟨m+1,tO,by go_num,F.o,cU.o.alloc tO _⟩;exact tM
      rcases t2:(x.1==y.1) with _ | _
      ·rcases t3:(x.2.2==y.2.2) with _ | _
       ·have F:=qA (CN (by rw[hC.o,t1,t2,t3];rfl));go_wp2;go_roundw;exact⟨m+1,tO,by go_num,F.o,cU.o.alloc tO _⟩;exact tM
       ·have F:=qA (CL (by rw[hC.o,t1,t2,t3];rfl));go_wp2;go_ret;exact⟨qJ F.o.symm,cC.alloc tO _⟩
      ·have F:=qA (CL (by rw[hC.o,t1,t2];rfl));go_wp2;go_ret;exact⟨qJ F.o.symm,cC.alloc tO _⟩
     ·obtain rfl:m=N:=tO
      go_wp2;go_roundw
      case rel=>exact⟨k+1,tO,by go_num,fun i hi him j hj dU=>by
       rcases zak (zam him) with h | rfl
       ·exact HA.o i hi h j hj dU
       ·have:=HI.o j hj dU tO
        rw[HX.o];exact this,eQ.o.trans (cU.mono tO)⟩
      case measure=>exact tM
  ·obtain rfl:k=g.2.2.length:=tO
   have F:Wi (qO g=true):=qA (qHd e0 fun i hi j hj=>HA.o j tO tO i hi hj);go_wp2;go_ret;exact⟨qJ F.o.symm,aB⟩
def qB:Nat->List Int
 | 0=> []
 | n+1=>qB n++ [((n:Nat):Int)+1,-(((n:Nat):Int)+1)]
theorem qAX (n:Nat):(qB n).length=2*n:=by
 induction n with
 | zero=>rfl
 | succ n ih=>simp[qB,ih];omega
theorem qCG (n:Nat) (w:Wg) (hn:n<=1073741824):
  Wk Tryz.prog 85 #[.int .i64 n] w fun e w'=> ∃r,e= .returned r/\OwI w' w r (qB n)/\Wf w w w':=by
 go_enter Tryz.func85,Tryz.ntmps85
 go_wp2;go_loopw [3,4] (fun out i wr=> ∃k:Nat,k<=n/\i= .int .i64 (k+1)/\OwI wr w out (qB k)/\Wf w w wr)
  (fun _ i _=>n+1-(intOf i).toNat)
 case atStart=>exact⟨0,zaf _,rfl,qp _ [] qt tZ (zaa _),(zac _ _).alloc (zaa _) _⟩
 case round=>
  obtain⟨k,hk,rfl,aa,ab⟩:=hrel;have ar:=ab.size;have fy:=qAX k;by_cases ac:k<n
  ·have HS:Wi (qB (k+1)=qB k++ [(k:Int)+1,-((k:Int)+1)]):=qA rfl;generalize qB k=acc at aa HS fy;have HO:=qA aa;obtain⟨A1,ak,rfl,du,fM,_,_⟩:=aa.form;clear aa;have HX:Wi (I64 ((k:Int)+1)):=qA ⟨tO,tO⟩;have HY:Wi (I64 (-((k:Int)+1))):=qA ⟨tO,tO⟩;go_wp2_with (first | ((at_builtin;refine qW rfl (.tmp 11) (.tmp 13) rfl _ _ _ (OwI.alloc HO _) rfl _ _ rfl (qU _ _ _) HX.o tB tB ?_;intro v1 nu o1 g1 p1);have bi:=g1.size;simp at bi) | (at_builtin;refine qW rfl (.tmp 15) (.tmp 18) rfl _ _ _ (OwI.alloc o1 _) rfl _ _ rfl (qU _ _ _) HY.o tB tB ?_;intro v2 wv2 o2 g2 p2))
   go_roundw
   case rel=>
    have da:=qh ab ar HO.o.1 (zaa _) g1;exact⟨k+1,tO,by go_num,by rw[HS.o];simpa using o2,qh da da.size o1.1 (zaa _) g2⟩
   case measure=>exact tM
  ·obtain rfl:k=n:=tO
   go_wp2;go_ret;exact⟨_,rfl,aa,ab⟩
theorem qEU (n:Nat) (w:Wg) (hn:n<=1073741824):
  Wk Tryz.prog 79 #[.int .i64 n] w fun e w'=> ∃r,e= .returned r/\OwI w' w r (qB n)/\Wf w w w':=by
 go_enter Tryz.func79,Tryz.ntmps79
 go_wp2;go_loopw [3,4] (fun out i wr=> ∃k:Nat,k<=n/\i= .int .i64 (k+1)/\OwI wr w out (qB k)/\Wf w w wr)
  (fun _ i _=>n+1-(intOf i).toNat)
 case atStart=>exact⟨0,zaf _,rfl,qp _ [] qt tZ (zaa _),(zac _ _).alloc (zaa _) _⟩
 case round=>
  obtain⟨k,hk,rfl,aa,ab⟩:=hrel;have ar:=ab.size;have fy:=qAX k;by_cases ac:k<n
  ·have HS:Wi (qB (k+1)=qB k++ [(k:Int)+1,-((k:Int)+1)]):=qA rfl;generalize qB k=acc at aa HS fy;have HO:=qA aa;obtain⟨A1,ak,rfl,du,fM,_,_⟩:=aa.form;clear aa;have HX:Wi (I64s [(k:Int)+1,-((k:Int)+1)]):=qA (fun x hx=>by simp at hx;unfold I64;omega);have HL:Wi (RdI (wr.alloc (.cells #[.int .i64 ((k:Int)+1), .int .i64 (-((k:Int)+1))] 3)) (.slice (some ⟨wr,0,none⟩) 2 2) [(k:Int)+1,-((k:Int)+1)]):=
    qA (qp wr _ HX tZ (zaa _)).rd
   go_wp2_with (at_builtin;refine qBm rfl (.tmp 11) (.tmp 15) rfl w _ _ (HO.alloc _) rfl _ _ HL.o rfl (by simp;omega) (by first | omega | (simp;omega)) ?_;intro v2 w2 o2 g2 p2)
   go_roundw;exact⟨k+1,tO,by go_num,by rw[HS.o];exact o2,qh ab ar HO.o.1 (zaa _) g2⟩;exact tM
  ·obtain rfl:k=n:=tO
   go_wp2;go_ret;exact⟨_,rfl,aa,ab⟩
inductive Conn (es:List EdD) (v:Int):Int->Prop
 | base:Conn es v v
 | fwd (e:EdD) (he:e∈es) (h:Conn es v e.1):Conn es v e.2.2
 | back (e:EdD) (he:e∈es) (h:Conn es v e.2.2):Conn es v e.1
def qDW (o:List Int) (e:EdD):List Int:=
 if e.2.2∈(if e.1∈o then insF cmpI o e.2.2 else o) then insF cmpI (if e.1∈o then insF cmpI o e.2.2 else o) e.1 else(if e.1∈o then insF cmpI o e.2.2 else o)
theorem qEE {xs:List Int} {x y:Int}:y∈insF cmpI xs x↔y=x\/y∈xs:=by rw[qDx];exact qFO x xs qPV y
theorem qCT {o:List Int} {e:EdD} {x:Int}:x∈qDW o e↔x∈o\/((e.1∈o\/e.2.2∈o)/\(x=e.1\/x=e.2.2)):=by
 unfold qDW;by_cases h1:e.1∈o
 ·simp only[h1,if_true];have h2:e.2.2∈insF cmpI o e.2.2:=qEE.2 (.inl rfl);rw[Wm h2,qEE,qEE];constructor
  ·rintro(h | h | h)
   ·exact .inr ⟨.inl trivial, .inl h⟩
   ·exact .inr ⟨.inl trivial, .inr h⟩
   ·exact .inl h
  ·rintro(h | ⟨_,h | h⟩)
   ·exact .inr (.inr h)
   ·exact .inl h
   ·exact .inr (.inl h)
 ·simp only[h1,if_false];by_cases h2:e.2.2∈o
  ·rw[Wm h2,qEE];constructor
   ·rintro(h | h)
    ·exact .inr ⟨.inr h2, .inl h⟩
    ·exact .inl h
   ·rintro(h | ⟨_,h | h⟩)
    ·exact .inr h
    ·exact .inl h
    ·exact .inr (by rw[h];exact h2)
  ·rw[Wn h2];constructor
   ·exact .inl
   ·rintro(h | ⟨h | h,_⟩)
    ·exact h
    ·exact absurd h tZ
    ·exact absurd h h2
def qEV (es:List EdD) (o:List Int):List Int:=es.foldl qDW o
theorem qCx {es:List EdD} {o:List Int} {x:Int} (h:x∈o):x∈qEV es o:=by
 unfold qEV;induction es generalizing o with
 | nil=>exact h
 | cons e es ih=>exact ih (qCT.2 (.inl h))
theorem qLt {es:List EdD} {o:List Int} {e:EdD} (he:e∈es) (h:e.1∈o\/e.2.2∈o):e.1∈qEV es o/\e.2.2∈qEV es o:=by
 unfold qEV;induction es generalizing o with
 | nil=>cases he
 | cons d es ih=>
   rcases zaH.1 he with rfl | he
   ·exact⟨qCx (es:=es) (o:=qDW o e) (qCT.2 (.inr ⟨h, .inl rfl⟩)),qCx (es:=es) (o:=qDW o e) (qCT.2 (.inr ⟨h, .inr rfl⟩))⟩
   ·refine ih he ?_;rcases h with h | h
    ·exact .inl (qCT.2 (.inl h))
    ·exact .inr (qCT.2 (.inl h))
theorem qKZ {es es':List EdD} {v:Int} {o:List Int} (bC: ∀e∈es',e∈es) (h: ∀x∈o,Conn es v x): ∀x∈qEV es' o,Conn es v x:=by
 unfold qEV;induction es' generalizing o with
 | nil=>exact h
 | cons e es' ih=>
   refine ih (fun d hd=>bC d (by simp[hd])) fun x hx=> ?_;have he:=bC e tZ;rcases qCT.1 hx with hx | ⟨h1 | h1,rfl | rfl⟩
   ·exact h x hx
   ·exact h _ h1
   ·exact .fwd e he (h _ h1)
   ·exact .back e he (h _ h1)
   ·exact h _ h1
def Clo (es:List EdD) (o:List Int):Prop:= ∀e∈es,(e.1∈o↔e.2.2∈o)
theorem qJy {es:List EdD} {o:List Int} (h:Clo es o): ∀x,x∈qEV es o↔x∈o:=by
 have key: ∀es':List EdD,(∀e∈es',e∈es)-> ∀o',(∀x,x∈o'↔x∈o)-> ∀x,x∈es'.foldl qDW o'↔x∈o:=by
  intro es';induction es' with
  | nil=>intro _ o' ho;exact ho
  | cons e es' ih=>
    intro bC o' ho;refine ih (fun d hd=>bC d (by simp[hd])) _ fun x=> ?_;rw[qCT,ho,ho,ho];have:=h e (bC e tZ)
    constructor
    ·rintro(hx | ⟨h1 | h1,rfl | rfl⟩)
     ·exact hx
     ·exact h1
     ·exact this.1 h1
     ·exact this.2 h1
     ·exact h1
    ·exact .inl
 exact key es (fun _ h=>h) o fun _=>Iff.rfl
def phi (es:List EdD) (o:List Int):Nat:=(es.filter fun e=>decide (e.1∈o/\e.2.2∈o)).length
theorem qNu {α:Type} {p q:α->Bool} {l:List α} (pv: ∀x,p x=true->q x=true) {a:α} (ha:a∈l) (hq:q a=true) (hp:p a=false):(l.filter p).length<(l.filter q).length:=by
 have le: ∀l:List α,(l.filter p).length<=(l.filter q).length:=by
  intro l;induction l with
  | nil=>simp
  | cons b l ih=>
    rw[zas,zas];split
    ·rename_i h
     rw[Wm (pv b h)];simp;exact ih
    ·split
     ·simp;omega
     ·exact ih
 induction l with
 | nil=>cases ha
 | cons b l ih=>
   rw[zas,zas];rcases zaH.1 ha with rfl | ha
   ·rw[Wn (by simp[hp]),Wm hq];have:=le l
    simp;omega
   ·have:=ih ha
    split
    ·rename_i h
     rw[Wm (pv b h)];simp;exact this
    ·split
     ·simp;omega
     ·exact this
theorem qRB {es:List EdD} {o:List Int} (h: ¬Clo es o):phi es o<phi es (qEV es o):=by
 unfold Clo at h;have: ∃e,e∈es/\ ¬(e.1∈o↔e.2.2∈o):=by
  apply zaz
  intro hn;exact h fun e he=>zaz fun ai=>hn ⟨e,he,ai⟩
 obtain⟨e,he,ai⟩:=this;have rB:e.1∈o\/e.2.2∈o:=by
  apply zaz
  intro hn;exact ai ⟨fun h=>absurd (.inl h) hn,fun h=>absurd (.inr h) hn⟩
 refine qNu (fun d hd=> ?_) he ?_ ?_
 ·simp only[decide_eq_true_eq] at hd⊢;exact⟨qCx hd.1,qCx hd.2⟩
 ·simp only[decide_eq_true_eq];exact qLt he rB
 ·rw[decide_eq_false_iff_not];exact fun hh=>ai ⟨fun _=>hh.2,fun _=>hh.1⟩
def qDP (es:List EdD) (v:Int):Nat->List Int
 | 0=> [v]
 | i+1=>qEV es (qDP es v i)
theorem qMv (es:List EdD) (v:Int) (i:Nat):Clo es (qDP es v i)\/i<=phi es (qDP es v i):=by
 induction i with
 | zero=>exact .inr (zaf _)
 | succ i ih=>
   by_cases h:Clo es (qDP es v i)
   ·left
    intro e he;show e.1∈qEV es _↔e.2.2∈qEV es _
    rw[qJy h,qJy h];exact h e he
   ·right
    have h1:=qRB h;rcases ih with ih | ih
    ·exact absurd ih h
    ·show i+1<=phi es (qEV es (qDP es v i))
     omega
def qCB (es:List EdD) (v:Int):List Int:=qDP es v (es.length+1)
theorem qED (es:List EdD) (v x:Int):x∈qCB es v↔Conn es v x:=by
 have De:Clo es (qCB es v):=by
  rcases qMv es v (es.length+1) with h | h
  ·exact h
  ·have:phi es (qDP es v (es.length+1))<=es.length:=List.length_filter_le _ _
   omega
 have hv: ∀i,v∈qDP es v i:=by
  intro i;induction i with
  | zero=>simp[qDP]
  | succ i ih=>exact qCx ih
 have hs: ∀i,∀x∈qDP es v i,Conn es v x:=by
  intro i;induction i with
  | zero=>intro x hx;simp[qDP] at hx;subst hx;exact .base
  | succ i ih=>exact qKZ (fun _ h=>h) ih
 refine⟨hs _ x,fun h=> ?_⟩;induction h with
 | base=>exact hv _
 | fwd e he _ ih=>exact(De e he).1 ih
 | back e he _ ih=>exact(De e he).2 ih
theorem qBI {es:List EdD} {v:Int} {S:Int->Prop} (hv:S v) (hc: ∀e∈es,(S e.1↔S e.2.2)) {x:Int} (h:Conn es v x):S x:=by
 induction h with
 | base=>exact hv
 | fwd e he _ ih=>exact(hc e he).1 ih
 | back e he _ ih=>exact(hc e he).2 ih
theorem qBA {l:List Int} {x:Int}:hasB l x=true↔x∈l:=by
 unfold hasB;rw[zaI];constructor
 ·rintro⟨y,hy,h⟩
  have:y=x:=by simpa using h
  rw[<-this];exact hy
 ·intro h;exact⟨x,h,tZ⟩
theorem qDE {l:List Int} {x:Int} (h:hasB l x=false):x∉l:=fun hm=>by
 rw[qBA.2 hm] at h;cases h
theorem qNl (o:List Int) (e:EdD):(qDW o e).length<=o.length+2:=by
 unfold qDW;have h1:(if e.1∈o then insF cmpI o e.2.2 else o).length<=o.length+1:=by
  split
  ·exact qCF _ _
  ·omega
 generalize (if e.1∈o then insF cmpI o e.2.2 else o)=o1 at h1⊢;split
 ·have:=qCF (c:=cmpI) o1 e.1
  omega
 ·omega
theorem qIz (es:List EdD) (o:List Int):(es.foldl qDW o).length<=o.length+2*es.length:=by
 induction es generalizing o with
 | nil=>simp
 | cons e es ih=>
   have h1:=ih (qDW o e);have h2:=qNl o e;simp only[zaS,za6];omega
theorem qGt (es:List EdD) (v:Int) (i:Nat) (hl:es.length<=120):(qDP es v i).length<=1+240*i:=by
 induction i with
 | zero=>simp[qDP]
 | succ i ih=>
   have:=qIz es (qDP es v i)
   show(qEV es (qDP es v i)).length<=_
   unfold qEV;omega
def rsL (es:List EdD) (v:Int) (i k:Nat):List Int:=(es.take k).foldl qDW (qDP es v i)
theorem qPM (es:List EdD) (v:Int) (i k:Nat) (h:k<es.length):rsL es v i (k+1)=qDW (rsL es v i k) es[k]:=by
 unfold rsL;rw[zai h,zaE];rfl
theorem qQN (es:List EdD) (v:Int) (i k:Nat) (hl:es.length<=120) (hi:i<=121) (hk:k<=120):(rsL es v i k).length<=100000:=by
 have h1:=qGt es v i hl;have h2:=qIz (es.take k) (qDP es v i);have h3:(es.take k).length<=k:=zau _ _;unfold rsL;omega
theorem qOQ {o:List Int} {e:EdD} (h1:hasB o e.1=false) (h2:hasB o e.2.2=false):qDW o e=o:=by
 unfold qDW;rw[Wn (qDE h1),Wn (qDE h2)]
theorem qOm {o:List Int} {e:EdD} (h1:hasB o e.1=false) (h2:hasB o e.2.2=true):qDW o e=insF cmpI o e.1:=by
 unfold qDW;rw[Wn (qDE h1),Wm (qBA.1 h2)]
theorem qQJ {o:List Int} {e:EdD} (h1:hasB o e.1=true):qDW o e=insF cmpI (insF cmpI o e.2.2) e.1:=by
 unfold qDW;rw[Wm (qBA.1 h1),Wm (qEE.2 (.inl rfl))]
theorem qGk (v:Wh) (g:GrD) (u:Int) (w:Wg) (h:ArgG w v g) (hg:grB g=true) (hu:inB u 0 (wrap64 (g.2.1-1))=true) (hu64:I64 u):
  Wk Tryz.prog 232 #[v, .int .i64 u] w fun e w'=> ∃r,e= .returned r/\OwI w' w r (qCB g.2.2 u)/\Wf w w w':=by
 have HG:=qA h;obtain⟨_,aA,aD,_⟩:=qD hg;have dh:wrap64 (g.2.1-1)=g.2.1-1:=IntWalk.wrap64_in _ ⟨tO,tO⟩;rw[dh] at hu;clear dh;have HU:=qA hu64;clear hu64;obtain⟨s,rfl,_,_,ha⟩:=h;have H:=qA ha;obtain⟨A,cap,rfl,aR,hm,_,hr,_⟩:=ha;have HR:=qA hr;unfold maxLen at hm;have bx:Wf w w (w.alloc (.cells #[.int .i64 g.1,.int .i64 g.2.1, .slice A g.2.2.length cap] 26)):=ZZ;have MZ:(w.alloc (.cells #[.int .i64 g.1,.int .i64 g.2.1, .slice A g.2.2.length cap] 26)).cell? ⟨w,1,none⟩=some (.int .i64 g.2.1):=by simp[go_sem]
 have kx:(w.alloc (.cells #[.int .i64 g.1,.int .i64 g.2.1, .slice A g.2.2.length cap] 26)).cell? ⟨w,2,none⟩=some (.slice A g.2.2.length cap):=by simp[go_sem]
 have sx:w.heap.size<(w.alloc (.cells #[.int .i64 g.1,.int .i64 g.2.1, .slice A g.2.2.length cap] 26)).heap.size:=tZ;have BX:=qA bx;have KX:=qA kx;have QG:=qA MZ;clear bx kx MZ hr;go_enter Tryz.func232,Tryz.ntmps232
 go_wp2_with fail;have aC:=qk _ g _ (HG.below BX);rw[hg] at aC;have aK:=qA aC;clear aC;refine aK.o.mono ?_;rintro e w0 ⟨rfl,b1⟩;have B0:=qA (BX.trans (b1.mono BX.size));have k2:=(b1.cell (p:=⟨w,2,none⟩) sx).trans KX.o;have k1:=(b1.cell (p:=⟨w,1,none⟩) sx).trans QG.o;have cZ:w.heap.size<w0.heap.size:=by have:=b1.size;omega
 clear b1 sx aK;go_wp2_with fail;have cY:=qi u 0 (g.2.1-1) w0;rw[hu] at cY;have sZ:=qA cY;clear cY;refine sZ.o.mono ?_;rintro e w' ⟨rfl,rfl⟩;clear sZ;go_wp2;have hb:Wf w0 w0 (w0.alloc (.cells #[.int .i64 u] 3)):=(zac _ _).alloc (zaa _) _;have o0:OwI (w0.alloc (.cells #[.int .i64 u] 3)) w0 (.slice (some ⟨w0,0,none⟩) 1 1) [u]:=qp w0 [u] (fun x hx=>by simp at hx;subst hx;exact HU.o) tZ (zaa _);have aE:w0.heap.size<(w0.alloc (.cells #[.int .i64 u] 3)).heap.size:=tZ;generalize w0.alloc (.cells #[.int .i64 u] 3)=w1 at hb o0 aE⊢;have HB:=qA (B0.trans (hb.mono B0.size));have K2:=qA ((hb.cell (p:=⟨w,2,none⟩) cZ).trans k2);have O0:=qA (o0.mono (base':=w.heap.size+1) tO);clear hb k1 k2 o0;go_loopw [5,6] (fun out i wo=> ∃k:Nat,k<=g.2.2.length+1/\i= .int .i64 k/\OwI wo (w.heap.size+1) out (qDP g.2.2 u k)/\Wf (w.heap.size+1) w1 wo) (fun _ i _=>g.2.2.length+1-(intOf i).toNat)
 case atStart=>exact⟨0,zaf _,rfl,O0,zac _ _⟩
 case round=>
  obtain⟨k,hk,rfl,aa,ab⟩:=hrel;obtain⟨wo,rfl⟩: ∃wo:Wg,wo=wr:=⟨_,rfl⟩;have al:=qA ab;have aB:=qA (HB.trans (ab.mono tO));have ar:=ab.size;have p2:=(ab.cell (p:=⟨w,2,none⟩) (show w.heap.size<w.heap.size+1 by omega)).trans K2.o;have bZ:w.heap.size<wo.heap.size:=tO;have kJ:=qGt g.2.2 u k aD;have HO:=qA aa;obtain⟨A1,ak,rfl,_⟩:=aa.form;clear aa ab;by_cases ac:k<g.2.2.length+1
  ·have cT:(k:Int)<(g.2.2.length:Int)+1:=tO;go_wp2;go_loopw [5,7] (fun out j wr=> ∃m:Nat,m<=g.2.2.length/\j= .int .i64 m/\OwI wr (w.heap.size+1) out (rsL g.2.2 u k m)/\Wf (w.heap.size+1) wo wr) (fun _ j _=>g.2.2.length-(intOf j).toNat)
   case atStart=>exact⟨0,zaf _,rfl,HO,zac _ _⟩
   case round=>
    obtain⟨m,fM,rfl,aa,a6⟩:=hrel;have xK:=a6.size;have p2:=(a6.cell (p:=⟨w,2,none⟩) (show w.heap.size<w.heap.size+1 by omega)).trans p2;have cU:=qA a6;have aU:=qA (aB.trans (a6.mono tO));have iX:w.heap.size<wr.heap.size:=tO;have FL:=qQN g.2.2 u k m aD tO tO;clear a6;by_cases aj:m<g.2.2.length
    ·obtain⟨b,off,rfl,cX,c0,c1,c2,_⟩:=(H.below aU).at aj;have HX:=qA (HR g.2.2[m] tZ);have HS:=qA (qPM g.2.2 u k m aj);generalize g.2.2[m]=e at*;generalize rsL g.2.2 u k m=o at*;have aI:=qA aa;obtain⟨A2,ao,rfl,_⟩:=aa.form;clear aa;go_wp2_with fail;obtain⟨W,hW⟩: ∃W,W=zaF wr (.cells #[.int .i64 e.1,.int .i64 e.2.1,.int .i64 e.2.2] 97):=⟨_,rfl⟩;rw[<-hW];have bW:Wf wr wr W:=by rw[hW];exact(zac _ _).alloc (zaa _) _
     have sW:wr.heap.size<W.heap.size:=by rw[hW];simp
     have l0:W.cell? ⟨wr,0,none⟩=some (.int .i64 e.1):=by rw[hW];simp[go_sem]
     have l2:W.cell? ⟨wr,2,none⟩=some (.int .i64 e.2.2):=by rw[hW];simp[go_sem]
     have OW:=qA (aI.below bW);have BW:=qA (cU.trans (bW.mono tO));clear hW bW p2 c0 c1 c2;refine(qCy _ o e.1 _ OW.rd.arg tO).mono ?_
     rintro e' w' ⟨rfl,rfl⟩;rcases h1:hasB o e.1 with _ | _
     ·go_wp2_with fail;refine(qCy _ o e.2.2 _ OW.rd.arg tO).mono ?_
      rintro e' w' ⟨rfl,rfl⟩;rcases h2:hasB o e.2.2 with _ | _
      ·have F:=qA (qOQ h1 h2);go_wp2;go_roundw;exact⟨m+1,tO,by go_num,by rw[HS.o,F.o];exact OW.o,BW.o⟩;exact tM
      ·have F:=qA (qOm h1 h2);go_wp2_with fail;refine(qDk _ o e.1 _ OW.rd HX.o.1 tO).mono ?_
       rintro e' w2 ⟨r2,rfl,o2,b2⟩;have O2:=qA o2;have B2:=qA b2;obtain⟨A3,gM,rfl,_⟩:=o2.form;clear o2 b2;go_wp2;go_roundw;exact⟨m+1,tO,by go_num,by rw[HS.o,F.o];exact O2.o.mono tO,BW.o.trans (B2.mono tO)⟩;exact tM
     ·have F:=qA (qQJ h1);go_wp2_with fail;refine(qDk _ o e.2.2 _ OW.rd HX.o.2.2 tO).mono ?_
      rintro e' w2 ⟨r2,rfl,o2,b2⟩;have O2:=qA o2;have B2:=qA b2;have s2:=b2.size;have Ot:=(b2.cell (p:=⟨wr,0,none⟩) sW).trans l0;have ni:=(b2.cell (p:=⟨wr,2,none⟩) sW).trans l2;obtain⟨A3,gM,rfl,_⟩:=o2.form;have ud:=qCF (c:=cmpI) o e.2.2;have nm:hasB (insF cmpI o e.2.2) e.2.2=true:=qBA.2 (qEE.2 (.inl rfl));have lV:=qA nm;clear o2 b2 l0 l2 nm;generalize insF cmpI o e.2.2=o1 at*;go_wp2_with fail;refine(qCy _ o1 e.2.2 _ O2.rd.arg tO).mono ?_
      rintro e' w' ⟨rfl,rfl⟩;rw[lV.o];go_wp2_with fail;refine(qDk _ o1 e.1 _ O2.rd HX.o.1 tO).mono ?_
      rintro e' w3 ⟨r3,rfl,o3,b3⟩;have O3:=qA o3;have B3:=qA b3;obtain⟨A4,Pg,rfl,_⟩:=o3.form;clear o3 b3;go_wp2;go_roundw;exact⟨m+1,tO,by go_num,by rw[HS.o,F.o];exact O3.o.mono tO,(BW.trans (B2.mono tO)).trans (B3.mono tO)⟩;exact tM
    ·obtain rfl:m=g.2.2.length:=tO
     have F:Wi (rsL g.2.2 u k g.2.2.length=qDP g.2.2 u (k+1)):=qA (by unfold rsL;rw[zaJ];rfl);have aI:=qA aa;obtain⟨A2,ao,rfl,_⟩:=aa.form;clear aa;go_wp2;go_roundw;exact⟨k+1,tO,by go_num,by rw[<-F.o];exact aI.o,al.o.trans cU.o⟩;exact tM
  ·obtain rfl:k=g.2.2.length+1:=tO
   have uy: ¬((g.2.2.length:Int)+1<(g.2.2.length:Int)+1):=tO;go_wp2;go_ret;exact⟨_,rfl,HO.mono tO,aB.o⟩
theorem qOT {v x y y':Int} {e e':EdD} (h:mt v x e=some y) (h':mt v x e'=some y'):qBX e e'=true:=by
 unfold mt at h h';by_cases hp:0<x
 ·rw[Wm hp] at h h';split at h
  ·rename_i a
   split at h'
   ·rename_i b
    unfold qBX;simp[a.1,a.2,b.1,b.2]
   ·cases h'
  ·cases h
 ·rw[Wn hp] at h h';by_cases hn:x<0
  ·rw[Wm hn] at h h';split at h
   ·rename_i a
    split at h'
    ·rename_i b
     unfold qBX;simp[a.1,a.2,b.1,b.2]
    ·cases h'
   ·cases h
  ·rw[Wn hn] at h;cases h
theorem qAH {es:List EdD} (h:Fol es) (v x:Int):(qAJ es v x).length<=1:=by
 unfold qAJ;unfold Fol at h;induction es with
 | nil=>simp
 | cons e es ih=>
   have p:=List.pairwise_cons.1 h;rw[List.filterMap_cons];cases hm:mt v x e with
   | none=>exact ih p.2
   | some y=>
     have:es.filterMap (mt v x)= []:=by
      rw[List.filterMap_eq_nil_iff];intro e' mh;cases kQ:mt v x e' with
      | none=>rfl
      | some y'=>
        have:=qOT hm kQ
        rw[p.1 e' mh] at this;cases this
     simp[this]
theorem qM {g:GrD} (h:grB g=true) {e:EdD} (he:e∈g.2.2):(0<=e.1/\e.1<g.2.1)/\(1<=e.2.1/\e.2.1<=g.1)/\(0<=e.2.2/\e.2.2<g.2.1):=by
 obtain⟨h1,h2,_,h4⟩:=qD h;obtain⟨k,hk,rfl⟩:=List.getElem_of_mem he;have:=h4 k hk
 have ho:qAh g.1 g.2.1 g.2.2[k]=true:=by
  rcases Nat.eq_zero_or_pos k with rfl | h0
  ·rw[qGP hk] at this;exact this
  ·rw[qGd h0 hk,zab] at this;exact this.1
 unfold qAh at ho;rw[IntWalk.wrap64_in (g.2.1-1) ⟨tO,tO⟩] at ho;simp only[zab,qm] at ho;omega
theorem qR {g:GrD} (h:grB g=true) (v x:Int):qF g.2.2 v x= -1\/(0<=qF g.2.2 v x/\qF g.2.2 v x<g.2.1):=by
 unfold qF qAJ;cases hs:g.2.2.filterMap (mt v x) with
 | nil=>exact .inl rfl
 | cons y l=>
   right
   have hy:y∈g.2.2.filterMap (mt v x):=by rw[hs];simp
   obtain⟨e,he,hm⟩:=zaD.1 hy;obtain⟨a,_,b⟩:=qM h he;show 0<=y/\y<g.2.1
   unfold mt at hm;split at hm
   ·split at hm
    ·injection hm with hm;subst hm;exact b
    ·cases hm
   ·split at hm
    ·split at hm
     ·injection hm with hm;subst hm;exact a
     ·cases hm
    ·cases hm
theorem qBu {g:GrD} (h:grB g=true): ∀e∈g.2.2,1<=e.2.1:=fun _ he=>(qM h he).2.1.1
def qd (es:List EdD) (u:Int) (o:List Int) (x:Int):List Int:=
 if 0<=qF es u x then(if hasB o (qF es u x) then o else o++ [qF es u x]) else o
def canF (es:List EdD) (ls:List Int):Nat->Nat->List Int->List Int
 | 0,_,o=>o
 | f+1,i,o=>match o[i]? with
   | none=>o
   | some u=>canF es ls f (i+1) (ls.foldl (qd es u) o)
def canO (g:GrD):List Int:=canF g.2.2 (qB g.1.toNat) 41 0 [0]
def qAL (n:Int) (o:List Int):Prop:=o.Nodup/\(∀y∈o,0<=y/\y<n)/\o[0]? =some 0
theorem qBM: ∀(n:Nat) (o:List Int),o.Nodup->(∀y∈o,0<=y/\y<n)->o.length<=n
 | 0,[],_,_=>zaa _
 | 0,y::o,_,h=>by have:=h y tZ;omega
 | n+1,o,hd,h=>by
   by_cases hm:(n:Int)∈o
   ·have h1:=List.length_erase_of_mem hm;have h2:=qBM n (o.erase n) (hd.erase _) fun y hy=>by
     have Fa:=(hd.mem_erase_iff).1 hy;have:=h y Fa.2
     have:y≠(n:Int):=Fa.1
     omega
    have:0<o.length:=List.length_pos_of_mem hm
    omega
   ·have:=qBM n o hd fun y hy=>by
     have:=h y hy
     have:y≠(n:Int):=fun e=>hm (e▸hy)
     omega
    omega
def OrdN (n:Int) (o:List Int):Prop:=o.Nodup/\(∀y∈o,0<=y/\y<n)/\1<=o.length
theorem qAL.toN {n:Int} {o:List Int} (h:qAL n o):OrdN n o:=by
 refine⟨h.1,h.2.1,?_⟩;have:=h.2.2
 cases o with
 | nil=>cases this
 | cons _ _=>simp
theorem qAL.len {n:Int} {o:List Int} (h:qAL n o) (hn:n<=40) (iS:0<=n):o.length<=40:=by
 have:=qBM n.toNat o h.1 fun y hy=>by have:=h.2.1 y hy;omega
 omega
theorem qOY {g:GrD} (hg:grB g=true) {u:Int} {o:List Int} (x:Int) (h:qAL g.2.1 o):qAL g.2.1 (qd g.2.2 u o x):=by
 unfold qd;split
 ·rename_i h0
  split
  ·exact h
  ·rename_i hb
   have aL:qF g.2.2 u x∉o:=qDE (by simpa using hb);refine⟨List.nodup_append.2 ⟨h.1,tZ,fun a ha b hb e=> ?_⟩,fun y hy=> ?_,?_⟩
   ·simp at hb
    subst hb e;exact aL ha
   ·rcases zaM.1 hy with hy | hy
    ·exact h.2.1 y hy
    ·simp at hy
     subst hy;rcases qR hg u x with e | e
     ·omega
     ·exact e
   ·have:0<o.length:=by
     have:=h.2.2
     cases o with
     | nil=>cases this
     | cons _ _=>simp
    rw[zaA this];exact h.2.2
 ·exact h
theorem qIS {g:GrD} (hg:grB g=true) {u:Int} (ls:List Int) {o:List Int} (h:qAL g.2.1 o):qAL g.2.1 (ls.foldl (qd g.2.2 u) o):=by
 induction ls generalizing o with
 | nil=>exact h
 | cons x ls ih=>exact ih (qOY hg x h)
theorem qBU (es:List EdD) (u:Int) (ls:List Int) (o:List Int) (i:Nat) (y:Int) (h:o[i]? =some y):(ls.foldl (qd es u) o)[i]? =some y:=by
 induction ls generalizing o with
 | nil=>exact h
 | cons x ls ih=>
   refine ih _ ?_;unfold qd;split
   ·split
    ·exact h
    ·rw[zaA (zad.1 h).1];exact h
   ·exact h
theorem qEI (es:List EdD) (u:Int) (ls o:List Int) (k:Nat) (h:k<ls.length):(ls.take (k+1)).foldl (qd es u) o=qd es u ((ls.take k).foldl (qd es u) o) ls[k]:=by
 rw[zai h,zaE];rfl
theorem qAL.one {n:Int} (h:1<=n):qAL n [0]:=⟨tZ,fun y hy=>by simp at hy;omega,rfl⟩
theorem qGL (es:List EdD) (ls:List Int) (f:Nat) (o:List Int):canF es ls f o.length o=o:=by
 cases f with
 | zero=>rfl
 | succ f=>unfold canF;rw[List.getElem?_eq_none (zaa _)]
theorem qDq (es:List EdD) (ls:List Int) (f i:Nat) (o:List Int) (h:i<o.length):canF es ls (f+1) i o=canF es ls f (i+1) (ls.foldl (qd es o[i]) o):=by
 rw[canF,zaQ h]
theorem qQA {g:GrD} (hg:grB g=true) (ls:List Int) (f i:Nat) {o:List Int} (h:qAL g.2.1 o):qAL g.2.1 (canF g.2.2 ls f i o):=by
 induction f generalizing i o with
 | zero=>exact h
 | succ f ih=>
   unfold canF;split
   ·exact h
   ·exact ih _ (qIS hg ls h)
theorem qAD {g:GrD} (hg:grB g=true):qAL g.2.1 (canO g):=qQA hg _ _ _ (qAL.one (qD hg).2.1.1)
theorem qw {r:Nat} {x:Int}:x∈qB r↔(1<=x/\x<=r)\/(-(r:Int)<=x/\x<= -1):=by
 induction r with
 | zero=>simp[qB];omega
 | succ n ih=>
   unfold qB;rw[zaM,ih];simp
   omega
theorem qBf {es:List EdD} {v x:Int} (h:0<=qF es v x): ∃e∈es,mt v x e=some (qF es v x):=by
 unfold qF at*;cases hs:qAJ es v x with
 | nil=>rw[hs] at h;simp at h
 | cons y l=>
   have hy:y∈qAJ es v x:=by rw[hs];simp
   unfold qAJ at hy;obtain⟨e,he,hm⟩:=zaD.1 hy;exact⟨e,he,by simpa using hm⟩
theorem qEC {es:List EdD} (hf:Fol es) {v x y:Int} {e:EdD} (he:e∈es) (hm:mt v x e=some y):qF es v x=y:=by
 have hy:y∈qAJ es v x:=zaD.2 ⟨e,he,hm⟩;have h1:=qAH hf v x;unfold qF;cases hs:qAJ es v x with
 | nil=>rw[hs] at hy;simp at hy
 | cons z l=>
   rw[hs] at h1 hy;have:l= []:=by simpa using h1
   subst this;simp at hy
   simp[hy]
theorem qAS {g:GrD} (hg:grB g=true) (hf:Fol g.2.2) {v x:Int} (hx: -3<=x/\x<=3) (h:0<=qF g.2.2 v x):qF g.2.2 (qF g.2.2 v x) (-x)=v:=by
 obtain⟨e,he,hm⟩:=qBf h;refine qEC hf he ?_;generalize qF g.2.2 v x=y at*;have dh:wrap64 (-x)= -x:=IntWalk.wrap64_in _ ⟨tO,tO⟩;have je:wrap64 (- -x)=x:=by rw[za5];exact IntWalk.wrap64_in _ ⟨tO,tO⟩
 unfold mt at hm⊢;by_cases hp:0<x
 ·rw[Wm hp] at hm;split at hm
  ·rename_i a
   injection hm with hm
   rw[Wn tO,Wm tO,je,Wm ⟨a.1,hm⟩,a.2]
  ·cases hm
 ·rw[Wn hp] at hm;by_cases hn:x<0
  ·rw[Wm hn,dh] at hm;split at hm
   ·rename_i a
    injection hm with hm
    rw[Wm tO,Wm ⟨a.1,hm⟩,a.2]
   ·cases hm
  ·rw[Wn hn] at hm;cases hm
def qQ (es:List EdD):Int->List Int->Int
 | v,[]=>v
 | v,x::w=>if qF es v x<0 then-1 else qQ es (qF es v x) w
theorem qLg (es:List EdD) (v:Int) (w:List Int) (k:Nat) (h:k<w.length):qQ es v (w.drop k)=if qF es v w[k]<0 then-1 else qQ es (qF es v w[k]) (w.drop (k+1)):=by
 rw[zaP h];rfl
theorem qGu {g:GrD} (hg:grB g=true): ∀(w:List Int) (v:Int),0<=v/\v<g.2.1->qQ g.2.2 v w= -1\/(0<=qQ g.2.2 v w/\qQ g.2.2 v w<g.2.1)
 | [],v,hv=> .inr hv
 | x::w,v,hv=>by
   unfold qQ;rcases qR hg v x with h | h
   ·rw[Wm tO];exact .inl rfl
   ·rw[Wn tO];exact qGu hg w _ h
theorem qFr (v vw:Wh) (g:GrD) (u:Int) (ws:List Int) (w:Wg) (h:ArgG w v g) (hw:RdI w vw ws) (hf:qO g=true) (hu:0<=u/\u<g.2.1):
  Wk Tryz.prog 83 #[v, .int .i64 u,vw] w fun e w'=>e= .returned (.tuple #[.int .i64 (qQ g.2.2 u ws), .bool (decide (0<=qQ g.2.2 u ws))])/\Wf w w w':=by
 have HG:=qA h;have HW:=qA hw;have HF:=qA hf;obtain⟨hg,aO⟩:=qE hf;have ONE:=qA (qAH aO);obtain⟨aF,aA,aD,_⟩:=qD hg;have NV:Wi (∀v x,qF g.2.2 v x= -1\/(0<=qF g.2.2 v x/\qF g.2.2 v x<g.2.1)):=qA fun v x=>qR hg v x;have cY:inB u 0 (wrap64 (g.2.1-1))=true:=by
  rw[IntWalk.wrap64_in _ ⟨tO,tO⟩];exact qm.2 ⟨hu.1,tO⟩
 have bC:IntKind.i64.wrap (g.2.1-1)=g.2.1-1:=by rw[IntKind.wrap_i64];omega
 have oh:inB u 0 (g.2.1-1)=true:=qm.2 ⟨hu.1,tO⟩;have sZ:=qA cY;have yo:=qA oh;obtain⟨s,rfl,aN,aQ,ha⟩:=h;obtain⟨A,cap,rfl⟩:=ha.form;obtain⟨Aw,capw,rfl,l8,Bj,_⟩:=hw.arg;unfold maxLen at Bj;clear hf hg aO ha hw cY oh;have HR:Wi (qQ g.2.2 u ws=qQ g.2.2 u (ws.drop 0)):=qA (by rw[List.drop_zero]);generalize qQ g.2.2 u ws=R at*;go_enter Tryz.func83,Tryz.ntmps83
 go_wp2_with fail;have bx:Wf w w (w.alloc (.cells #[.int .i64 g.1,.int .i64 g.2.1, .slice A g.2.2.length cap] 26)):=ZZ;have l0:(w.alloc (.cells #[.int .i64 g.1,.int .i64 g.2.1, .slice A g.2.2.length cap] 26)).cell? ⟨w,0,none⟩=some (.int .i64 g.1):=by simp[go_sem]
 have l1:(w.alloc (.cells #[.int .i64 g.1,.int .i64 g.2.1, .slice A g.2.2.length cap] 26)).cell? ⟨w,1,none⟩=some (.int .i64 g.2.1):=by simp[go_sem]
 have l2:(w.alloc (.cells #[.int .i64 g.1,.int .i64 g.2.1, .slice A g.2.2.length cap] 26)).cell? ⟨w,2,none⟩=some (.slice A g.2.2.length cap):=by simp[go_sem]
 have sA:w.heap.size<(w.alloc (.cells #[.int .i64 g.1,.int .i64 g.2.1, .slice A g.2.2.length cap] 26)).heap.size:=tZ;generalize w.alloc (.cells #[.int .i64 g.1,.int .i64 g.2.1, .slice A g.2.2.length cap] 26)=W at bx l0 l1 l2 sA⊢;have BX:=qA bx;have HA:Wi (∀w',Wf W W w'->ArgG w' (.agg #[.int .i64 g.1, .int .i64 g.2.1, .slice A g.2.2.length cap]) g):=qA fun w' hb=>HG.o.below (BX.trans (hb.mono tO));have dW:=qj _ g W (HA _ (zac _ _));rw[HF.o] at dW;have gU:=qA dW;clear bx dW;refine gU.o.mono ?_;rintro e w1 ⟨rfl,b1⟩;have q0:=(b1.cell (p:=⟨w,0,none⟩) sA).trans l0;have q1:=(b1.cell (p:=⟨w,1,none⟩) sA).trans l1;have q2:=(b1.cell (p:=⟨w,2,none⟩) sA).trans l2;have BW:=qA b1;have L0:=qA l0;have L1:=qA l1;have L2:=qA l2;clear b1 gU l0 l1 l2;go_wp2_with fail;refine(qi _ _ _ _).mono ?_
 rintro e w2 ⟨rfl,rfl⟩;simp only[yo.o];go_wp2;go_loopw [1,8] (fun a i wr=> ∃(k:Nat) (u':Int),k<=ws.length/\i= .int .i64 k/\a= .int .i64 u'/\(0<=u'/\u'<g.2.1)/\R=qQ g.2.2 u' (ws.drop k)/\Wf W W wr) (fun _ i _=>ws.length-(intOf i).toNat)
 case atStart=>exact⟨0,u,zaf _,rfl,rfl,hu,HR,BW⟩
 case round=>
  obtain⟨k,u',hk,rfl,rfl,DX,hR,ab⟩:=hrel;have HB:=qA ab;have pf:=qA hR;have hs:=ab.size;have q0:=(ab.cell (p:=⟨w,0,none⟩) sA).trans L0.o;have q1:=(ab.cell (p:=⟨w,1,none⟩) sA).trans L1.o;have q2:=(ab.cell (p:=⟨w,2,none⟩) sA).trans L2.o;have iX:w.heap.size<wr.heap.size:=tO;by_cases ac:k<ws.length
  ·have Ch:=qA (HW.below (BX.trans (ab.mono tO)));obtain⟨bw,offw,rfl,fv,jZ⟩:=Ch.o.at tO;have c0:=jZ k ac;have ST:=qA (qLg g.2.2 u' ws k ac);generalize ws[k]=x at c0 ST;have NX:=qA (NV u' x);have dJ:=qA (fun W' (h:ArgG W' (.agg #[.int .i64 g.1, .int .i64 g.2.1, .slice A g.2.2.length cap]) g)=>qe _ g u' x W' h (ONE u' x));clear ab hR jZ;go_wp2_with fail;have f0:=BelW.cell q0 iX;have f1:=BelW.cell q1 iX;have f2:=BelW.cell q2 iX;have f3:=BelW.cell c0 fv;(refine qG tK tK ?_;(repeat(go_big_quiet_step (first | (go_at_call 86;exact Calls.bel_of (dJ _ (HA _ (HB.trans ((BelW.h _).mono tO))))))));refine wpQuiet_nil ?_;intro wq hw';obtain⟨pq,ae⟩:=hw';have bq:=pq.h;rw[<-ae] at bq;clear ae pq)
   clear f0 f1 f2 f3 q0 q1 q2 c0;have HQ:=qA (HB.trans (bq.mono tO));have sq:=bq.size;clear bq;generalize qF g.2.2 u' x=y at*;rcases NX.o with hy | hy
   ·subst hy;have F:Wi (R= -1):=qA (by rw[pf.o,ST.o];rfl);go_wp2;exact Wj (v:= .tuple #[.int .i64 (-1), .bool false]) (by simp[results,Tryz.results83]) rfl ⟨by rw[F.o];rfl,BX.o.trans (HQ.mono tO)⟩
   ·have eK: ¬y<0:=tO;have F:Wi (R=qQ g.2.2 y (ws.drop (k+1))):=qA (by rw[pf.o,ST.o,Wn eK]);go_wp2;go_roundw;exact⟨k+1,y,tO,by go_num,rfl,hy,F.o,HQ.o⟩;exact tM
  ·obtain rfl:k=ws.length:=tO
   have F:Wi (R=u'):=qA (by rw[pf.o,List.drop_length];rfl);have hd:Wi (decide (0<=u')=true):=qA (by simp[DX.1]);clear ab hR;go_wp2;exact Wj (v:= .tuple #[.int .i64 u', .bool true]) (by simp[results,Tryz.results83]) rfl ⟨by rw[F.o,hd.o],BX.o.trans (HB.mono tO)⟩
def okAt (r:Int) (xs:List Int) (i:Nat):Bool:=letB r (xs.getD i 0)&& !(decide (0<i)&&invB (xs.getD (i-1) 0) (xs.getD i 0))
def qAG (r:Int) (xs:List Int):Bool:=inB r 1 3&&decide (xs.length<=24)&&(zaj xs.length).all (okAt r xs)
theorem qEO {r:Int} {xs:List Int} (h1:inB r 1 3=true) (h2:xs.length<=24) (h: ∀i,i<xs.length->okAt r xs i=true):qAG r xs=true:=by
 unfold qAG;rw[h1];simp[h2]
 exact h
theorem qAw {r:Int} {xs:List Int} (i:Nat) (hi:i<xs.length) (h:inB r 1 3=true->okAt r xs i=false):qAG r xs=false:=by
 unfold qAG;rcases h1:inB r 1 3 with _ | _
 ·rfl
 ·have h2:=h h1;simp
  intro _;exact⟨i,hi,h2⟩
theorem qFW {r:Int} {xs:List Int} (h:qAG r xs=true):1<=r/\r<=3:=by
 unfold qAG at h;simp only[zab] at h;exact qm.1 h.1.1
theorem qDt {r:Int} {xs:List Int} (h:qAG r xs=true):xs.length<=24:=by
 unfold qAG at h;simp only[zab,decide_eq_true_eq] at h;exact h.1.2
theorem qHp {r:Int} {xs:List Int} (h:qAG r xs=true) (i:Nat) (hi:i<xs.length):okAt r xs i=true:=by
 unfold qAG at h;simp only[zab,zan,zao] at h;exact h.2 i hi
theorem qCO {r:Int} {xs:List Int} (h:qAG r xs=true) (i:Nat) (hi:i<xs.length):xs[i]≠0/\ -r<=xs[i]/\xs[i]<=r:=by
 have h1:=qHp h i hi;unfold okAt at h1;simp only[zab] at h1;have h2:=h1.1;rw[qLG (qm.2 (qFW h))] at h2;simpa[zar,hi] using h2
theorem qIs {r:Int} {xs:List Int} (h:0<xs.length):okAt r xs 0=letB r xs[0]:=by
 simp[okAt,zar,h]
theorem qLe {r:Int} {xs:List Int} {k:Nat} (h0:0<k) (h:k<xs.length):okAt r xs k=(letB r xs[k]&& !invB xs[k-1] xs[k]):=by
 have:k-1<xs.length:=tO
 simp[okAt,zar,h,h0,this]
theorem qMI {a b:Int} (ha:a≠0) (h1: -3<=a) (h2:a<=3):invB a b=(b==wrap64 (-a)):=by
 have:wrap64 (-a)= -a:=IntWalk.wrap64_in _ ⟨tO,tO⟩
 rw[this];unfold invB;rw[zaL];simp
 omega
theorem qBK (r:Int) (v:Wh) (xs:List Int) (w:Wg) (h:ArgI w v xs) (hl:xs.length<=1073741824):
  Wk Tryz.prog 128 #[.int .i64 r,v] w fun e w'=>e= .returned (.bool (qAG r xs))/\ ∃n,w'=w.drewN n:=by
 obtain⟨A,cap,rfl,aR,hm,hr,hb⟩:=h;have HR:=qA hr;have HB:=qA hb;clear hr hb;go_enter Tryz.func128,Tryz.ntmps128
 go_wp2;go_loopw [5] (fun i wr=> ∃k:Nat,k<=xs.length/\i= .int .i64 k/\(inB r 1 3=true-> ∀j,j<k->okAt r xs j=true)/\ ∃n,wr=w.drewN n) (fun i _=>xs.length-(intOf i).toNat)
 case atStart=>exact⟨0,zaf _,rfl,fun _ j hj=>absurd hj tO,0,rfl⟩
 case round=>
  obtain⟨k,hk,rfl,af,n,rfl⟩:=hrel;have bH:=qA af;clear af;by_cases ac:k<xs.length
  ·obtain⟨b,off,rfl,hc⟩:=HB.o tO;have am:=hc k ac;by_cases h0:0<k
   ·have jj:=hc (k-1) tO;have HZ:=qA (qLe (r:=r) h0 ac);have HP:Wi (inB r 1 3=true->xs[k-1]≠0/\ -3<=xs[k-1]/\xs[k-1]<=3):=fun bT=>by
     have h1:=bH.o bT (k-1) tO;unfold okAt at h1;simp only[zab] at h1;have h2:=h1.1;rw[qLG bT] at h2;have h3:=qm.1 bT;have h4:xs.getD (k-1) 0=xs[k-1]:=by simp[zar,show k-1<xs.length by omega]
     rw[h4] at h2;omega
    have Lf:decide ((0:Int)<(k:Int))=true:=by simp;omega
    clear hc;generalize xs[k-1]=y at jj HZ HP;generalize hx:xs[k]=x at am HZ;clear hx;have key:Wi (∀(b:Bool),(letB r x&& !(x==wrap64 (-y)))=b->inB r 1 3=true->okAt r xs k=b):=fun b hb bT=>by
     rw[HZ.o,qMI (HP bT).1 (HP bT).2.1 (HP bT).2.2];exact hb
    rcases e1:(x==0) with _ | _
    ·have gK:(x != 0)=true:=by simpa using e1
     rcases e2:inB x (wrap64 (-r)) r with _ | _
     ·have F:=qA (key false (by unfold letB;rw[gK,e2];rfl));clear gK;go_wp2;go_quiet ((go_at_call 138;first | exact quiet_left (qi _ _ _ _) | exact qBJ (qi _ _ _ _)))
      go_wp2;go_ret;exact⟨qJ (qAw k ac F).symm,_,zax _ _ _⟩
     ·rcases e3:(x==wrap64 (-y)) with _ | _
      ·have F:=qA (key true (by unfold letB;rw[gK,e2,e3];rfl));clear gK;go_wp2;go_quiet ((go_at_call 138;first | exact quiet_left (qi _ _ _ _) | exact qBJ (qi _ _ _ _)))
       go_wp2;go_roundw
       case rel=>exact⟨k+1,tO,by go_num,fun bT j hj=>by
        rcases zak (zam hj) with hj | rfl
        ·exact bH.o bT j hj
        ·exact F.o bT,_,rfl⟩
       case measure=>exact tM
      ·have F:=qA (key false (by rw[e3];simp));clear gK;go_wp2;go_quiet ((go_at_call 138;first | exact quiet_left (qi _ _ _ _) | exact qBJ (qi _ _ _ _)))
       go_wp2;go_ret;exact⟨qJ (qAw k ac F).symm,_,zax _ _ _⟩
    ·have gK:(x != 0)=false:=by simpa using e1
     have F:=qA (key false (by unfold letB;rw[gK];rfl));clear gK;go_wp2;go_quiet (fail)
     go_wp2;go_ret;exact⟨qJ (qAw k ac F).symm,_,zax _ _ _⟩
   ·obtain rfl:k=0:=tO
    rw[zah] at am;have HZ:=qA (qIs (r:=r) ac);clear hc;generalize hx:xs[0]=x at am HZ;clear hx;rcases e1:(x==0) with _ | _
    ·have gK:(x != 0)=true:=by simpa using e1
     rcases e2:inB x (wrap64 (-r)) r with _ | _
     ·have F:Wi (okAt r xs 0=false):=qA (by rw[HZ.o];unfold letB;rw[e2,za9]);clear gK;go_wp2;go_quiet ((go_at_call 138;first | exact quiet_left (qi _ _ _ _) | exact qBJ (qi _ _ _ _)))
      go_wp2;go_ret;exact⟨qJ (qAw 0 ac fun _=>F.o).symm,_,zax _ _ _⟩
     ·have F:Wi (okAt r xs 0=true):=qA (by rw[HZ.o];unfold letB;rw[gK,e2];rfl);clear gK;go_wp2;go_quiet ((go_at_call 138;first | exact quiet_left (qi _ _ _ _) | exact qBJ (qi _ _ _ _)))
      go_wp2;go_roundw
      case rel=>exact⟨1,tO,by go_num,fun bT j hj=>by
       obtain rfl:j=0:=tO
       exact F.o,_,rfl⟩
      case measure=>exact tM
    ·have gK:(x != 0)=false:=by simpa using e1
     have F:Wi (okAt r xs 0=false):=qA (by rw[HZ.o];unfold letB;rw[gK];rfl);clear gK;go_wp2;go_quiet (fail)
     go_wp2;go_ret;exact⟨qJ (qAw 0 ac fun _=>F.o).symm,_,zax _ _ _⟩
  ·obtain rfl:k=xs.length:=tO
   rcases e1:inB r 1 3 with _ | _
   ·have F:Wi (qAG r xs=false):=qA (by unfold qAG;rw[e1];rfl);go_wp2_with (go_at_call 138;refine(qi _ _ _ _).mono ?_;rintro e w' ⟨rfl,rfl⟩)
    go_ret;exact⟨qJ F.o.symm,n,rfl⟩
   ·by_cases h24:xs.length<=24
    ·have F:=qA (qEO e1 h24 (bH e1));go_wp2_with (go_at_call 138;refine(qi _ _ _ _).mono ?_;rintro e w' ⟨rfl,rfl⟩)
     go_ret;exact⟨qJ (by rw[F.o];simp;omega),n,rfl⟩
    ·have F:Wi (qAG r xs=false):=qA (by unfold qAG;rw[decide_eq_false h24];simp);go_wp2_with (go_at_call 138;refine(qi _ _ _ _).mono ?_;rintro e w' ⟨rfl,rfl⟩)
     go_ret;exact⟨qJ (by rw[F.o];simp;omega),n,rfl⟩
theorem qEP (r:Int) (v:Wh) (xs:List Int) (w:Wg) (h:ArgI w v xs) (hl:xs.length<=1073741824):
  Wk Tryz.prog 140 #[.int .i64 r,v] w fun e w'=>e= .returned (.bool (qAG r xs))/\w=w':=by
 obtain⟨A,cap,rfl,aR,hm,hr,hb⟩:=h;have HR:=qA hr;have HB:=qA hb;clear hr hb;rcases e1:inB r 1 3 with _ | _
 ·have F:Wi (qAG r xs=false):=qA (by unfold qAG;rw[e1];rfl);go_enter Tryz.func140,Tryz.ntmps140
  go_wp2_with (go_at_call 137;refine(qAn _ _ _ _).mono ?_;rintro e w' ⟨rfl,rfl⟩)
  go_ret;exact⟨qJ F.o.symm,rfl⟩
 ·by_cases h24:xs.length<=24
  ·go_enter Tryz.func140,Tryz.ntmps140
   go_wp2_with (go_at_call 137;refine(qAn _ _ _ _).mono ?_;rintro e w' ⟨rfl,rfl⟩)
   go_loop [17] (fun i=> ∃k:Nat,k<=xs.length/\i= .int .i64 k/\(∀j,j<k->okAt r xs j=true)) (fun i=>xs.length-(intOf i).toNat)
   case atStart=>exact⟨0,zaf _,rfl,fun j hj=>absurd hj tO⟩
   case round=>
    obtain⟨k,hk,rfl,af⟩:=hrel;have bH:=qA af;clear af;by_cases ac:k<xs.length
    ·obtain⟨b,off,rfl,hc⟩:=HB.o tO;have am:=hc k ac;have step: ∀(F:okAt r xs k=true),∀j,j<k+1->okAt r xs j=true:=fun F j hj=>by
      rcases zak (zam hj) with hj | rfl
      ·exact bH.o j hj
      ·exact F
     have ST:=qA step;clear step;by_cases h0:0<k
     ·have jj:=hc (k-1) tO;have HZ:=qA (qLe (r:=r) h0 ac);have HY:=qA (HR xs[k-1] tZ);clear hc;generalize xs[k-1]=y at jj HZ HY;generalize hx:xs[k]=x at am HZ;clear hx;rcases e2:letB r x with _ | _
      ·have F:Wi (okAt r xs k=false):=qA (by rw[HZ.o,e2];rfl);go_wp2_with (go_at_call 197;refine(qBt _ _ _).mono ?_;rintro e w' ⟨rfl,rfl⟩)
       go_ret;exact⟨qJ (qAw k ac fun _=>F.o).symm,rfl⟩
      ·rcases e3:invB y x with _ | _
       ·have F:Wi (okAt r xs k=true):=qA (by rw[HZ.o,e2,e3];rfl);go_wp2_with (first | (go_at_call 197;refine(qBt _ _ _).mono ?_;rintro e w' ⟨rfl,rfl⟩) | (go_at_call 175;refine(qBq _ _ _ HY).mono ?_;rintro e w' ⟨rfl,rfl⟩))
        go_round
        case rel=>exact⟨k+1,tO,by go_num,ST.o F.o⟩
        case measure=>exact tM
       ·have F:Wi (okAt r xs k=false):=qA (by rw[HZ.o,e2,e3];rfl);go_wp2_with (first | (go_at_call 197;refine(qBt _ _ _).mono ?_;rintro e w' ⟨rfl,rfl⟩) | (go_at_call 175;refine(qBq _ _ _ HY).mono ?_;rintro e w' ⟨rfl,rfl⟩))
        go_ret;exact⟨qJ (qAw k ac fun _=>F.o).symm,rfl⟩
     ·obtain rfl:k=0:=tO
      rw[zah] at am;have HZ:=qA (qIs (r:=r) ac);clear hc;generalize hx:xs[0]=x at am HZ;clear hx;rcases e2:letB r x with _ | _
      ·have F:Wi (okAt r xs 0=false):=qA (by rw[HZ.o,e2]);go_wp2_with (go_at_call 197;refine(qBt _ _ _).mono ?_;rintro e w' ⟨rfl,rfl⟩)
       go_ret;exact⟨qJ (qAw 0 ac fun _=>F.o).symm,rfl⟩
      ·have F:Wi (okAt r xs 0=true):=qA (by rw[HZ.o,e2]);go_wp2_with (go_at_call 197;refine(qBt _ _ _).mono ?_;rintro e w' ⟨rfl,rfl⟩)
       go_round
       case rel=>exact⟨1,tO,by go_num,ST.o F.o⟩
       case measure=>exact tM
    ·obtain rfl:k=xs.length:=tO
     have F:=qA (qEO e1 h24 bH);go_wp2;go_ret;exact⟨qJ F.o.symm,rfl⟩
  ·have F:Wi (qAG r xs=false):=qA (by unfold qAG;rw[decide_eq_false h24];simp);go_enter Tryz.func140,Tryz.ntmps140
   go_wp2_with (go_at_call 137;refine(qAn _ _ _ _).mono ?_;rintro e w' ⟨rfl,rfl⟩)
   go_ret;exact⟨qJ F.o.symm,rfl⟩
def Ow3 (lo:Nat) (w:Wg) (v1:Wh) (L1:List (List Int)) (v2:Wh) (L2:List (List Int)) (v3:Wh) (L3:List (List Int)):Prop:=
 ∃F1 F2 F3,OwLf EI 37 1 w v1 L1 F1/\OwLf EI 37 1 w v2 L2 F2/\OwLf EI 37 1 w v3 L3 F3/\(F1++(F2++F3)).Nodup/\ ∀b∈F1++(F2++F3),lo<=b/\b<w.heap.size
section
variable {lo:Nat} {w w' w0:Wg} {v1 v2 v3:Wh} {L1 L2 L3:List (List Int)}
end
theorem qFz (n:Int) (w:Wg) (hn:I64 n):
  Wk Tryz.prog 264 #[.int .i64 n] w fun x w'=>x= .returned (.tuple #[if inB n 1 3=true then .agg #[.int .i64 n, .int .i64 1, .slice none 0 0] else .agg #[.int .i64 0, .int .i64 0, .slice none 0 0], .bool (inB n 1 3)])/\Wf w w w':=by
 rcases e1:inB n 1 3 with _ | _
 ·go_enter Tryz.func264,Tryz.ntmps264
  go_wp2_with (go_at_call 138;refine(qi _ _ _ _).mono ?_;rintro e w' ⟨rfl,rfl⟩)
  exact Wj (v:= .tuple #[.agg #[.int .i64 0, .int .i64 0, .slice none 0 0], .bool false]) (by simp[results,Tryz.results264,go_sem]) rfl ⟨rfl,ZZ⟩
 ·go_enter Tryz.func264,Tryz.ntmps264
  go_wp2_with (go_at_call 138;refine(qi _ _ _ _).mono ?_;rintro e w' ⟨rfl,rfl⟩)
  exact Wj (v:= .tuple #[.agg #[.int .i64 n, .int .i64 1, .slice none 0 0], .bool true]) (by simp[results,Tryz.results264,go_sem]) rfl ⟨rfl,ZZ⟩
theorem qGi (v:Wh) (g:GrD) (e:EdD) (w:Wg) (h:ArgG w v g) (he:E64 e) (hg:grB g=true) (af:qAh g.1 g.2.1 e=true) (hl:g.2.2.length<120):
  Wk Tryz.prog 239 #[v,edV e] w fun x w'=> ∃r,x= .returned (.tuple #[r, .bool (decide (g.2.2.length<(insF cmpE g.2.2 e).length))])/\OwG w' w r (g.1,g.2.1,insF cmpE g.2.2 e)/\Wf w w w':=by
 have HG:=qA h;obtain⟨r,n,es⟩:=g;have aK:=qA hg;have bH:=qA af;have ce:=qA he;simp only at hl
 obtain⟨A,cap,rfl,HE⟩: ∃A cap,v= .agg #[.int .i64 r, .int .i64 n, .slice A es.length cap]/\Wi (ArgE w (.slice A es.length cap) es):=by
  obtain⟨s,hv,_,_,ha⟩:=HG.o;obtain⟨A,cap,rfl⟩:=ha.form;exact⟨A,cap,hv,qA ha⟩
 obtain⟨e1,e2,e3⟩:=e;clear h hg af he;have bx:Wf w w (((w.alloc (.cells #[.int .i64 r,.int .i64 n, .slice A es.length cap] 26)).alloc (.cells #[.int .i64 e1, .int .i64 e2, .int .i64 e3] 97)).alloc (.cells #[.int .i64 0,.int .i64 0, .slice none 0 0] 26)):=ZZ;unfold edV;go_enter Tryz.func239,Tryz.ntmps239
 go_wp2_with fail;obtain⟨W0,ah⟩: ∃W,W=(((w.alloc (.cells #[.int .i64 r,.int .i64 n, .slice A es.length cap] 26)).alloc (.cells #[.int .i64 e1, .int .i64 e2, .int .i64 e3] 97)).alloc (.cells #[.int .i64 0,.int .i64 0, .slice none 0 0] 26)):=⟨_,rfl⟩;rw[<-ah] at bx⊢;have aH:W0.heap.size=w.heap.size+3:=by rw[ah];simp
 have P0:Wi (W0.cell? ⟨w,0,none⟩=some (.int .i64 r)):=qA (by rw[ah];simp[go_sem]);have P1:Wi (W0.cell? ⟨w,1,none⟩=some (.int .i64 n)):=qA (by rw[ah];simp[go_sem]);have P2:Wi (W0.cell? ⟨w,2,none⟩=some (.slice A es.length cap)):=qA (by rw[ah];simp[go_sem]);have E0:Wi (W0.cell? ⟨w.heap.size+1,0,none⟩=some (.int .i64 e1)):=qA (by rw[ah];simp[go_sem]);have E1:Wi (W0.cell? ⟨w.heap.size+1,1,none⟩=some (.int .i64 e2)):=qA (by rw[ah];simp[go_sem]);have E2:Wi (W0.cell? ⟨w.heap.size+1,2,none⟩=some (.int .i64 e3)):=qA (by rw[ah];simp[go_sem]);have R0:Wi (∃u,W0.cell? ⟨w.heap.size+2,0,none⟩=some u):=qA ⟨.int .i64 0,by rw[ah];simp[go_sem]⟩;have R1:Wi (∃u,W0.cell? ⟨w.heap.size+2,1,none⟩=some u):=qA ⟨.int .i64 0,by rw[ah];simp[go_sem]⟩;have R2:Wi (∃u,W0.cell? ⟨w.heap.size+2,2,none⟩=some u):=qA ⟨.slice none 0 0,by rw[ah];simp[go_sem]⟩;have RF:Wi (∀j,W0.frozen? ⟨w.heap.size+2,j,none⟩=false):=qA fun j=>by rw[ah];simp[go_sem]
 clear ah;have BX:=qA bx;have Ce:=qA (xP10 _ (.inl ⟨rfl,xPa⟩) _ (r,n,es) W0 (HG.below bx) (show es.length<=1073741824 by omega));clear bx;refine Ce.o.mono ?_;rintro x w1 ⟨r1,rfl,o1,b1⟩;obtain⟨s1,rfl,i1,i2,Oh⟩:=o1;obtain⟨A1,c1,rfl,_⟩:=OwE.form Oh;have aE:=b1.size;have d8:=qA b1;have bz:Wf W0 W0 (w1.alloc (.cells #[.int .i64 r,.int .i64 n, .slice A1 es.length c1] 26)):=b1.alloc aE _;clear Ce b1 Oh;have k0:=(bz.cell (p:=⟨w,0,none⟩) tB).trans P0.o;have k1:=(bz.cell (p:=⟨w,1,none⟩) tB).trans P1.o;have k2:=(bz.cell (p:=⟨w,2,none⟩) tB).trans P2.o;go_wp2_with fail;clear k0 k1 k2;obtain⟨W1,aq⟩: ∃W,W=w1.alloc (.cells #[.int .i64 r,.int .i64 n, .slice A1 es.length c1] 26):=⟨_,rfl⟩;rw[<-aq] at bz⊢;have TA:W1.heap.size=w1.heap.size+1:=by rw[aq];simp
 have X0:Wi (W1.cell? ⟨w1,0,none⟩=some (.int .i64 r)):=qA (by rw[aq];simp[go_sem]);have X1:Wi (W1.cell? ⟨w1,1,none⟩=some (.int .i64 n)):=qA (by rw[aq];simp[go_sem]);have X2:Wi (W1.cell? ⟨w1,2,none⟩=some (.slice A1 es.length c1)):=qA (by rw[aq];simp[go_sem]);have XF:Wi (∀j,W1.frozen? ⟨w1,j,none⟩=false):=qA fun j=>by rw[aq];simp[go_sem]
 have BZ:=qA bz;clear aq bz d8;have fC:=qA (qk _ (r,n,es) W1 (HG.below (BX.trans (BZ.mono BX.size))));rw[aK.o] at fC;refine fC.o.mono ?_;rintro x w2 ⟨rfl,b2⟩;have dQ:=b2.size;have B2:=qA (BZ.trans (b2.mono BZ.size));have LM:=qA b2;clear b2 fC;have k0:=(B2.cell (p:=⟨w,0,none⟩) tB).trans P0.o;have k1:=(B2.cell (p:=⟨w,1,none⟩) tB).trans P1.o;have k2:=(B2.cell (p:=⟨w,2,none⟩) tB).trans P2.o;have m0:=(B2.cell (p:=⟨w.heap.size+1,0,none⟩) tB).trans E0.o;have m1:=(B2.cell (p:=⟨w.heap.size+1,1,none⟩) tB).trans E1.o;have m2:=(B2.cell (p:=⟨w.heap.size+1,2,none⟩) tB).trans E2.o;have gR:=qA (qFa r n A es.length cap (e1,e2,e3) w2);rw[bH.o] at gR;unfold edV at gR;go_wp2_with fail;refine gR.o.mono ?_;rintro x w3 ⟨rfl,b3⟩;have d5:=b3.size;have B3:=qA (B2.trans (b3.mono B2.size));have Oe:=qA (LM.trans (b3.mono LM.size));clear b3 k0 k1 k2 m0 m1 m2 gR;have k2:=(B3.cell (p:=⟨w,2,none⟩) tB).trans P2.o;have m0:=(B3.cell (p:=⟨w.heap.size+1,0,none⟩) tB).trans E0.o;have m1:=(B3.cell (p:=⟨w.heap.size+1,1,none⟩) tB).trans E1.o;have m2:=(B3.cell (p:=⟨w.heap.size+1,2,none⟩) tB).trans E2.o;have eE:=qA (qBy _ es (e1,e2,e3) w3 ((HE.below BX).below B3) ce tO);unfold edV at eE;have Mj:((es.length:Int)>=120)=False:=by simp;omega
 go_wp2_with fail;refine eE.o.mono ?_;rintro x w4 ⟨r4,rfl,o4,b4⟩;have jY:=b4.size;have B4:=qA (B3.trans (b4.mono B3.size));have Fc:=qA (Oe.trans (b4.mono Oe.size));clear b4 k2 m0 m1 m2 eE;obtain⟨L,hL⟩: ∃L,L=insF cmpE es (e1,e2,e3):=⟨_,rfl⟩;rw[<-hL] at o4;have fB:=qA hL;clear hL;obtain⟨A4,c4,rfl,_⟩:=OwE.form o4;have O4:=qA o4;have x0:=(Fc.cell (p:=⟨w1,0,none⟩) tB).trans X0.o;have x1:=(Fc.cell (p:=⟨w1,1,none⟩) tB).trans X1.o;have x2:=(Fc.cell (p:=⟨w1,2,none⟩) tB).trans X2.o;have xf:=(Fc.frozen (p:=⟨w1,2,none⟩) tB).trans (XF 2);clear o4;go_wp2_with fail;obtain⟨w5,eH⟩: ∃W,W=w4.setCell ⟨w1,2,none⟩ (.slice A4 L.length c4):=⟨_,rfl⟩;have y0:w5.cell? ⟨w1,0,none⟩=some (.int .i64 r):=by rw[eH,zae _ _ _ _ tZ];exact x0
 have y1:w5.cell? ⟨w1,1,none⟩=some (.int .i64 n):=by rw[eH,zae _ _ _ _ tZ];exact x1
 have y2:w5.cell? ⟨w1,2,none⟩=some (.slice A4 L.length c4):=by rw[eH];exact zat _ _ _ x2
 have B5:Wi (Wf W0 W0 w5):=qA (by rw[eH];exact B4.o.setCell (by show _<=w1.heap.size;omega) _);have O5:Wi (OwE w5 W1 (.slice A4 L.length c4) L):=qA (by rw[eH];exact(O4.mono tO).far tB _);rw[<-eH];clear eH x0 x1 x2 xf;have k2:=(B5.cell (p:=⟨w,2,none⟩) tB).trans P2.o;obtain⟨u0,eW⟩:=R0.o;obtain⟨u1,kL⟩:=R1.o;obtain⟨u2,D5⟩:=R2.o;have r0:=(B5.cell (p:=⟨w.heap.size+2,0,none⟩) tB).trans eW;have r1:=(B5.cell (p:=⟨w.heap.size+2,1,none⟩) tB).trans kL;have r2:=(B5.cell (p:=⟨w.heap.size+2,2,none⟩) tB).trans D5;have fh:=(B5.frozen (p:=⟨w.heap.size+2,0,none⟩) tB).trans (RF 0);have fu:=(B5.frozen (p:=⟨w.heap.size+2,1,none⟩) tB).trans (RF 1);have fd:=(B5.frozen (p:=⟨w.heap.size+2,2,none⟩) tB).trans (RF 2);have fg:w.heap.size+3<=w5.heap.size:=by have:=B5.o.size;omega
 clear eW kL D5 Mj;go_region
 have c0:(((w5.setCell ⟨w.heap.size+1+1,0,none⟩ (.int .i64 r)).setCell ⟨w.heap.size+1+1,1,none⟩ (.int .i64 n)).setCell ⟨w.heap.size+1+1,2,none⟩ (.slice A4 L.length c4)).drew.cell? ⟨w.heap.size+1+1,0,none⟩=some (.int .i64 r):=by
  show(((w5.setCell ⟨w.heap.size+1+1,0,none⟩ (.int .i64 r)).setCell ⟨w.heap.size+1+1,1,none⟩ (.int .i64 n)).setCell ⟨w.heap.size+1+1,2,none⟩ (.slice A4 L.length c4)).cell? ⟨w.heap.size+1+1,0,none⟩=some (.int .i64 r)
  rw[zae _ _ _ _ tZ,zae _ _ _ _ tZ,zat _ _ _ r0]
 have jD:(((w5.setCell ⟨w.heap.size+1+1,0,none⟩ (.int .i64 r)).setCell ⟨w.heap.size+1+1,1,none⟩ (.int .i64 n)).setCell ⟨w.heap.size+1+1,2,none⟩ (.slice A4 L.length c4)).drew.cell? ⟨w.heap.size+1+1,1,none⟩=some (.int .i64 n):=by
  show(((w5.setCell ⟨w.heap.size+1+1,0,none⟩ (.int .i64 r)).setCell ⟨w.heap.size+1+1,1,none⟩ (.int .i64 n)).setCell ⟨w.heap.size+1+1,2,none⟩ (.slice A4 L.length c4)).cell? ⟨w.heap.size+1+1,1,none⟩=some (.int .i64 n)
  rw[zae _ _ _ _ tZ];exact zat _ _ _ ((zae _ _ _ _ tZ).trans r1)
 have c2:(((w5.setCell ⟨w.heap.size+1+1,0,none⟩ (.int .i64 r)).setCell ⟨w.heap.size+1+1,1,none⟩ (.int .i64 n)).setCell ⟨w.heap.size+1+1,2,none⟩ (.slice A4 L.length c4)).drew.cell? ⟨w.heap.size+1+1,2,none⟩=some (.slice A4 L.length c4):=by
  show(((w5.setCell ⟨w.heap.size+1+1,0,none⟩ (.int .i64 r)).setCell ⟨w.heap.size+1+1,1,none⟩ (.int .i64 n)).setCell ⟨w.heap.size+1+1,2,none⟩ (.slice A4 L.length c4)).cell? ⟨w.heap.size+1+1,2,none⟩=some (.slice A4 L.length c4)
  exact zat _ _ _ ((zae _ _ _ _ tZ).trans ((zae _ _ _ _ tZ).trans r2))
 have SZ:Wi (Wf w w w5):=qA (BX.trans (B5.mono BX.size));have bw:Wf w w (((w5.setCell ⟨w.heap.size+1+1,0,none⟩ (.int .i64 r)).setCell ⟨w.heap.size+1+1,1,none⟩ (.int .i64 n)).setCell ⟨w.heap.size+1+1,2,none⟩ (.slice A4 L.length c4)).drew:=(by repeat(first | exact .refl _ _ | (refine BxS ?_ _) | (refine qC ?_ _) | (refine zap ?_) | (refine BxA ?_ _) | (refine BxT ?_ (Hid.out SZ))));have ow:OwE (((w5.setCell ⟨w.heap.size+1+1,0,none⟩ (.int .i64 r)).setCell ⟨w.heap.size+1+1,1,none⟩ (.int .i64 n)).setCell ⟨w.heap.size+1+1,2,none⟩ (.slice A4 L.length c4)).drew W1 (.slice A4 L.length c4) L:=
  (((O5.o.far tB _).far tB _).far tB _).drew
 generalize (((w5.setCell ⟨w.heap.size+1+1,0,none⟩ (.int .i64 r)).setCell ⟨w.heap.size+1+1,1,none⟩ (.int .i64 n)).setCell ⟨w.heap.size+1+1,2,none⟩ (.slice A4 L.length c4)).drew=wf at*;clear r0 r1 r2 y0 y1 y2 k2 fh fu fd;go_wp2;have hL:=fB.o;clear fB;subst hL;refine Wj (v:= .tuple #[.agg #[.int .i64 r, .int .i64 n, .slice A4 (insF cmpE es (e1,e2,e3)).length c4], .bool (decide (es.length<(insF cmpE es (e1,e2,e3)).length))]) (by simp[results,Tryz.results239,go_sem,c0,jD,c2]) rfl ⟨_,rfl,⟨.slice A4 (insF cmpE es (e1,e2,e3)).length c4,rfl,i1,i2,ow.mono (base':=w.heap.size) tO⟩,bw⟩
structure LwI (lo gl rk cl:Nat) (ls:List Int) (W wr:Wg) (out:Wh) (L1:List (List Int)) (next:Wh) (L2:List (List Int)) (layer:Wh) (L3:List (List Int)):Prop where
 o:Ow3 lo wr out L1 next L2 layer L3
 l:OwI wr 0 (.slice (some ⟨gl,0,none⟩) (2*rk) cl) ls
 b:Wf lo W wr
 g:gl<wr.heap.size
 a1:out.ownBlock≠some gl
 a2:next.ownBlock≠some gl
 lo_le:lo<=wr.heap.size
section
variable {lo gl rk cl:Nat} {ls:List Int} {W wr w' w0:Wg} {out next layer v':Wh} {L1 L2 L3 L':List (List Int)}
end
theorem qJL (v:Wh) (xs:List Int) (w:Wg) (h:RdI w v xs) (hl:xs.length<=1073741824):
  Wk Tryz.prog 151 #[v] w fun e w'=> ∃r,e= .returned r/\OwI w' w r xs/\Wf w w w':=by
 have H:=qA h;obtain⟨A,cap,rfl,_⟩:=h.arg;clear h;go_enter Tryz.func151,Tryz.ntmps151
 go_wp2_with (at_builtin;refine qBm rfl (.tmp 3) (.tmp 4) rfl w _ [] (qp _ [] qt tZ (zaa _)) rfl _ _ (H.alloc _) rfl (by simp;omega) tZ ?_;intro v1 w1 o1 g1 p1)
 go_ret;exact⟨_,rfl,by simpa using o1,((zac _ _).alloc (zaa _) _).grown g1 tZ (fun k hk=>by simp[zaU] at hk;omega)⟩
section
variable {α:Type} {E:El α} {t:TypeId} {width:Nat} {w w' w1 w2:Wg} {vs vo vo':Wh} {ds:List α} {lo hi:Nat} {p:α->Bool} {k:Nat}
end
def SegI (N g off:Nat) (w:Wg) (hs:List Wh) (L:List (List Int)):Prop:=
 hs.length=L.length/\ ∀i (h:i<hs.length) (h':i<L.length),w.cell? ⟨g,off+i,none⟩=some hs[i]/\RdI w hs[i] L[i]/\ ∀b,hs[i].ownBlock=some b->b<N/\b≠g
structure Up2 (lo N g off:Nat) (W wr:Wg) (hs:List Wh) (LK:List (List Int)) (v:Wh) (L:List (List Int)):Prop where
 o:OwII lo wr v L wr
 s:SegI N g off wr hs LK
 b:Wf lo W wr
 v:v.ownBlock=some g\/ ∃b,v.ownBlock=some b/\N<=b/\b≠g
 n:off+hs.length<=L.length
 hN:N<=wr.heap.size
 iy:lo<=N
 hg:g<N
section
variable {lo N g off:Nat} {W wr w0 w':Wg} {hs:List Wh} {LK L:List (List Int)} {v v':Wh} {d:List Int}
end
def negL (xs:List Int):List Int:=xs.map fun x=>wrap64 (-x)
def invL (xs:List Int):List Int:=(negL xs).reverse
theorem qLE (x:Int):I64 (wrap64 x):=by
 unfold I64 wrap64;omega
theorem qJF (xs:List Int) (k:Nat) (hk:k<xs.length):(invL xs).take (k+1)=(invL xs).take k++ [wrap64 (-xs[xs.length-1-k])]:=by
 have h:k<(invL xs).length:=by simpa[invL,negL] using hk
 rw[zai h];congr 2
 simp[invL,negL]
theorem qAa (v:Wh) (xs:List Int) (w:Wg) (h:RdI w v xs) (hl:xs.length<=1073741824):
  Wk Tryz.prog 28 #[v] w fun e w'=> ∃r,e= .returned r/\OwI w' w r (invL xs)/\Wf w w w':=by
 have H:=qA h;obtain⟨A,cap,rfl,aR,hm,hr,hb⟩:=h.arg;clear h hb;go_enter Tryz.func28,Tryz.ntmps28
 go_wp2;go_loopw [3,4] (fun out i wr=> ∃k:Nat,k<=xs.length/\i= .int .i64 ((xs.length:Int)-1-(k:Int))/\OwI wr w out ((invL xs).take k)/\Wf w w wr)
  (fun _ i _=>(intOf i+1).toNat)
 case atStart=>exact⟨0,zaf _,tZ,qp _ [] qt tZ (zaa _),(zac _ _).alloc (zaa _) _⟩
 case round=>
  obtain⟨k,hk,rfl,aa,ab⟩:=hrel;have ar:=ab.size;have gN:((invL xs).take k).length<=k:=zau _ _;by_cases ac:k<xs.length
  ·obtain⟨b,off,rfl,cX,hc⟩:=(H.below ab).at tO;have am:=hc (xs.length-1-k) tO;have HS:=qA (qJF xs k ac);have HO:=qA aa;clear hc aa;go_wp2_with (at_builtin;refine qW rfl (.tmp 13) (.tmp 19) rfl _ _ _ (OwI.alloc HO _) rfl _ _ rfl (qU _ _ _) (qLE _) tB tB ?_;intro v1 nu o1 g1 p1)
   go_roundw;exact⟨k+1,tO,by go_num,by rw[HS.o];exact o1,qh ab ar HO.o.1 (zaa _) g1⟩;exact tM
  ·obtain rfl:k=xs.length:=tO
   go_wp2;go_ret;exact⟨_,rfl,by rw[zaT (by simp[invL,negL])] at aa;exact aa,ab⟩
theorem qBe (v:Wh) (xs:List Int) (w:Wg) (h:RdI w v xs) (hl:xs.length<=1073741824):
  Wk Tryz.prog 98 #[v] w fun e w'=> ∃r,e= .returned r/\OwI w' w r (invL xs)/\Wf w w w':=by
 have H:=qA h;obtain⟨A,cap,rfl,aR,hm,hr,hb⟩:=h.arg;clear h hb;go_enter Tryz.func98,Tryz.ntmps98
 obtain⟨i0,ci,cB,bi,bQ⟩:=info_parts qEG;go_wp2_with (at_make;refine wpList_make_own _ rfl _ _ 37 rfl w 3 i0 (.int .i64 0) 1 Tryz.underlying37 ci cB bi _ _ _ xs.length rfl rfl rfl (by rw[bQ];omega) (by unfold maxLen;omega) (zaa _) ?_)
 intro w0 hown0 hgrow0;go_wp2;go_loopw [3,4] (fun out i wr=> ∃k:Nat,k<=xs.length/\i= .int .i64 ((xs.length:Int)-1-(k:Int))/\OwI wr w out ((invL xs).take k)/\Wf w w wr)
  (fun _ i _=>(intOf i+1).toNat)
 case atStart=>exact⟨0,zaf _,tZ,⟨hown0,qt⟩,(zac _ _).grown hgrow0 (zaa _) (fun k h=>by cases h)⟩
 case round=>
  obtain⟨k,hk,rfl,aa,ab⟩:=hrel;have ar:=ab.size;have gN:((invL xs).take k).length<=k:=zau _ _;by_cases ac:k<xs.length
  ·obtain⟨b,off,rfl,cX,hc⟩:=(H.below ab).at tO;have am:=hc (xs.length-1-k) tO;have HS:=qA (qJF xs k ac);have HO:=qA aa;clear hc aa;go_wp2_with (at_builtin;refine qW rfl (.tmp 15) (.tmp 21) rfl _ _ _ (OwI.alloc HO _) rfl _ _ rfl (qU _ _ _) (qLE _) tB tB ?_;intro v1 nu o1 g1 p1)
   go_roundw;exact⟨k+1,tO,by go_num,by rw[HS.o];exact o1,qh ab ar HO.o.1 (zaa _) g1⟩;exact tM
  ·obtain rfl:k=xs.length:=tO
   go_wp2;go_ret;exact⟨_,rfl,by rw[zaT (by simp[invL,negL])] at aa;exact aa,ab⟩
def red1 (acc:List Int) (x:Int):List Int:=if 0<acc.length/\invB (acc.getLastD 0) x=true then acc.dropLast else acc++ [x]
def redL (acc xs:List Int):List Int:=xs.foldl red1 acc
theorem qPR (acc:List Int) (x:Int):(red1 acc x).length<=acc.length+1:=by
 unfold red1;split<;>simp;omega
theorem qBQ (acc xs:List Int):(redL acc xs).length<=acc.length+xs.length:=by
 unfold redL;induction xs generalizing acc with
 | nil=>simp
 | cons x xs ih=>have:=ih (red1 acc x);have:=qPR acc x;simp only[zaS,za6];omega
theorem qJU (acc xs:List Int) (k:Nat) (h:k<xs.length):redL acc (xs.take (k+1))=red1 (redL acc (xs.take k)) xs[k]:=by
 unfold redL;rw[zai h,zaE];rfl
theorem qGJ {acc:List Int} (h:0<acc.length):acc.getLastD 0=acc[acc.length-1]:=by
 cases acc with
 | nil=>simp at h
 | cons a l=>simp[List.getLastD,List.getLast_eq_getElem]
theorem qKz {acc:List Int} {x:Int} (h:0<acc.length) (hi:invB acc[acc.length-1] x=true):red1 acc x=acc.take (acc.length-1):=by
 rw[<-qGJ h] at hi;rw[red1,Wm ⟨h,hi⟩,zaV]
theorem qJj {acc:List Int} {x:Int} (h:0<acc.length) (hi:invB acc[acc.length-1] x=false):red1 acc x=acc++ [x]:=by
 rw[<-qGJ h] at hi;rw[red1,Wn];intro hh;rw[hi] at hh;exact absurd hh.2 tZ
theorem qNB {l x:Int} (hl:I64 l) (hx:I64 x):invB l x=(x != 0&&l==wrap64 (-x)&&l != x):=by
 have bk:=hl.1;have ud:=hl.2;unfold invB;by_cases h:x= -9223372036854775808
 ·subst h;have:wrap64 (- -9223372036854775808)= -9223372036854775808:=by decide+kernel
  rw[this,zaL];simp
  omega
 ·rw[I64.neg hx h,zaL];have gt:=hx.1;simp
  constructor
  ·rintro⟨⟨h1,h2⟩,h3⟩
   exact⟨⟨fun hh=>h1 tO,by rw[h3,za5]⟩,fun hh=>h1 tO⟩
  ·rintro⟨⟨h1,h2⟩,h3⟩
   exact⟨⟨fun hh=>h1 tO,fun hh=>by have:=hx.2;omega⟩,by rw[h2,za5]⟩
theorem qAY (v:Wh) (xs:List Int) (w:Wg) (h:RdI w v xs) (hl:xs.length<=1073741824):
  Wk Tryz.prog 111 #[v] w fun e w'=> ∃r,e= .returned r/\OwI w' w r (redL [] xs)/\Wf w w w':=by
 have H:=qA h;obtain⟨A,cap,rfl,aR,hm,hr,hb⟩:=h.arg;have HR:=qA hr;clear h hb hr;go_enter Tryz.func111,Tryz.ntmps111
 go_wp2;go_loopw [3,4] (fun out i wr=> ∃k:Nat,k<=xs.length/\i= .int .i64 k/\OwI wr w out (redL [] (xs.take k))/\Wf w w wr)
  (fun _ i _=>xs.length-(intOf i).toNat)
 case atStart=>exact⟨0,zaf _,rfl,qp _ [] qt tZ (zaa _),(zac _ _).alloc (zaa _) _⟩
 case round=>
  obtain⟨k,hk,rfl,aa,ab⟩:=hrel;have ar:=ab.size;have gN:(redL [] (xs.take k)).length<=k:=by have:=qBQ [] (xs.take k);have:=zau k xs;simp at*;omega
  by_cases ac:k<xs.length
  ·obtain⟨b,off,rfl,cX,hc⟩:=(H.below ab).at tO;have am:=hc k ac;have HS:=qA (qJU [] xs k ac);have HX:=qA (HR xs[k] tZ);generalize hg:redL [] (xs.take k)=acc at aa gN HS;clear hg hc;generalize Qd:xs[k]=x at am HS HX;clear Qd;have HO:=qA aa;obtain⟨A1,ak,rfl,du,fM,_,eP⟩:=aa.form;by_cases h0:0<acc.length
   ·obtain⟨g,rfl,Nh,zX⟩:=eP h0;obtain⟨b1,ya,pP,_,aJ⟩:=aa.rd.at h0;obtain⟨rfl,rfl⟩:g=b1/\0=ya:=by simpa using pP
    have dw:=aJ (acc.length-1) tO;rw[zal] at dw;have zI:=qA (aa.2 acc[acc.length-1] tZ);have HC:=qA (qKz (x:=x) h0);have HP:=qA (qJj (x:=x) h0);generalize acc[acc.length-1]=last at dw zI HC HP;have HT:=qA (qNB zI HX);have Lf:decide ((0:Int)<(acc.length:Int))=true:=by simp;omega
    clear aJ eP aa pP;have push: ∀(hf:invB last x=false),red1 acc x=acc++ [x]:=fun hf=>HP.o hf;have PU:=qA push;clear push;by_cases e1:x=0
    ·subst e1;have PF:=qA (PU (by rw[HT.o];simp));go_wp2;go_quiet (fail)
     go_wp2_with (at_builtin;refine qW rfl (.tmp 53) (.tmp 58) rfl _ _ _ (OwI.alloc (OwI.drewN HO _) _) rfl _ _ rfl (qU _ _ _) HX.o tB tB ?_;intro v1 nu o1 g1 p1)
     go_roundw;exact⟨k+1,tO,by go_num,by rw[HS.o,PF.o];exact o1,qh (qC ab _) ar (OwI.drewN HO _).1 (zaa _) g1⟩;exact tM
    ·have gK:(x != 0)=true:=by simp[e1]
     by_cases e2:last=wrap64 (-x)
     ·have yB:(last==wrap64 (-x))=true:=by simp[e2]
      have E2:=qA e2;clear e2;by_cases e3:last=x
      ·have JR:(last != x)=false:=by simp[e3]
       have PF:=qA (PU (by rw[HT.o,JR];simp));have E3:=qA e3;clear e3 e1;go_wp2;go_quiet (fail)
       go_wp2_with (at_builtin;refine qW rfl (.tmp 53) (.tmp 58) rfl _ _ _ (OwI.alloc (OwI.drewN HO _) _) rfl _ _ rfl (qU _ _ _) HX.o tB tB ?_;intro v1 nu o1 g1 p1)
       go_roundw;exact⟨k+1,tO,by go_num,by rw[HS.o,PF.o];exact o1,qh (qC ab _) ar (OwI.drewN HO _).1 (zaa _) g1⟩;exact tM
      ·have JR:(last != x)=true:=by simp[e3]
       have PF:=qA (HC (by rw[HT.o,gK,yB,JR];rfl));clear e3 e1;go_wp2;go_quiet (fail)
       go_wp2;go_roundw;exact⟨k+1,tO,by go_num,by rw[HS.o,PF.o];exact qKX (OwI.drewN HO _) tO,qC ab _⟩;exact tM
     ·have yB:(last==wrap64 (-x))=false:=by simp[e2]
      have PF:=qA (PU (by rw[HT.o,yB];simp));clear e2 e1;go_wp2;go_quiet (fail)
      go_wp2_with (at_builtin;refine qW rfl (.tmp 53) (.tmp 58) rfl _ _ _ (OwI.alloc (OwI.drewN HO _) _) rfl _ _ rfl (qU _ _ _) HX.o tB tB ?_;intro v1 nu o1 g1 p1)
      go_roundw;exact⟨k+1,tO,by go_num,by rw[HS.o,PF.o];exact o1,qh (qC ab _) ar (OwI.drewN HO _).1 (zaa _) g1⟩;exact tM
   ·obtain rfl:acc= []:=zaw tO
    clear eP aa;go_wp2;go_quiet (fail)
    go_wp2_with (at_builtin;refine qW rfl (.tmp 53) (.tmp 58) rfl _ _ _ (OwI.alloc (OwI.drewN HO _) _) rfl _ _ rfl (qU _ _ _) HX.o tB tB ?_;intro v1 nu o1 g1 p1)
    go_roundw;exact⟨k+1,tO,by go_num,by rw[HS.o];exact o1,qh (qC ab _) ar (OwI.drewN HO _).1 (zaa _) g1⟩;exact tM
  ·obtain rfl:k=xs.length:=tO
   rw[zaJ] at aa gN;have HO:=qA aa;obtain⟨A1,ak,rfl,du,fM,_,eP⟩:=aa.form;clear aa eP;go_wp2_with (at_builtin;refine qBm rfl (.tmp 60) (.tmp 61) rfl w _ [] (qp _ [] qt tZ ar) rfl _ _ (HO.alloc _).rd rfl tB tB ?_;intro v1 w1 o1 g1 p1)
   go_ret;exact⟨_,rfl,by simpa using o1,(ab.alloc ar _).grown g1 (by simp;omega) (fun k hk=>by simp[zaU] at hk;omega)⟩
theorem qAF (u v:Wh) (xs ys:List Int) (w:Wg) (h:RdI w u xs) (h':RdI w v ys) (hl:xs.length<=536870912) (ri:ys.length<=536870912):
  Wk Tryz.prog 102 #[u,v] w fun e w'=> ∃r,e= .returned r/\OwI w' w r (redL [] (xs++ys))/\Wf w w w':=by
 have H:=qA h;have H':=qA h';clear h h';go_enter Tryz.func102,Tryz.ntmps102
 go_wp2_with (first
  | (at_builtin;refine qBm rfl (.tmp 5) (.tmp 6) rfl w _ [] (qp w [] qt tZ (zaa _)) rfl _ _ (H.alloc _) rfl (by simp only[zaB];omega) tZ ?_;intro v1 w1 o1 g1 p1;have O1:=qA o1;have da:Wi (Wf w w w1):=qA (((zac _ _).alloc (zaa _) _).grown g1 tZ (fun k hk=>by simp[zaU] at hk;omega));clear o1 g1 p1)
  | (at_builtin;have aE:=da.o.size;refine qBm rfl (.tmp 7) (.tmp 8) rfl w _ _ O1.o rfl _ _ (H'.below da) rfl (by simp only[zav,zaB];omega) aE ?_;intro v2 w2 o2 g2 p2;have O2:=qA o2;have cF:Wi (Wf w w w2):=qA (da.o.grown g2 aE (fun k hk=>(O1.o.1.lt k hk).1));clear o2 g2 p2))
 have dQ:=cF.o.size;refine(qAY _ _ _ O2.rd (by simp only[zav,zaB];omega)).mono ?_
 rintro e w3 ⟨r3,rfl,o3,b3⟩;have O3:=qA o3;have B3:=qA b3;clear o3 b3;go_wp2;go_ret;exact⟨_,rfl,by have:=O3.o.mono dQ;simpa using this,cF.o.trans (B3.mono dQ)⟩
def qDY (L:List (List Int)):List Int:=redL [] L.flatten
def qAr (L:List (List Int)):Nat:=(L.map List.length).sum
theorem qLw (L:List (List Int)) (k:Nat) (h:k<L.length):qDY (L.take (k+1))=redL (qDY (L.take k)) L[k]:=by
 unfold qDY redL;rw[zai h,List.flatten_append,zaE];simp
theorem qLv (L:List (List Int)) (k:Nat) (h:k<L.length):qAr (L.take k)+L[k].length<=qAr L:=by
 unfold qAr;have:L=L.take k++L[k]::L.drop (k+1):=by rw[<-zaP h,List.take_append_drop]
 have e:=congrArg (fun l=>(l.map List.length).sum) this;simp only[List.map_append,List.map_cons,List.sum_append,List.sum_cons] at e;omega
theorem qJE (L:List (List Int)):(qDY L).length<=qAr L:=by
 have:=qBQ [] L.flatten
 simp only[qDY,qAr,List.length_flatten,zaB] at*;omega
theorem qDG (v:Wh) (L:List (List Int)) (w:Wg) (h:RdII w v L) (hl:qAr L<=1073741824) (hn:L.length<=1073741824):
  Wk Tryz.prog 97 #[v] w fun e w'=> ∃r,e= .returned r/\OwI w' w r (qDY L)/\Wf w w w':=by
 have H:=qA h;obtain⟨A,cap,rfl,aR,hm,hA⟩:=h.form;have HA:=qA hA;clear h hA;unfold maxLen at hm;go_enter Tryz.func97,Tryz.ntmps97
 go_wp2;go_loopw [3,11] (fun out i wr=> ∃k:Nat,k<=L.length/\i= .int .i64 k/\OwI wr w out (qDY (L.take k))/\Wf w w wr)
  (fun _ i _=>L.length-(intOf i).toNat)
 case atStart=>exact⟨0,zaf _,rfl,qp _ [] qt tZ (zaa _),(zac _ _).alloc (zaa _) _⟩
 case round=>
  obtain⟨k,hk,rfl,aa,ab⟩:=hrel;have ar:=ab.size;by_cases ac:k<L.length
  ·have dH:=qLv L k ac;have gN:=qJE (L.take k);obtain⟨b,off,A1,ak,rfl,cX,pw,aJ,fM,aP⟩:=H.o.at ac;have am:=(ab.cell cX).trans pw;clear pw;have HS:=qA (qLw L k ac);generalize qDY (L.take k)=acc0 at aa gN HS;have HR:=qA aP;clear aP;generalize L[k]=ys at am aJ HR dH HS;have HO:=qA aa;have HB:=qA ab;clear aa ab;unfold maxLen at fM;obtain⟨wo,rfl⟩: ∃wo:Wg,wo=wr:=⟨_,rfl⟩;go_wp2;go_loopw [3,17] (fun out j wi=> ∃m:Nat,m<=ys.length/\j= .int .i64 m/\OwI wi w out (redL acc0 (ys.take m))/\Wf w w wi)
    (fun _ j _=>ys.length-(intOf j).toNat)
   case atStart=>exact⟨0,zaf _,rfl,HO,HB⟩
   case round=>
    obtain⟨m,kQ,rfl,aa,ab⟩:=hrel;have wU:=ab.size;have fy:(redL acc0 (ys.take m)).length<=acc0.length+m:=by have:=qBQ acc0 (ys.take m);have:=zau m ys;omega
    by_cases cT:m<ys.length
    ·obtain⟨b',off',rfl,Rm,jw⟩:=(HR.below ab).at tO;have oD:=jw m cT;have Cn:=qA (qJU acc0 ys m cT);have HX:=qA (HR.o.2 ys[m] tZ);clear jw;generalize redL acc0 (ys.take m)=acc at aa fy Cn;generalize ys[m]=x at oD Cn HX;have vT:=qA aa;obtain⟨A1,LH,rfl,du,Ht,_,eP⟩:=aa.form;unfold maxLen at Ht;by_cases h0:0<acc.length
     ·obtain⟨g,rfl,Nh,zX⟩:=eP h0;obtain⟨b1,ya,pP,_,aJ⟩:=aa.rd.at h0;obtain⟨rfl,rfl⟩:g=b1/\0=ya:=by simpa using pP
      have dw:=aJ (acc.length-1) tO;rw[zal] at dw;have zI:=qA (aa.2 acc[acc.length-1] tZ);have HC:=qA (qKz (x:=x) h0);have HP:=qA (qJj (x:=x) h0);generalize acc[acc.length-1]=last at dw zI HC HP;have Lf:decide ((0:Int)<(acc.length:Int))=true:=by simp;omega
      clear aJ eP aa pP;rcases hi:invB last x with _ | _
      ·have PF:=qA (HP hi);have dB:=qBq last x;rw[hi] at dB;have HI:=qA dB;clear hi dB;go_wp2_with (first | (go_at_call 175;refine(HI _ zI).mono ?_;rintro e w' ⟨rfl,rfl⟩) | (at_builtin;refine qW rfl (.tmp 39) (.tmp 41) rfl _ _ _ (OwI.alloc vT _) rfl _ _ rfl (qU _ _ _) HX.o tB tB ?_;intro v1 nu o1 g1 p1))
       go_roundw;exact⟨m+1,tO,by go_num,by rw[Cn.o,PF.o];exact o1,qh ab wU vT.o.1 (zaa _) g1⟩;exact tM
      ·have PF:=qA (HC hi);have dB:=qBq last x;rw[hi] at dB;have HI:=qA dB;clear hi dB;go_wp2_with (go_at_call 175;refine(HI _ zI).mono ?_;rintro e w' ⟨rfl,rfl⟩)
       go_roundw;exact⟨m+1,tO,by go_num,by rw[Cn.o,PF.o];exact qKX vT.o tO,ab⟩;exact tM
     ·obtain rfl:acc= []:=zaw tO
      clear eP aa;go_wp2_with (at_builtin;refine qW rfl (.tmp 39) (.tmp 41) rfl _ _ _ (OwI.alloc vT _) rfl _ _ rfl (qU _ _ _) HX.o tB tB ?_;intro v1 nu o1 g1 p1)
      go_roundw;exact⟨m+1,tO,by go_num,by rw[Cn.o];exact o1,qh ab wU vT.o.1 (zaa _) g1⟩;exact tM
    ·obtain rfl:m=ys.length:=tO
     rw[zaJ] at aa;have vT:=qA aa;have Ev:=qA ab;clear aa ab;go_wp2;go_roundw;exact⟨k+1,tO,by go_num,by rw[HS.o];exact vT.o,Ev.o⟩;exact tM
  ·obtain rfl:k=L.length:=tO
   rw[zaJ] at aa;go_wp2;go_ret;exact⟨_,rfl,aa,ab⟩
section
variable {α:Type} (c:α->Nat) (m:Int->α->α)
variable {c m}
end
section
variable {α:Type} {E:El α} {t:TypeId} {width:Nat} {w w' w1 w2:Wg} {v v':Wh} {ds:List α} {lo hi:Nat}
theorem qAl (w:Wg) (g j:Nat) (u:Wh):w.grownBy (w.setCell ⟨g,j,none⟩ u) (some g):=
 ⟨rfl,rfl,rfl,tZ,fun b _ hb=>Below.heap_setCell w _ u b (fun e=>hb (by rw[e]))⟩
end
def cI (xs:List Int):Nat:=xs.length
section
variable {w w':Wg} {v:Wh} {ds:List (List Int)} {lo hi:Nat}
end
def lt (x:Int):List UInt8:=
 if x=1 then [97] else if x=2 then [98] else if x=3 then [99] else if x= -1 then [65] else if x= -2 then [66] else if x= -3 then [67] else []
def qJJ (base:Nat) (w:Wg) (v:Wh) (L:List (List Int)):Prop:=
 ∃vs:List Wh,vs.length=L.length/\w.ownsRow base 37 1 v L.length vs/\ ∀i (h:i<L.length) (h':i<vs.length),RdI w vs[i] L[i]
theorem qJJ.rd {base:Nat} {w:Wg} {v:Wh} {L:List (List Int)} (h:qJJ base w v L):RdII w v L:=by
 obtain⟨vs,h1,h2,h3⟩:=h;exact⟨vs,h1,RdV.of_own h2,h3⟩
theorem qJJ.lit (w:Wg) (vs:List Wh) (L:List (List Int)) (hl:vs.length=L.length) (h: ∀i (h:i<L.length) (h':i<vs.length),RdI w vs[i] L[i]) (hm:L.length<=1099511627776) {base:Nat} (hb:base<=w.heap.size):
  qJJ base (w.alloc (.cells vs.toArray 37)) (.slice (some ⟨w,0,none⟩) L.length L.length) L:=
 ⟨vs,hl,by have:=qOW w vs tO hb;rw[hl] at this;exact this,fun i h1 h2=>(h i h1 h2).alloc _⟩
theorem qCJ (a b:List Int) (i:Nat) (h:i<a.length):(a++b).getD i 0=a.getD i 0:=by
 simp only[zar];rw[zaA h]
theorem qEB (a b:List Int) (i:Nat) (h:a.length<=i):(a++b).getD i 0=b.getD (i-a.length) 0:=by
 simp only[zar];rw[List.getElem?_append_right h]
theorem qIC {a b:List Int} (hl:a.length=b.length) (h: ∀i,i<a.length->a.getD i 0=b.getD i 0):a=b:=by
 refine List.ext_getElem hl fun i h1 h2=> ?_;have:=h i h1
 simpa[zar,h1,h2] using this
def redP (xs:List Int):Prop:= ∀i,i+1<xs.length->invB (xs.getD i 0) (xs.getD (i+1) 0)=false
theorem qJK {xs:List Int} (h:redP xs) (k:Nat):redP (xs.take k):=by
 intro i hi;simp only[List.length_take] at hi;have e1: ∀j,j<k->(xs.take k).getD j 0=xs.getD j 0:=fun j hj=>by simp only[zar,zaZ];rw[Wm hj]
 rw[e1 i tO,e1 (i+1) tO];exact h i tO
theorem qJp {xs:List Int} (h:redP xs) (k:Nat):redP (xs.drop k):=by
 intro i hi;simp only[List.length_drop] at hi;have e1: ∀j,(xs.drop k).getD j 0=xs.getD (k+j) 0:=fun j=>by simp[zar,za0]
 rw[e1,e1,<-Nat.add_assoc];exact h (k+i) tO
theorem qNO {xs:List Int} {x:Int} (h:redP xs) (hx:0<xs.length->invB (xs.getLastD 0) x=false):redP (xs++ [x]):=by
 intro i hi;simp only[zav,zaW] at hi;rcases zak (zam (show i+1<xs.length+1 by omega)) with h1 | h1
 ·rw[qCJ _ _ _ tO,qCJ _ _ _ h1];exact h i h1
 ·rw[qCJ _ _ _ tO,qEB _ _ _ tO,h1,Nat.sub_self];have:=hx tO
  rw[qGJ tO] at this;have e:i=xs.length-1:=tO;subst e;simpa[zar,show xs.length-1<xs.length by omega] using this
theorem qOP {acc:List Int} {x:Int} (h:redP acc):redP (red1 acc x):=by
 unfold red1;split
 ·rw[zaV];exact qJK h _
 ·rename_i hn
  refine qNO h fun h0=> ?_;cases hb:invB (acc.getLastD 0) x with
  | false=>rfl
  | true=>exact absurd ⟨h0,hb⟩ hn
theorem qGQ {acc xs:List Int} (h:redP acc):redP (redL acc xs):=by
 unfold redL;induction xs generalizing acc with
 | nil=>exact h
 | cons x xs ih=>exact ih (qOP h)
theorem qGU:redP []:=fun i hi=>by simp at hi
theorem qNg {acc xs:List Int} (h:redP (acc++xs)):redL acc xs=acc++xs:=by
 unfold redL;induction xs generalizing acc with
 | nil=>simp
 | cons x xs ih=>
   have e:red1 acc x=acc++ [x]:=by
    unfold red1;rw[Wn];rintro⟨h0,hb⟩
    have:=h (acc.length-1) (by simp;omega)
    rw[qCJ _ _ _ tO,qEB _ _ _ tO,show acc.length-1+1-acc.length=0 by omega] at this;rw[qGJ h0] at hb;have e2:acc.getD (acc.length-1) 0=acc[acc.length-1]:=by simp[zar,show acc.length-1<acc.length by omega]
    rw[e2] at this;simp only[List.getD_cons_zero] at this;rw[this] at hb;cases hb
   rw[zaS,e,ih (by simpa using h)];simp
def qBl (c:List Int):Nat->Nat->Nat
 | 0,f=>f
 | n+1,f=>if 2*f+2<=c.length/\invB (c.getD f 0) (c.getD (c.length-1-f) 0)=true then qBl c n (f+1) else f
def qAK (c:List Int):Nat:=qBl c c.length 0
theorem qMD (c:List Int) (n f:Nat):qBl c (n+1) f=if 2*f+2<=c.length/\invB (c.getD f 0) (c.getD (c.length-1-f) 0)=true then qBl c n (f+1) else f:=rfl
theorem qOk (c:List Int) (n f:Nat) (h:2*f<=c.length):2*qBl c n f<=c.length:=by
 induction n generalizing f with
 | zero=>exact h
 | succ n ih=>
   unfold qBl;split
   ·exact ih _ tO
   ·exact h
theorem qMk (c:List Int) (n f:Nat) (hn:c.length<=2*f+2*n): ¬(2*qBl c n f+2<=c.length/\invB (c.getD (qBl c n f) 0) (c.getD (c.length-1-qBl c n f) 0)=true):=by
 induction n generalizing f with
 | zero=>unfold qBl;rintro⟨h,_⟩;omega
 | succ n ih=>
   unfold qBl;split
   ·exact ih _ tO
   ·assumption
def qGC (c:List Int):List Int:=(c.take (c.length-qAK c)).drop (qAK c)
theorem qDr (c:List Int):2*qAK c<=c.length:=qOk c _ 0 tO
theorem qEx (c:List Int):(qGC c).length=c.length-2*qAK c:=by
 have:=qDr c
 simp[qGC];omega
theorem qFc (c:List Int) (i:Nat) (h:i<c.length-2*qAK c):(qGC c).getD i 0=c.getD (qAK c+i) 0:=by
 have:=qDr c
 unfold qGC;simp only[zar,za0,zaZ];rw[Wm tO]
def cycP (r:List Int):Prop:=redP r/\(2<=r.length->invB (r.getD 0 0) (r.getD (r.length-1) 0)=false)
theorem qNT {c:List Int} (h:redP c):cycP (qGC c):=by
 refine⟨qJp (qJK h _) _,fun h2=> ?_⟩;have hl:=qEx c;have hs:=qDr c;rw[qFc _ _ tO,qFc _ _ tO,hl,zah];have:=qMk c c.length 0 tO
 cases hb:invB (c.getD (qAK c) 0) (c.getD (qAK c+(c.length-2*qAK c-1)) 0) with
 | false=>rfl
 | true=>
   refine absurd ⟨?_,?_⟩ this
   ·show 2*qAK c+2<=c.length;omega
   ·show invB (c.getD (qAK c) 0) (c.getD (c.length-1-qAK c) 0)=true
    rw[<-hb];congr 2;omega
theorem qPZ {acc xs:List Int} {x:Int} (h:x∈redL acc xs):x∈acc\/x∈xs:=by
 unfold redL at h;induction xs generalizing acc with
 | nil=>exact .inl h
 | cons y xs ih=>
   rcases ih h with h | h
   ·unfold red1 at h;split at h
    ·exact .inl (List.dropLast_subset _ h)
    ·rcases zaM.1 h with h | h
     ·exact .inl h
     ·right;simp at h;simp[h]
   ·right;simp[h]
theorem qOc {r:Int} {xs:List Int} (h:redP xs) (hx: ∀x∈xs,letB r x=true) (i:Nat) (hi:i<xs.length):okAt r xs i=true:=by
 unfold okAt;have e:xs.getD i 0=xs[i]:=by simp[zar,hi]
 rw[e,hx _ tZ,<-e];by_cases h0:0<i
 ·have:=h (i-1) tO
  rw[show i-1+1=i by omega] at this;rw[this];simp
 ·simp[h0]
def gL (w:List Int):Prop:= ∀x∈w,x≠0/\ -3<=x/\x<=3
def letR (r:Int) (w:List Int):Prop:= ∀x∈w,x≠0/\ -r<=x/\x<=r
theorem qJN {r:Int} {w:List Int} (h:letR r w):letR r (redL [] w):=fun x hx=>by
 rcases qPZ hx with h' | h'
 ·cases h'
 ·exact h x h'
theorem qLB (p:Nat) (A:Option Addr) (cap:Nat) (cs:List Int) (r m:Int) (w:Wg) (h:Cur p A cap cs w) (gH:1<=r) (bT:r<=3) (FC:0<=m) (hm:m<=100):
  Wk Tryz.prog 135 #[.pointer (some ⟨p,0,none⟩), .int .i64 r, .int .i64 m] w fun e w'=> ∃v xs,e= .returned v/\OwI w' w v xs/\(xs.length<=m/\letR r xs/\redP xs)/\Cur p A cap cs w'/\Tr p (p+1) w w':=by
 have H:=qA h;have hp:=h.lt;clear h;have HA:Wi (Cur p A cap cs (w.alloc (.cells #[] 3))):=qA (H.below ((zac _ _).alloc (zaa _) _));have HO:Wi (OwI (w.alloc (.cells #[] 3)) w (.slice (some ⟨w,0,none⟩) 0 0) []):=qA (qp w [] qt tZ (zaa _));have HT:Wi (Tr p (p+1) w (w.alloc (.cells #[] 3))):=qA ⟨rfl,rfl,rfl,tZ,fun k hk _=>Below.heap_alloc w _ k hk⟩;have dh:IntKind.i64.wrap (m+1)=m+1:=by rw[IntKind.wrap_i64];omega
 go_enter Tryz.func135,Tryz.ntmps135
 go_wp2_with fail;refine(qAC p A cap cs (m+1) _ HA tO tO).mono ?_
 rintro e w1 ⟨n0,rfl,⟨n1,n2⟩,c1,t1⟩;have C1:=qA c1;have O1:=qA (HO.trP t1 hp);have T1:Wi (Tr p (p+1) w w1):=qA (HT.trans t1);clear c1 t1 HA HO HT;go_wp2;go_loopw [7,8] (fun wv nv wr=> ∃(k:Int) (ws:List Int),nv= .int .i64 k/\0<=k/\k+ws.length<=m/\letR r ws/\OwI wr w wv ws/\Cur p A cap cs wr/\Tr p (p+1) w wr)
  (fun _ nv _=>(intOf nv).toNat)
 case atStart=>exact⟨n0,[],rfl,n1,by simp;omega,fun x hx=>(by cases hx),O1.o,C1.o,T1.o⟩
 case round=>
  obtain⟨k,ws,rfl,l5,eV,fX,hO,hC,hT⟩:=hrel;have HO:=qA hO;have HC:=qA hC;have HT:=qA hT;have jz:=qA fX;have ar:=hT.size;obtain⟨Aw,cw,rfl,_⟩:=hO.form;clear hO hC hT fX;by_cases ac:0<k
  ·go_wp2_with (first
    | (go_at_call 184;(with_reducible refine(qAC p A cap cs r _ HC.o tO tO).mono ?_);rintro e w2 ⟨x,rfl,⟨x0,x1⟩,c2,t2⟩;have C2:=qA c2;have O2:=qA (HO.o.trP t2 hp);have T2:=qA (HT.o.trans t2);clear c2 t2)
    | (go_at_call 134;(with_reducible refine(qEL p A cap cs 2 _ C2.o tO tO).mono ?_);rintro e w3 ⟨bb,rfl,c3,t3⟩;have C3:=qA c3;have O3:=qA (O2.o.trP t3 hp);have T3:=qA (T2.o.trans t3);have d5:=T3.o.size;clear c3 t3;have JU:IntKind.i64.wrap (1+x)=1+x:=(by rw[IntKind.wrap_i64];omega);have nt:IntKind.i64.wrap (-(1+x))= -(1+x):=(by rw[IntKind.wrap_i64];omega);have fW:Wi (I64 (1+x)):=qA ⟨tO,tO⟩;have iP:Wi (I64 (-(1+x))):=qA ⟨tO,tO⟩)
    | ((at_builtin;refine qW rfl (.tmp 27) (.tmp 29) rfl _ _ _ (OwI.alloc O3 _) rfl _ _ rfl (qU _ _ _) fW.o tB tB ?_;intro v4 wv4 o4 g4 p4);have G4:=qA g4;have O4:=qA o4;obtain⟨A4,m4,c4,rfl⟩:=o4.any2;clear o4 g4 p4)
    | ((at_builtin;refine qW rfl (.tmp 27) (.tmp 29) rfl _ _ _ (OwI.alloc O3 _) rfl _ _ rfl (qU _ _ _) iP.o tB tB ?_;intro v4 wv4 o4 g4 p4);have G4:=qA g4;have O4:=qA o4;obtain⟨A4,m4,c4,rfl⟩:=o4.any2;clear o4 g4 p4))
   all_goals (
    have C4:=qA ((C3.below ((zac _ _).alloc (zaa _) _)).new H G4 (fun b hb=>(O3.o.1.lt b hb).1));have T4:=qA ((T3.o.bel2 ((zac _ _).alloc (zaa _) _)).grow2 G4 (fun b hb=>(O3.o.1.lt b hb).1));have iq:IntKind.i64.wrap (k-1)=k-1:=by rw[IntKind.wrap_i64];omega
    go_roundw
    case rel=>
     refine⟨k-1,_,by go_num,tO,by simp;omega,fun y hy=> ?_,O4.o,C4.o,T4.o⟩;rcases zaM.1 hy with hy | hy
     ·exact jz.o y hy
     ·rw[List.mem_singleton] at hy;subst hy;omega
    case measure=>(simp[intOf];omega))
  ·have GJ:Wi (redP (redL [] ws)):=qA (qGQ qGU);have oK:(redL [] ws).length<=m:=by have:=qBQ [] ws;simp at this;omega
   have lC:ws.length<=1073741824:=tO;go_wp2_with (go_at_call 111;(with_reducible refine(qAY _ ws _ HO.o.rd lC).mono ?_);rintro e w5 ⟨r5,rfl,o5,b5⟩;have O5:=qA o5;have B5:=qA b5;obtain⟨A5,m5,c5,rfl⟩:=o5.any2;clear o5 b5)
   exact Wj (v:= .slice A5 m5 c5) (by simp[results,Tryz.results135,go_sem]) rfl ⟨_,_,rfl,O5.mono ar,⟨oK,qJN jz,GJ⟩,HC.below B5,HT.o.bel2 B5⟩
inductive Sp where
 | val (c:Wh)
 | own (p:Wg->Wh->Prop) (h: ∀W W' v,p W v->Wf W.heap.size W W'->p W' v)
 | new (p:Wg->Wh->Prop) (h: ∀W W' v,p W v->Wf W.heap.size W W'->p W' v)
 | cp (j:Nat)
def Sp.R (vs:Nat->Wh):Sp->Wg->Wh->Prop
 | .val c,_,v=>v=c
 | .own p _,W,v=>p W v
 | .new p _,W,v=>p W v/\ ∀b,v.ownBlock=some b->b<W.heap.size
 | .cp j,_,v=>v=vs j
def Sp.S (vs:Nat->Wh):Sp->Wg->Wg->Wh->Prop
 | .val c,_,_,v=>v=c
 | .own p _,_,W',v=>p W' v
 | .new p _,W,W',v=>p W' v/\ ∀b,v.ownBlock=some b->W.heap.size<=b/\b<W'.heap.size
 | .cp j,_,_,v=>v=vs j
def Sp.fr:Sp->Bool
 | .new _ _=>true
 | _=>false
theorem Sp.stable (vs:Nat->Wh): ∀(s:Sp) {W W':Wg} {v:Wh},s.R vs W v->Wf W W W'->s.R vs W' v
 | .val _,_,_,_,h,_=>h
 | .own _ h,W,W',v,hv,hb=>h W W' v hv hb
 | .new _ h,W,W',v,hv,hb=>⟨h W W' v hv.1 hb,fun b e=>Nat.lt_of_lt_of_le (hv.2 b e) hb.size⟩
 | .cp _,_,_,_,h,_=>h
theorem Sp.made (vs:Nat->Wh): ∀(s:Sp) {W W':Wg} {v:Wh},s.S vs W W' v->s.R vs W' v
 | .val _,_,_,_,h=>h
 | .own _ _,_,_,_,h=>h
 | .new _ _,_,_,_,h=>⟨h.1,fun b e=>(h.2 b e).2⟩
 | .cp _,_,_,_,h=>h
def Sp.pick:Sp->Wh->Wh
 | .val c,_=>c
 | _,v=>v
theorem Sp.pick_of (vs:Nat->Wh): ∀(s:Sp) {W:Wg} {v:Wh},s.R vs W v->s.pick v=v
 | .val _,_,_,h=>h.symm
 | .own _ _,_,_,_=>rfl
 | .new _ _,_,_,_=>rfl
 | .cp _,_,_,_=>rfl
def spA (L:List Sp) (k:Nat):Sp:=L.getD k (.val undef)
def qAR (l:List Oper):Nat->Nat->Nat->Bool
 | 0,_,_=>false
 | f+1,i,j=>match l[i]? with
   | none=>false
   | some o=>o.after.toList.any fun e=>Region.binds .any e&&(e.on==j||qAR l f e.on j)
def freB (l:List Oper):Bool:=
 Region.noSelect l.toArray&&(zaj l.length).all fun i=>match l[i]? with
  | none=>true
  | some o=>o.guard.isNone&&(o.after.all fun e=> !Region.binds .any e||decide (e.on<i))&&
    ((zaj l.length).all fun k=>match l[k]? with
      | none=>true
      | some o'=>(decide (i=k)|| !(o.dst==o'.dst)||o.dst.isNone)&&
        (match o'.dst with
         | none=>true
         | some t=> !(o.looksAt l.toArray).contains t||qAR l l.length i k||qAR l l.length k i))
def actV (S:Nat->Bool) (vs:Nat->Wh):List Oper->Nat->Act->Act
 | [],_,b=>b
 | o::r,k,b=>actV S vs r (k+1) (if S k then b.put o.dst (vs k) else b)
def Obl (P:Program) (w:Wg) (l:List Oper) (L:List Sp) (vs:Nat->Wh) (Q:Exit->Act->Wg->Prop):List Oper->List Sp->Nat->Act->Prop
 | [],_,_,b=> ∀W',Wi (Wf w w W')->Wi (∀j,j<l.length->(spA L j).R vs W' (vs j))->Wi (∀i j,i<l.length->j<l.length->i≠j->(spA L i).fr=true->(spA L j).fr=true-> ∀x,(vs i).ownBlock=some x->(vs j).ownBlock≠some x)->Q .normal b W'
 | _::_,[],_,_=>False
 | o::r,s::ss,k,b=>(∀W K Q0,Wi (Wf w w W)->Wi (∀j,qAR l l.length k j=true->(spA L j).R vs W (vs j))->Wi (∀v W',Wf W.heap.size W W'->s.S vs W W' v->K (b.put o.dst v) W')->o.wp P b W K Q0)/\Obl P w l L vs Q r ss (k+1) (b.put o.dst (s.pick (vs k)))
section
variable {l:List Oper}
theorem qFD (h:freB l=true):Region.noSelect l.toArray=true/\ ∀i o,l[i]? =some o->o.guard=none/\(∀e∈o.after,Region.binds .any e=true->e.on<i)/\(∀k o',l[k]? =some o'->i≠k-> ∀d,o.dst=some d->o'.dst≠some d)/\
  ∀k o' t,l[k]? =some o'->o'.dst=some t->t∈o.looksAt l.toArray->qAR l l.length i k=true\/qAR l l.length k i=true:=by
 unfold freB at h;rw[zab,zan] at h;refine⟨h.1,fun i o ho=> ?_⟩;have hi:i<l.length:=(zad.1 ho).1;have h1:=h.2 i (zao.2 hi);rw[ho] at h1;simp only[zab,Option.isNone_iff_eq_none,zan,zao] at h1;obtain⟨⟨h2,h3⟩,h4⟩:=h1;refine⟨h2,fun e he hb=> ?_,fun k o' hk hik d hd hd'=> ?_,fun k o' t hk ht hl=> ?_⟩
 ·have:=zaK.1 h3 e he
  rw[hb] at this;simpa using this
 ·have h5:=h4 k ((zad.1 hk).1);rw[hk] at h5;simp only[zab,zaq,decide_eq_true_eq] at h5;rcases h5.1 with (h6 | h6) | h6
  ·exact hik h6
  ·rw[hd,hd'] at h6;simp at h6
  ·rw[hd] at h6;simp at h6
 ·have h5:=h4 k ((zad.1 hk).1);rw[hk] at h5;simp only[zab] at h5;have h6:=h5.2;rw[ht] at h6;simp only[zaq,za4] at h6;rcases h6 with (h6 | h6) | h6
  ·rw[zaX.2 hl] at h6;cases h6
  ·exact .inl h6
  ·exact .inr h6
theorem qBV {listed:Array Bool} (hc:Cl l.toArray listed): ∀(f i j:Nat),(∀o,l[i]? =some o-> ∀e∈o.after,Region.binds .any e=true->listed.getD e.on false=true)->qAR l f i j=true->listed.getD j false=true
 | 0,_,_,_,h=>by cases h
 | f+1,i,j,hi,h=>by
   unfold qAR at h;cases ho:l[i]? with
   | none=>rw[ho] at h;cases h
   | some o=>
     rw[ho] at h;simp only[zaI,zaN,zab,zaq,beq_iff_eq] at h;obtain⟨e,he,hb,h⟩:=h;have h1:=hi o ho e he hb;rcases h with h | h
     ·rwa [<-h]
     ·exact qBV hc f e.on j (fun o' cV e' mh aL=>hc.2 e.on o' (by simpa using cV) h1 e' mh aL) h
theorem qGI (hB:freB l=true): ∀(f i j:Nat),qAR l f i j=true->j<i
 | 0,_,_,h=>by cases h
 | f+1,i,j,h=>by
   unfold qAR at h;cases ho:l[i]? with
   | none=>rw[ho] at h;cases h
   | some o=>
     rw[ho] at h;simp only[zaI,zaN,zab,zaq,beq_iff_eq] at h;obtain⟨e,he,hb,h⟩:=h;have h1:=((qFD hB).2 i o ho).2.1 e he hb;rcases h with h | h
     ·omega
     ·have:=qGI hB f e.on j h;omega
theorem qGR (a:Act) (d:Option Tmp) (v:Wh):(a.put d v).tmps.size=a.tmps.size:=by
 cases d<;>simp[za3]
theorem qGa {vs:Nat->Wh} {S S':Nat->Bool} {t:Tmp}: ∀(r:List Oper) (k:Nat) (b b':Act),b.tmps.size=b'.tmps.size->b.eval (.tmp t)=b'.eval (.tmp t)->
  (∀j o,r[j]? =some o->o.dst=some t->S (k+j)=S' (k+j))->(actV S vs r k b).eval (.tmp t)=(actV S' vs r k b').eval (.tmp t)
 | [],_,_,_,_,he,_=>he
 | o::r,k,b,b',hs,he,h=>by
   unfold actV;have hz:(if S k then b.put o.dst (vs k) else b).tmps.size=(if S' k then b'.put o.dst (vs k) else b').tmps.size:=by
    split<;>split<;>simp only[qGR,hs]
   refine qGa r (k+1) _ _ hz ?_ fun j o' cV hd'=>by have:=h (j+1) o' (by simpa using cV) hd';rwa [show k+(j+1)=k+1+j by omega] at this
   by_cases hd:o.dst=some t
   ·have h0:=h 0 o rfl hd;rw[zah] at h0;rw[<-h0];split
    ·rw[hd];simp only[za3,Act.eval,zay];by_cases ht:t<b.tmps.size
     ·rw[zag ht,zag (hs▸ht)]
     ·rw[zaG (by rw[zaR];exact za7 ht),zaG (by rw[zaR,<-hs];exact za7 ht)]
    ·exact he
   ·have e1: ∀(c:Act) (S:Nat->Bool),(if S k then c.put o.dst (vs k) else c).eval (.tmp t)=c.eval (.tmp t):=fun c S=>by
     split
     ·exact Act.eval_put fun d uk e=>hd (by rw[uk];injection e with e;rw[e])
     ·rfl
    rw[e1,e1,he]
theorem qKy {S:Nat->Bool} {vs:Nat->Wh} {x:Option Tmp} {v:Wh}: ∀(r:List Oper) (k:Nat) (b:Act),(∀o∈r,∀d,o.dst=some d->x≠some d)->(actV S vs r k b).put x v=actV S vs r k (b.put x v)
 | [],_,_,_=>rfl
 | o::r,k,b,h=>by
   unfold actV;rw[qKy r (k+1) _ fun o' cV=>h o' (by simp[cV])];congr 1
   split
   ·exact Act.put_comm _ _ _ fun d hd=>h o tZ d hd
   ·rfl
theorem qCK {S S':Nat->Bool} {vs vs':Nat->Wh}: ∀(r:List Oper) (k:Nat) (b:Act),(∀j,j<r.length->S (k+j)=S' (k+j)/\(S (k+j)=true->vs (k+j)=vs' (k+j)))->actV S vs r k b=actV S' vs' r k b
 | [],_,_,_=>rfl
 | o::r,k,b,h=>by
   unfold actV;have h0:=h 0 tZ;rw[zah] at h0;rw[qCK r (k+1) _ fun j hj=>by have:=h (j+1) (by simp;omega);rwa [show k+(j+1)=k+1+j by omega] at this];congr 1
   rw[<-h0.1];split
   ·rename_i q;rw[h0.2 q]
   ·rfl
theorem qIO {S:Nat->Bool} {vs:Nat->Wh} {v:Wh}: ∀(r:List Oper) (k:Nat) (b:Act) (i:Nat) (o:Oper),r[i]? =some o->S (k+i)=false->
  (∀j o',r[j]? =some o'->i≠j-> ∀d,o.dst=some d->o'.dst≠some d)->
  (actV S vs r k b).put o.dst v=actV (fun j=>S j||decide (j=k+i)) (fun j=>if j=k+i then v else vs j) r k b
 | [],_,_,_,_,h,_,_=>by simp at h
 | o'::r,k,b,0,o,h,hS,hd=>by
   obtain rfl:o'=o:=by simpa using h
   rw[zah] at hS;unfold actV;rw[hS,qKy r (k+1) _ fun o2 gf d uk e=> ?_]
   ·simp only[zah,decide_true,Bool.or_true,if_true,za1,if_false];refine qCK r (k+1) _ fun j hj=>⟨by rw[decide_eq_false tO,zaY],fun _=>by rw[Wn tO]⟩
   ·obtain⟨j,hj⟩:=List.mem_iff_getElem?.1 gf;exact hd (j+1) o2 (by simpa using hj) tO d e uk
 | o'::r,k,b,i+1,o,h,hS,hd=>by
   unfold actV;have e:k+(i+1)=k+1+i:=tO;rw[qIO r (k+1) _ i o (by simpa using h) (by rw[<-e];exact hS) fun j o2 hj dU=>hd (j+1) o2 (by simpa using hj) tO,e];congr 1
   have hk:decide (k=k+1+i)=false:=decide_eq_false tO;simp only[hk,zaY];rw[Wn (show ¬k=k+1+i by omega)]
end
theorem qMw {P:Program} {o:Oper} {b b':Act} {W:Wg} {next:Act->Wg->Prop} {Q:Exit->Act->Wg->Prop} {G:Wh->Wg->Prop} (he:execOp b'.eval o=execOp b.eval o)
  (h:o.wp P b W (fun c W'=> ∃v,c=b.put o.dst v/\G v W') (fun e _ _=>e= .outgrown/\False))
  (hz: ∀t,o.dst=some t->t<b.tmps.size) (hn: ∀v W',G v W'->next (b'.put o.dst v) W'):o.wp P b' W next Q:=by
 have key: ∀v W',(∃u,b.put o.dst v=b.put o.dst u/\G u W')->next (b'.put o.dst v) W':=fun v W' ⟨u,hu,hg⟩=>by
  have:=hn u W' hg
  cases hd:o.dst with
  | none=>rw[hd] at this;exact this
  | some t=>
    rw[hd] at this hu;have e:v=u:=by
     have h1:=congrArg (fun c:Act=>c.tmps[t]?) hu;simp only[za3] at h1;rw[zag (hz t hd),zag (hz t hd)] at h1;injection h1
    rw[e];exact this
 unfold Oper.wp at*;rw[he];generalize (execOp b.eval o).run P W=r at*;cases r with
 | ok n w'=>
   cases n<;>simp only[Oper.upon] at h⊢
   case value v=>exact key v w' h
   case skip=>exact key undef w' h
   case defer d=> 
    obtain⟨v,hv,_⟩:=h;exfalso
    have h1:=congrArg (fun c:Act=>c.defers.length) hv;have e1: ∀(c:Act) (v:Wh),(c.put o.dst v).defers=c.defers:=fun c v=>by cases o.dst<;>rfl
    simp[e1] at h1
   case enter f args=>
    refine Calls.mono h fun e w'' he=> ?_;cases e with
    | returned v=>exact key v w'' he
    | panicked c=>exact he.2.elim
    | outgrown=>obtain⟨_,_,h1⟩:=he;exact h1.2.elim
   case row row args=>exact Rows.mono h fun v w'' he=>key v w'' he
 | halt x w'=>cases x<;>simp only[Oper.upon] at h⊢ <;>exact h.2.elim
section
variable {P:Program} {l:List Oper} {L:List Sp} {w:Wg} {a:Act} {Q:Exit->Act->Wg->Prop}
theorem qNE {vs:Nat->Wh} (hvs: ∀j,j<l.length->(spA L j).pick (vs j)=vs j): ∀(r:List Oper) (ss:List Sp) (k:Nat) (b:Act),(∀j,r[j]? =l[k+j]?)->(∀j,ss.getD j (.val undef)=spA L (k+j))->Obl P w l L vs Q r ss k b->
  (∀i o,r[i]? =some o-> ∀W K Q0,Wi (Wf w w W)->Wi (∀j,qAR l l.length (k+i) j=true->(spA L j).R vs W (vs j))->Wi (∀v W',Wf W.heap.size W W'->(spA L (k+i)).S vs W W' v->K ((actV (fun j=>decide (j<k+i)) vs r k b).put o.dst v) W')->o.wp P (actV (fun j=>decide (j<k+i)) vs r k b) W K Q0)/\
  (∀W',Wi (Wf w w W')->Wi (∀j,j<l.length->(spA L j).R vs W' (vs j))->Wi (∀i j,i<l.length->j<l.length->i≠j->(spA L i).fr=true->(spA L j).fr=true-> ∀x,(vs i).ownBlock=some x->(vs j).ownBlock≠some x)->Q .normal (actV (fun _=>true) vs r k b) W')
 | [],_,_,_,_,_,h=>⟨fun i o ho=>by simp at ho,h⟩
 | _::_,[],_,_,_,_,h=>h.elim
 | o::r,s::ss,k,b,hr,hs,h=>by
   obtain⟨h1,h2⟩:=h;have cZ:s=spA L k:=by simpa using hs 0
   have hk:k<l.length:=by
    have:=hr 0
    rw[zah] at this;exact(zad.1 this.symm).1
   rw[cZ,hvs k hk] at h2;have hn:=qNE hvs r ss (k+1) _ (fun j=>by have:=hr (j+1);rw[show k+(j+1)=k+1+j by omega] at this;simpa using this) (fun j=>by have:=hs (j+1);rw[show k+(j+1)=k+1+j by omega] at this;simpa using this) h2;refine⟨fun i o' cV=> ?_,?_⟩
   ·cases i with
    | zero=>
      obtain rfl:o=o':=by simpa using cV
      have e:actV (fun j=>decide (j<k+0)) vs (o::r) k b=b:=by
       unfold actV;rw[decide_eq_false tO];have: ∀(r:List Oper) (k2:Nat) (b:Act),k<=k2->actV (fun j=>decide (j<k+0)) vs r k2 b=b:=by
        intro r;induction r with
        | nil=>intros;rfl
        | cons o r ih=>
          intro k2 b fo;unfold actV;rw[decide_eq_false tO];exact ih (k2+1) b tO
       exact this r (k+1) b tO
      rw[e,zah,<-cZ];exact h1
    | succ i=>
      have e:k+(i+1)=k+1+i:=tO;have:=hn.1 i o' (by simpa using cV)
      rw[e];unfold actV;rw[decide_eq_true tO];exact this
   ·exact hn.2
theorem qHE {listed:Array Bool} {i:Nat} (hi:i<listed.size) (h:listed.getD i false=false) (n:Nat) (hn:i<n):
  ((zaj n).filter fun j=> !(listed.setIfInBounds i true).getD j false).length+1=((zaj n).filter fun j=> !listed.getD j false).length:=by
 induction n with
 | zero=>omega
 | succ n ih=>
   rw[List.range_succ,za2,za2,zav,zav];by_cases e:i=n
   ·subst e;have e1:(zaj i).filter (fun j=> !(listed.setIfInBounds i true).getD j false)=(zaj i).filter fun j=> !listed.getD j false:=by
     refine List.filter_congr fun j hj=> ?_;rw[getD_set_ne false (by have:=zao.1 hj;omega)]
    have e2:(listed.setIfInBounds i true).getD i false=true:=by simp[hi]
    rw[e1];simp only[zas,za8,e2,h,Bool.not_true,Bool.not_false,za1,if_false,if_true,zaB,zaW]
   ·have:=ih tO
    simp only[zas,za8,getD_set_ne false e];omega
def cpB (l:List Oper) (L:List Sp):Bool:=(zaj l.length).all fun k=>match spA L k with
 | .cp j=>qAR l l.length k j
 | _=>true
theorem qQH (hB:freB l=true) (lD:cpB l L=true) (ar: ∀(i:Nat) (o:Oper),l[i]? =some o-> ∀t,o.dst=some t->t<a.tmps.size) (h: ∀vs,Obl P w l L vs Q l L 0 a): ∀(fuel:Nat) (listed:Array Bool) (vs:Nat->Wh) (W:Wg),
  ((zaj l.length).filter fun j=> !listed.getD j false).length=fuel->Cl l.toArray listed->Wf w w W->(∀j,j<l.length->(spA L j).pick (vs j)=vs j)->(∀j,listed.getD j false=true->(spA L j).R vs W (vs j))->(∀i j,listed.getD i false=true->listed.getD j false=true->i≠j->(spA L i).fr=true->(spA L j).fr=true-> ∀x,(vs i).ownBlock=some x->(vs j).ownBlock≠some x)->
  wpAny P .any l.toArray Q fuel listed (actV (fun j=>listed.getD j false) vs l 0 a) W:=by
 have all: ∀(listed:Array Bool) (vs:Nat->Wh) (W:Wg),Cl l.toArray listed->Wf w w W->(∀j,j<l.length->(spA L j).pick (vs j)=vs j)->(∀j,listed.getD j false=true->(spA L j).R vs W (vs j))->(∀i j,listed.getD i false=true->listed.getD j false=true->i≠j->(spA L i).fr=true->(spA L j).fr=true-> ∀x,(vs i).ownBlock=some x->(vs j).ownBlock≠some x)->(∀j,j<l.length->listed.getD j false=true)->Q .normal (actV (fun j=>listed.getD j false) vs l 0 a) W:=fun listed vs W _ hb hp hr jI hl=>by
  have:=(qNE hp l L 0 a (fun j=>by rw[zal]) (fun j=>by rw[zal];rfl) (h vs)).2 W (qA hb) (qA fun j hj=>hr j (hl j hj)) (qA fun i j hi hj=>jI i j (hl i hi) (hl j hj))
  rwa [qCK (S':=fun _=>true) (vs':=vs) l 0 a fun j hj=>by rw[zal];exact⟨hl j hj,fun _=>rfl⟩]
 have none_ready: ∀(listed:Array Bool),Cl l.toArray listed->Region.ready .any l.toArray listed= []-> ∀j,j<l.length->listed.getD j false=true:=fun listed hc hr j=>by
  induction j using Nat.strongRecOn with
  | _ j ih=>
    intro hj;by_cases q:listed.getD j false=true
    ·exact q
    ·exfalso
     have:j∈Region.ready .any l.toArray listed:=by
      rw[mem_ready];refine⟨by rw[qAp (by rw[hc.1];simpa using hj)];simpa using q,l[j],by simp[hj],fun e he hb=> ?_⟩;have:=((qFD hB).2 j l[j] (zaQ hj)).2.1 e he hb
      exact ih e.on this tO
     rw[hr] at this;cases this
 intro fuel;induction fuel with
 | zero=>
   intro listed vs W hf hc hb hp hr jI;have hl: ∀j,j<l.length->listed.getD j false=true:=fun j hj=>by
    have:=List.filter_eq_nil_iff.1 (zaw hf) j (zao.2 hj)
    simpa using this
   refine⟨?_,all listed vs W hc hb hp hr jI hl⟩;cases hq:Region.ready .any l.toArray listed with
   | nil=>rfl
   | cons i r=>
     obtain⟨h1,o,ho,_⟩:=mem_ready.1 (show i∈Region.ready .any l.toArray listed by rw[hq];simp);have hi:i<l.length:=by simpa using (Array.getElem?_eq_some_iff.1 ho).1
     rw[qAp (by rw[hc.1];simpa using hi),hl i hi] at h1;cases h1
 | succ fuel ih=>
   intro listed vs W hf hc hb hp hr jI;refine⟨fun h0=>all listed vs W hc hb hp hr jI (none_ready listed hc h0),fun i hi=> ?_⟩;obtain⟨h1,o,ho,po⟩:=mem_ready.1 hi;have cV:l[i]? =some o:=by simpa using ho
   have kJ:i<l.length:=(zad.1 cV).1;have uJ:i<listed.size:=by rw[hc.1];simpa using kJ
   have dW:listed.getD i false=false:=by rw[<-qAp uJ];exact h1
   obtain⟨dq,_,vg,pN⟩:=(qFD hB).2 i o cV;have pu:=fun (cs:Array SelectCase) (b:Bool)=>Region.noSelect_spec (qFD hB).1 i o cs b ho;have dy:=(qNE hp l L 0 a (fun j=>by rw[zal]) (fun j=>by rw[zal];rfl) (h vs)).1 i o cV;rw[zal] at dy;have mz: ∀j,qAR l l.length i j=true->listed.getD j false=true:=fun j hj=>qBV hc l.length i j (fun o2 gf e he hb=>by rw[cV] at gf;injection gf with gf;subst gf;exact po e he hb) hj;have AS:=dy W (fun c W'=> ∃v,c=(actV (fun j=>decide (j<i)) vs l 0 a).put o.dst v/\(Wf W W W'/\(spA L i).S vs W W' v)) (fun e _ _=>e= .outgrown/\False) (qA hb) (qA fun j hj=>hr j (mz j hj)) (qA fun v W' hbv hv=>⟨v,rfl,hbv,hv⟩);unfold wpOp;simp only[ho];rw[Wm (qAi dq _)];refine .inl (qMw ?_ AS (fun t ht=> ?_) fun v W' ⟨hbv,hv⟩=> ?_)
   ·refine execOp_congr o (fun cs b e=>pu cs b e) fun x hx=> ?_;cases x with
    | tmp t=>
      refine qGa l 0 a a rfl rfl fun k o' hk hd=> ?_;rw[zal];have ht:t∈o.looksAt l.toArray:=List.mem_append_left _ (zaD.2 ⟨.tmp t,by simpa using hx,rfl⟩);rcases pN k o' t hk hd ht with q | q
      ·rw[mz k q,decide_eq_true (qGI hB _ _ _ q)]
      ·have tI:=qGI hB _ _ _ q;rw[decide_eq_false tO];cases gN:listed.getD k false with
       | false=>rfl
       | true=>
         exfalso
         have:=qBV hc l.length k i (fun o2 gf e he hb=>hc.2 k o2 (by simpa using gf) gN e he hb) q
         rw[dW] at this;cases this
    | const v=>rfl
    | global g=>rfl
    | func f=>rfl
   ·have: ∀(S:Nat->Bool) (r:List Oper) (k:Nat) (b:Act),(actV S vs r k b).tmps.size=b.tmps.size:=by
     intro S r;induction r with
     | nil=>intros;rfl
     | cons o r ih=>intro k b;unfold actV;rw[ih];split;exact qGR _ _ _;rfl
    rw[this];exact ar i o cV t ht
   ·have e:=qIO (S:=fun j=>listed.getD j false) (vs:=vs) (v:=v) l 0 a i o cV (by rw[zal];exact dW) fun j o2 hj dU d hd=>vg j o2 hj dU d hd;rw[zal] at e;rw[e];rw[qCK (S':=fun j=>(listed.setIfInBounds i true).getD j false) (vs':=fun j=>if j=i then v else vs j) l 0 a fun j hj=>⟨by
     rw[zal];by_cases q:j=i
     ·subst q;simp[uJ]
     ·rw[decide_eq_false q,zaY,getD_set_ne false (fun e=>q e.symm)],fun _=>rfl⟩]
    have bK: ∀j,(listed.setIfInBounds i true).getD j false=true->j≠i->listed.getD j false=true:=fun j hj q=>by
     rwa [getD_set_ne false (fun e=>q e.symm)] at hj
    have zV: ∀j W'',listed.getD j false=true->(spA L j).R vs W'' (vs j)->(spA L j).R (fun j=>if j=i then v else vs j) W'' (vs j):=fun j W'' hj h=>by
     have eF:j<l.length:=by
      by_cases q:j<l.length
      ·exact q
      ·rw[zay,zaG (by rw[hc.1];simpa using q)] at hj;cases hj
     have h1:=zan.1 lD j (zao.2 eF);cases hs:spA L j with
     | val c=>rw[hs] at h;exact h
     | own p q=>rw[hs] at h;exact h
     | new p q=>rw[hs] at h;exact h
     | cp m=>
       rw[hs] at h h1;have dK:=qBV hc l.length j m (fun o2 gf e he hb=>hc.2 j o2 (by simpa using gf) hj e he hb) h1;have fA:m≠i:=fun e=>by rw[e,dW] at dK;cases dK
       show vs j=if m=i then v else vs m
       rw[Wn fA];exact h
    have Tj:(spA L i).S (fun j=>if j=i then v else vs j) W W' v:=by
     have h1:=zan.1 lD i (zao.2 kJ);cases hs:spA L i with
     | val c=>rw[hs] at hv;exact hv
     | own p q=>rw[hs] at hv;exact hv
     | new p q=>rw[hs] at hv;exact hv
     | cp m=>
       rw[hs] at hv h1;have fA:m≠i:=fun e=>by have:=qGI hB _ _ _ h1;omega
       show v=if m=i then v else vs m
       rw[Wn fA];exact hv
    refine ih (listed.setIfInBounds i true) _ W' ?_ (hc.set hi) (hb.trans (hbv.mono hb.size)) (fun j hj=> ?_) (fun j hj=> ?_) fun p q rC ni pv fp fq x ep eq=> ?_
    ·have:=qHE uJ dW l.length kJ
     omega
    ·by_cases q:j=i
     ·subst q;simp only[if_true];exact Sp.pick_of vs _ ((spA L j).made vs hv)
     ·simp only[Wn q];exact hp j hj
    ·by_cases q:j=i
     ·subst q;simp only[if_true];exact(spA L j).made _ Tj
     ·simp only[Wn q];exact zV j W' (bK j hj q) ((spA L j).stable vs (hr j (bK j hj q)) hbv)
    ·have newS: ∀(s:Sp) (z:Wh),s.fr=true->s.S vs W W' z-> ∀y,z.ownBlock=some y->W.heap.size<=y:=fun s z hs h y hy=>by
      cases s with
      | new p q=>exact(h.2 y hy).1
      | _=>cases hs
     have newR: ∀(s:Sp) (z:Wh),s.fr=true->s.R vs W z-> ∀y,z.ownBlock=some y->y<W.heap.size:=fun s z hs h y hy=>by
      cases s with
      | new p q=>exact h.2 y hy
      | _=>cases hs
     by_cases e1:p=i
     ·have e2:q≠i:=fun e=>pv (e1.trans e.symm);rw[Wn e2] at eq;rw[Wm e1] at ep;rw[e1] at fp;have h1:=newS _ _ fp hv x ep;have h2:=newR _ _ fq (hr q (bK q ni e2)) x eq;omega
     ·by_cases e2:q=i
      ·rw[Wm e2] at eq;rw[Wn e1] at ep;rw[e2] at fq;have h1:=newS _ _ fq hv x eq;have h2:=newR _ _ fp (hr p (bK p rC e1)) x ep;omega
      ·rw[Wn e2] at eq;rw[Wn e1] at ep;exact jI p q (bK p rC e1) (bK q ni e2) pv fp fq x ep eq
theorem qAe {id:Nat} (L:List Sp) (hm:P.follows .mixedOrders=true) (hB:freB l=true) (lD:cpB l L=true) (ar:(l.all fun o=>match o.dst with | some t=>decide (t<a.tmps.size) | none=>true)=true)
  (h: ∀vs,Obl P w l L vs Q l L 0 a):(Code.region id l.toArray true).wp P Q a w:=by
 refine wp_region_any hm ?_;have hv: ∀j,j<l.length->(spA L j).pick ((spA L j).pick undef)=(spA L j).pick undef:=fun j _=>by cases spA L j<;>rfl
 have h0: ∀j,(zaC l.toArray.size false).getD j false=false:=fun j=>by
  simp only[zay,Array.getElem?_replicate];split<;>rfl
 have:=qQH (P:=P) (Q:=Q) (w:=w) hB lD (fun i o ho t ht=>by
  have:=zan.1 ar o (List.mem_of_getElem? ho)
  rw[ht] at this;simpa using this) h l.toArray.size (zaC l.toArray.size false) (fun j=>(spA L j).pick undef) {w with drawn:=w.drawn+1} (by
   have:(zaj l.length).filter (fun j=> !(zaC l.toArray.size false).getD j false)=zaj l.length:=List.filter_eq_self.2 fun j _=>by rw[h0];rfl
   rw[this];simp) ⟨tZ,fun j o _ hj=>by rw[h0] at hj;cases hj⟩ (zac _ _).drew hv (fun j hj=>by rw[h0] at hj;cases hj) (fun i j hi=>by rw[h0] at hi;cases hi)
 have e:actV (fun j=>(zaC l.toArray.size false).getD j false) (fun j=>(spA L j).pick undef) l 0 a=a:=by
  have: ∀(r:List Oper) (k:Nat) (b:Act),actV (fun j=>(zaC l.toArray.size false).getD j false) (fun j=>(spA L j).pick undef) r k b=b:=by
   intro r;induction r with
   | nil=>intros;rfl
   | cons o r ih=>intro k b;unfold actV;rw[h0];exact ih _ _
  exact this l 0 a
 rw[e] at this;exact this
end
inductive Sg where
 | val (c:Wh)
 | pur (q:(Nat->Wh)->Wh->Prop)
 | mem (p:(Nat->Wh)->Wg->Wh->Prop)
def Sg.R (vs:Nat->Wh):Sg->Wg->Wh->Prop
 | .val c,_,v=>v=c
 | .pur q,_,v=>q vs v
 | .mem p,W,v=>p vs W v
def Sg.isMem:Sg->Bool
 | .mem _=>true
 | _=>false
def Sg.pick:Sg->Wh->Wh
 | .val c,_=>c
 | _,v=>v
theorem Sg.pick_of (vs:Nat->Wh): ∀(s:Sg) {W:Wg} {v:Wh},s.R vs W v->s.pick v=v
 | .val _,_,_,h=>h.symm
 | .pur _,_,_,_=>rfl
 | .mem _,_,_,_=>rfl
def qBw (l:List Oper) (k:Nat) (vs:Nat->Wh):Nat->Wh:=fun j=>if qAR l l.length k j=true then vs j else undef
theorem qBn {l:List Oper} {k j:Nat} {vs:Nat->Wh} (h:qAR l l.length k j=true):qBw l k vs j=vs j:=Wm h
def sgA (L:List Sg) (k:Nat):Sg:=L.getD k (.val undef)
def tnA (T:List (Option (Wg->Wg->Prop))) (k:Nat):Wg->Wg->Prop:=match T.getD k none with
 | none=>fun W W'=>W'=W
 | some t=>t
def clG (l:List Oper) (L:List Sg) (T:List (Option (Wg->Wg->Prop))):List (Nat×Nat):=
 (zaj l.length).flatMap fun i=>(zaj l.length).filterMap fun k=>if(sgA L i).isMem&&(T.getD k none).isSome&& !(i==k)&& !qAR l l.length i k then some (i,k) else none
def Stb (I:Wg->Prop) (L:List Sg) (T:List (Option (Wg->Wg->Prop))):List (Nat×Nat)->Prop
 | []=>True
 | q::r=>(∀vs W W' v,I W->I W'->tnA T q.2 W W'->(sgA L q.1).R vs W v->(sgA L q.1).R vs W' v)/\Stb I L T r
def Its (I:Wg->Prop):List (Option (Wg->Wg->Prop))->Prop
 | []=>True
 | none::r=>Its I r
 | some t::r=>(∀W W',I W->t W W'->I W')/\Its I r
theorem Its.at {I:Wg->Prop}: ∀ {T:List (Option (Wg->Wg->Prop))},Its I T-> ∀t,some t∈T-> ∀W W',I W->t W W'->I W'
 | none::r,h,t,ht=>by
   rcases zaH.1 ht with e | ht
   ·cases e
   ·exact Its.at (T:=r) h t ht
 | some u::r,h,t,ht=>by
   rcases zaH.1 ht with e | ht
   ·injection e with e;subst e;exact h.1
   ·exact Its.at (T:=r) h.2 t ht
theorem Stb.at {I:Wg->Prop} {L:List Sg} {T:List (Option (Wg->Wg->Prop))}: ∀ {X:List (Nat×Nat)},Stb I L T X-> ∀q∈X,∀vs W W' v,I W->I W'->tnA T q.2 W W'->(sgA L q.1).R vs W v->(sgA L q.1).R vs W' v
 | _::_,h,q,hq=>by
   rcases zaH.1 hq with rfl | hq
   ·exact h.1
   ·exact h.2.at q hq
def Obw (P:Program) (J:Nat->Wg->Prop) (l:List Oper) (L:List Sg) (T:List (Option (Wg->Wg->Prop))) (vs:Nat->Wh) (Q:Exit->Act->Wg->Prop):List Oper->List Sg->Nat->Act->Prop
 | [],_,_,b=> ∀W',Wi (J l.length W')->Wi (∀j,j<l.length->(sgA L j).R (qBw l j vs) W' (vs j))->Q .normal b W'
 | _::_,[],_,_=>False
 | o::r,s::ss,k,b=>(∀W K Q0,Wi (J k W)->Wi (∀j,qAR l l.length k j=true->(sgA L j).R (qBw l j vs) W (vs j))->Wi (∀v W',tnA T k W W'->s.R (qBw l k vs) W' v->K (b.put o.dst v) W')->o.wp P b W K Q0)/\Obw P J l L T vs Q r ss (k+1) (b.put o.dst (s.pick (vs k)))
section
variable {P:Program} {I Hs:Wg->Prop} {D:List Nat} {J:Nat->Wg->Prop} {l:List Oper} {L:List Sg} {T:List (Option (Wg->Wg->Prop))} {w:Wg} {a:Act} {Q:Exit->Act->Wg->Prop}
def okD (l:List Oper) (D:List Nat) (i:Nat):Bool:=D.all fun d=>d==i||qAR l l.length d i
def JH (I Hs:Wg->Prop) (l:List Oper) (D:List Nat) (i:Nat) (W:Wg):Prop:=I W/\(okD l D i=true->Hs W)
def ItD (I Hs:Wg->Prop) (D:List Nat) (T:List (Option (Wg->Wg->Prop))):Nat->List (Option (Wg->Wg->Prop))->Prop
 | _,[]=>True
 | k,none::r=>ItD I Hs D T (k+1) r
 | k,some t::r=>(k∈D\/ ∀W W',I W->Hs W->t W W'->Hs W')/\ItD I Hs D T (k+1) r
theorem ItD.at {I Hs:Wg->Prop} {D:List Nat} {T:List (Option (Wg->Wg->Prop))}: ∀ {r:List (Option (Wg->Wg->Prop))} {k:Nat},ItD I Hs D T k r-> ∀i t,r[i]? =some (some t)->k+i∈D\/ ∀W W',I W->Hs W->t W W'->Hs W'
 | none::r,k,h,i,t,ht=>by
   cases i with
   | zero=>simp at ht
   | succ i=>have:=ItD.at (r:=r) (k:=k+1) h i t (by simpa using ht);rwa [show k+1+i=k+(i+1) by omega] at this
 | some u::r,k,h,i,t,ht=>by
   cases i with
   | zero=>simp at ht;subst ht;exact h.1
   | succ i=>have:=ItD.at (r:=r) (k:=k+1) h.2 i t (by simpa using ht);rwa [show k+1+i=k+(i+1) by omega] at this
theorem qEi {I:Wg->Prop} {T:List (Option (Wg->Wg->Prop))}: ∀(r:List (Option (Wg->Wg->Prop))) (k:Nat),ItD I (fun _=>True) [] T k r
 | [],_=>trivial
 | none::r,k=>qEi r (k+1)
 | some _::r,k=>⟨.inr fun _ _ _ _ _=>trivial,qEi r (k+1)⟩
end
def freG (l:List Oper):Bool:=
 Region.noSelect l.toArray&&(zaj l.length).all fun i=>match l[i]? with
  | none=>true
  | some o=>(o.after.all fun e=> !Region.binds .any e||decide (e.on<i))&&
    ((zaj l.length).all fun k=>match l[k]? with
      | none=>true
      | some o'=>(decide (i=k)|| !(o.dst==o'.dst)||o.dst.isNone)&&
        (match o'.dst with
         | none=>true
         | some t=> !(o.looksAt l.toArray).contains t||qAR l l.length i k||qAR l l.length k i))
def ObwG (G:List Nat) (P:Program) (J:Nat->Wg->Prop) (l:List Oper) (L:List Sg) (T:List (Option (Wg->Wg->Prop))) (vs:Nat->Wh) (Q:Exit->Act->Wg->Prop):List Oper->List Sg->Nat->Act->Prop
 | [],_,_,b=> ∀W',Wi (J l.length W')->Wi (∀j,j<l.length->(sgA L j).R (qBw l j vs) W' (vs j))->Q .normal b W'
 | _::_,[],_,_=>False
 | o::r,s::ss,k,b=>(match G.contains k with
   | true=>True
   | false=>(∀W K Q0,Wi (J k W)->Wi (∀j,qAR l l.length k j=true->(sgA L j).R (qBw l j vs) W (vs j))->Wi (∀v W',tnA T k W W'->s.R (qBw l k vs) W' v->K (b.put o.dst v) W')->o.wp P b W K Q0))/\ObwG G P J l L T vs Q r ss (k+1) (b.put o.dst (s.pick (vs k)))
def GOff (L:List Sg) (T:List (Option (Wg->Wg->Prop))):List Nat->Prop
 | []=>True
 | i::r=>(sgA L i= .val undef/\T.getD i none=none)/\GOff L T r
theorem GOff.at {L:List Sg} {T:List (Option (Wg->Wg->Prop))}: ∀ {G:List Nat},GOff L T G-> ∀i,G.contains i=true->sgA L i= .val undef/\T.getD i none=none
 | [],_,_,h=>by cases h
 | j::r,h,i,hi=>by
   simp only[List.contains_cons,zaq,beq_iff_eq] at hi;rcases hi with rfl | hi
   ·exact h.1
   ·exact GOff.at h.2 i hi
theorem qJm {S:Nat->Bool} {vs:Nat->Wh} {d:Tmp}: ∀(r:List Oper) (k:Nat) (b:Act),(∀o∈r,o.dst≠some d)->(actV S vs r k b).tmps[d]? =b.tmps[d]?
 | [],_,_,_=>rfl
 | o::r,k,b,h=>by
   unfold actV;rw[qJm r (k+1) _ fun o' cV=>h o' (by simp[cV])];split
   ·have:=h o tZ
    cases hd:o.dst with
    | none=>rfl
    | some e=>
      rw[hd] at this;simp only[za3];rw[Array.getElem?_setIfInBounds_ne (fun q=>this (by rw[q]))]
   ·rfl
theorem qLY {S:Nat->Bool} {vs:Nat->Wh} {d:Tmp}: ∀(r:List Oper) (k:Nat) (b:Act) (i:Nat) (o:Oper),r[i]? =some o->o.dst=some d->S (k+i)=true->(∀j o2,r[j]? =some o2->j≠i->o2.dst≠some d)->d<b.tmps.size->(actV S vs r k b).tmps[d]? =some (vs (k+i))
 | [],_,_,_,_,h,_,_,_,_=>by simp at h
 | o'::r,k,b,0,o,h,hd,hS,hu,hz=>by
   obtain rfl:o'=o:=by simpa using h
   rw[zah] at hS⊢;unfold actV;rw[hS,qJm r (k+1) _ fun o2 gf=>by
    obtain⟨j,hj⟩:=List.getElem?_of_mem gf;exact hu (j+1) o2 (by simpa using hj) tO]
   simp only[if_true,hd,za3];rw[zag hz]
 | o'::r,k,b,i+1,o,h,hd,hS,hu,hz=>by
   unfold actV;rw[qLY r (k+1) _ i o (by simpa using h) hd (by rwa [show k+1+i=k+(i+1) by omega]) (fun j o2 hj zj=>hu (j+1) o2 (by simpa using hj) tO) (by split<;>(try simp only[qGR])<;>exact hz)];rw[show k+1+i=k+(i+1) by omega]
section
variable {l:List Oper}
theorem qCu (h:freG l=true):Region.noSelect l.toArray=true/\ ∀i o,l[i]? =some o->(∀e∈o.after,Region.binds .any e=true->e.on<i)/\(∀k o',l[k]? =some o'->i≠k-> ∀d,o.dst=some d->o'.dst≠some d)/\
  ∀k o' t,l[k]? =some o'->o'.dst=some t->t∈o.looksAt l.toArray->qAR l l.length i k=true\/qAR l l.length k i=true:=by
 unfold freG at h;rw[zab,zan] at h;refine⟨h.1,fun i o ho=> ?_⟩;have hi:i<l.length:=(zad.1 ho).1;have h1:=h.2 i (zao.2 hi);rw[ho] at h1;simp only[zab,zan,zao] at h1;obtain⟨h3,h4⟩:=h1;refine⟨fun e he hb=> ?_,fun k o' hk hik d hd hd'=> ?_,fun k o' t hk ht hl=> ?_⟩
 ·have:=zaK.1 h3 e he
  rw[hb] at this;simpa using this
 ·have h5:=h4 k ((zad.1 hk).1);rw[hk] at h5;simp only[zab,zaq,decide_eq_true_eq] at h5;rcases h5.1 with (h6 | h6) | h6
  ·exact hik h6
  ·rw[hd,hd'] at h6;simp at h6
  ·rw[hd] at h6;simp at h6
 ·have h5:=h4 k ((zad.1 hk).1);rw[hk] at h5;simp only[zab] at h5;have h6:=h5.2;rw[ht] at h6;simp only[zaq,za4] at h6;rcases h6 with (h6 | h6) | h6
  ·rw[zaX.2 hl] at h6;cases h6
  ·exact .inl h6
  ·exact .inr h6
theorem qDh (hB:freG l=true): ∀(f i j:Nat),qAR l f i j=true->j<i
 | 0,_,_,h=>by cases h
 | f+1,i,j,h=>by
   unfold qAR at h;cases ho:l[i]? with
   | none=>rw[ho] at h;cases h
   | some o=>
     rw[ho] at h;simp only[zaI,zaN,zab,zaq,beq_iff_eq] at h;obtain⟨e,he,hb,h⟩:=h;have h1:=((qCu hB).2 i o ho).1 e he hb;rcases h with h | h
     ·omega
     ·have:=qDh hB f e.on j h;omega
end
section
variable {P:Program} {I Hs:Wg->Prop} {D:List Nat} {J:Nat->Wg->Prop} {l:List Oper} {L:List Sg} {T:List (Option (Wg->Wg->Prop))} {w:Wg} {a:Act} {Q:Exit->Act->Wg->Prop} {G:List Nat}
theorem qKG {vs:Nat->Wh} (hvs: ∀j,j<l.length->(sgA L j).pick (vs j)=vs j): ∀(r:List Oper) (ss:List Sg) (k:Nat) (b:Act),(∀j,r[j]? =l[k+j]?)->(∀j,ss.getD j (.val undef)=sgA L (k+j))->ObwG G P J l L T vs Q r ss k b->
  (∀i o,r[i]? =some o->G.contains (k+i)=false-> ∀W K Q0,Wi (J (k+i) W)->Wi (∀j,qAR l l.length (k+i) j=true->(sgA L j).R (qBw l j vs) W (vs j))->Wi (∀v W',tnA T (k+i) W W'->(sgA L (k+i)).R (qBw l (k+i) vs) W' v->K ((actV (fun j=>decide (j<k+i)) vs r k b).put o.dst v) W')->o.wp P (actV (fun j=>decide (j<k+i)) vs r k b) W K Q0)/\
  (∀W',Wi (J l.length W')->Wi (∀j,j<l.length->(sgA L j).R (qBw l j vs) W' (vs j))->Q .normal (actV (fun _=>true) vs r k b) W')
 | [],_,_,_,_,_,h=>⟨fun i o ho _=>by simp at ho,h⟩
 | _::_,[],_,_,_,_,h=>h.elim
 | o::r,s::ss,k,b,hr,hs,h=>by
   obtain⟨h1,h2⟩:=h;have cZ:s=sgA L k:=by simpa using hs 0
   have hk:k<l.length:=by
    have:=hr 0
    rw[zah] at this;exact(zad.1 this.symm).1
   rw[cZ,hvs k hk] at h2;have hn:=qKG hvs r ss (k+1) _ (fun j=>by have:=hr (j+1);rw[show k+(j+1)=k+1+j by omega] at this;simpa using this) (fun j=>by have:=hs (j+1);rw[show k+(j+1)=k+1+j by omega] at this;simpa using this) h2;refine⟨fun i o' cV hG'=> ?_,?_⟩
   ·cases i with
    | zero=>
      obtain rfl:o=o':=by simpa using cV
      have e:actV (fun j=>decide (j<k+0)) vs (o::r) k b=b:=by
       unfold actV;rw[decide_eq_false tO];have: ∀(r:List Oper) (k2:Nat) (b:Act),k<=k2->actV (fun j=>decide (j<k+0)) vs r k2 b=b:=by
        intro r;induction r with
        | nil=>intros;rfl
        | cons o r ih=>
          intro k2 b fo;unfold actV;rw[decide_eq_false tO];exact ih (k2+1) b tO
       exact this r (k+1) b tO
      rw[zah] at hG';rw[e,zah,<-cZ];rw[hG'] at h1;exact h1
    | succ i=>
      have e:k+(i+1)=k+1+i:=tO;rw[e] at hG';have:=hn.1 i o' (by simpa using cV) hG'
      rw[e];unfold actV;rw[decide_eq_true tO];exact this
   ·exact hn.2
end
def gdB2 (l:List Oper) (L:List Sg) (G:List Nat):Bool:=(zaj l.length).all fun i=>match l[i]? with
 | none=>true
 | some o=>match o.guard with
   | none=> !G.contains i
   | some (j,want)=>qAR l l.length i j&&(match (l[j]?).bind (·.dst) with | some _=>true | none=>false)&&(match sgA L j with | .val (.bool b)=>(b==want)== !G.contains i | .val (.tuple _)=>G.contains i | _=>false)
end Go.Proofs.YtnjpoljbagfdnaaGreat
