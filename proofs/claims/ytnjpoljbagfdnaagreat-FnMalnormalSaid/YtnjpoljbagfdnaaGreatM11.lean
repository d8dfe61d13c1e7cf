/- Parts of the proof (11). -/
import Derived.Test.YtnjpoljbagfdnaaGreatM10
set_option maxRecDepth 100000
set_option maxHeartbeats 16000000
set_option linter.unusedVariables false
set_option linter.unusedSimpArgs false
namespace Go.Proofs.YtnjpoljbagfdnaaGreat
open Go.RowKit
open Go.RowKit renaming Below→Wf,Hid→Wi
open Go renaming Calls→Wk,Value→Wh,World→Wg,bodyPost_ret→Wj
open _root_.List renaming setIfInBounds_toArray->zaa,set_cons_zero->zab,set_cons_succ->zac,replicate->zah,take_length->zam,getElem?_eq_getElem->zar,take_succ_eq_append_getElem->zas,getElem?_eq_some_iff->zau,mem_append->zav,mem_singleton->zaw,getElem?_cons_zero->zax,getElem?_cons_succ->zay,filter_append->zaE,length_take->zaH,map_append->zaI,mem_of_getElem?->zaJ,mem_of_mem_take->zaK,replicate_zero->zaM,append_assoc->zaO,ext_getElem->zaR,range->zaS,nil_append->zaT,length_map->zaU
open Go.Value renaming ownBlock->zad,slice->zaD
open Go.RowKit.Below renaming refl->zae,heap_alloc->zal,heap_setCell->zan,drew->zaG
open Go.World renaming cell?_setCell_other->zaf,ownsRow->zak,frozen?_setCell->zao,cell?_setCell_same->zaq,cell?_of_block->zat,frozen?_of_block->zaz
open _root_.Nat renaming le_refl->zag,zero_le->zaj,add_zero->zaA,lt_or_ge->zaB,mul_le_mul->zaC,add_assoc->zaL,zero_mul->zaN,add_mul->zaP,one_mul->zaQ
open Go.Act renaming put->zai
open _root_.Option renaming some->zap
open _root_.Int renaming toNat_natCast->zaF
open _root_.Bool renaming and_false->zaV
theorem qHI (va vb:Wh) (a b:GrD) (A B r:Nat) (w:Wg) (ha:ArgG w va a) (hb:ArgG w vb b) (h2:Two a b A B) (eY:a.1=(r:Int)) (fc:b.1=(r:Int)):
  Wk Tryz.prog 94 #[va,vb] w fun e w'=> ∃s P X Q f,e= .returned (.tuple #[s, .slice (some ⟨P,0,none⟩) A A])/\OwPc w' w s (pcs a b A B r (A*B)).2/\MatI X w P A B w' Q f/\qIx (ixP a b A B r) A B f (pcs a b A B r (A*B)).1/\X<w'.heap.size/\Wf w w w':=by
 have H2:=qA h2;have cJ:=qA ha;have aS:=qA hb;have ONEA:=qA (qAH h2.fa);have ONEB:=qA (qAH h2.fb);have LETA:=qA (qBu h2.ga);have LETB:=qA (qBu h2.gb);obtain⟨⟨pP,fk⟩,EA,rq⟩:=h2.bd;have bT:r<=3/\1<=r:=by have:=(qD h2.ga).1;omega
 have eX:A*B<=1600:=zaC fk rq;have yV:=qA eX;have sa:=h2.sa;have sb:=h2.sb;obtain⟨Aa,capa,rfl⟩: ∃A' cap,va= .agg #[.int .i64 r, .int .i64 A, .slice A' a.2.2.length cap]:=by
  obtain⟨s,hv,_,_,ha⟩:=cJ.o;obtain⟨A',cap,rfl⟩:=ha.form;exact⟨A',cap,by rw[hv,eY,sa]⟩
 obtain⟨Ab,capb,rfl⟩: ∃A' cap,vb= .agg #[.int .i64 r, .int .i64 B, .slice A' b.2.2.length cap]:=by
  obtain⟨s,hv,_,_,ha⟩:=aS.o;obtain⟨A',cap,rfl⟩:=ha.form;exact⟨A',cap,by rw[hv,fc,sb]⟩
 clear ha hb h2 eY fc sa sb eX;go_enter Tryz.func94,Tryz.ntmps94
 obtain⟨i0,ci,cB,bi,bQ⟩:=info_parts qFY;obtain⟨j0,tS,eK,nl,sY⟩:=info_parts qEG;go_wp2_with (at_make;refine wpList_make_full _ rfl _ _ 69 rfl (w.heap.size+1+1) 37 i0 (.slice none 0 0) 1 Tryz.underlying69 ci cB bi _ _ _ _ A rfl rfl rfl rfl (by rw[bQ];omega) (by unfold maxLen;omega) tZ ?_)
 have bx:Wf w w ((w.alloc (.cells #[.int .i64 r,.int .i64 A, .slice Aa a.2.2.length capa] 26)).alloc (.cells #[.int .i64 r,.int .i64 B, .slice Ab b.2.2.length capb] 26)):=ZZ;obtain⟨W0,ah⟩: ∃W,W=(w.alloc (.cells #[.int .i64 r,.int .i64 A, .slice Aa a.2.2.length capa] 26)).alloc (.cells #[.int .i64 r,.int .i64 B, .slice Ab b.2.2.length capb] 26):=⟨_,rfl⟩;rw[<-ah] at bx⊢;have aH:W0.heap.size=w.heap.size+1+1:=by rw[ah];simp
 have A0:Wi (W0.cell? ⟨w,0,none⟩=some (.int .i64 r)):=qA (by rw[ah];simp[go_sem]);have A1:Wi (W0.cell? ⟨w,1,none⟩=some (.int .i64 A)):=qA (by rw[ah];simp[go_sem]);have A2:Wi (W0.cell? ⟨w,2,none⟩=some (.slice Aa a.2.2.length capa)):=qA (by rw[ah];simp[go_sem]);have B0:Wi (W0.cell? ⟨w.heap.size+1,0,none⟩=some (.int .i64 r)):=qA (by rw[ah];simp[go_sem]);have B1:Wi (W0.cell? ⟨w.heap.size+1,1,none⟩=some (.int .i64 B)):=qA (by rw[ah];simp[go_sem]);have B2:Wi (W0.cell? ⟨w.heap.size+1,2,none⟩=some (.slice Ab b.2.2.length capb)):=qA (by rw[ah];simp[go_sem]);clear ah;rw[<-aH];have bh:w.heap.size<W0.heap.size:=tO;have bk:w.heap.size+1<W0.heap.size:=tO;have BX:=qA bx;have fj:=qA aH;clear bx aH;intro w2 hown0 hgrow0;have rF:W0.heap.size<w2.heap.size:=(hown0.lt W0 rfl).2;have Nx:MatK W0 W0 A B 0 w2 id:=by
  refine⟨?_,fun i hi=>absurd hi tO,fun i j hi=>absurd hi tO,fun i hi=>absurd hi tO⟩;have e:((zaS A).map fun i=>if i<0 then(zaD (some ⟨id i,0,none⟩) B B) else .slice none 0 0)=zah A (.slice none 0 0):=by
   refine zaR tZ fun i h1 h2=> ?_;simp
  rw[e];simpa[toList_madeCells_one] using hown0
 have MK:=qA Nx;have al:Wi (Wf W0 W0 w2):=qA ((zae W0 W0).grown hgrow0 (zag _) (fun k h=>by cases h));clear hown0 hgrow0 Nx;go_wp2;go_loopw [24] (fun i wr=> ∃(k:Nat) (Q:Nat->Nat),k<=A/\i= .int .i64 k/\MatK W0 W0 A B k wr Q/\Wf W0 W0 wr/\W0.heap.size<wr.heap.size) (fun i _=>A-(intOf i).toNat)
 case atStart=>exact⟨0,id,zaj _,rfl,MK,al,rF⟩
 case round=>
  obtain⟨k,Q,hk,rfl,il,ab,rb⟩:=hrel;obtain⟨wo,rfl⟩: ∃wo:Wg,wo=wr:=⟨_,rfl⟩;have Cv:=qA il;have HB:=qA ab;have q1:=(ab.cell (p:=⟨w.heap.size+1,1,none⟩) bk).trans B1.o;by_cases ac:k<A
  ·have tI:(k:Int)<(A:Int):=tO;have cP:=zak.cellAt il.outer k tO;have fP:=zak.frozenAt il.outer k;have Bl:wo.cell? ⟨W0,k,none⟩=some (.slice none 0 0):=by rw[cP];simp[ac]
   clear cP il ab;go_wp2_with (at_make;refine wpList_make_full _ rfl _ _ 37 rfl wo 3 j0 (.int .i64 0) 1 Tryz.underlying37 tS eK nl _ _ _ _ B rfl rfl rfl rfl (by rw[sY];omega) (by unfold maxLen;omega) (zag _) ?_)
   intro w3 hown3 hgrow3;have On:W0.heap.size≠wo.heap.size:=tO;have d5:wo.heap.size<w3.heap.size:=(hown3.lt wo rfl).2;have rK: ∀b,b<wo.heap.size->w3.heap[b]? =wo.heap[b]? :=fun b hb=>hgrow3.block b hb tZ;have c3:=(zat (w:=wo) (w':=w3) (a:=⟨W0,k,none⟩) (rK W0 rb)).trans Bl;have f3:=(zaz (w:=wo) (w':=w3) (a:=⟨W0,k,none⟩) (rK W0 rb)).trans fP;have vN:OwI w3 W0 (.slice (some ⟨wo,0,none⟩) B B) (zah 0 (-1)++zah (B-0) 0):=by
    refine⟨?_,fun y hy=> ?_⟩
    ·simp only[zaM,zaT,Nat.sub_zero,List.length_replicate];have:ints (zah B 0)=zah B (Value.int .i64 0):=by simp[ints]
     rw[this];have h1:w3.ownsRow W0 3 1 (.slice (some ⟨wo,0,none⟩) B B) B (madeCells #[.int .i64 0] B).toList:=by
      refine⟨hown3.1,?_⟩;rcases hown3.2 with h0 | ⟨g,cap,cur,hv,hg,rr⟩
      ·exact .inl h0
      ·exact .inr ⟨g,cap,cur,hv,tO,rr⟩
     simpa[toList_madeCells_one] using h1
    ·simp only[zaM,zaT,Nat.sub_zero] at hy;obtain⟨_,rfl⟩:=List.mem_replicate.1 hy;exact⟨by decide,by decide⟩
   have MH:w3.ownsRow W0 37 1 (.slice (some ⟨W0,0,none⟩) A A) A ((zaS A).map fun i=>if i<k then(zaD (some ⟨Q i,0,none⟩) B B) else .slice none 0 0):=qAA Cv.o.outer fun b e=>by
    simp only[zad,zap.injEq] at e;subst e;exact rK _ rb
   have hst:=zak.stored MH k (.slice (some ⟨wo,0,none⟩) B B);have eO:=qA hst.1;have CV:(w3.setCell ⟨W0,k,none⟩ (.slice (some ⟨wo,0,none⟩) B B)).heap.size=w3.heap.size:=tZ;have Kl: ∀b,b≠W0.heap.size->(w3.setCell ⟨W0,k,none⟩ (.slice (some ⟨wo,0,none⟩) B B)).heap[b]? =w3.heap[b]? :=fun b hb=>zan w3 _ _ b hb;have ownS:OwI (w3.setCell ⟨W0,k,none⟩ (.slice (some ⟨wo,0,none⟩) B B)) W0 (.slice (some ⟨wo,0,none⟩) B B) (zah 0 (-1)++zah (B-0) 0):=
    ⟨qAA vN.1 fun b e=>by simp only[zad,zap.injEq] at e;subst e;exact Kl _ tO,vN.2⟩
   have cS:(w3.setCell ⟨W0,k,none⟩ (.slice (some ⟨wo,0,none⟩) B B)).cell? ⟨W0,k,none⟩=some (.slice (some ⟨wo,0,none⟩) B B):=zaq _ _ _ c3;have jJ:Wi (Wf W0 W0 (w3.setCell ⟨W0,k,none⟩ (.slice (some ⟨wo,0,none⟩) B B))):=qA ((HB.o.grown hgrow3 tO (fun k h=>by cases h)).setCell (by show W0.heap.size<=W0.heap.size;omega) _);have OZ:Wi (∀i,i<k->(w3.setCell ⟨W0,k,none⟩ (.slice (some ⟨wo,0,none⟩) B B)).heap[Q i]? =wo.heap[Q i]?):=qA fun i hi=>(Kl _ (by have:=(Cv.lt i hi).1;omega)).trans (rK _ (Cv.lt i hi).2);have CS:=qA cS;have OWS:=qA ownS;clear Bl fP hown3 hgrow3 vN MH hst Kl rK ownS;go_wp2;generalize w3.setCell ⟨W0,k,none⟩ (.slice (some ⟨wo,0,none⟩) B B)=wS at*;go_loopw [38] (fun j wr=> ∃m:Nat,m<=B/\j= .int .i64 m/\OwI wr W0 (.slice (some ⟨wo,0,none⟩) B B) (zah m (-1)++zah (B-m) 0)/\wS.grownBy wr (some wo)) (fun j _=>B-(intOf j).toNat)
   case atStart=>exact⟨0,zaj _,rfl,OWS,World.grownBy.refl _ _⟩
   case round=>
    obtain⟨m,hm,rfl,aa,aC⟩:=hrel;have HG:=qA aC;have tH:=aC.size;have cK:=(zat (w:=wS) (w':=wr) (a:=⟨W0,k,none⟩) (aC.block W0 tO (by simp;omega))).trans CS.o;by_cases aj:m<B
    ·have fA:(m:Int)<(B:Int):=tO;have am:=aa.cellAt m (by simp;omega);have zy:=aa.free m;have HS:=qA (aa.set m (-1) ⟨by decide,by decide⟩);have cE:=qA (qJt B m aj);generalize (zah m (-1:Int)++zah (B-m) 0)[m]'(by simp;omega)=z0 at am;clear aa aC;go_wp2;go_roundw;exact⟨m+1,tO,by go_num,by rw[<-cE.o];exact HS.o.1,HG.o.trans HS.o.2⟩;exact tM
    ·obtain rfl:m=B:=tO
     have xW:Wi (MatK W0 W0 A m (k+1) wr (fun i=>if i=k then wo.heap.size else Q i)):=qA (by
      refine Cv.o.next rb (zag _) tO tO ?_ (qAA eO fun b e=>by simp only[zad,zap.injEq] at e;subst e;exact aC.block _ tO (by simp;omega)) fun i hi=> ?_
      ·have e:(zah m (-1:Int)++zah (m-m) 0)=(zaS m).map fun _=> -1:=by
        refine zaR tZ fun i h1 h2=> ?_;simp
       rwa [e] at aa
      ·have h1:=Cv.o.lt i hi;exact(aC.block _ tO (by simp;omega)).trans (OZ i hi))
     have yH:Wi (Wf W0 W0 wr):=qA (jJ.o.grown aC tO (fun x hx=>by cases hx;omega));clear aa aC;go_wp2;go_roundw;exact⟨k+1,_,tO,by go_num,xW.o,yH.o,tO⟩;exact tM
  ·have IQ:A=k:=tO;subst IQ;have jh:=qA (il.full rb);clear il ab;obtain⟨X,hX⟩: ∃X,X=wo.heap.size:=⟨_,rfl⟩;have HX:=qA hX;have bN:Wf wo wo (wo.alloc (.cells #[] 92)):=(zae _ _).alloc (zag _) _;have oN:OwPc (wo.alloc (.cells #[] 92)) X (.slice (some ⟨wo,0,none⟩) 0 0) (pcs a b A B r (0*B)).2:=by rw[zaN,hX];exact qPJ wo (zag _)
   have mN:MatI X W0 W0 A B (wo.alloc (.cells #[] 92)) Q (fun _ _=> -1):=by
    rw[hX];exact jh.o.keep fun b hb=>zal wo _ b hb
   have tq:Wi (qIx (ixP a b A B r) A B (fun _ _=> -1) (pcs a b A B r (0*B)).1):=qA (by
    rw[zaN];exact fun i j hi hj=>⟨⟨⟨by show-9223372036854775808<=(-1:Int);decide,by show(-1:Int)<=9223372036854775807;decide⟩,by simp[pcs]⟩,by simp[pcs]⟩)
   have sN:X<(wo.alloc (.cells #[] 92)).heap.size:=by rw[hX];simp
   have ON:=qA oN;have MN:=qA mN;have yH:Wi (Wf W0 W0 (wo.alloc (.cells #[] 92))):=qA (HB.alloc tO _);have IU:W0.heap.size<X:=tO;clear bN oN mN q1;go_wp2;go_loopw [9,10] (fun out i wr=> ∃(k:Nat) (f:Nat->Nat->Int),k<=A/\i= .int .i64 k/\OwPc wr X out (pcs a b A B r (k*B)).2/\MatI X W0 W0 A B wr Q f/\qIx (ixP a b A B r) A B f (pcs a b A B r (k*B)).1/\Wf W0 W0 wr/\X<wr.heap.size) (fun _ i _=>A-(intOf i).toNat)
   case atStart=>exact⟨0,_,zaj _,rfl,ON,MN,tq,yH,sN⟩
   case round=>
    clear ON MN tq yH sN;obtain⟨k,f,hk,rfl,aa,dV,ix,ab,yD⟩:=hrel;obtain⟨wp,rfl⟩: ∃wp:Wg,wp=wr:=⟨_,rfl⟩;have HO:=qA aa;have ii:=qA dV;have fO:=qA ix;have aB:=qA ab;have q1:=(ab.cell (p:=⟨w,1,none⟩) bh).trans A1.o;clear aa dV ix ab;by_cases ac:k<A
    ·have tI:(k:Int)<(A:Int):=tO;go_wp2;go_loopw [9,11] (fun out j wr=> ∃(m:Nat) (f:Nat->Nat->Int),m<=B/\j= .int .i64 m/\OwPc wr X out (pcs a b A B r (k*B+m)).2/\MatI X W0 W0 A B wr Q f/\qIx (ixP a b A B r) A B f (pcs a b A B r (k*B+m)).1/\Wf W0 W0 wr/\X<wr.heap.size) (fun _ j _=>B-(intOf j).toNat)
     case atStart=>exact⟨0,f,zaj _,rfl,HO,ii,fO,aB,yD⟩
     case round=>
      clear HO ii fO aB yD q1;obtain⟨m,f,hm,rfl,aa,dV,ix,ab,yD⟩:=hrel;have HO:=qA aa;have ii:=qA dV;have fO:=qA ix;have aU:=qA ab;have q1:=(ab.cell (p:=⟨w.heap.size+1,1,none⟩) bk).trans B1.o;by_cases aj:m<B
      ·have fA:(m:Int)<(B:Int):=tO;have cO:=dV.cellO ac;have cI:=dV.cellI ac aj;have fI:=dV.free ac m;obtain⟨⟨SD,Cp⟩,_⟩:=ix k m ac aj;have zv:=qA Cp;have MX:=qA (qCE a b A B r (k*B+m));have wN:k*B+m<A*B:=by
        have:(k+1)*B<=A*B:=Nat.mul_le_mul_right B ac
        rw[zaP,zaQ] at this;omega
       have rm:=qHu a b A B r (k*B+m);have eX:=yV.o;generalize f k m=z at*;clear aa dV ix ab Cp;by_cases hz:0<=z
       ·have F:Wi (pcs a b A B r (k*B+(m+1))=pcs a b A B r (k*B+m)):=qA (by rw[<-zaL,MX.o];unfold pst2;rw[Wm (zv.o.1 hz)]);go_wp2;go_roundw;exact⟨m+1,f,tO,by go_num,by rw[F.o];exact HO.o,ii.o,by rw[F.o];exact fO.o,aU.o,yD⟩;exact tM
       ·have zM:k*B+m∉(pcs a b A B r (k*B+m)).1:=fun h=>hz (zv.o.2 h);have F:Wi (pcs a b A B r (k*B+(m+1))=((pcs a b A B r (k*B+m)).1++prsL a b A B (qB r) (k*B+m),(pcs a b A B r (k*B+m)).2++ [pcD a b A B r (k*B+m)])):=qA (by rw[<-zaL,MX.o];unfold pst2;rw[Wn zM]);have zi:=qA zM;have vZ:=qA wN;clear zM;obtain⟨Ao,capo,rfl,jn,uu,_⟩:=qAE HO.o;unfold maxLen at uu;have Mn:=ii.o.ltQ k ac;have Ro:Q k<wr.heap.size:=tO;have RO: ¬Q k=wr.heap.size:=tO;have Rx:W0.heap.size<wr.heap.size:=tO;have wH:Wi (∀p q x,x∈qB r->p∉(pcs a b A B r (k*B+m)).1->pnx a.2.2 b.2.2 B p x=some q->q∉(pcs a b A B r (k*B+m)).1):=qA fun p q x hx hp hq=>qPx H2.o bT.1 (Nat.le_of_lt wN) hx hp hq;have tN:Wi (∀p∈prsL a b A B (qB r) (k*B+m),ixP a b A B r p=((pcs a b A B r (k*B+m)).2.length:Int)):=qA fun p hp=>qPl H2.o bT.1 wN zi.o hp;have iT:=qCI (p:=k*B+m) (ls:=qB r) H2.o;have Me:=qA (tN _ iT);clear iT;generalize pcs a b A B r (k*B+m)=ST at*;obtain⟨M,L⟩:=ST;simp only at F zi zv HO fO rm jn wH tN Me⊢
        go_wp2;have Ng: ∀b,b≠Q k->b<wr.heap.size->(((wr.setCell ⟨Q k,m,none⟩ (.int .i64 L.length)).alloc (.cells #[.int .i64 k, .int .i64 m, .int .i64 0, .int .i64 0, .bool false] 92)).alloc (.cells #[.int .i64 k, .int .i64 m] 131)).heap[b]? =wr.heap[b]? :=fun b h1 h2=>by
         rw[zal _ _ b (by simp;omega),zal _ _ b (by simpa using h2)];exact zan wr _ _ b h1
        have zZ:MatI X W0 W0 A B (((wr.setCell ⟨Q k,m,none⟩ (.int .i64 L.length)).alloc (.cells #[.int .i64 k, .int .i64 m, .int .i64 0, .int .i64 0, .bool false] 92)).alloc (.cells #[.int .i64 k, .int .i64 m] 131)) Q (upd f k m (L.length:Int)):=
         (ii.o.set ac aj (z:=(L.length:Int)) ⟨tO,tO⟩).keep fun b hb=>by
          rw[zal _ _ b (by simp;omega),zal _ _ b (by simp;omega)]
        have NN:=qHL fO.o (i:=k) aj (z:=(L.length:Int)) tO ⟨tO,tO⟩ Me.o;have NG:OwPc (((wr.setCell ⟨Q k,m,none⟩ (.int .i64 L.length)).alloc (.cells #[.int .i64 k, .int .i64 m, .int .i64 0, .int .i64 0, .bool false] 92)).alloc (.cells #[.int .i64 k, .int .i64 m] 131)) X (.slice Ao L.length capo) L:=qAA HO.o fun b e=>by
         have h1:=HO.o.lt b e;exact Ng b tO h1.2
        have Hx:OwPr (((wr.setCell ⟨Q k,m,none⟩ (.int .i64 L.length)).alloc (.cells #[.int .i64 k, .int .i64 m, .int .i64 0, .int .i64 0, .bool false] 92)).alloc (.cells #[.int .i64 k, .int .i64 m] 131)) (wr.heap.size+1) (.slice (some ⟨wr.heap.size+1,0,none⟩) 1 1) B [k*B+m]:=qOz _ tZ aj _ tZ;have p0:(((wr.setCell ⟨Q k,m,none⟩ (.int .i64 L.length)).alloc (.cells #[.int .i64 k, .int .i64 m, .int .i64 0, .int .i64 0, .bool false] 92)).alloc (.cells #[.int .i64 k, .int .i64 m] 131)).cell? ⟨wr,0,none⟩=some (.int .i64 k):=by simp[go_sem]
        have p1:(((wr.setCell ⟨Q k,m,none⟩ (.int .i64 L.length)).alloc (.cells #[.int .i64 k, .int .i64 m, .int .i64 0, .int .i64 0, .bool false] 92)).alloc (.cells #[.int .i64 k, .int .i64 m] 131)).cell? ⟨wr,1,none⟩=some (.int .i64 m):=by simp[go_sem]
        have p2:(((wr.setCell ⟨Q k,m,none⟩ (.int .i64 L.length)).alloc (.cells #[.int .i64 k, .int .i64 m, .int .i64 0, .int .i64 0, .bool false] 92)).alloc (.cells #[.int .i64 k, .int .i64 m] 131)).cell? ⟨wr,2,none⟩=some (.int .i64 0):=by simp[go_sem]
        have p3:(((wr.setCell ⟨Q k,m,none⟩ (.int .i64 L.length)).alloc (.cells #[.int .i64 k, .int .i64 m, .int .i64 0, .int .i64 0, .bool false] 92)).alloc (.cells #[.int .i64 k, .int .i64 m] 131)).cell? ⟨wr,3,none⟩=some (.int .i64 0):=by simp[go_sem]
        have p4:(((wr.setCell ⟨Q k,m,none⟩ (.int .i64 L.length)).alloc (.cells #[.int .i64 k, .int .i64 m, .int .i64 0, .int .i64 0, .bool false] 92)).alloc (.cells #[.int .i64 k, .int .i64 m] 131)).cell? ⟨wr,4,none⟩=some (.bool false):=by simp[go_sem]
        have pF: ∀j,(((wr.setCell ⟨Q k,m,none⟩ (.int .i64 L.length)).alloc (.cells #[.int .i64 k, .int .i64 m, .int .i64 0, .int .i64 0, .bool false] 92)).alloc (.cells #[.int .i64 k, .int .i64 m] 131)).frozen? ⟨wr,j,none⟩=false:=fun j=>by simp[go_sem]
        have Vv:W0.heap.size<Q k:=by have:=jh.o.neP k ac;have:=(ii.o.rows k ac).1.lt (Q k) rfl;have:=ii.o.neP k ac;omega
        have b5:Wf W0 W0 (((wr.setCell ⟨Q k,m,none⟩ (.int .i64 L.length)).alloc (.cells #[.int .i64 k, .int .i64 m, .int .i64 0, .int .i64 0, .bool false] 92)).alloc (.cells #[.int .i64 k, .int .i64 m] 131)):=((aU.o.setCell (p:=⟨Q k,m,none⟩) (by show W0.heap.size<=Q k;omega) _).alloc (by simp;omega) _).alloc (by simp;omega) _;have s5:wr.heap.size+1<(((wr.setCell ⟨Q k,m,none⟩ (.int .i64 L.length)).alloc (.cells #[.int .i64 k, .int .i64 m, .int .i64 0, .int .i64 0, .bool false] 92)).alloc (.cells #[.int .i64 k, .int .i64 m] 131)).heap.size:=tZ;generalize ((wr.setCell ⟨Q k,m,none⟩ (.int .i64 L.length)).alloc (.cells #[.int .i64 k, .int .i64 m, .int .i64 0, .int .i64 0, .bool false] 92)).alloc (.cells #[.int .i64 k, .int .i64 m] 131)=W5 at*;obtain⟨pb,AG⟩: ∃pb,pb=wr.heap.size:=⟨_,rfl⟩;have ic:=qA AG;rw[<-AG] at Hx p0 p1 p2 p3 p4 pF s5⊢;have Rk:X<pb:=tO;have Aq:=qA zZ;have KJ:=qA NN;have q6:=qA NG;have Kc:=qA Hx;have dP:=qA b5;have E0:=qA p0;have E1:=qA p1;have E2:=qA p2;have E3:=qA p3;have E4:=qA p4;have EF:=qA pF;obtain⟨st,hst⟩: ∃st,st=k*B+m:=⟨_,rfl⟩;rw[<-hst] at F zi vZ KJ Kc tN;obtain⟨PS,oU⟩: ∃PS,PS=prsL a b A B (qB r) st:=⟨_,rfl⟩;have jW:Wi (PS=bfsF a.2.2 b.2.2 B (qB r) (A*B+1) 0 [st]):=qA (by rw[oU];rfl);have Iw:Wi (∀p q x,p∈PS->x∈qB r->pnx a.2.2 b.2.2 B p x=some q->q∈PS):=qA fun p q x hp hx hq=>by rw[oU] at hp⊢;exact qBC H2.o (fun x hx=>(qAT bT.1 x hx).1) vZ.o p hp x q hx hq
        rw[<-oU] at tN;have QM:Wi (pcD a b A B r st=((k:Int),(m:Int),(PS.length:Int),(edgL a.2.2 b.2.2 B r PS:Int),eqPc B PS)):=qA (by
         unfold pcD;rw[oU];have:=qKg (k:=k) aj
         rw[<-hst] at this;unfold prC at this;simp only[List.cons.injEq,Value.int.injEq,true_and,and_true] at this;rw[this.1,this.2])
        rw[QM.o,<-oU] at F;have eO:=qA hst;have ES:Wi (∀b,(zaD Ao L.length capo).ownBlock=some b->b<pb):=qA fun b e=>by have:=(HO.lt b e).2;have:=ic.o;omega
        clear Ng zZ NN NG Hx p0 p1 p2 p3 p4 pF b5 oU hst AG q1 cO cI fI HO ii fO jn hz;go_loopw [13,14] (fun t i wr=> ∃(k5:Nat) (o:List Nat) (f5:Nat->Nat->Int),k5<=o.length/\i= .int .i64 k5/\o.Nodup/\(∀q∈o,q<A*B/\q∉M)/\PS=bfsF a.2.2 b.2.2 B (qB r) (A*B+1-k5) k5 o/\OwPr wr (pb+1) t B o/\MatI X W0 W0 A B wr Q f5/\qIx (ixP a b A B r) A B f5 (M++o)/\wr.cell? ⟨pb,0,none⟩=some (.int .i64 k)/\wr.cell? ⟨pb,1,none⟩=some (.int .i64 m)/\wr.cell? ⟨pb,2,none⟩=some (.int .i64 k5)/\wr.cell? ⟨pb,3,none⟩=some (.int .i64 (edgL a.2.2 b.2.2 B r (o.take k5):Nat))/\wr.cell? ⟨pb,4,none⟩=some (.bool (eqPc B (o.take k5)))/\(∀j,wr.frozen? ⟨pb,j,none⟩=false)/\OwPc wr X (.slice Ao L.length capo) L/\Wf W0 W0 wr/\pb+1<wr.heap.size) (fun _ i _=>A*B+1-(intOf i).toNat)
        case atStart=>exact⟨0,[st],_,tZ,rfl,tZ,fun q hq=>by rw[zaw.1 hq];exact⟨vZ,zi⟩,jW.o,Kc.o,Aq.o,KJ.o,E0.o,E1.o,E2.o,E3.o,E4.o,EF.o,q6.o,dP.o,s5⟩
        case round=>
         clear Kc Aq KJ E0 E1 E2 E3 E4 EF q6 dP s5 jW;obtain⟨k5,o,f5,Vb,rfl,eL,iy,y8,kV,dV,ix,e0,e1,e2,e3,e4,ef,fe,ab,rp⟩:=hrel;obtain⟨wx,rfl⟩: ∃wx:Wg,wx=wr:=⟨_,rfl⟩;have NH:=qBr eL (fun q hq=>(iy q hq).1);have mT:=qA eL;have lm:=qA iy;have jW:=qA y8;have ii:=qA dV;have fO:=qA ix;have lY:=qA fe;have cC:=qA ab;have vx:=qA kV;have EF:=qA ef;have E0:=qA e0;have E1:=qA e1;have E3:=qA e3;obtain⟨At,capt,rfl,no,Fk,_,y9⟩:=qAE kV;unfold maxLen at Fk;by_cases hlt5:k5<o.length
         ·obtain⟨tb,rfl,Kf,rJ⟩:=y9 tO;obtain⟨p,hp⟩: ∃p,o[k5]? =some p:=⟨o[k5],tZ⟩;have lR:o[k5]=p:=by rw[zar hlt5] at hp;injection hp
          have km:=lm.o p (zaJ hp);have TX:Wi (p∈PS):=qA (by rw[jW.o];exact qQM H2.o (p:=0) _ _ _ (zaJ hp));have rx:wx.cell? ⟨tb,k5*2+0,none⟩=some (.int .i64 ((p/B:Nat):Int)):=by
           rw[zak.cellAt kV (k5*2+0) tO,qEN B o k5 0 hlt5 tO,lR];rfl
          have rZ:wx.cell? ⟨tb,k5*2+1,none⟩=some (.int .i64 ((p%B:Nat):Int)):=by
           rw[zak.cellAt kV (k5*2+1) tO,qEN B o k5 1 hlt5 tO,lR];rfl
          obtain⟨un,cQ⟩: ∃un,un=p/B:=⟨_,rfl⟩;obtain⟨vn,d6⟩: ∃vn,vn=p%B:=⟨_,rfl⟩;rw[<-cQ] at rx;rw[<-d6] at rZ;rw[zaA] at rx;have EQS:Wi (eqPc B (o.take (k5+1))=(eqPc B (o.take k5)||decide (un=vn))):=qA (by rw[qOR B o k5 hlt5,lR,cQ,d6]);have gF:=qA cQ;have nD:=qA d6;have ntb: ¬pb=tb:=tO;have ntb': ¬tb=pb:=tO;have Ps:=ef 2;have Ni:=ef 4;have SG:(k5:Int)<(o.length:Int):=tO;have Gk:pb<wx.heap.size:=tO;clear y9 eL iy y8 kV dV ix fe ab ef hp cQ d6 e0 e1 e3;go_wp2_with fail;have x4:(wx.setCell ⟨pb,2,none⟩ (.int .i64 ((k5:Int)+1))).cell? ⟨pb,4,none⟩=some (.bool (eqPc B (o.take k5))):=by
           rw[zaf _ _ _ _ tZ];exact e4
          have My:(wx.setCell ⟨pb,2,none⟩ (.int .i64 ((k5:Int)+1))).cell? ⟨tb,k5*2,none⟩=some (.int .i64 un):=(qc _ _ _ _ _ _ ntb').trans rx;have NP:(wx.setCell ⟨pb,2,none⟩ (.int .i64 ((k5:Int)+1))).cell? ⟨tb,k5*2+1,none⟩=some (.int .i64 vn):=(qc _ _ _ _ _ _ ntb').trans rZ;have xf:(wx.setCell ⟨pb,2,none⟩ (.int .i64 ((k5:Int)+1))).frozen? ⟨pb,4,none⟩=false:=by rw[zao];exact Ni
          generalize Mq:wx.setCell ⟨pb,2,none⟩ (.int .i64 ((k5:Int)+1))=wy at*;have mQ:=qA Mq;clear Mq;generalize Si:eqPc B (o.take k5)=ee at*;clear Si;have sy:wy.heap.size=wx.heap.size:=by rw[<-mQ.o];simp
          have DE:tb<wy.heap.size:=tO;have AX:pb<wy.heap.size:=tO;have f4:=BelW.cell x4 AX;have OU:=BelW.cell My DE;have RB:=BelW.cell NP DE;generalize Fi:(ee||decide (un=vn))=nw at*;have ut:=qA Fi;clear Fi;have key:Wi (∀wv,Wf wy wy wv->wv.cell? ⟨pb,4,none⟩=some (.bool ee)/\wv.frozen? ⟨pb,4,none⟩=false):=qA fun wv hb=>⟨(hb.cell (p:=⟨pb,4,none⟩) AX).trans x4,(hb.frozen (p:=⟨pb,4,none⟩) AX).trans xf⟩;have Bt:ee=false->((un:Int)==(vn:Int))=nw:=fun h=>by
           have h1:=ut.o;rw[h,Bool.false_or] at h1;rw[<-h1];by_cases h2:un=vn
           ·subst h2;simp
           ·rw[decide_eq_false h2];exact beq_eq_false_iff_ne.2 (fun e=>h2 (Int.ofNat_inj.mp e))
          have Dk:ee=true->nw=true:=fun h=>by have h1:=ut.o;rw[h,Bool.true_or] at h1;exact h1.symm
          have Q0:Wi (∀wv,Wf wy wy wv->wv.cell? ⟨w,0,none⟩=some (.int .i64 r)):=qA fun wv hb=>by
           have h1:=(cC.cell (p:=⟨w,0,none⟩) bh).trans A0.o;rw[(hb.cell (p:=⟨w,0,none⟩) (by show w.heap.size<wy.heap.size;omega)),<-mQ.o];exact(qc _ _ _ _ _ _ tO).trans h1
          have tA:Wi (∀wv,Wf wy wy wv-> ∀b,b≠pb->b<wx.heap.size->(wv.setCell ⟨pb,4,none⟩ (.bool nw)).heap[b]? =wx.heap[b]?):=qA fun wv hb b h1 h2=>by
           rw[zan wv _ _ b h1,hb.block b tO,<-mQ.o];exact zan wx _ _ b h1
          have pB:Wi (∀wv,Wf wy wy wv->(wv.setCell ⟨pb,4,none⟩ (.bool nw)).cell? ⟨pb,0,none⟩=some (.int .i64 k)/\(wv.setCell ⟨pb,4,none⟩ (.bool nw)).cell? ⟨pb,1,none⟩=some (.int .i64 m)/\(wv.setCell ⟨pb,4,none⟩ (.bool nw)).cell? ⟨pb,2,none⟩=some (.int .i64 ((k5:Int)+1))/\(wv.setCell ⟨pb,4,none⟩ (.bool nw)).cell? ⟨pb,3,none⟩=some (.int .i64 (edgL a.2.2 b.2.2 B r (o.take k5):Nat))/\(wv.setCell ⟨pb,4,none⟩ (.bool nw)).cell? ⟨pb,4,none⟩=some (.bool nw)/\(∀j,(wv.setCell ⟨pb,4,none⟩ (.bool nw)).frozen? ⟨pb,j,none⟩=false)):=qA fun wv hb=>by
           have cc: ∀j,wv.cell? ⟨pb,j,none⟩=(wx.setCell ⟨pb,2,none⟩ (.int .i64 ((k5:Int)+1))).cell? ⟨pb,j,none⟩:=fun j=>by rw[mQ.o];exact hb.cell (p:=⟨pb,j,none⟩) AX
           refine⟨?_,?_,?_,?_,?_,fun j=> ?_⟩
           ·rw[zaf _ _ _ _ tZ,cc,zaf _ _ _ _ tZ];exact E0.o
           ·rw[zaf _ _ _ _ tZ,cc,zaf _ _ _ _ tZ];exact E1.o
           ·rw[zaf _ _ _ _ tZ,cc,zaq _ _ _ e2]
           ·rw[zaf _ _ _ _ tZ,cc,zaf _ _ _ _ tZ];exact E3.o
           ·exact zaq _ _ _ (key wv hb).1
           ·rw[zao];have h1:=hb.frozen (p:=⟨pb,j,none⟩) AX;rw[h1,<-mQ.o,zao];exact EF.o j
          have lH:Wi (∀wv,Wf wy wy wv->Wf W0 W0 (wv.setCell ⟨pb,4,none⟩ (.bool nw))):=qA fun wv hb=>by
           have h1:Wf W0 W0 wy:=by rw[<-mQ.o];exact cC.o.setCell (by show W0.heap.size<=pb;omega) _
           exact(h1.trans (hb.mono tO)).setCell (by show W0.heap.size<=pb;omega) _
          have nwpb: ¬pb=w.heap.size:=tO;have nwpb': ¬w.heap.size=pb:=tO;have dX:Wi (∀W:Wg,Wk Tryz.prog 79 #[.int .i64 r] W fun e w'=> ∃s,e= .returned s/\OwI w' W.heap.size s (qB r)/\Wf W.heap.size W w'):=qA fun W=>qEU r W tO;clear e2 x4 xf My NP rx rZ Ps Ni e4;cases ee
          all_goals
           first
            | (have pr:=Bt rfl)
            | (have kD:=Dk rfl;subst kD)
           clear Bt Dk;(refine qCD 16 tK (by rfl) tK tK ?_;dsimp only[dumL,qIB];(repeat(go_big_quiet_step (fail)));refine wpQuiet_nil ?_;intro wv hw';obtain⟨pq,ae⟩:=hw';have bv:=pq.h;rw[<-ae] at bv;clear ae pq)
           obtain⟨y4,yf⟩:=key.o wv bv;have y0:=Q0.o wv bv;have Nu:=qA (tA wv bv);have LJ:=qA (pB wv bv);have hZ:=qA (lH wv bv);have sv:=bv.size;have ar: ∀z,(wv.setCell ⟨pb,4,none⟩ z).heap.size=wv.heap.size:=fun z=>tZ;have mX:=qA ar;clear bv key Q0 tA pB lH ar f4 OU RB;go_wp2_with fail;refine(dX _).mono ?_
           rintro e wl ⟨rl,rfl,ol,bl⟩;have nM:=mX.o;obtain⟨z0,z1,z2,z3,z4,zf⟩:=LJ.o;have wQ: ∀(W:Wg),W.heap.size=wv.heap.size->pb<W.heap.size:=fun W h=>by rw[h];omega
           have l0:=(bl.cell (p:=⟨pb,0,none⟩) (wQ _ (nM _))).trans z0;have l1:=(bl.cell (p:=⟨pb,1,none⟩) (wQ _ (nM _))).trans z1;have l2:=(bl.cell (p:=⟨pb,2,none⟩) (wQ _ (nM _))).trans z2;have l3:=(bl.cell (p:=⟨pb,3,none⟩) (wQ _ (nM _))).trans z3;have l4:=(bl.cell (p:=⟨pb,4,none⟩) (wQ _ (nM _))).trans z4;rw[<-EQS.o] at l4;have lF: ∀j,wl.frozen? ⟨pb,j,none⟩=false:=fun j=>(bl.frozen (p:=⟨pb,j,none⟩) (wQ _ (nM _))).trans (zf j);have gN: ∀b,b≠pb->b<wx.heap.size->wl.heap[b]? =wx.heap[b]? :=fun b h1 h2=>(bl.block b (by rw[nM];omega)).trans (Nu b h1 h2);have Ho:wv.heap.size<=wl.heap.size:=by have:=bl.size;rw[nM] at this;exact this
           obtain⟨Al,capl,rfl,aZ,dK,_,fJ⟩:=ol.form;have dH:=qAX r;obtain⟨gl,rfl,oI,kn⟩:=fJ tO;rw[nM] at oI;unfold maxLen at dK;have wE:=qA ol.rd;have Nw:=qA (ii.keep (w':=wl) fun b hb=>gN b tO tO);have Mr:Wi (OwPr wl (pb+1) (.slice (some ⟨tb,0,none⟩) o.length capt) B o):=qA (qAA vx fun b e=>by
            simp only[zad,zap.injEq] at e;subst e;exact gN _ tO rJ)
           have Ld:Wi (OwPc wl X (.slice Ao L.length capo) L):=qA (qAA lY fun b e=>gN b (by have:=ES.o b e;omega) (lY.lt b e).2);have L5:Wi (Wf W0 W0 wl):=qA (hZ.trans (bl.mono (by rw[nM];omega)));have L0:=qA l0;have L1:=qA l1;have L2:=qA l2;have L3:=qA l3;have L4:=qA l4;have LF:=qA lF;have Lg:gl≠pb:=tO;have Rj:X<gl:=tO;have Nq:gl≠tb:=tO;have fB:=qA dH;have C6:pb+1<wl.heap.size:=tO;clear z0 z1 z2 z3 z4 zf l0 l1 l2 l3 l4 lF gN wQ ol bl fJ nM LJ Nu hZ y4 yf y0 dH dX;have kX:Wi (PS=bfsF a.2.2 b.2.2 B (qB r) (A*B+1-(k5+1)) (k5+1) ((qB r).foldl (pst a.2.2 b.2.2 B p) o)):=qA (by
            rw[jW.o,show A*B+1-k5=(A*B+1-(k5+1))+1 by omega];conv=>lhs;unfold bfsF
            rw[zar hlt5,lR])
           have eE:Wi (∀i:Nat,(((qB r).take i).foldl (pst a.2.2 b.2.2 B p) o)[k5]? =some p):=qA fun i=>qAO (a:=a) (b:=b) (B:=B) _ p o (by rw[zar hlt5,lR]);have gy:Wi (∀(i:Nat) (hi:i<(qB r).length),((qB r).take (i+1)).foldl (pst a.2.2 b.2.2 B p) o=pst a.2.2 b.2.2 B p (((qB r).take i).foldl (pst a.2.2 b.2.2 B p) o) (qB r)[i]):=qA fun i hi=>by rw[zas hi,List.foldl_append];rfl
           have iL:Wi (∀i:Nat,(((qB r).take i).foldl (pst a.2.2 b.2.2 B p) o).Nodup):=qA fun i=>qCP (a:=a) (b:=b) (B:=B) _ p o mT.o;have mA:Wi (∀i:Nat,∀q∈((qB r).take i).foldl (pst a.2.2 b.2.2 B p) o,q<A*B/\q∉M):=qA fun i=>qDb (ls:=qB r) (S:=fun q=>q<A*B/\q∉M) (fun p x q hp hx hq=>⟨qHk H2 hq,wH p q x hx hp.2 hq⟩) km _ o (fun x hx=>zaK hx) lm.o;have uj:Wi (∀(i:Nat) (hi:i<(qB r).length),cntP a.2.2 b.2.2 B p (qB r) (i+1)=cntP a.2.2 b.2.2 B p (qB r) i+if 0<(qB r)[i]/\(pnx a.2.2 b.2.2 B p (qB r)[i]).isSome=true then 1 else 0):=qA fun i hi=>qMh _ _ _ _ _ i hi;have aW:Wi (∀i,cntP a.2.2 b.2.2 B p (qB r) i<=i):=qA fun i=>qQc _ _ _ _ _ i;have ln:Wi (edgL a.2.2 b.2.2 B r (o.take (k5+1))=edgL a.2.2 b.2.2 B r (o.take k5)+cntP a.2.2 b.2.2 B p (qB r) (qB r).length):=qA (by rw[qMb _ _ _ _ _ _ hlt5,lR,qML]);have V5:edgL a.2.2 b.2.2 B r (o.take k5)<=4800:=by
            have h1:=qGn a.2.2 b.2.2 B r bT.1 (o.take k5);have h2:=yV.o;rw[zaH] at h1;omega
           generalize edgL a.2.2 b.2.2 B r (o.take k5)=E5 at*;have pt:Wi (((qB r).foldl (pst a.2.2 b.2.2 B p) o).take (k5+1)=o.take (k5+1)):=qA (qMC _ _ _ hlt5);generalize Dj:eqPc B (o.take (k5+1))=q5 at*;have jt:=qA Dj;clear Dj;have lh:Wi (∀i (hi:i<(qB r).length),(qB r)[i]∈qB r):=qA fun i hi=>tZ;have Q8:Wi (I64s (qB r)):=qA wE.o.2;have Jl:Wi (qB r=qB r):=qA rfl;obtain⟨ls,iJ⟩: ∃ls,ls=qB r:=⟨_,rfl⟩;have pZ:=qA iJ;rw[<-iJ] at eE gy iL mA uj aW ln lh Q8 pt kX wE fB aZ⊢;clear iJ Jl;go_wp2;go_loopw [13,115] (fun t j wr=> ∃(i6:Nat) (f6:Nat->Nat->Int),i6<=ls.length/\j= .int .i64 i6/\OwPr wr (pb+1) t B ((ls.take i6).foldl (pst a.2.2 b.2.2 B p) o)/\MatI X W0 W0 A B wr Q f6/\qIx (ixP a b A B r) A B f6 (M++(ls.take i6).foldl (pst a.2.2 b.2.2 B p) o)/\wr.cell? ⟨pb,0,none⟩=some (.int .i64 k)/\wr.cell? ⟨pb,1,none⟩=some (.int .i64 m)/\wr.cell? ⟨pb,2,none⟩=some (.int .i64 ((k5:Int)+1))/\wr.cell? ⟨pb,3,none⟩=some (.int .i64 ((E5+cntP a.2.2 b.2.2 B p ls i6:Nat):Int))/\wr.cell? ⟨pb,4,none⟩=some (.bool q5)/\(∀j,wr.frozen? ⟨pb,j,none⟩=false)/\OwPc wr X (.slice Ao L.length capo) L/\RdI wr (.slice (some ⟨gl,0,none⟩) ls.length capl) ls/\t.ownBlock≠some gl/\gl<wr.heap.size/\Wf W0 W0 wr/\pb+1<wr.heap.size) (fun _ j _=>ls.length-(intOf j).toNat)
           case atStart=>exact⟨0,f5,zaj _,rfl,Mr,Nw,fO,L0,L1,L2,L3,L4,LF,Ld,wE,by simp[zad];omega,kn,L5.o,C6⟩
           case round=>
            clear Mr Nw fO L0 L1 L2 L3 L4 LF Ld wE L5 C6 ii lY vx jW EF E0 E1 E3;obtain⟨i6,f6,VD,rfl,kV,dV,ix,e0,e1,e2,e3,e4,ef,fe,aP,ai,Oz,ab,Ky⟩:=hrel;have ii:=qA dV;have fO:=qA ix;have lY:=qA fe;have vx:=qA kV;have dC:=qA aP;have a8:=qA ai;have ik:=qA ab;have E0:=qA e0;have E1:=qA e1;have E2:=qA e2;have E3:=qA e3;have E4:=qA e4;have EF:=qA ef;have Ue:=aW.o i6;clear dV ix fe ai ab e0 e1 e2 e3 e4 ef;by_cases hlt6:i6<ls.length
            ·have MO:=lh.o i6 hlt6;have HS:=qA (gy i6 hlt6);have HC:=qA (uj i6 hlt6);have dj:=eE.o i6;have Im:=mA.o i6;have P7:=qBr (iL i6) (fun q hq=>(Im q hq).1);obtain⟨bl',offl',gD,_,gX⟩:=aP.at tO;obtain⟨rfl,rfl⟩:gl=bl'/\0=offl':=by simpa using gD
             have c0:=gX i6 hlt6;rw[Nat.zero_add] at c0;have Lk:=qA MO;generalize ls[i6]=x at*;generalize (ls.take i6).foldl (pst a.2.2 b.2.2 B p) o=om at*;have eV:k5<om.length:=(zau.1 dj).1;have iR:om[k5]=p:=by rw[zar eV] at dj;injection dj
             obtain⟨SH,jP,rfl,PT,SC,_,Dn⟩:=qAE kV;obtain⟨uC,rfl,Ms,uH⟩:=Dn tO;have rx:wr.cell? ⟨uC,k5*2,none⟩=some (.int .i64 un):=by
              have h1:=zak.cellAt kV (k5*2+0) tO;rw[qEN B om k5 0 eV tO,iR] at h1;rw[gF.o];exact h1
             have rZ:wr.cell? ⟨uC,k5*2+1,none⟩=some (.int .i64 vn):=by
              have h1:=zak.cellAt kV (k5*2+1) tO;rw[qEN B om k5 1 eV tO,iR] at h1;rw[nD.o];exact h1
             have a0:=(ik.o.cell (p:=⟨w,0,none⟩) bh).trans A0.o;have a1:=(ik.o.cell (p:=⟨w,1,none⟩) bh).trans A1.o;have a2:=(ik.o.cell (p:=⟨w,2,none⟩) bh).trans A2.o;have b0:=(ik.o.cell (p:=⟨w.heap.size+1,0,none⟩) bk).trans B0.o;have b1:=(ik.o.cell (p:=⟨w.heap.size+1,1,none⟩) bk).trans B1.o;have b2:=(ik.o.cell (p:=⟨w.heap.size+1,2,none⟩) bk).trans B2.o;have Kb:(k5:Int)<(om.length:Int):=tO;have nA:=qA (fun W h=>qAI (.agg #[.int .i64 r, .int .i64 A, .slice Aa a.2.2.length capa]) a (un:Int) x W h (ONEA.o (un:Int) x) LETA.o);have nk:=qA (fun W h=>qAI (.agg #[.int .i64 r, .int .i64 B, .slice Ab b.2.2.length capb]) b (vn:Int) x W h (ONEB.o (vn:Int) x) LETB.o);have gn:Wi (∀W,Wf W0 W0 W->ArgG W (.agg #[.int .i64 r, .int .i64 A, .slice Aa a.2.2.length capa]) a):=qA fun W hb=>cJ.o.below (BX.o.trans (hb.mono tO));have kB:Wi (∀W,Wf W0 W0 W->ArgG W (.agg #[.int .i64 r, .int .i64 B, .slice Ab b.2.2.length capb]) b):=qA fun W hb=>aS.o.below (BX.o.trans (hb.mono tO));clear gX gD aP kV Dn dj iR MO;go_wp2_with fail;have f0:=BelW.cell a0 (show w.heap.size<wr.heap.size by omega);have f1:=BelW.cell a1 (show w.heap.size<wr.heap.size by omega);have f2:=BelW.cell a2 (show w.heap.size<wr.heap.size by omega);have f3:=BelW.cell b0 (show w.heap.size+1<wr.heap.size by omega);have f4:=BelW.cell b1 (show w.heap.size+1<wr.heap.size by omega);have Rg:=BelW.cell b2 (show w.heap.size+1<wr.heap.size by omega);have Sh:=BelW.cell rx uH;have f7:=BelW.cell rZ uH;(refine qG tK tK ?_;(repeat(go_big_quiet_step (first | (go_at_call 80;with_reducible exact Calls.bel_of (nA.o _ (gn.o _ (ik.o.trans ((BelW.h _).mono tO))))) | (go_at_call 80;with_reducible exact Calls.bel_of (nk.o _ (kB.o _ (ik.o.trans ((BelW.h _).mono tO))))))));refine wpQuiet_nil ?_;intro wq hw';obtain⟨pq,ae⟩:=hw';have bq:=pq.h;rw[<-ae] at bq;clear ae pq)
             have sq:=bq.size;have my:pb<wr.heap.size:=tO;have jl:=qA (ii.keep (w':=wq) fun b hb=>bq.block b tO);have sI:Wi (OwPr wq (pb+1) (.slice (some ⟨uC,0,none⟩) om.length jP) B om):=qA (qP vx bq);have rX:Wi (OwPc wq X (.slice Ao L.length capo) L):=qA (qP lY bq);have gZ:=qA (dC.below bq);have n8:Wi (Wf W0 W0 wq):=qA (ik.trans (bq.mono tO));have C0:=qA ((bq.cell (p:=⟨pb,0,none⟩) my).trans E0);have C1:=qA ((bq.cell (p:=⟨pb,1,none⟩) my).trans E1);have C2:=qA ((bq.cell (p:=⟨pb,2,none⟩) my).trans E2);have C3:=qA ((bq.cell (p:=⟨pb,3,none⟩) my).trans E3);have C4:=qA ((bq.cell (p:=⟨pb,4,none⟩) my).trans E4);have CF:Wi (∀j,wq.frozen? ⟨pb,j,none⟩=false):=qA fun j=>(bq.frozen (p:=⟨pb,j,none⟩) my).trans (EF j);have NA:Wi (qF a.2.2 un x= -1\/(0<=qF a.2.2 un x/\qF a.2.2 un x<A)):=qA (by have h1:=qR H2.o.ga un x;rwa [H2.o.sa] at h1);have NB:Wi (qF b.2.2 vn x= -1\/(0<=qF b.2.2 vn x/\qF b.2.2 vn x<B)):=qA (by have h1:=qR H2.o.gb vn x;rwa [H2.o.sb] at h1);have PX:Wi (pnx a.2.2 b.2.2 B p x=if 0<=qF a.2.2 un x/\0<=qF b.2.2 vn x then some ((qF a.2.2 un x).toNat*B+(qF b.2.2 vn x).toNat) else none):=qA (by unfold pnx;rw[<-gF.o,<-nD.o]);clear bq f0 f1 f2 f3 f4 Rg Sh f7 a0 a1 a2 b0 b1 b2 rx rZ c0 nA nk gn kB;generalize qF a.2.2 un x=y1 at*;generalize qF b.2.2 vn x=y2 at*;rcases NA.o with hy | hy
             ·have fK:pnx a.2.2 b.2.2 B p x=none:=by rw[PX.o,Wn tO]
              have F:Wi (pst a.2.2 b.2.2 B p om x=om):=qA (by unfold pst;rw[fK]);have G:Wi (cntP a.2.2 b.2.2 B p ls (i6+1)=cntP a.2.2 b.2.2 B p ls i6):=qA (by rw[HC.o,fK];simp);subst hy;clear fK;go_wp2;go_roundw;exact⟨i6+1,f6,tO,by go_num,by rw[HS.o,F.o];exact sI.o,jl.o,by rw[HS.o,F.o];exact fO.o,C0.o,C1.o,C2.o,by rw[G.o];exact C3.o,C4.o,CF.o,rX.o,gZ.o,a8.o,tO,n8.o,tO⟩;exact tM
             rcases NB.o with hz | hz
             ·have fK:pnx a.2.2 b.2.2 B p x=none:=by rw[PX.o,Wn tO]
              have F:Wi (pst a.2.2 b.2.2 B p om x=om):=qA (by unfold pst;rw[fK]);have G:Wi (cntP a.2.2 b.2.2 B p ls (i6+1)=cntP a.2.2 b.2.2 B p ls i6):=qA (by rw[HC.o,fK];simp);have eK: ¬y1<0:=tO;subst hz;clear fK;go_wp2;go_roundw;exact⟨i6+1,f6,tO,by go_num,by rw[HS.o,F.o];exact sI.o,jl.o,by rw[HS.o,F.o];exact fO.o,C0.o,C1.o,C2.o,by rw[G.o];exact C3.o,C4.o,CF.o,rX.o,gZ.o,a8.o,tO,n8.o,tO⟩;exact tM
             obtain⟨s1,rfl⟩: ∃s1:Nat,y1=(s1:Int):=⟨y1.toNat,tO⟩;obtain⟨t1,rfl⟩: ∃t1:Nat,y2=(t1:Int):=⟨y2.toNat,tO⟩;have aE:s1<A:=tO;have uI:t1<B:=tO;have fK:pnx a.2.2 b.2.2 B p x=some (s1*B+t1):=by rw[PX.o,Wm ⟨hy.1,hz.1⟩];simp only[zaF]
             have MC:s1*B+t1∉M:=wH.o p _ x (by rw[<-pZ.o];exact Lk.o) km.2 fK;have yi:=(fO s1 t1 aE uI).1;have yZ:Wi (ixP a b A B r (s1*B+t1)=(L.length:Int)):=qA (tN _ (Iw p _ x TX (by rw[<-pZ.o];exact Lk.o) fK));have mU:Wi (0<=f6 s1 t1↔s1*B+t1∈om):=qA (by rw[yi.2,zav];exact⟨fun h=>h.elim (fun h=>absurd h MC) id, .inr⟩);have Gq:=yi.1;have PST:Wi (pst a.2.2 b.2.2 B p om x=if s1*B+t1∈om then om else om++ [s1*B+t1]):=qA (by unfold pst;rw[fK]);have GP:Wi (0<x->cntP a.2.2 b.2.2 B p ls (i6+1)=cntP a.2.2 b.2.2 B p ls i6+1):=qA fun h=>by rw[HC.o,fK,Wm ⟨h,rfl⟩]
             have GN:Wi (¬0<x->cntP a.2.2 b.2.2 B p ls (i6+1)=cntP a.2.2 b.2.2 B p ls i6):=qA fun h=>by rw[HC.o,Wn (fun h'=>h h'.1)];rfl
             have cO:=jl.o.cellO aE;have cI:=jl.o.cellI aE uI;have fI:=jl.o.free aE t1;have Mn:=jl.o.ltQ s1 aE;have Vn:W0.heap.size<=Q s1:=((jl.o.rows s1 aE).1.lt (Q s1) rfl).1;have S9: ¬pb=W0.heap.size:=tO;have Sq: ¬pb=Q s1:=tO;have cZ:(0:Int)<=(s1:Int):=hy.1;have S7:(0:Int)<=(t1:Int):=hz.1;have S4: ¬(s1:Int)<0:=tO;have P9: ¬(t1:Int)<0:=tO;have xK:(s1:Int)<(A:Int):=hy.2;have KQ:(t1:Int)<(B:Int):=hz.2;obtain⟨en,JZ⟩: ∃en,en=E5+cntP a.2.2 b.2.2 B p ls i6:=⟨_,rfl⟩;have R6:en<=10000:=by have h1:=fB.o;omega
             have NL:=qA JZ;rw[<-JZ] at C3;generalize f6 s1 t1=z at cI mU Gq;obtain⟨q,hq⟩: ∃q,q=s1*B+t1:=⟨_,rfl⟩;rw[<-hq] at PST mU;have HQ:=qA hq;have c3:=C3.o;have f3:=CF.o 3;have Vd:IntKind.i64.wrap ((en:Int)+1)=(en:Int)+1:=by rw[IntKind.wrap_i64];omega
             have Sb:gl<wq.heap.size:=tO;clear fK yi MC JZ hq hy hz NA NB PX;by_cases hx:0<x
             ·have G:=qA (GP hx);have k8: ∀b',b'≠pb->(wq.setCell ⟨pb,3,none⟩ (.int .i64 ((en:Int)+1))).heap[b']? =wq.heap[b']? :=fun b' h=>zan wq _ _ b' h;have ug:=qA (jl.keep (w':=(wq.setCell ⟨pb,3,none⟩ (.int .i64 ((en:Int)+1)))) fun b' aL=>k8 b' tO);have Dq:Wi (OwPr (wq.setCell ⟨pb,3,none⟩ (.int .i64 ((en:Int)+1))) (pb+1) (.slice (some ⟨uC,0,none⟩) om.length jP) B om):=qA (qAA sI fun b' e=>by
               simp only[zad,zap.injEq] at e;subst e;exact k8 _ tO)
              have yv:Wi (OwPc (wq.setCell ⟨pb,3,none⟩ (.int .i64 ((en:Int)+1))) X (.slice Ao L.length capo) L):=qA (qAA rX fun b' e=>k8 b' (by have:=ES.o b' e;omega));have MU:wq.grownBy (wq.setCell ⟨pb,3,none⟩ (.int .i64 ((en:Int)+1))) (some pb):=qAl _ _ _ _;have uq:=qA (gZ.o.grown MU fun y h h'=>by simp[zad] at h h';omega);have hZ:Wi (Wf W0 W0 (wq.setCell ⟨pb,3,none⟩ (.int .i64 ((en:Int)+1)))):=qA (n8.o.setCell (by show W0.heap.size<=pb;omega) _);have D0:Wi ((wq.setCell ⟨pb,3,none⟩ (.int .i64 ((en:Int)+1))).cell? ⟨pb,0,none⟩=some (.int .i64 k)):=qA (by rw[zaf _ _ _ _ tZ];exact C0.o);have D1:Wi ((wq.setCell ⟨pb,3,none⟩ (.int .i64 ((en:Int)+1))).cell? ⟨pb,1,none⟩=some (.int .i64 m)):=qA (by rw[zaf _ _ _ _ tZ];exact C1.o);have D2:Wi ((wq.setCell ⟨pb,3,none⟩ (.int .i64 ((en:Int)+1))).cell? ⟨pb,2,none⟩=some (.int .i64 ((k5:Int)+1))):=qA (by rw[zaf _ _ _ _ tZ];exact C2.o);have D3:Wi ((wq.setCell ⟨pb,3,none⟩ (.int .i64 ((en:Int)+1))).cell? ⟨pb,3,none⟩=some (.int .i64 ((E5+cntP a.2.2 b.2.2 B p ls (i6+1):Nat):Int))):=qA (by
               rw[G.o,<-zaL,<-NL.o];exact zaq _ _ _ c3)
              have D4:Wi ((wq.setCell ⟨pb,3,none⟩ (.int .i64 ((en:Int)+1))).cell? ⟨pb,4,none⟩=some (.bool q5)):=qA (by rw[zaf _ _ _ _ tZ];exact C4.o);have DF:Wi (∀j,(wq.setCell ⟨pb,3,none⟩ (.int .i64 ((en:Int)+1))).frozen? ⟨pb,j,none⟩=false):=qA fun j=>by rw[zao];exact CF.o j
              have Vz:(wq.setCell ⟨pb,3,none⟩ (.int .i64 ((en:Int)+1))).cell? ⟨W0,s1,none⟩=some (.slice (some ⟨Q s1,0,none⟩) B B):=(qc _ _ _ _ _ _ tO).trans cO;have V7:(wq.setCell ⟨pb,3,none⟩ (.int .i64 ((en:Int)+1))).cell? ⟨Q s1,t1,none⟩=some (.int .i64 z):=(qc _ _ _ _ _ _ tO).trans cI;have Vq:(wq.setCell ⟨pb,3,none⟩ (.int .i64 ((en:Int)+1))).frozen? ⟨Q s1,t1,none⟩=false:=by rw[zao];exact fI
              clear k8 MU;by_cases nj:0<=z
              ·have F:Wi (pst a.2.2 b.2.2 B p om x=om):=qA (by rw[PST.o,Wm (mU.o.1 nj)]);go_wp2;go_roundw;exact⟨i6+1,f6,tO,by go_num,by rw[HS.o,F.o];exact Dq.o,ug.o,by rw[HS.o,F.o];exact fO.o,D0.o,D1.o,D2.o,D3.o,D4.o,DF.o,yv.o,uq.o,a8.o,by first | omega | (simp;omega),hZ.o,by first | omega | (simp;omega)⟩;exact tM
              ·have F:Wi (pst a.2.2 b.2.2 B p om x=om++ [q]):=qA (by rw[PST.o,Wn (fun h=>nj (mU.o.2 h))]);have wI: ∀b',b'≠Q s1->((wq.setCell ⟨pb,3,none⟩ (.int .i64 ((en:Int)+1))).setCell ⟨Q s1,t1,none⟩ (.int .i64 L.length)).heap[b']? =(wq.setCell ⟨pb,3,none⟩ (.int .i64 ((en:Int)+1))).heap[b']? :=fun b' h=>zan (wq.setCell ⟨pb,3,none⟩ (.int .i64 ((en:Int)+1))) _ _ b' h;have vq:Wi (OwPr ((wq.setCell ⟨pb,3,none⟩ (.int .i64 ((en:Int)+1))).setCell ⟨Q s1,t1,none⟩ (.int .i64 L.length)) (pb+1) (.slice (some ⟨uC,0,none⟩) om.length jP) B om):=qA (qAA Dq fun b' e=>by
                simp only[zad,zap.injEq] at e;subst e;exact wI _ tO)
               have m9:(wq.setCell ⟨pb,3,none⟩ (.int .i64 ((en:Int)+1))).grownBy ((wq.setCell ⟨pb,3,none⟩ (.int .i64 ((en:Int)+1))).setCell ⟨Q s1,t1,none⟩ (.int .i64 L.length)) (some (Q s1)):=qAl _ _ _ _;have gO:=qA (uq.o.grown m9 fun y h h'=>by simp[zad] at h h';omega);have iO:Wi (Wf W0 W0 ((wq.setCell ⟨pb,3,none⟩ (.int .i64 ((en:Int)+1))).setCell ⟨Q s1,t1,none⟩ (.int .i64 L.length))):=qA (hZ.o.setCell (by show W0.heap.size<=Q s1;omega) _);have s9:((wq.setCell ⟨pb,3,none⟩ (.int .i64 ((en:Int)+1))).setCell ⟨Q s1,t1,none⟩ (.int .i64 L.length)).heap.size=wq.heap.size:=tZ;have lQ:=qA wI;have Sj:z<0:=tO;clear wI m9 nj;go_wp2_with (at_builtin;refine qFL rfl (.tmp 163) (.tmp 167) rfl (pb+1) _ B om (qP vq ((zae _ _).alloc (zag _) _)) rfl wq q rfl (fun j u hj=>by rw[HQ.o,qKg uI] at hj;rcases j with _ | _ | j<;>simp at hj<;>subst hj<;>simp[go_sem]) tO (by simp;omega) ?_;intro v9 w9 o9 g9 p9)
               have gh:=g9.size;simp at gh
               have k9: ∀b',b'≠uC->b'<wq.heap.size->w9.heap[b']? =((wq.setCell ⟨pb,3,none⟩ (.int .i64 ((en:Int)+1))).setCell ⟨Q s1,t1,none⟩ (.int .i64 L.length)).heap[b']? :=fun b' h1 h2=>by
                rw[g9.block b' (by simp;omega) (by simp[zad];exact h1)];exact zal ((wq.setCell ⟨pb,3,none⟩ (.int .i64 ((en:Int)+1))).setCell ⟨Q s1,t1,none⟩ (.int .i64 L.length)) _ b' tO
               have kpb: ∀j,w9.cell? ⟨pb,j,none⟩=(wq.setCell ⟨pb,3,none⟩ (.int .i64 ((en:Int)+1))).cell? ⟨pb,j,none⟩:=fun j=>(zat (k9 pb tO tO)).trans (qc _ _ _ _ _ _ tO);have kpf: ∀j,w9.frozen? ⟨pb,j,none⟩=(wq.setCell ⟨pb,3,none⟩ (.int .i64 ((en:Int)+1))).frozen? ⟨pb,j,none⟩:=fun j=>(zaz (k9 pb tO tO)).trans (qDS _ _ _ _ _ _ tO);have xx:=(ug.o.set aE uI (z:=(L.length:Int)) ⟨tO,tO⟩).keep (w':=w9) fun b' aL=>k9 b' tO tO;have CH:=qHL fO.o (i:=s1) uI (z:=(L.length:Int)) tO ⟨tO,tO⟩ yZ.o;rw[<-HQ.o,zaO] at CH;have FQ:OwPc w9 X (.slice Ao L.length capo) L:=qAA yv.o fun b' e=>by
                have h1:=ES.o b' e;have h2:=(yv.lt b' e).1;exact(k9 b' tO tO).trans (lQ b' tO)
               have Gr:=(gO.alloc (.cells #[.int .i64 s1, .int .i64 t1] 131)).grown g9 (fun y h h'=>by
                have h3:=a8.o;simp[zad] at h h' h3
                omega)
               have zn:=(iO.alloc tO (.cells #[.int .i64 s1, .int .i64 t1] 131)).grown g9 (by simp;omega) (fun y h=>by simp[zad] at h;omega);go_roundw
               case rel=>
                refine⟨i6+1,_,tO,by go_num,by rw[HS.o,F.o];exact o9,xx,by rw[HS.o,F.o];exact CH,(kpb 0).trans D0.o,(kpb 1).trans D1.o,(kpb 2).trans D2.o,(kpb 3).trans D3.o,(kpb 4).trans D4.o,fun j=>(kpf j).trans (DF j),FQ,Gr,fun e=> ?_,tO,zn,tO⟩;rcases p9 with p9 | p9
                ·rw[p9] at e;exact a8.o e
                ·rw[p9] at e;simp at e;omega
               case measure=>exact tM
             ·have G:=qA (GN hx);have ug:=jl;have Dq:=sI;have yv:=rX;have uq:=gZ;have hZ:=n8;have D0:=C0;have D1:=C1;have D2:=C2;have D3:Wi (wq.cell? ⟨pb,3,none⟩=some (.int .i64 ((E5+cntP a.2.2 b.2.2 B p ls (i6+1):Nat):Int))):=qA (by
               rw[G.o,<-NL.o];exact c3)
              have D4:=C4;have DF:=CF;by_cases nj:0<=z
              ·have F:Wi (pst a.2.2 b.2.2 B p om x=om):=qA (by rw[PST.o,Wm (mU.o.1 nj)]);go_wp2;go_roundw;exact⟨i6+1,f6,tO,by go_num,by rw[HS.o,F.o];exact Dq.o,ug.o,by rw[HS.o,F.o];exact fO.o,D0.o,D1.o,D2.o,D3.o,D4.o,DF.o,yv.o,uq.o,a8.o,by first | omega | (simp;omega),hZ.o,by first | omega | (simp;omega)⟩;exact tM
              ·have F:Wi (pst a.2.2 b.2.2 B p om x=om++ [q]):=qA (by rw[PST.o,Wn (fun h=>nj (mU.o.2 h))]);have wI: ∀b',b'≠Q s1->(wq.setCell ⟨Q s1,t1,none⟩ (.int .i64 L.length)).heap[b']? =wq.heap[b']? :=fun b' h=>zan wq _ _ b' h;have vq:Wi (OwPr (wq.setCell ⟨Q s1,t1,none⟩ (.int .i64 L.length)) (pb+1) (.slice (some ⟨uC,0,none⟩) om.length jP) B om):=qA (qAA Dq fun b' e=>by
                simp only[zad,zap.injEq] at e;subst e;exact wI _ tO)
               have m9:wq.grownBy (wq.setCell ⟨Q s1,t1,none⟩ (.int .i64 L.length)) (some (Q s1)):=qAl _ _ _ _;have gO:=qA (uq.o.grown m9 fun y h h'=>by simp[zad] at h h';omega);have iO:Wi (Wf W0 W0 (wq.setCell ⟨Q s1,t1,none⟩ (.int .i64 L.length))):=qA (hZ.o.setCell (by show W0.heap.size<=Q s1;omega) _);have s9:(wq.setCell ⟨Q s1,t1,none⟩ (.int .i64 L.length)).heap.size=wq.heap.size:=tZ;have lQ:=qA wI;have Sj:z<0:=tO;clear wI m9 nj;go_wp2_with (at_builtin;refine qFL rfl (.tmp 163) (.tmp 167) rfl (pb+1) _ B om (qP vq ((zae _ _).alloc (zag _) _)) rfl wq q rfl (fun j u hj=>by rw[HQ.o,qKg uI] at hj;rcases j with _ | _ | j<;>simp at hj<;>subst hj<;>simp[go_sem]) tO (by simp;omega) ?_;intro v9 w9 o9 g9 p9)
               have gh:=g9.size;simp at gh
               have k9: ∀b',b'≠uC->b'<wq.heap.size->w9.heap[b']? =(wq.setCell ⟨Q s1,t1,none⟩ (.int .i64 L.length)).heap[b']? :=fun b' h1 h2=>by
                rw[g9.block b' (by simp;omega) (by simp[zad];exact h1)];exact zal (wq.setCell ⟨Q s1,t1,none⟩ (.int .i64 L.length)) _ b' tO
               have kpb: ∀j,w9.cell? ⟨pb,j,none⟩=wq.cell? ⟨pb,j,none⟩:=fun j=>(zat (k9 pb tO tO)).trans (qc _ _ _ _ _ _ tO);have kpf: ∀j,w9.frozen? ⟨pb,j,none⟩=wq.frozen? ⟨pb,j,none⟩:=fun j=>(zaz (k9 pb tO tO)).trans (qDS _ _ _ _ _ _ tO);have xx:=(ug.o.set aE uI (z:=(L.length:Int)) ⟨tO,tO⟩).keep (w':=w9) fun b' aL=>k9 b' tO tO;have CH:=qHL fO.o (i:=s1) uI (z:=(L.length:Int)) tO ⟨tO,tO⟩ yZ.o;rw[<-HQ.o,zaO] at CH;have FQ:OwPc w9 X (.slice Ao L.length capo) L:=qAA yv.o fun b' e=>by
                have h1:=ES.o b' e;have h2:=(yv.lt b' e).1;exact(k9 b' tO tO).trans (lQ b' tO)
               have Gr:=(gO.alloc (.cells #[.int .i64 s1, .int .i64 t1] 131)).grown g9 (fun y h h'=>by
                have h3:=a8.o;simp[zad] at h h' h3
                omega)
               have zn:=(iO.alloc tO (.cells #[.int .i64 s1, .int .i64 t1] 131)).grown g9 (by simp;omega) (fun y h=>by simp[zad] at h;omega);go_roundw
               case rel=>
                refine⟨i6+1,_,tO,by go_num,by rw[HS.o,F.o];exact o9,xx,by rw[HS.o,F.o];exact CH,(kpb 0).trans D0.o,(kpb 1).trans D1.o,(kpb 2).trans D2.o,(kpb 3).trans D3.o,(kpb 4).trans D4.o,fun j=>(kpf j).trans (DF j),FQ,Gr,fun e=> ?_,tO,zn,tO⟩;rcases p9 with p9 | p9
                ·rw[p9] at e;exact a8.o e
                ·rw[p9] at e;simp at e;omega
               case measure=>exact tM
            ·obtain rfl:i6=ls.length:=tO
             rw[zam] at vx fO;have jQ:=iL.o ls.length;have jT:=mA.o ls.length;rw[zam] at jQ jT;have JV:=qA jQ;have Gz:=qA jT;have aM:k5+1<=(ls.foldl (pst a.2.2 b.2.2 B p) o).length:=by
              have:=eE.o ls.length
              rw[zam] at this;have:=(zau.1 this).1
              omega
             rw[<-ln.o] at E3;obtain⟨SH,jP,rfl,_⟩:=qAE vx.o;clear kV aP jQ jT;go_wp2;go_roundw;exact⟨k5+1,_,f6,aM,by go_num,JV.o,Gz.o,by rw[<-pZ.o];exact kX.o,vx.o,ii.o,fO.o,E0.o,E1.o,by rw[E2.o];go_num,by rw[pt.o];exact E3.o,by rw[pt.o,jt.o];exact E4.o,EF.o,lY.o,ik.o,Ky⟩;exact tM
         ·obtain rfl:k5=o.length:=tO
          have kq:Wi (PS=o):=qA (by
           rw[jW.o];cases A*B+1-o.length with
           | zero=>rfl
           | succ f=>unfold bfsF;rw[List.getElem?_eq_none (zag _)])
          rw[kq.o] at F;rw[zam] at e3 e4;have AQ:=E0.o;have gK:=E1.o;have Gk:pb<wx.heap.size:=tO;have zn:X<=wx.heap.size:=tO;clear eL iy y8 kV dV ix ab y9 jW kq E3;generalize edgL a.2.2 b.2.2 B r o=E5 at*;generalize eqPc B o=q5 at*;go_wp2_with (at_builtin;refine qMB rfl (.tmp 170) (.tmp 172) rfl X _ L (qP lY ((zae _ _).alloc (zag _) _)) rfl wx ((k:Int),(m:Int),(o.length:Int),(E5:Int),q5) rfl (fun j u hj=>by rcases j with _ | _ | _ | _ | _ | j<;>simp[pcC] at hj<;>subst hj<;>simp[go_sem]) tO (by simp;omega) ?_;intro v9 w9 o9 g9 p9)
          have gh:=g9.size;simp at gh
          go_roundw
          case rel=>
           refine⟨m+1,f5,tO,by go_num,by rw[F.o];exact o9,ii.o.keep fun b hb=> ?_,by rw[F.o];exact fO.o,(cC.alloc tO _).grown g9 (by simp;omega) (fun x hx=>by have:=(lY.lt x hx).1;omega),tO⟩;rw[g9.block b (by simp;omega) (fun e=>by have:=(lY.lt b e.symm).1;omega)];exact zal wx _ b tO
          case measure=>exact tM
      ·obtain rfl:m=B:=tO
       have F:Wi (k*m+m=(k+1)*m):=qA (by rw[zaP,zaQ]);rw[F.o] at aa ix;have aI:=qA aa;have GH:=qA ix;clear aa dV ix ab HO fO;go_wp2;go_roundw;exact⟨k+1,f,tO,by go_num,aI.o,ii.o,GH.o,aU.o,yD⟩;exact tM
    ·have IQ:A=k:=tO;subst IQ;have cA:Wi (Wf w w wp):=qA (BX.trans (aB.mono (by have:=fj.o;omega)));obtain⟨Ao,capo,rfl,_⟩:=qAE HO.o;go_wp2;refine Wj (v:= .tuple #[.slice Ao (pcs a b A B r (A*B)).2.length capo, .slice (some ⟨W0,0,none⟩) A A]) (by simp[results,Tryz.results94]) rfl ⟨_,_,X,Q,f,rfl,?_,ii.o.base (by have:=fj.o;omega),fO.o,yD,cA.o⟩;refine⟨HO.o.1,?_⟩;rcases HO.o.2 with h0 | ⟨g,cap,cur,hv,hg,rr⟩
     ·exact .inl h0
     ·exact .inr ⟨g,cap,cur,hv,by have:=fj.o;omega,rr⟩
theorem qHl (va vb:Wh) (a b:GrD) (A B r:Nat) (w:Wg) (ha:ArgG w va a) (hb:ArgG w vb b) (h2:Two a b A B) (eY:a.1=(r:Int)) (fc:b.1=(r:Int)):
  Wk Tryz.prog 94 #[va,vb] w fun e w'=> ∃s m,e= .returned (.tuple #[s,m])/\OwPc w' w s (pcs a b A B r (A*B)).2/\Wf w w w':=
 (qHI va vb a b A B r w ha hb h2 eY fc).mono fun _ _ ⟨s,P,X,Q,f,h1,h2,_,_,_,h3⟩=>⟨s,_,h1,h2,h3⟩
theorem OwPc.cellAt {w:Wg} {base gp cp:Nat} {L:List PcD} (h:OwPc w base (.slice (some ⟨gp,0,none⟩) L.length cp) L) {c:Nat} (hc:c<L.length) {j:Nat} (hj:j<5):w.cell? ⟨gp,c*5+j,none⟩=(pcC L[c])[j]? :=by
 rw[zak.cellAt h (c*5+j) tO,<-qHr L c j hc hj]
theorem qPQ (P:GrD) {e:EdD} {l:List EdD} (h:extL P=e::l):qDY [wdO P e.1,[e.2.1],invL (wdO P e.2.2)]=lp0 P:=by
 unfold lp0;rw[h];simp[qDY]
theorem qQh {w:Wg} {u v:Wh} {xs ys:List Int} (h:RdI w u xs) (h':RdI w v ys):RdII (w.alloc (.cells #[u,v] 37)) (.slice (some ⟨w,0,none⟩) 2 2) [xs,ys]:=by
 have hr:=World.ownsRow_lit (e:=37) (size:=1) (base:=0) w #[u,v] 2 (zaj _) (by unfold maxLen;omega) tZ;refine⟨[u,v],rfl,RdV.of_own (by simpa using hr),fun i hi dB=> ?_⟩;match i,hi with
 | 0,_=>exact h.alloc _
 | 1,_=>exact h'.alloc _
theorem qOw (xs ys:List Int):qDY [xs,ys]=redL [] (xs++ys):=by simp[qDY]
theorem qMH (xs ys zs:List Int):qDY [xs,ys,zs]=redL [] ((xs++ys)++zs):=by simp[qDY]
def PtE (e:EdD) (W:Wg) (x:Wh):Prop:= ∃q,x= .pointer (some ⟨q,0,none⟩)/\q<W.heap.size/\W.cell? ⟨q,0,none⟩=some (.int .i64 e.1)/\W.cell? ⟨q,1,none⟩=some (.int .i64 e.2.1)/\W.cell? ⟨q,2,none⟩=some (.int .i64 e.2.2)
theorem PtE.below {e:EdD} {W W':Wg} {x:Wh} (h:PtE e W x) (hb:Wf W W W'):PtE e W' x:=by
 obtain⟨q,h1,h2,c0,c1,c2⟩:=h;exact⟨q,h1,Nat.lt_of_lt_of_le h2 hb.size,(hb.cell (p:=⟨q,0,none⟩) h2).trans c0,(hb.cell (p:=⟨q,1,none⟩) h2).trans c1,(hb.cell (p:=⟨q,2,none⟩) h2).trans c2⟩
theorem qDA (v:Wh) (g:GrD) (w:Wg) (h:ArgG w v g):
  Wk Tryz.prog 19 #[v] w fun e w'=> ∃r s,e= .returned (.tuple #[r,s, .bool (malF g).2.2])/\OwI w' w r (malF g).1/\OwI w' w s (malF g).2.1/\(∀b,r.ownBlock=some b->s.ownBlock≠some b)/\Wf w w w':=by
 have HG:=qA h;have HC:=qA (qNP g);have ic:=qA (fun p h1 h2 h3=>qNJ (g:=g) (p:=p) h1 h2 h3);have jz:=qA (fun p h=>qIG (g:=g) (p:=p) h);have pU:Wi (fwI g=match fstW g with | some p=>(((p/g.2.1.toNat:Nat):Int),((p%g.2.1.toNat:Nat):Int)) | none=>(-1,-1)):=qA rfl;generalize malF g=RES at*;obtain⟨s,rfl,aN,aQ,cj⟩:=h;obtain⟨A,cap,rfl⟩:=cj.form;obtain⟨g1,N,es⟩:=g;simp only at*
 clear cj;go_enter Tryz.func19,Tryz.ntmps19
 go_wp2_with fail;obtain⟨W,hW⟩: ∃W,W=w.alloc (.cells #[.int .i64 g1, .int .i64 N, .slice A es.length cap] 26):=⟨_,rfl⟩;rw[<-hW];obtain⟨xG,bG,sG⟩:=CBx.new hW;clear hW;have XG:=qA xG;have BX:=qA bG;have aH:w.heap.size+1<=W.heap.size:=tO;clear xG bG sG;have HA:Wi (∀w',Wf W.heap.size W w'->ArgG w' (.agg #[.int .i64 g1, .int .i64 N, .slice A es.length cap]) (g1,N,es)):=qA fun w' hb=>HG.o.below (BX.trans (hb.mono tO));have ZERO:Wi (∀w':Wg,w.heap.size<=w'.heap.size->OwI ((w'.alloc (.cells #[] 3)).alloc (.cells #[] 3)) w (.slice (some ⟨w'.heap.size,0,none⟩) 0 0) []/\OwI ((w'.alloc (.cells #[] 3)).alloc (.cells #[] 3)) w (.slice (some ⟨w'.heap.size+1,0,none⟩) 0 0) []):=qA fun w' hw=>⟨(qp w' [] qt tZ hw).alloc _,qAc (w'.alloc (.cells #[] 3)) [] _ tZ qt tZ tO⟩;refine(qr _ (g1,N,es) W (HA W (zae _ _))).mono ?_
 rintro e w1 ⟨rfl,b1⟩;have B1:=qA b1;have dh:=b1.size;clear b1;rcases e1:qS (g1,N,es) with _ | _
 ·have F:=qA (HC.c0 e1);clear e1;go_wp2;obtain⟨z1,z2⟩:=ZERO.o w1 tO;exact Wj (v:= .tuple #[.slice (some ⟨w1,0,none⟩) 0 0, .slice (some ⟨w1.heap.size+1,0,none⟩) 0 0, .bool false]) (by simp[results,Tryz.results19,go_sem]) rfl ⟨_,_,by rw[F.o],by rw[F.o];exact z1,by rw[F.o];exact z2,by simp[zad],((BX.trans (B1.mono tO)).alloc tO _).alloc (by simp;omega) _⟩
 have hf:=qAQ e1;have HF:=qA hf;obtain⟨jB,bn,a7,_⟩:=qD (qE hf).1;simp only at jB bn a7
 have fG:=qA e1;clear e1 hf;have H2:=qA (qBP HF HF);have HS:=qA (fun p h1 h2 h3=>qKB (g:=(g1,N,es)) (p:=p) h1 h2 h3);have HN:=qA (fun h=>qJf (g:=(g1,N,es)) h);obtain⟨n,rfl⟩: ∃n:Nat,N=(n:Int):=⟨N.toNat,tO⟩;obtain⟨rr,rfl⟩: ∃r:Nat,g1=(r:Int):=⟨g1.toNat,tO⟩;simp only[zaF] at H2 HS HN;obtain⟨az,aw,ay⟩:=(XG.below B1).cs;go_wp2_with fail;clear az aw ay;refine(qHI _ _ ((rr:Int),(n:Int),es) ((rr:Int),(n:Int),es) n n rr w1 (HA w1 B1) (HA w1 B1) H2 rfl rfl).mono ?_
 rintro e w2 ⟨sp,P,X,Q,f,rfl,op,fA,ix,hX,b2⟩;have B2:=qA (B1.trans (b2.mono dh));have je:=b2.size;have tN:=qA (fun p hp=>qNR (A:=n) (B:=n) H2 (r:=rr) tO (p:=p) hp);have MD:=qA (fun q hq=>qHv H2 rr (n*n) q hq);have jh:Wi (∀W',Wf w2 w2 W'->MatI X w1 P n n W' Q f):=qA fun W' hb=>fA.keep fun b cF=>hb.block b tO;have fO:=qA ix;have IU:=fA.ltP;have Mn:=qA fA.ltQ;clear b2 fA ix;have Gf:=qHu ((rr:Int),(n:Int),es) ((rr:Int),(n:Int),es) n n rr (n*n);have S8:n*n<=40*40:=zaC tO tO;generalize pcs ((rr:Int),(n:Int),es) ((rr:Int),(n:Int),es) n n rr (n*n)=ST at*;obtain⟨MM,L⟩:=ST;simp only at op tN MD fO Gf
 obtain⟨Ap,cp,rfl,lD,CB,_,yW⟩:=qAE op;have kG:Wi (∀W',Wf w2 w2 W'->OwPc W' w1 (.slice Ap L.length cp) L):=qA fun W' hb=>qP op hb;have y5:=qA yW;unfold maxLen at CB;clear op yW;go_wp2;go_loopw [7] (fun i wr=> ∃k:Nat,k<=n/\i= .int .i64 k/\Wi (∀q,q<k*n->okMw ((rr:Int),(n:Int),es) n rr q=false)/\Wf w2 w2 wr) (fun i _=>n-(intOf i).toNat)
 case atStart=>exact⟨0,zaj _,rfl,qA fun q hq=>tO,zae _ _⟩
 case round=>
  obtain⟨k,hk,rfl,dz,hb⟩:=hrel;obtain⟨wk,rfl⟩: ∃wk:Wg,wk=wr:=⟨_,rfl⟩;have BK:=qA hb;have Bi:=hb.size;clear hb;obtain⟨az,aw,ay⟩:=(XG.below (B2.trans (BK.mono tO))).cs;rcases zaB k n with ac | uy
  ·have mG:(k:Int)<(n:Int):=tO;go_wp2;go_loopw [8] (fun j wr=> ∃m:Nat,m<=n/\j= .int .i64 m/\Wi (∀q,q<k*n+m->okMw ((rr:Int),(n:Int),es) n rr q=false)/\Wf w2 w2 wr) (fun j _=>n-(intOf j).toNat)
   case atStart=>exact⟨0,zaj _,rfl,dz,BK⟩
   case round=>
    clear az aw ay;clear BK Bi dz;obtain⟨m,hm,rfl,dz,hb⟩:=hrel;obtain⟨wm,rfl⟩: ∃wk:Wg,wk=wr:=⟨_,rfl⟩;have BK:=qA hb;have Bi:=hb.size;clear hb;obtain⟨az,aw,ay⟩:=(XG.below (B2.trans (BK.mono tO))).cs;rcases zaB m n with aj | CK
    ·have DU:(m:Int)<(n:Int):=tO;have hp:k*n+m<n*n:=qDO ac aj;have HP:=qA hp;have a8:Wi ((k*n+m)/n=k/\(k*n+m)%n=m):=qA ⟨by rw[Nat.mul_comm,Nat.mul_add_div tO,Nat.div_eq_of_lt aj,zaA],by rw[Nat.mul_comm,Nat.mul_add_mod,Nat.mod_eq_of_lt aj]⟩;obtain⟨c,_,d,oW,Lm,tX,uk,_⟩:=tN.o _ hp;have Cp:f k m=(c:Int):=((fO k m ac aj).2 (MD _ hp)).trans oW;obtain⟨aZ,tn⟩:=zau.1 Lm;have bH:Wi (okMw ((rr:Int),(n:Int),es) n rr (k*n+m)=(decide (k≠m)&&decide (d.2.2.1<=d.2.2.2.1))):=qA (by
      unfold okMw;rw[a8.o.1,a8.o.2,tX,uk];congr 1
      rw[Bool.eq_iff_iff];simp)
     have fA:=jh.o wm BK.o;have cO:=fA.cellO ac;have cI:=fA.cellI ac aj;rw[Cp] at cI;obtain⟨gp,rfl,te,si⟩:=y5.o tO;have dD:=kG.o wm BK.o;have l0:=OwPc.cellAt dD aZ (j:=0) tO;have l1:=OwPc.cellAt dD aZ (j:=1) tO;have l2:=OwPc.cellAt dD aZ (j:=2) tO;have l3:=OwPc.cellAt dD aZ (j:=3) tO;have l4:=OwPc.cellAt dD aZ (j:=4) tO;rw[tn] at l0 l1 l2 l3 l4;rw[zaA] at l0;obtain⟨d0,d1,d2,d3,d4⟩:=d;simp only[pcC,zax,zay] at l0 l1 l2 l3 l4 bH;have TU:(c:Int)<(L.length:Int):=tO;have fL:(0:Int)<=(c:Int):=tO;clear hp oW Lm tX uk Cp tn fA dD;have jX: ∀(hf:okMw ((rr:Int),(n:Int),es) n rr (k*n+m)=false),∀q,q<k*n+(m+1)->okMw ((rr:Int),(n:Int),es) n rr q=false:=fun hf q hq=>by
      rcases zaB q (k*n+m) with h1 | h1
      ·exact dz.o q h1
      ·rwa [show q=k*n+m by omega]
     have eO:=qA jX;clear jX;have bA:Wf w2 w2 (wm.alloc (.cells #[.int .i64 d0,.int .i64 d1,.int .i64 d2,.int .i64 d3,Value.bool d4] 92)):=BK.o.alloc tO _;have BA:=qA bA;clear bA;rcases zaB k m with eV | eV
     rotate_left
     rcases zaB m k with il | il
     rotate_left
     ·have yd:k=m:=tO;have F:=qA (eO (by rw[bH.o,decide_eq_false tO];rfl));subst yd;have xN:((k:Int)==(k:Int))=true:=tZ;go_wp2;go_roundw;exact⟨k+1,tO,by go_num,F,BA.o⟩;exact tM
     all_goals
      have xN:((k:Int)==(m:Int))=false:=by simp;omega
      have oL:decide (k≠m)=true:=decide_eq_true tO;rw[oL,Bool.true_and] at bH;clear oL;rcases Int.lt_or_le d3 d2 with uO | uO
      ·have F:=qA (eO (by rw[bH.o,decide_eq_false tO]));go_wp2;go_roundw;exact⟨m+1,tO,by go_num,F,BA.o⟩;exact tM
      ·have FW:=HS.o _ HP.o (by rw[bH.o,decide_eq_true uO]) dz.o;have eL: ¬d3<d2:=tO;have pv:((k*n+m)/n=k):=a8.o.1;have DM:((k*n+m)%n=m):=a8.o.2;have eQ:=HC.o.c2 _ FW;have eI:=HC.o.c3 fG.o _ FW;have ic:=ic.o _ fG.o FW;simp only[zaF,pv,DM] at eQ eI ic;replace eQ:=qA eQ;replace eI:=qA eI;replace ic:=qA ic;clear FW pv DM;have lS:(k:Int)∈canO ((rr:Int),(n:Int),es):=qBS fG.o ⟨tO,by show(k:Int)<(n:Int);omega⟩;have jr:(m:Int)∈canO ((rr:Int),(n:Int),es):=qBS fG.o ⟨tO,by show(m:Int)<(n:Int);omega⟩;have Gc:=qA lS;have J5:=qA jr;have TV:=qBh (qE HF).1 lS;have EB:=qBh (qE HF).1 jr;clear lS jr;have lm:=qA (fun W' h=>qBO (.agg #[.int .i64 (rr:Int), .int .i64 (n:Int), .slice A es.length cap]) ((rr:Int),(n:Int),es) k W' h HF Gc);have nJ:=qA (fun W' h=>qBO (.agg #[.int .i64 (rr:Int), .int .i64 (n:Int), .slice A es.length cap]) ((rr:Int),(n:Int),es) m W' h HF J5);generalize wdO ((rr:Int),(n:Int),es) (k:Int)=wu at*;generalize wdO ((rr:Int),(n:Int),es) (m:Int)=wv at*;clear az aw ay;have BQ:=qA (B2.trans (BA.mono tO));obtain⟨az,aw,ay⟩:=(XG.below BQ).cs;obtain⟨q0,q1,q2⟩:=(XG.below (B2.trans (BK.mono tO))).cs;go_wp2_with fail;clear az aw ay;clear q0 q1 q2;generalize wm.alloc (.cells #[.int .i64 d0,.int .i64 d1,.int .i64 d2,.int .i64 d3,Value.bool d4] 92)=w4 at BA BQ⊢;have jY:=BQ.o.size;refine(qCc _ _ ((rr:Int),(n:Int),es) ((rr:Int),(n:Int),es) k m w4 (HA w4 BQ) (HA w4 BQ) HF HF (by simp only;omega) (by simp only;omega)).mono ?_
       clear cO cI l0 l1 l2 l3 l4 bH eO;rintro e w5 ⟨r5,rfl,o5,b5⟩;have B5:=qA (BQ.trans (b5.mono tO));have fg:=b5.size;clear b5;generalize qAW ((rr:Int),(n:Int),es) ((rr:Int),(n:Int),es) k m=M at*;obtain⟨⟨m1,m2,ms⟩,ok⟩:=M;simp only at eQ eI ic
       obtain⟨s5,rfl,ch,bV,bF⟩:=o5;obtain⟨A5,c5,rfl,_⟩:=bF.form;simp only at ch bV bF⊢
       obtain⟨W6,cH⟩: ∃W,W=w5.alloc (.cells #[.int .i64 m1,.int .i64 m2, .slice A5 ms.length c5] 26):=⟨_,rfl⟩;have iU:=qA (GBx.new (m:=(m1,m2,ms)) bF ch bV cH);obtain⟨eU,b6,_,_⟩:=gbox cH;have B6:Wi (Wf W.heap.size W W6):=qA (B5.trans (b6.mono tO));have sw:w5.heap.size+1<=W6.heap.size:=tO;clear b6 bF;cases ok
       ·have F:=qA (eQ rfl);go_wp2;obtain⟨z1,z2⟩:=ZERO.o W6 tO;rw[eU] at z1 z2;have Iu:W6.heap.size=w5.heap.size+1:=eU;clear eU sw;subst cH;exact Wj (v:= .tuple #[.slice (some ⟨w5.heap.size+1,0,none⟩) 0 0, .slice (some ⟨w5.heap.size+1+1,0,none⟩) 0 0, .bool false]) (by simp[results,Tryz.results19,go_sem]) rfl ⟨_,_,by rw[F.o],by rw[F.o];exact z1,by rw[F.o];exact z2,by simp[zad],((BX.trans (B6.mono tO)).alloc tO _).alloc (by simp;omega) _⟩
       clear eU;have F:=qA (eI rfl);obtain⟨_,_,ld,e0,le,re,mq,pL,wJ⟩:=ic.o rfl;have Iy:=qA ld;have nz:=qA re;have ra:=qA (qPQ (m1,m2,ms) re);have fB:=qA (fun W' h=>qHT (.agg #[.int .i64 m1, .int .i64 m2, .slice A5 ms.length c5]) (m1,m2,ms) e0 W' h ld mq pL wJ);have zW:(lp0 (m1,m2,ms)).length<=200:=by
        have h1:=qBh (qE ld).1 pL;have h3:=qBh (qE ld).1 wJ;have h4:=qJE [wdO (m1,m2,ms) e0.1,[e0.2.1],invL (wdO (m1,m2,ms) e0.2.2)];rw[ra.o] at h4;simp[qAr,qAt] at h4
        omega
       rw[ra.o] at fB;have uD:=qA (fun W' h=>qHU (.agg #[.int .i64 m1, .int .i64 m2, .slice A5 ms.length c5]) (m1,m2,ms) W' h ld);rw[nz.o] at uD;clear eQ eI ic mq pL wJ ld re ra nz Iy;generalize lp0 (m1,m2,ms)=lp at*;go_wp2_with fail;rw[<-cH];clear cH;refine qAe [.val (.agg #[.int .i64 (rr:Int), .int .i64 (n:Int), .slice A es.length cap]), .val (.int .i64 (k:Int)), .own (fun W x=>RdI W x wu) (fun _ _ _ h b=>h.below b), .val (.agg #[.int .i64 (rr:Int), .int .i64 (n:Int), .slice A es.length cap]), .val (.int .i64 (m:Int)), .own (fun W x=>RdI W x wv) (fun _ _ _ h b=>h.below b), .cp 2, .cp 5] tK tK (by rfl) (by rfl) (fun vs=> ?_);refine⟨fun W' K' Q0 hB hD hK=> ?_,?_⟩
       ·obtain⟨q0,q1,q2,_,_⟩:=XG.o.below (B6.trans (hB.mono tO));go_simp;exact hK.o _ _ (zae _ _) rfl
       simp only[zai,zaa,zab,zac,Sp.pick,Nat.reduceAdd];refine⟨fun W' K' Q0 hB hD hK=> ?_,?_⟩
       ·skip;go_simp;exact hK.o _ _ (zae _ _) rfl
       simp only[zai,zaa,zab,zac,Sp.pick,Nat.reduceAdd];refine⟨fun W' K' Q0 hB hD hK=> ?_,?_⟩
       ·go_simp;(refine(lm W' (HA W' (B6.trans (hB.mono tO)))).mono ?_;rintro e w' ⟨r,rfl,o,b⟩;exact hK.o _ _ b o)
       simp only[zai,zaa,zab,zac,Sp.pick,Nat.reduceAdd];refine⟨fun W' K' Q0 hB hD hK=> ?_,?_⟩
       ·obtain⟨q0,q1,q2,_,_⟩:=XG.o.below (B6.trans (hB.mono tO));go_simp;exact hK.o _ _ (zae _ _) rfl
       simp only[zai,zaa,zab,zac,Sp.pick,Nat.reduceAdd];refine⟨fun W' K' Q0 hB hD hK=> ?_,?_⟩
       ·skip;go_simp;exact hK.o _ _ (zae _ _) rfl
       simp only[zai,zaa,zab,zac,Sp.pick,Nat.reduceAdd];refine⟨fun W' K' Q0 hB hD hK=> ?_,?_⟩
       ·go_simp;(refine(nJ W' (HA W' (B6.trans (hB.mono tO)))).mono ?_;rintro e w' ⟨r,rfl,o,b⟩;exact hK.o _ _ b o)
       simp only[zai,zaa,zab,zac,Sp.pick,Nat.reduceAdd]
       iterate 2
        refine⟨fun W' K' Q0 hB hD hK=> ?_,?_⟩
        ·go_simp;exact hK.o _ _ (zae _ _) rfl
        simp only[zai,zaa,zab,zac,Sp.pick,Nat.reduceAdd]
       intro w7 hB hD _;have RU:Wi (RdI w7 (vs 2) wu):=qA (hD 2 tD);have RV:Wi (RdI w7 (vs 5) wv):=qA (hD 5 tD);have LQ:vs 6=vs 2:=hD.o 6 tD;have OH:vs 7=vs 5:=hD.o 7 tD;rw[LQ,OH];have B7:=qA (B6.trans (hB.mono tO));have fD:=qA (iU.below hB);have pe:=hB.o.size;clear hB hD LQ OH lm nJ;obtain⟨Au,cu,eu,_⟩:=RU.o.arg;obtain⟨Av,cv,ev,_⟩:=RV.o.arg;generalize vs 2=ru at*;generalize vs 5=rv at*;subst eu ev;go_wp2_with fail;have Re:Wi (∀W',Wf w7 w7 W'->CBx W' w5 (.int .i64 m1) (.int .i64 m2) (.slice A5 ms.length c5)):=qA fun W' hb=>fD.o.cbx.below hb;refine qAe [.val (.slice Au wu.length cu), .val (.slice Av wv.length cv), .own (fun W x=>RdI W x (invL wv)) (fun _ _ _ h b=>h.below b), .own (fun W x=>RdII W x [wu,invL wv]) (fun _ _ _ h b=>h.below b), .new (fun W x=>OwI W w x (redL [] (wu++invL wv))) (fun _ _ _ h b=>h.below b), .val (.slice Av wv.length cv), .val (.agg #[.int .i64 m1, .int .i64 m2, .slice A5 ms.length c5]), .val (.agg #[.int .i64 m1, .int .i64 m2, .slice A5 ms.length c5]), .own (fun W x=>OwE W 0 x (e0::le)) (fun _ _ _ h b=>h.below b), .own (PtE e0) (fun _ _ _ h b=>h.below b), .val (edV e0), .own (fun W x=>RdI W x lp) (fun _ _ _ h b=>h.below b), .val (.slice Av wv.length cv), .own (fun W x=>RdI W x (invL wv)) (fun _ _ _ h b=>h.below b), .own (fun W x=>RdII W x [wv,lp,invL wv]) (fun _ _ _ h b=>h.below b), .new (fun W x=>OwI W w x (redL [] ((wv++lp)++invL wv))) (fun _ _ _ h b=>h.below b), .cp 4, .cp 15, .val (.bool true)] tK tK (by rfl) (by rfl) (fun vs=> ?_)
       iterate 2
        refine⟨fun W' K' Q0 hB hD hK=> ?_,?_⟩
        ·skip;go_simp;exact hK.o _ _ (zae _ _) rfl
        simp only[zai,zaa,zab,zac,Sp.pick,Nat.reduceAdd]
       refine⟨fun W' K' Q0 hB hD hK=> ?_,?_⟩
       ·go_simp;(refine(qBe _ _ _ (RV.below hB) tO).mono ?_;rintro e w' ⟨r,rfl,o,b⟩;exact hK.o _ _ b o.rd)
       simp only[zai,zaa,zab,zac,Sp.pick,Nat.reduceAdd];refine⟨fun W' K' Q0 hB hD hK=> ?_,?_⟩
       ·obtain⟨A2,c2,e2,_⟩:=(show RdI W' (vs 2) _ from hD.o 2 tK).arg;rw[e2] at hK;go_simp;exact hK.o _ _ ((zae _ _).alloc (zag _) _) (qQh (RU.below hB) (e2▸hD.o 2 tK))
       simp only[zai,zaa,zab,zac,Sp.pick,Nat.reduceAdd];refine⟨fun W' K' Q0 hB hD hK=> ?_,?_⟩
       ·go_simp;(refine(qDG _ _ _ (show RdII W' (vs 3) _ from hD.o 3 tK) (by simp[qAr,qAt];omega) tZ).mono ?_;rintro e w' ⟨r,rfl,o,b⟩;rw[qOw] at o;exact hK.o _ _ b ⟨o.mono (by have:=hB.o.size;omega),fun b hb=>o.1.lt b hb⟩)
       simp only[zai,zaa,zab,zac,Sp.pick,Nat.reduceAdd];refine⟨fun W' K' Q0 hB hD hK=> ?_,?_⟩
       ·skip;go_simp;exact hK.o _ _ (zae _ _) rfl
       simp only[zai,zaa,zab,zac,Sp.pick,Nat.reduceAdd]
       iterate 2
        refine⟨fun W' K' Q0 hB hD hK=> ?_,?_⟩
        ·obtain⟨q0,q1,q2,_,_⟩:=Re.o W' hB.o;go_simp;exact hK.o _ _ (zae _ _) rfl
        simp only[zai,zaa,zab,zac,Sp.pick,Nat.reduceAdd]
       refine⟨fun W' K' Q0 hB hD hK=> ?_,?_⟩
       ·go_simp;(refine(uD W' (fD.arg.below hB)).mono ?_;rintro e w' ⟨r,rfl,o,b⟩;exact hK.o _ _ b (o.mono (zaj _)))
       simp only[zai,zaa,zab,zac,Sp.pick,Nat.reduceAdd];refine⟨fun W' K' Q0 hB hD hK=> ?_,?_⟩
       ·obtain⟨A8,c8,e8,_,_,_,pX⟩:=(show OwE W' 0 (vs 8) _ from hD.o 8 tK).form;obtain⟨q8,rfl,_,Uv⟩:=pX tZ;have ED:=OwE.cellAt (n:=(e0::le).length) (cap:=c8) (e8▸hD.o 8 tK) 0 tZ;simp only[List.getElem_cons_zero,zaN,Nat.zero_add] at ED;have ci:(0:Int)<((e0::le).length:Int):=tZ;rw[e8] at hK;go_simp;exact hK.o _ _ (zae _ _) ⟨q8,rfl,Uv,ED.1,ED.2.1,ED.2.2⟩
       simp only[zai,zaa,zab,zac,Sp.pick,Nat.reduceAdd];refine⟨fun W' K' Q0 hB hD hK=> ?_,?_⟩
       ·obtain⟨q9,e9,Sm,c0,c1,c2⟩:=(show PtE e0 W' (vs 9) from hD.o 9 tK);rw[e9] at hK;go_simp;exact hK.o _ _ (zae _ _) rfl
       simp only[zai,zaa,zab,zac,Sp.pick,Nat.reduceAdd];refine⟨fun W' K' Q0 hB hD hK=> ?_,?_⟩
       ·go_simp;(refine(show Wk Tryz.prog 99 #[.agg #[.int .i64 m1, .int .i64 m2, .slice A5 ms.length c5],edV e0] W' _ from ?_);refine(fB W' (fD.arg.below hB)).mono ?_;rintro e w' ⟨r,rfl,o,b⟩;exact hK.o _ _ b o.rd)
       simp only[zai,zaa,zab,zac,Sp.pick,Nat.reduceAdd];refine⟨fun W' K' Q0 hB hD hK=> ?_,?_⟩
       ·skip;go_simp;exact hK.o _ _ (zae _ _) rfl
       simp only[zai,zaa,zab,zac,Sp.pick,Nat.reduceAdd];refine⟨fun W' K' Q0 hB hD hK=> ?_,?_⟩
       ·go_simp;(refine(qBe _ _ _ (RV.below hB) tO).mono ?_;rintro e w' ⟨r,rfl,o,b⟩;exact hK.o _ _ b o.rd)
       simp only[zai,zaa,zab,zac,Sp.pick,Nat.reduceAdd];refine⟨fun W' K' Q0 hB hD hK=> ?_,?_⟩
       ·obtain⟨Qx,TI,Bv,_⟩:=(show RdI W' (vs 11) _ from hD.o 11 tK).arg;obtain⟨Ve,UT,Fq,_⟩:=(show RdI W' (vs 13) _ from hD.o 13 tK).arg;rw[Bv,Fq] at hK;go_simp;exact hK.o _ _ ((zae _ _).alloc (zag _) _) (qLZ (RV.below hB) (Bv▸hD.o 11 tK) (Fq▸hD.o 13 tK))
       simp only[zai,zaa,zab,zac,Sp.pick,Nat.reduceAdd];refine⟨fun W' K' Q0 hB hD hK=> ?_,?_⟩
       ·go_simp;(refine(qDG _ _ _ (show RdII W' (vs 14) _ from hD.o 14 tK) (by simp[qAr,qAt];omega) tZ).mono ?_;rintro e w' ⟨r,rfl,o,b⟩;rw[qMH] at o;exact hK.o _ _ b ⟨o.mono (by have:=hB.o.size;omega),fun b hb=>o.1.lt b hb⟩)
       simp only[zai,zaa,zab,zac,Sp.pick,Nat.reduceAdd]
       iterate 2
        refine⟨fun W' K' Q0 hB hD hK=> ?_,?_⟩
        ·go_simp;exact hK.o _ _ (zae _ _) rfl
        simp only[zai,zaa,zab,zac,Sp.pick,Nat.reduceAdd]
       refine⟨fun W' K' Q0 hB hD hK=> ?_,?_⟩
       ·skip;go_simp;exact hK.o _ _ (zae _ _) rfl
       simp only[zai,zaa,zab,zac,Sp.pick,Nat.reduceAdd];intro w9 hB hD hJ;have O1:Wi (OwI w9 w (vs 4) (redL [] (wu++invL wv))):=qA (hD 4 tD).1;have O2:Wi (OwI w9 w (vs 15) (redL [] ((wv++lp)++invL wv))):=qA (hD 15 tD).1;have eG:=qA (hJ 4 15 tD tD tD rfl rfl);have No:vs 16=vs 4:=hD.o 16 tD;have LI:vs 17=vs 15:=hD.o 17 tD;rw[No,LI];have B9:=qA (B7.trans (hB.mono tO));clear hB hD hJ No LI;generalize vs 4=r1 at*;generalize vs 15=r2 at*;go_wp2;exact Wj (v:= .tuple #[r1,r2, .bool true]) (by simp[results,Tryz.results19,go_sem]) rfl ⟨_,_,by rw[F.o],by rw[F.o];exact O1.o,by rw[F.o];exact O2.o,eG.o,BX.o.trans (B9.mono tO)⟩
    ·have H9:m=n:=tO;subst H9;have F:Wi (∀q,q<(k+1)*m->okMw ((rr:Int),(m:Int),es) m rr q=false):=qA fun q hq=>dz.o q (by rw[zaP,zaQ] at hq;exact hq);go_wp2;go_roundw;exact⟨k+1,tO,by go_num,F,BK.o⟩;exact tM
  ·have H5:k=n:=tO;subst H5;have F:=qA (HC.c1 (HN dz));go_wp2;obtain⟨z1,z2⟩:=ZERO.o wk tO;exact Wj (v:= .tuple #[.slice (some ⟨wk,0,none⟩) 0 0, .slice (some ⟨wk.heap.size+1,0,none⟩) 0 0, .bool false]) (by simp[results,Tryz.results19,go_sem]) rfl ⟨_,_,by rw[F.o],by rw[F.o];exact z1,by rw[F.o];exact z2,by simp[zad],((BX.trans ((B2.trans (BK.mono tO)).mono tO)).alloc tO _).alloc (by simp;omega) _⟩
theorem qPp {a b:GrD} {A B:Nat} (h:Two a b A B) {r:Nat} (hr:r<=3): ∀k,k<=A*B-> ∀d∈(pcs a b A B r k).2,(0<=d.2.2.1/\d.2.2.1<=1600)/\0<=d.2.2.2.1/\d.2.2.2.1<=4800:=by
 intro k;induction k with
 | zero=>intro _ d hd;exact absurd hd (by simp[pcs])
 | succ k ih=>
   intro hk d hd;rw[qCE] at hd;unfold pst2 at hd;split at hd
   ·exact ih tO d hd
   ·rcases zav.1 hd with hd | hd
    ·exact ih tO d hd
    ·rw[zaw.1 hd];have:=qGz h hr (p:=k) tO
     unfold pcD;simp only
     omega
theorem qDV (va vb:Wh) (a b:GrD) (w:Wg) (ha:ArgG w va a) (hb:ArgG w vb b):
  Wk Tryz.prog 115 #[va,vb] w fun e w'=> ∃s,e= .returned s/\OwI w' w s (qDD a b)/\Wf w w w':=by
 have cJ:=qA ha;have aS:=qA hb;have fY:Wi ((qS a&&qS b&&decide (a.1=b.1))=false->qDD a b= []):=qA fun h=>by unfold qDD;rw[h];rfl
 have jo:Wi (qS a=true->qS b=true->a.1=b.1->qDD a b=(qCZ a b a.2.1.toNat b.2.1.toNat a.1.toNat (a.2.1.toNat*b.2.1.toNat)).2):=qA fun h1 h2 h3=>by unfold qDD;rw[h1,h2,Wm (by simp[h3])]
 generalize qDD a b=CR at*;obtain⟨Aa,capa,rfl⟩: ∃A' cap,va= .agg #[.int .i64 a.1, .int .i64 a.2.1, .slice A' a.2.2.length cap]:=by
  obtain⟨s,hv,_,_,ha⟩:=cJ.o;obtain⟨A',cap,rfl⟩:=ha.form;exact⟨A',cap,hv⟩
 obtain⟨Ab,capb,rfl⟩: ∃A' cap,vb= .agg #[.int .i64 b.1, .int .i64 b.2.1, .slice A' b.2.2.length cap]:=by
  obtain⟨s,hv,_,_,ha⟩:=aS.o;obtain⟨A',cap,rfl⟩:=ha.form;exact⟨A',cap,hv⟩
 clear ha hb;go_enter Tryz.func115,Tryz.ntmps115
 go_wp2_with fail;have bx:Wf w w (((w.alloc (.cells #[.int .i64 a.1,.int .i64 a.2.1, .slice Aa a.2.2.length capa] 26)).alloc (.cells #[.int .i64 b.1,.int .i64 b.2.1, .slice Ab b.2.2.length capb] 26)).alloc (.cells #[] 3)):=ZZ;obtain⟨W0,ah⟩: ∃W,W=((w.alloc (.cells #[.int .i64 a.1,.int .i64 a.2.1, .slice Aa a.2.2.length capa] 26)).alloc (.cells #[.int .i64 b.1,.int .i64 b.2.1, .slice Ab b.2.2.length capb] 26)).alloc (.cells #[] 3):=⟨_,rfl⟩;have oE:OwI W0 (w.heap.size+1+1) (.slice (some ⟨w.heap.size+1+1,0,none⟩) 0 0) []:=by
  rw[ah];exact qAc _ [] (w.heap.size+1+1) tZ (fun _ h=>by cases h) tZ (zag _)
 rw[<-ah] at bx⊢;have aH:W0.heap.size=w.heap.size+1+1+1:=by rw[ah];simp
 have A0:Wi (W0.cell? ⟨w,0,none⟩=some (.int .i64 a.1)):=qA (by rw[ah];simp[go_sem]);have A1:Wi (W0.cell? ⟨w,1,none⟩=some (.int .i64 a.2.1)):=qA (by rw[ah];simp[go_sem]);have A2:Wi (W0.cell? ⟨w,2,none⟩=some (.slice Aa a.2.2.length capa)):=qA (by rw[ah];simp[go_sem]);have B0:Wi (W0.cell? ⟨w.heap.size+1,0,none⟩=some (.int .i64 b.1)):=qA (by rw[ah];simp[go_sem]);have B1:Wi (W0.cell? ⟨w.heap.size+1,1,none⟩=some (.int .i64 b.2.1)):=qA (by rw[ah];simp[go_sem]);have B2:Wi (W0.cell? ⟨w.heap.size+1,2,none⟩=some (.slice Ab b.2.2.length capb)):=qA (by rw[ah];simp[go_sem]);clear ah;have bh:w.heap.size<W0.heap.size:=tO;have bk:w.heap.size+1<W0.heap.size:=tO;have BX:=qA bx;have fj:=qA aH;have OE:=qA oE;have gn:Wi (∀W,Wf W0 W0 W->ArgG W (.agg #[.int .i64 a.1, .int .i64 a.2.1, .slice Aa a.2.2.length capa]) a):=qA fun W hb=>cJ.o.below (BX.trans (hb.mono tO));have kB:Wi (∀W,Wf W0 W0 W->ArgG W (.agg #[.int .i64 b.1, .int .i64 b.2.1, .slice Ab b.2.2.length capb]) b):=qA fun W hb=>aS.o.below (BX.trans (hb.mono tO));clear bx oE aH;refine(qr _ a W0 (gn _ (zae _ _))).mono ?_
 rintro e w1 ⟨rfl,b1⟩;have d8:=qA b1;have q3:=(b1.cell (p:=⟨w.heap.size+1,0,none⟩) bk).trans B0.o;have q4:=(b1.cell (p:=⟨w.heap.size+1,1,none⟩) bk).trans B1.o;have q5:=(b1.cell (p:=⟨w.heap.size+1,2,none⟩) bk).trans B2.o;have q0:=(b1.cell (p:=⟨w,0,none⟩) bh).trans A0.o;clear b1;rcases e1:qS a with _ | _
 ·have HR:Wi (CR= []):=qA (fY (by rw[e1];rfl));clear e1;go_wp2;exact Wj (v:= .slice (some ⟨w.heap.size+1+1,0,none⟩) 0 0) (by simp[results,Tryz.results115]) rfl ⟨_,rfl,by rw[HR.o];exact(OE.below d8).mono tO,BX.o.trans (d8.mono tO)⟩
 go_wp2_with fail;refine(qr _ b w1 (kB _ d8)).mono ?_
 rintro e w2 ⟨rfl,b2⟩;have al:=qA (d8.trans (b2.mono d8.size));clear b2 q0 q3 q4 q5;have q0:=(al.cell (p:=⟨w,0,none⟩) bh).trans A0.o;have q1:=(al.cell (p:=⟨w,1,none⟩) bh).trans A1.o;have q3:=(al.cell (p:=⟨w.heap.size+1,0,none⟩) bk).trans B0.o;have q4:=(al.cell (p:=⟨w.heap.size+1,1,none⟩) bk).trans B1.o;rcases e2:qS b with _ | _
 ·have HR:Wi (CR= []):=qA (fY (by rw[e1,e2];rfl));clear e1 e2;go_wp2;exact Wj (v:= .slice (some ⟨w.heap.size+1+1,0,none⟩) 0 0) (by simp[results,Tryz.results115]) rfl ⟨_,rfl,by rw[HR.o];exact(OE.below al).mono tO,BX.o.trans (al.mono tO)⟩
 rcases e3:(a.1 != b.1) with _ | _
 rotate_left
 ·have HR:Wi (CR= []):=qA (fY (by simp at e3;simp[e3]));clear e1 e2;go_wp2;exact Wj (v:= .slice (some ⟨w.heap.size+1+1,0,none⟩) 0 0) (by simp[results,Tryz.results115]) rfl ⟨_,rfl,by rw[HR.o];exact(OE.below al).mono tO,BX.o.trans (al.mono tO)⟩
 have gq:a.1=b.1:=by simpa using e3
 have h2:=qKw e1 e2;have HR:=qA (jo e1 e2 gq);have aF:=(qD h2.ga).1;obtain⟨A,hA⟩: ∃A,A=a.2.1.toNat:=⟨_,rfl⟩;obtain⟨B,hB⟩: ∃B,B=b.2.1.toNat:=⟨_,rfl⟩;obtain⟨r,hr⟩: ∃r,r=a.1.toNat:=⟨_,rfl⟩;rw[<-hA,<-hB,<-hr] at HR;rw[<-hA,<-hB] at h2;have eY:a.1=(r:Int):=tO;have fc:b.1=(r:Int):=tO;have bT:r<=3:=tO;have zh:=qA (fun W h h'=>qHl (.agg #[.int .i64 a.1, .int .i64 a.2.1, .slice Aa a.2.2.length capa]) (.agg #[.int .i64 b.1, .int .i64 b.2.1, .slice Ab b.2.2.length capb]) a b A B r W h h' h2 eY fc);have Hy:=qA (qPp h2 bT (A*B) (zag _));have rN:=qA (qHu a b A B r (A*B));have eX:A*B<=1600:=by
  obtain⟨⟨_,x1⟩,_,x2⟩:=h2.bd;exact zaC x1 x2
 rw[<-(qGT a b A B r (A*B)).2] at HR;generalize (pcs a b A B r (A*B)).2=L at*;have dH:L.length<=1600:=by have:=rN.o;omega
 have q2:=(al.cell (p:=⟨w,2,none⟩) bh).trans A2.o;have q5:=(al.cell (p:=⟨w.heap.size+1,2,none⟩) bk).trans B2.o;clear e1 e2 h2 hA hB hr eY fc gq aF eX;go_wp2_with fail;refine(zh w2 (gn _ al) (kB _ al)).mono ?_
 rintro e w3 ⟨s3,m3,rfl,o3,b3⟩;have s2:=al.o.size;have aB:=qA (al.trans (b3.mono s2));have dI:=qA ((OE.below al).below b3);obtain⟨Ap,capp,rfl,lD,CB,_,yW⟩:=qAE o3;unfold maxLen at CB;have O3:=qA o3;have AS:w.heap.size+1+1<w2.heap.size:=by have:=fj.o;omega
 have d5:=b3.size;clear b3 o3 q0 q1 q2 q3 q4 q5;go_wp2;go_loopw [5,35] (fun out i wr=> ∃k:Nat,k<=L.length/\i= .int .i64 k/\OwI wr (w.heap.size+1+1) out ((L.take k).map pcR)/\OwPc wr w2 (.slice Ap L.length capp) L/\(∀b,(zaD Ap L.length capp).ownBlock=some b->out.ownBlock≠some b)/\Wf (w.heap.size+1+1) W0 wr/\w2.heap.size<=wr.heap.size) (fun _ i _=>L.length-(intOf i).toNat)
 case atStart=>exact⟨0,zaj _,rfl,dI,O3,fun b hb e=>by have:=(O3.lt b hb).1;simp[zad] at e;omega,aB.o.mono (by have:=fj.o;omega),d5⟩
 case round=>
  obtain⟨k,hk,rfl,aa,dD,ai,ab,Uj⟩:=hrel;have HO:=qA aa;have kG:=qA dD;have a8:=qA ai;have aU:=qA ab;have fe:((L.take k).map pcR).length<=1600:=by rw[zaU,zaH];omega
  by_cases ac:k<L.length
  ·obtain⟨gp,rfl,te,si⟩:=yW tO;have cT:=(dD.lt gp rfl).2;have cc: ∀j,j<5->wr.cell? ⟨gp,k*5+j,none⟩=(pcC L[k])[j]? :=fun j hj=>by
    rw[zak.cellAt dD (k*5+j) tO,qHr L k j ac hj]
   have c0:=cc 0 tO;have c1:=cc 1 tO;have c2:=cc 2 tO;have c3:=cc 3 tO;have c4:=cc 4 tO;have mF:=Hy.o L[k] tZ;have iG:Wi ((L.take (k+1)).map pcR=(L.take k).map pcR++ [pcR L[k]]):=qA (by rw[zas ac,zaI];rfl);generalize L[k]=d at*;obtain⟨d0,d1,d2,d3,d4⟩:=d;simp only[pcC,zax,zay,zaA] at c0 c1 c2 c3 c4;simp only at mF
   have pd:Wi ((L.take (k+1)).map pcR=(L.take k).map pcR++ [d3-d2+1]):=iG;have dh:IntKind.i64.wrap (d3-d2)=d3-d2:=by rw[IntKind.wrap_i64];omega
   have je:IntKind.i64.wrap (d3-d2+1)=d3-d2+1:=by rw[IntKind.wrap_i64];omega
   have HY:Wi (I64 (d3-d2+1)):=qA ⟨tO,tO⟩;clear cc aa dD ai ab iG;go_wp2_with (at_builtin;refine qW rfl (.tmp 39) (.tmp 46) rfl _ _ _ (OwI.alloc (HO.alloc _) _) rfl _ _ rfl (by simp[go_sem]) HY.o tB tB ?_;intro v9 wv9 o9 g9 p9)
   have gh:=g9.size;simp at gh
   go_roundw
   case rel=>
    refine⟨k+1,tO,by go_num,by rw[pd.o];exact o9,(qP (qP kG ((zae _ _).alloc (zag _) _)) ((zae _ _).alloc (zag _) _)).kept g9 (.inr fun e=>a8.o gp rfl e.symm),fun b' aL e=> ?_,((aU.alloc tO _).alloc (by simp;omega) _).grown g9 (by simp;omega) (fun x hx=>(HO.o.1.lt x hx).1),tO⟩;simp only[zad,zap.injEq] at aL;subst aL;rcases p9 with p9 | p9
    ·rw[p9] at e;exact a8.o gp rfl e
    ·rw[p9] at e;simp at e;omega
   case measure=>exact tM
  ·obtain rfl:k=L.length:=tO
   rw[zam,<-HR.o] at aa;have aI:=qA aa;have cA:Wi (Wf w w wr):=qA (BX.trans (aU.mono tO));obtain⟨Ao,capo,rfl,_⟩:=OwI.form aa;clear aa dD ai ab HO;go_wp2;exact Wj (v:= .slice Ao CR.length capo) (by simp[results,Tryz.results115]) rfl ⟨_,rfl,aI.mono tO,cA.o⟩
section
variable {a:GrD} {B:Nat}
theorem qKc (h:Two a a B B) {p q:Nat} {x:Int} (hp:p/B=p%B) (hq:pnx a.2.2 a.2.2 B p x=some q):q/B=q%B:=by
 have h1:=qHM h hq;rw[hp] at h1;have:=h1.1.trans h1.2.symm
 omega
theorem qQX (h:Two a a B B) {p q:Nat} {x:Int} (hx: -3<=x/\x<=3) (hp: ¬p/B=p%B) (hq:pnx a.2.2 a.2.2 B p x=some q): ¬q/B=q%B:=
 fun e=>hp (qKc h e (qBT h hx hq))
theorem qPK (h:Two a a B B) {ls:List Int} {p:Nat} (hp:p/B=p%B): ∀q∈prsL a a B B ls p,q/B=q%B:=
 qEg (S:=fun q=>q/B=q%B) (fun _ _ _ hs _ hq=>qKc h hs hq) _ _ _ fun q hq=>by rw[zaw.1 hq];exact hp
theorem qMS (h:Two a a B B) {ls:List Int} (hx: ∀x∈ls,-3<=x/\x<=3) {p:Nat} (hp: ¬p/B=p%B): ∀q∈prsL a a B B ls p,¬q/B=q%B:=
 qEg (S:=fun q=> ¬q/B=q%B) (fun _ _ _ hs hm hq=>qQX h (hx _ hm) hs hq) _ _ _ fun q hq=>by rw[zaw.1 hq];exact hp
theorem qPw (h:Two a a B B) {r:Nat} (hr:r<=3): ∀k,(offS a B r k).2=((pcs a a B B r k).2.filter fun d=> !d.2.2.2.2).map pcR/\ ∀p,(p∈(offS a B r k).1↔p∈(pcs a a B B r k).1/\ ¬p/B=p%B):=by
 intro k;induction k with
 | zero=>exact⟨rfl,fun p=>by simp[offS,pcs]⟩
 | succ k ih=>
   obtain⟨Et,y7⟩:=ih;rw[qEk,qCE];unfold ost pst2;have iJ: ∀x∈qB r,-3<=x/\x<=3:=fun x hx=>(qAT hr x hx).1;have iT:k∈prsL a a B B (qB r) k:=qCI h;by_cases hd:k/B=k%B
   ·rw[Wm (.inr hd)];by_cases hm:k∈(pcs a a B B r k).1
    ·rw[Wm hm];exact⟨Et,y7⟩
    ·rw[Wn hm];have he:eqPc B (prsL a a B B (qB r) k)=true:=by
      unfold eqPc;rw[List.any_eq_true];exact⟨k,iT,by simpa using hd⟩
     refine⟨?_,fun p=> ?_⟩
     ·have hf:List.filter (fun d:PcD=> !d.2.2.2.2) [pcD a a B B r k]= []:=by unfold pcD;rw[he];rfl
      rw[zaE,hf,List.append_nil];exact Et
     ·rw[y7,zav];constructor
      ·exact fun hp=>⟨.inl hp.1,hp.2⟩
      ·exact fun hp=>⟨hp.1.elim id fun hq=>absurd (qPK h hd p hq) hp.2,hp.2⟩
   ·by_cases hm:k∈(pcs a a B B r k).1
    ·rw[Wm hm,Wm (.inl ((y7 k).2 ⟨hm,hd⟩))];exact⟨Et,y7⟩
    ·rw[Wn hm,Wn (fun hc=>hc.elim (fun hc=>hm ((y7 k).1 hc).1) hd)];have he:eqPc B (prsL a a B B (qB r) k)=false:=by
      unfold eqPc;rw[List.any_eq_false];exact fun q hq=>by simpa using qMS h iJ hd q hq
     refine⟨?_,fun p=> ?_⟩
     ·have hf:List.filter (fun d:PcD=> !d.2.2.2.2) [pcD a a B B r k]= [pcD a a B B r k]:=by unfold pcD;rw[he];rfl
      rw[zaE,hf,zaI,Et];rfl
     ·rw[zav,zav,y7];constructor
      ·exact fun hp=>hp.elim (fun hp=>⟨.inl hp.1,hp.2⟩) fun hp=>⟨.inr hp,qMS h iJ hd p hp⟩
      ·exact fun hp=>hp.1.elim (fun hq=> .inl ⟨hq,hp.2⟩) .inr
end
def offI (l:List PcD):List Int:=(l.filter fun d=> !d.2.2.2.2).map pcR
theorem qMg (l:List PcD) (k:Nat) (h:k<l.length):offI (l.take (k+1))=offI (l.take k)++if l[k].2.2.2.2=true then [] else [pcR l[k]]:=by
 unfold offI;rw[zas h,zaE,zaI];congr 1
 simp only[List.filter_cons,List.filter_nil];cases l[k].2.2.2.2<;>rfl
theorem qPa (l:List PcD) (k:Nat):(offI (l.take k)).length<=l.length:=by
 unfold offI;rw[zaU];refine Nat.le_trans (List.length_filter_le _ _) ?_;rw[zaH];omega
theorem qCR (va:Wh) (a:GrD) (w:Wg) (ha:ArgG w va a):
  Wk Tryz.prog 24 #[va] w fun e w'=> ∃s,e= .returned s/\OwI w' w s (offR a)/\Wf w w w':=by
 have cJ:=qA ha;have fY:Wi (qS a=false->offR a= []):=qA fun h=>by unfold offR;rw[h];rfl
 have jo:Wi (qS a=true->offR a=(offS a a.2.1.toNat a.1.toNat (a.2.1.toNat*a.2.1.toNat)).2):=qA fun h1=>by unfold offR;rw[h1,Wm rfl]
 generalize offR a=CR at*;obtain⟨Aa,capa,rfl⟩: ∃A' cap,va= .agg #[.int .i64 a.1, .int .i64 a.2.1, .slice A' a.2.2.length cap]:=by
  obtain⟨s,hv,_,_,ha⟩:=cJ.o;obtain⟨A',cap,rfl⟩:=ha.form;exact⟨A',cap,hv⟩
 clear ha;go_enter Tryz.func24,Tryz.ntmps24
 go_wp2_with fail;have bx:Wf w w ((w.alloc (.cells #[.int .i64 a.1,.int .i64 a.2.1, .slice Aa a.2.2.length capa] 26)).alloc (.cells #[] 3)):=ZZ;obtain⟨W0,ah⟩: ∃W,W=(w.alloc (.cells #[.int .i64 a.1,.int .i64 a.2.1, .slice Aa a.2.2.length capa] 26)).alloc (.cells #[] 3):=⟨_,rfl⟩;have oE:OwI W0 (w.heap.size+1) (.slice (some ⟨w.heap.size+1,0,none⟩) 0 0) []:=by
  rw[ah];exact qAc _ [] (w.heap.size+1) tZ (fun _ h=>by cases h) tZ (zag _)
 rw[<-ah] at bx⊢;have aH:W0.heap.size=w.heap.size+1+1:=by rw[ah];simp
 have A0:Wi (W0.cell? ⟨w,0,none⟩=some (.int .i64 a.1)):=qA (by rw[ah];simp[go_sem]);have A1:Wi (W0.cell? ⟨w,1,none⟩=some (.int .i64 a.2.1)):=qA (by rw[ah];simp[go_sem]);have A2:Wi (W0.cell? ⟨w,2,none⟩=some (.slice Aa a.2.2.length capa)):=qA (by rw[ah];simp[go_sem]);clear ah;have bh:w.heap.size<W0.heap.size:=tO;have BX:=qA bx;have fj:=qA aH;have OE:=qA oE;have gn:Wi (∀W,Wf W0 W0 W->ArgG W (.agg #[.int .i64 a.1, .int .i64 a.2.1, .slice Aa a.2.2.length capa]) a):=qA fun W hb=>cJ.o.below (BX.trans (hb.mono tO));clear bx oE aH;refine(qr _ a W0 (gn _ (zae _ _))).mono ?_
 rintro e w2 ⟨rfl,b1⟩;have al:=qA b1;have q0:=(b1.cell (p:=⟨w,0,none⟩) bh).trans A0.o;have q1:=(b1.cell (p:=⟨w,1,none⟩) bh).trans A1.o;have q2:=(b1.cell (p:=⟨w,2,none⟩) bh).trans A2.o;clear b1;rcases e1:qS a with _ | _
 ·have HR:Wi (CR= []):=qA (fY e1);clear e1;go_wp2;exact Wj (v:= .slice (some ⟨w.heap.size+1,0,none⟩) 0 0) (by simp[results,Tryz.results24]) rfl ⟨_,rfl,by rw[HR.o];exact(OE.below al).mono tO,BX.o.trans (al.mono tO)⟩
 have h2:=qKw e1 e1;have HR:=qA (jo e1);have aF:=(qD h2.ga).1;obtain⟨B,hB⟩: ∃B,B=a.2.1.toNat:=⟨_,rfl⟩;obtain⟨r,hr⟩: ∃r,r=a.1.toNat:=⟨_,rfl⟩;rw[<-hB,<-hr] at HR;rw[<-hB] at h2;have eY:a.1=(r:Int):=tO;have bT:r<=3:=tO;have zh:=qA (fun W h h'=>qHl (.agg #[.int .i64 a.1, .int .i64 a.2.1, .slice Aa a.2.2.length capa]) (.agg #[.int .i64 a.1, .int .i64 a.2.1, .slice Aa a.2.2.length capa]) a a B B r W h h' h2 eY eY);have Hy:=qA (qPp h2 bT (B*B) (zag _));have rN:=qA (qHu a a B B r (B*B));have eX:B*B<=1600:=by
  obtain⟨⟨_,x1⟩,_,x2⟩:=h2.bd;exact zaC x1 x2
 rw[(qPw h2 bT (B*B)).1] at HR;generalize (pcs a a B B r (B*B)).2=L at*;have dH:L.length<=1600:=by have:=rN.o;omega
 clear e1 h2 hB hr eY aF eX;go_wp2_with fail;refine(zh w2 (gn _ al) (gn _ al)).mono ?_
 rintro e w3 ⟨s3,m3,rfl,o3,b3⟩;have s2:=al.o.size;have aB:=qA (al.trans (b3.mono s2));have dI:=qA ((OE.below al).below b3);obtain⟨Ap,capp,rfl,lD,CB,_,yW⟩:=qAE o3;unfold maxLen at CB;have O3:=qA o3;have AS:w.heap.size+1<w2.heap.size:=by have:=fj.o;omega
 have d5:=b3.size;clear b3 o3 q0 q1 q2;go_wp2;go_loopw [3,21] (fun out i wr=> ∃k:Nat,k<=L.length/\i= .int .i64 k/\OwI wr (w.heap.size+1) out (offI (L.take k))/\OwPc wr w2 (.slice Ap L.length capp) L/\(∀b,(zaD Ap L.length capp).ownBlock=some b->out.ownBlock≠some b)/\Wf (w.heap.size+1) W0 wr/\w2.heap.size<=wr.heap.size) (fun _ i _=>L.length-(intOf i).toNat)
 case atStart=>exact⟨0,zaj _,rfl,dI,O3,fun b hb e=>by have:=(O3.lt b hb).1;simp[zad] at e;omega,aB.o.mono (by have:=fj.o;omega),d5⟩
 case round=>
  obtain⟨k,hk,rfl,aa,dD,ai,ab,Uj⟩:=hrel;have HO:=qA aa;have kG:=qA dD;have a8:=qA ai;have aU:=qA ab;have fe:(offI (L.take k)).length<=1600:=Nat.le_trans (qPa L k) dH;by_cases ac:k<L.length
  ·obtain⟨gp,rfl,te,si⟩:=yW tO;have cT:=(dD.lt gp rfl).2;have cc: ∀j,j<5->wr.cell? ⟨gp,k*5+j,none⟩=(pcC L[k])[j]? :=fun j hj=>by
    rw[zak.cellAt dD (k*5+j) tO,qHr L k j ac hj]
   have c0:=cc 0 tO;have c1:=cc 1 tO;have c2:=cc 2 tO;have c3:=cc 3 tO;have c4:=cc 4 tO;have mF:=Hy.o L[k] tZ;have iG:=qA (qMg L k ac);generalize L[k]=d at*;obtain⟨d0,d1,d2,d3,d4⟩:=d;simp only[pcC,zax,zay,zaA] at c0 c1 c2 c3 c4;simp only at mF
   have dh:IntKind.i64.wrap (d3-d2)=d3-d2:=by rw[IntKind.wrap_i64];omega
   have je:IntKind.i64.wrap (d3-d2+1)=d3-d2+1:=by rw[IntKind.wrap_i64];omega
   have HY:Wi (I64 (d3-d2+1)):=qA ⟨tO,tO⟩;clear cc aa dD ai ab;cases d4
   ·have pd:Wi (offI (L.take (k+1))=offI (L.take k)++ [d3-d2+1]):=iG;clear iG;go_wp2_with (at_builtin;refine qW rfl (.tmp 28) (.tmp 35) rfl _ _ _ (OwI.alloc (HO.alloc _) _) rfl _ _ rfl (by simp[go_sem]) HY.o tB tB ?_;intro v9 wv9 o9 g9 p9)
    have gh:=g9.size;simp at gh
    go_roundw
    case rel=>
     refine⟨k+1,tO,by go_num,by rw[pd.o];exact o9,(qP (qP kG ((zae _ _).alloc (zag _) _)) ((zae _ _).alloc (zag _) _)).kept g9 (.inr fun e=>a8.o gp rfl e.symm),fun b' aL e=> ?_,((aU.alloc tO _).alloc (by simp;omega) _).grown g9 (by simp;omega) (fun x hx=>(HO.o.1.lt x hx).1),tO⟩;simp only[zad,zap.injEq] at aL;subst aL;rcases p9 with p9 | p9
     ·rw[p9] at e;exact a8.o gp rfl e
     ·rw[p9] at e;simp at e;omega
    case measure=>exact tM
   ·have pd:Wi (offI (L.take (k+1))=offI (L.take k)):=qA (by rw[iG.o];simp);clear iG;go_wp2;go_roundw
    case rel=>
     exact⟨k+1,tO,by go_num,by rw[pd.o];exact HO.o.alloc _,qP kG.o ((zae _ _).alloc (zag _) _),a8.o,aU.o.alloc tO _,by simp;omega⟩
    case measure=>exact tM
  ·obtain rfl:k=L.length:=tO
   rw[zam] at aa;have JB:offI L=CR:=HR.o.symm;rw[JB] at aa;have aI:=qA aa;have cA:Wi (Wf w w wr):=qA (BX.trans (aU.mono tO));obtain⟨Ao,capo,rfl,_⟩:=OwI.form aa;clear aa dD ai ab HO JB;go_wp2;exact Wj (v:= .slice Ao CR.length capo) (by simp[results,Tryz.results24]) rfl ⟨_,rfl,aI.mono tO,cA.o⟩
theorem qEX (va:Wh) (a:GrD) (w:Wg) (ha:ArgG w va a):
  Wk Tryz.prog 22 #[va] w fun e w'=>e= .returned (.bool (malB a))/\Wf w w w':=by
 have cJ:=qA ha;have fY:Wi (qS a=false->malB a=false):=qA fun h=>by unfold malB;rw[h,zaV]
 have jo:Wi (qS a=true->malB a=allN (offR a)):=qA fun h1=>by unfold malB;rw[h1,Bool.and_true]
 have dH:=qLC (g:=a);have wC:=qA (fun v W h=>qCR v a W h);generalize malB a=CR at*;generalize offR a=L at*;obtain⟨Aa,capa,rfl⟩: ∃A' cap,va= .agg #[.int .i64 a.1, .int .i64 a.2.1, .slice A' a.2.2.length cap]:=by
  obtain⟨s,hv,_,_,ha⟩:=cJ.o;obtain⟨A',cap,rfl⟩:=ha.form;exact⟨A',cap,hv⟩
 clear ha;go_enter Tryz.func22,Tryz.ntmps22
 go_wp2_with fail;have bx:Wf w w (w.alloc (.cells #[.int .i64 a.1,.int .i64 a.2.1, .slice Aa a.2.2.length capa] 26)):=ZZ;obtain⟨W0,ah⟩: ∃W,W=(w.alloc (.cells #[.int .i64 a.1,.int .i64 a.2.1, .slice Aa a.2.2.length capa] 26)):=⟨_,rfl⟩;rw[<-ah] at bx⊢;have aH:W0.heap.size=w.heap.size+1:=by rw[ah];simp
 have A0:Wi (W0.cell? ⟨w,0,none⟩=some (.int .i64 a.1)):=qA (by rw[ah];simp[go_sem]);have A1:Wi (W0.cell? ⟨w,1,none⟩=some (.int .i64 a.2.1)):=qA (by rw[ah];simp[go_sem]);have A2:Wi (W0.cell? ⟨w,2,none⟩=some (.slice Aa a.2.2.length capa)):=qA (by rw[ah];simp[go_sem]);clear ah;have bh:w.heap.size<W0.heap.size:=tO;have BX:=qA bx;have fj:=qA aH;have gn:Wi (∀W,Wf W0 W0 W->ArgG W (.agg #[.int .i64 a.1, .int .i64 a.2.1, .slice Aa a.2.2.length capa]) a):=qA fun W hb=>cJ.o.below (BX.trans (hb.mono tO));clear bx aH;refine(qr _ a W0 (gn _ (zae _ _))).mono ?_
 rintro e w2 ⟨rfl,b1⟩;have al:=qA b1;have q0:=(b1.cell (p:=⟨w,0,none⟩) bh).trans A0.o;have q1:=(b1.cell (p:=⟨w,1,none⟩) bh).trans A1.o;have q2:=(b1.cell (p:=⟨w,2,none⟩) bh).trans A2.o;clear b1;rcases e1:qS a with _ | _
 ·have HR:Wi (CR=false):=qA (fY e1);clear e1;go_wp2;exact Wj (v:= .bool false) (by simp[results,Tryz.results22]) rfl ⟨by rw[HR.o],BX.o.trans (al.mono tO)⟩
 have HR:=qA (jo e1);clear e1;go_wp2_with fail;refine(wC _ w2 (gn _ al)).mono ?_
 rintro e w3 ⟨s3,rfl,o3,b3⟩;have aB:=qA (al.trans (b3.mono al.size));obtain⟨Al,capl,rfl,aZ,dK,_⟩:=OwI.form o3;have O1:=qA o3.rd;clear b3 o3 q0 q1 q2;go_wp2;go_loopw [11] (fun i wr=> ∃k:Nat,k<=L.length/\i= .int .i64 k/\allN (L.take k)=true/\Wf w3 w3 wr) (fun i _=>L.length-(intOf i).toNat)
 case atStart=>exact⟨0,zaj _,rfl,rfl,zae _ _⟩
 case round=>
  obtain⟨k,hk,rfl,fy,ab⟩:=hrel;have jb:=qA fy;have HB:=qA (aB.trans (ab.mono aB.size));clear fy;by_cases ac:k<L.length
  ·obtain⟨bl,offl,rfl,cX,gr⟩:=(O1.below ab).at tO;have c0:=gr k ac;have ST:=qA (qFE ac jb);have wF:=qA (qFB ac);generalize L[k]=x at*;clear gr;by_cases hx:0<x
   ·have F:Wi (CR=false):=qA (by rw[HR.o,wF.o hx]);go_wp2;exact Wj (v:= .bool false) (by simp[results,Tryz.results22]) rfl ⟨by rw[F.o],BX.o.trans (HB.mono tO)⟩
   ·have F:=qA (ST hx);go_wp2;go_roundw;exact⟨k+1,tO,by go_num,F.o,ab⟩;exact tM
  ·obtain rfl:k=L.length:=tO
   rw[zam] at jb;have F:Wi (CR=true):=qA (by rw[HR.o,jb.o]);clear ab;go_wp2;exact Wj (v:= .bool true) (by simp[results,Tryz.results22]) rfl ⟨by rw[F.o],BX.o.trans (HB.mono tO)⟩
theorem qDo (va vb:Wh) (a b:GrD) (w:Wg) (ha:ArgG w va a) (hb:ArgG w vb b):
  Wk Tryz.prog 34 #[va,vb] w fun e w'=>e= .returned (.bool (indB a b))/\Wf w w w':=by
 have cJ:=qA ha;have aS:=qA hb;have fY:Wi ((qS a&&qS b&&decide (a.1=b.1))=false->indB a b=false):=qA fun h=>by unfold indB;rw[h,zaV]
 have jo:Wi (qS a=true->qS b=true->a.1=b.1->indB a b=allN (qDD a b)):=qA fun h1 h2 h3=>by unfold indB;rw[h1,h2,h3];simp
 have dH:=qIf (a:=a) (b:=b);have wC:=qA (fun v v' W h h'=>qDV v v' a b W h h');generalize indB a b=CR at*;generalize qDD a b=L at*;obtain⟨Aa,capa,rfl⟩: ∃A' cap,va= .agg #[.int .i64 a.1, .int .i64 a.2.1, .slice A' a.2.2.length cap]:=by
  obtain⟨s,hv,_,_,ha⟩:=cJ.o;obtain⟨A',cap,rfl⟩:=ha.form;exact⟨A',cap,hv⟩
 obtain⟨Ab,capb,rfl⟩: ∃A' cap,vb= .agg #[.int .i64 b.1, .int .i64 b.2.1, .slice A' b.2.2.length cap]:=by
  obtain⟨s,hv,_,_,ha⟩:=aS.o;obtain⟨A',cap,rfl⟩:=ha.form;exact⟨A',cap,hv⟩
 clear ha hb;go_enter Tryz.func34,Tryz.ntmps34
 go_wp2_with fail;have bx:Wf w w (((w.alloc (.cells #[.int .i64 a.1,.int .i64 a.2.1, .slice Aa a.2.2.length capa] 26)).alloc (.cells #[.int .i64 b.1,.int .i64 b.2.1, .slice Ab b.2.2.length capb] 26))):=ZZ;obtain⟨W0,ah⟩: ∃W,W=((w.alloc (.cells #[.int .i64 a.1,.int .i64 a.2.1, .slice Aa a.2.2.length capa] 26)).alloc (.cells #[.int .i64 b.1,.int .i64 b.2.1, .slice Ab b.2.2.length capb] 26)):=⟨_,rfl⟩;rw[<-ah] at bx⊢;have aH:W0.heap.size=w.heap.size+1+1:=by rw[ah];simp
 have A0:Wi (W0.cell? ⟨w,0,none⟩=some (.int .i64 a.1)):=qA (by rw[ah];simp[go_sem]);have A1:Wi (W0.cell? ⟨w,1,none⟩=some (.int .i64 a.2.1)):=qA (by rw[ah];simp[go_sem]);have A2:Wi (W0.cell? ⟨w,2,none⟩=some (.slice Aa a.2.2.length capa)):=qA (by rw[ah];simp[go_sem]);have B0:Wi (W0.cell? ⟨w.heap.size+1,0,none⟩=some (.int .i64 b.1)):=qA (by rw[ah];simp[go_sem]);have B1:Wi (W0.cell? ⟨w.heap.size+1,1,none⟩=some (.int .i64 b.2.1)):=qA (by rw[ah];simp[go_sem]);have B2:Wi (W0.cell? ⟨w.heap.size+1,2,none⟩=some (.slice Ab b.2.2.length capb)):=qA (by rw[ah];simp[go_sem]);clear ah;have bh:w.heap.size<W0.heap.size:=tO;have bk:w.heap.size+1<W0.heap.size:=tO;have BX:=qA bx;have fj:=qA aH;have gn:Wi (∀W,Wf W0 W0 W->ArgG W (.agg #[.int .i64 a.1, .int .i64 a.2.1, .slice Aa a.2.2.length capa]) a):=qA fun W hb=>cJ.o.below (BX.trans (hb.mono tO));have kB:Wi (∀W,Wf W0 W0 W->ArgG W (.agg #[.int .i64 b.1, .int .i64 b.2.1, .slice Ab b.2.2.length capb]) b):=qA fun W hb=>aS.o.below (BX.trans (hb.mono tO));clear bx aH;refine(qr _ a W0 (gn _ (zae _ _))).mono ?_
 rintro e w1 ⟨rfl,b1⟩;have d8:=qA b1;have q3:=(b1.cell (p:=⟨w.heap.size+1,0,none⟩) bk).trans B0.o;have q4:=(b1.cell (p:=⟨w.heap.size+1,1,none⟩) bk).trans B1.o;have q5:=(b1.cell (p:=⟨w.heap.size+1,2,none⟩) bk).trans B2.o;have q0:=(b1.cell (p:=⟨w,0,none⟩) bh).trans A0.o;clear b1;rcases e1:qS a with _ | _
 ·have HR:Wi (CR=false):=qA (fY (by rw[e1];rfl));clear e1;go_wp2;exact Wj (v:= .bool false) (by simp[results,Tryz.results34]) rfl ⟨by rw[HR.o],BX.o.trans (d8.mono tO)⟩
 go_wp2_with fail;refine(qr _ b w1 (kB _ d8)).mono ?_
 rintro e w2 ⟨rfl,b2⟩;have al:=qA (d8.trans (b2.mono d8.size));clear b2 q0 q3 q4 q5;have q0:=(al.cell (p:=⟨w,0,none⟩) bh).trans A0.o;have q1:=(al.cell (p:=⟨w,1,none⟩) bh).trans A1.o;have q3:=(al.cell (p:=⟨w.heap.size+1,0,none⟩) bk).trans B0.o;have q4:=(al.cell (p:=⟨w.heap.size+1,1,none⟩) bk).trans B1.o;rcases e2:qS b with _ | _
 ·have HR:Wi (CR=false):=qA (fY (by rw[e1,e2];rfl));clear e1 e2;go_wp2;exact Wj (v:= .bool false) (by simp[results,Tryz.results34]) rfl ⟨by rw[HR.o],BX.o.trans (al.mono tO)⟩
 rcases e3:(a.1 != b.1) with _ | _
 rotate_left
 ·have HR:Wi (CR=false):=qA (fY (by simp at e3;simp[e3]));clear e1 e2;go_wp2;exact Wj (v:= .bool false) (by simp[results,Tryz.results34]) rfl ⟨by rw[HR.o],BX.o.trans (al.mono tO)⟩
 have gq:a.1=b.1:=by simpa using e3
 have HR:=qA (jo e1 e2 gq);have q2:=(al.cell (p:=⟨w,2,none⟩) bh).trans A2.o;have q5:=(al.cell (p:=⟨w.heap.size+1,2,none⟩) bk).trans B2.o;clear e1 e2 gq;go_wp2_with fail;refine(wC _ _ w2 (gn _ al) (kB _ al)).mono ?_
 rintro e w3 ⟨s3,rfl,o3,b3⟩;have aB:=qA (al.trans (b3.mono al.size));obtain⟨Al,capl,rfl,aZ,dK,_⟩:=OwI.form o3;have O1:=qA o3.rd;clear b3 o3 q0 q1 q2 q3 q4 q5;go_wp2;go_loopw [26] (fun i wr=> ∃k:Nat,k<=L.length/\i= .int .i64 k/\allN (L.take k)=true/\Wf w3 w3 wr) (fun i _=>L.length-(intOf i).toNat)
 case atStart=>exact⟨0,zaj _,rfl,rfl,zae _ _⟩
 case round=>
  obtain⟨k,hk,rfl,fy,ab⟩:=hrel;have jb:=qA fy;have HB:=qA (aB.trans (ab.mono aB.size));clear fy;by_cases ac:k<L.length
  ·obtain⟨bl,offl,rfl,cX,gr⟩:=(O1.below ab).at tO;have c0:=gr k ac;have ST:=qA (qFE ac jb);have wF:=qA (qFB ac);generalize L[k]=x at*;clear gr;by_cases hx:0<x
   ·have F:Wi (CR=false):=qA (by rw[HR.o,wF.o hx]);go_wp2;exact Wj (v:= .bool false) (by simp[results,Tryz.results34]) rfl ⟨by rw[F.o],BX.o.trans (HB.mono tO)⟩
   ·have F:=qA (ST hx);go_wp2;go_roundw;exact⟨k+1,tO,by go_num,F.o,ab⟩;exact tM
  ·obtain rfl:k=L.length:=tO
   rw[zam] at jb;have F:Wi (CR=true):=qA (by rw[HR.o,jb.o]);clear ab;go_wp2;exact Wj (v:= .bool true) (by simp[results,Tryz.results34]) rfl ⟨by rw[F.o],BX.o.trans (HB.mono tO)⟩
section
open Go.ChangeShapes Go.WideShapes Go.ChangeAt Go.RowKit
theorem qMR {H:Type} {enc:TypeId×Wh->H} {W:Wg} {base:Nat} {spare:Nat->Bool} {held:Bool} {v:Wh} {d:DataW H} {p:List MemPlace}
  (hv:Value.okWide Tryz.prog W .any base 22 v) (h:DataW.Trod enc Tryz.prog W 0 spare held 22 v d p): ∃xs,ArgC W v xs:=by
 obtain⟨a,len,cap,rfl⟩:=okWide_slice Tryz.underlying22 hv;obtain⟨fuel,hf⟩:=h;have hf:DataW.trod enc Tryz.prog W 0 spare held fuel 22 [.slice a len cap]=some (d,p):=by simpa[Value.cells] using hf
 rcases open_ints Tryz.underlying22 Tryz.underlying5 tK hf with ⟨iz,_⟩ | ⟨x,l,c,zs,iz,_,hl,hm,hz,_,am,uL⟩
 ·simp at iz
  obtain⟨rfl,rfl,rfl⟩:=iz;exact⟨[],none,0,rfl,tZ,by simp[maxLen],tZ,tZ⟩
 ·simp at iz
  obtain⟨rfl,rfl,rfl⟩:=iz;have VM:len<=zs.length:=by rw[hz];split<;>omega
  have aM:(zs.take len).length=len:=by simp;omega
  refine⟨zs.take len,_,cap,by rw[aM],tO,hm,fun n hn=> ?_,fun h0=> ?_⟩
  ·have:=uL n (zaK hn)
   simpa[Lit.wf,IntKind.min,IntKind.max,IntKind.signed,IntKind.bits] using this
  ·obtain⟨b,off,sp⟩:=x;have et:sp=none:=by simpa[Addr.add] using World.cell?_spot (am 0 tO)
   subst et;refine⟨b,off,rfl,fun i hi=> ?_⟩;have:=am i tO
   rw[Addr.add_lit] at this;rw[this];simp[List.getD,show i<zs.length by omega]
end
end Go.Proofs.YtnjpoljbagfdnaaGreat
