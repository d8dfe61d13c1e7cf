/- Parts of the proof (4). -/
import Derived.Test.YtnjpoljbagfdnaaGreatM03
import Derived.Deep.RegionHeld3
import Derived.OrdersHeld
set_option maxRecDepth 100000
set_option maxHeartbeats 16000000
set_option linter.unusedVariables false
set_option linter.unusedSimpArgs false
namespace Go.Proofs.YtnjpoljbagfdnaaGreat
open Go.RowKit
open Go.RowKit renaming Below→Wf,Hid→Wi
open Go renaming Calls→Wk,Value→Wh,World→Wg,bodyPost_ret→Wj
open Go.World renaming cell?_setCell_other->zaa,cell?_setCell_same->zaf,frozen?_setCell->zap,cell?_of_block->zaw,ownsRow->zay,frozen?_of_block->zaC
open _root_.List renaming setIfInBounds_toArray->zab,set_cons_zero->zad,set_cons_succ->zae,length_append->zag,mem_append->zah,mem_singleton->zai,replicate->zaj,length_take->zam,take_length->zar,length_drop->zas,getElem?_eq_getElem->zat,take_succ_eq_append_getElem->zau,mem_of_getElem?->zax,length_set->zaz,getElem?_eq_some_iff->zaA,length_singleton->zaE,range->zaF,mem_map->zaG,getElem_of_mem->zaH,length->zaI,getElem?_map->zaJ,foldl_append->zaK,pairwise_iff_getElem->zaL,getElem_mem->zaN,length_map->zaO,length_replicate->zaP,mem_iff_getElem->zaR,map_cons->zaS,replicate_zero->zaT,mem_filterMap->zaV,getElem_drop->zaZ,ext_getElem->za2,cons_append->za3,length_cons->za4,mem_flatMap->za5,nil_append->za6,foldl_cons->za7,nodup_cons->za8,getD->zba,mem_cons->zbb
open _root_.Nat renaming le_refl->zac,zero_le->zav,lt_succ_self->zaD,lt_or_eq_of_le->zaU,le_of_lt_succ->zaW
open Go.RowKit.Below renaming refl->zak,drew->zal
open Go.Act renaming put->zan
open Go.Value renaming slice->zao,ownBlock->zaQ
open _root_.Int renaming toNat_natCast->zaq,le_refl->za0,neg_neg->za1
open _root_.Classical renaming byContradiction->zaB,not_not->zaY
open _root_.Bool renaming and_eq_true->zaM,eq_false_iff->zaX,or_eq_true->za9
theorem qIy (v vo:Wh) (g:GrD) (o:List Int) (w:Wg) (h:ArgG w v g) (ho:RdI w vo o) (hg:grB g=true) (af:OrdN g.2.1 o):
  Wk Tryz.prog 160 #[v,vo] w fun e w'=> ∃r,e= .returned r/\OwG w' w r (rnG g o)/\Wf w w w':=by
 have HG:=qA h;have bH:=qA af;have kH:=qA ho;obtain⟨aF,aA,aD,_⟩:=qD hg;have gR:=qA (fun e he=>qM hg (e:=e) he);have mT:=qA af.1;have D9:=qA (qHs hg).2;obtain⟨r,n,es⟩:=g;simp only at aF aA aD HG gR af bH D9
 obtain⟨N,rfl⟩: ∃N:Nat,n=(N:Int):=⟨n.toNat,tO⟩;have mH:1<=N:=tO;have yq:N<=40:=tO;have fe:o.length<=N:=qBM N o af.1 fun y hy=>by have:=af.2.1 y hy;omega
 have kO:Wi (∀k (hk:k<o.length),∃u:Nat,o[k]=(u:Int)/\u<N):=qA fun k hk=>by
  have:=af.2.1 o[k] tZ
  exact⟨o[k].toNat,tO,tO⟩
 clear aA hg af h;obtain⟨A,cap,rfl,HE⟩: ∃A cap,v= .agg #[.int .i64 r, .int .i64 N, .slice A es.length cap]/\Wi (ArgE w (.slice A es.length cap) es):=by
  obtain⟨s,hv,_,_,ha⟩:=HG.o;obtain⟨A,cap,rfl⟩:=ha.form;exact⟨A,cap,hv,qA ha⟩
 obtain⟨Ao,capo,rfl,jn,uu,_⟩:=ho.arg;have kf:es.length<=cap/\cap<=maxLen:=by
  obtain⟨_,_,hv,h1,h2,_⟩:=HE.o;injection hv with _ _ e3
  subst e3;exact⟨h1,h2⟩
 obtain⟨aR,hm⟩:=kf;unfold maxLen at uu hm;clear ho;have bx:Wf w w ((w.alloc (.cells #[.int .i64 r,.int .i64 N, .slice A es.length cap] 26)).alloc (.cells #[.int .i64 0,.int .i64 0, .slice none 0 0] 26)):=ZZ;go_enter Tryz.func160,Tryz.ntmps160
 obtain⟨i0,ci,cB,bi,bQ⟩:=info_parts qEG;go_wp2_with (at_make;refine wpList_make_full _ rfl _ _ 37 rfl (w.heap.size+1+1) 3 i0 (.int .i64 0) 1 Tryz.underlying37 ci cB bi _ _ _ _ N rfl rfl rfl rfl (by rw[bQ];omega) (by unfold maxLen;omega) tZ ?_)
 obtain⟨W0,ah⟩: ∃W,W=(w.alloc (.cells #[.int .i64 r,.int .i64 N, .slice A es.length cap] 26)).alloc (.cells #[.int .i64 0,.int .i64 0, .slice none 0 0] 26):=⟨_,rfl⟩;rw[<-ah] at bx⊢;have aH:W0.heap.size=w.heap.size+1+1:=by rw[ah];simp
 have B0:Wi (W0.cell? ⟨w,0,none⟩=some (.int .i64 r)):=qA (by rw[ah];simp[go_sem]);have B2:Wi (W0.cell? ⟨w,2,none⟩=some (.slice A es.length cap)):=qA (by rw[ah];simp[go_sem]);have R0:Wi (W0.cell? ⟨w.heap.size+1,0,none⟩=some (.int .i64 0)):=qA (by rw[ah];simp[go_sem]);have R1:Wi (W0.cell? ⟨w.heap.size+1,1,none⟩=some (.int .i64 0)):=qA (by rw[ah];simp[go_sem]);have R2:Wi (W0.cell? ⟨w.heap.size+1,2,none⟩=some (.slice none 0 0)):=qA (by rw[ah];simp[go_sem]);have RF:Wi (∀j,W0.frozen? ⟨w.heap.size+1,j,none⟩=false):=qA fun j=>by rw[ah];simp[go_sem]
 clear ah;rw[<-aH];have BX:=qA bx;have fj:=qA aH;have mI:w.heap.size<W0.heap.size:=tO;have eR:w.heap.size+1<W0.heap.size:=tO;clear bx aH;intro w2 hown0 hgrow0;have bU:OwI w2 W0 (.slice (some ⟨W0,0,none⟩) N N) (zaj 0 (-1)++zaj (N-0) 0):=by
  refine⟨?_,fun y hy=> ?_⟩
  ·simp only[zaT,za6,Nat.sub_zero,zaP];have:ints (zaj N 0)=zaj N (Value.int .i64 0):=by simp[ints]
   rw[this];simpa[toList_madeCells_one] using hown0
  ·simp only[zaT,za6,Nat.sub_zero] at hy;obtain⟨_,rfl⟩:=List.mem_replicate.1 hy;exact⟨by decide,by decide⟩
 have Ai:=qA bU;have Ih:=qA ((zak W0 W0).grown hgrow0 (zac _) (fun k h=>by cases h));clear bU hown0 hgrow0;go_wp2;go_loopw [17] (fun i wr=> ∃k:Nat,k<=N/\i= .int .i64 k/\OwI wr W0 (.slice (some ⟨W0,0,none⟩) N N) (zaj k (-1)++zaj (N-k) 0)/\Wf W0 W0 wr) (fun i _=>N-(intOf i).toNat)
 case atStart=>exact⟨0,zav _,rfl,Ai,Ih⟩
 case round=>
  obtain⟨k,hk,rfl,aa,ab⟩:=hrel;have HB:=qA ab;have hs:=ab.size;have HO:=qA aa;by_cases ac:k<N
  ·have am:=aa.cellAt k (by simp;omega);have zy:=aa.free k;have HS:=qA (aa.set k (-1) ⟨by decide,by decide⟩);have cE:=qA (qJt N k ac);clear aa ab;generalize (zaj k (-1:Int)++zaj (N-k) 0)[k]'(by simp;omega)=z0 at am;go_wp2;go_roundw;exact⟨k+1,tO,by go_num,by rw[<-cE.o];exact HS.o.1,HB.o.grown HS.o.2 tO (fun j hj=>by cases hj;exact zac _)⟩;exact tM
  ·obtain rfl:k=N:=tO
   have ua:Wi (OwI wr W0 (.slice (some ⟨W0,0,none⟩) k k) (plc k (o.take 0) 1)):=qA (by
    rw[List.take_zero,qKM];simpa using HO.o)
   clear aa ab;go_wp2;go_loopw [26] (fun i wr=> ∃j:Nat,j<=o.length/\i= .int .i64 j/\OwI wr W0 (.slice (some ⟨W0,0,none⟩) k k) (plc k (o.take j) 1)/\Wf W0 W0 wr) (fun i _=>o.length-(intOf i).toNat)
   case atStart=>exact⟨0,zav _,rfl,ua,HB⟩
   case round=>
    obtain⟨j,hj,rfl,aa,ab⟩:=hrel;have d8:=qA ab;have aE:=ab.size;have aI:=qA aa;by_cases aj:j<o.length
    ·obtain⟨bo,offo,rfl,oV,pG⟩:=(kH.below (BX.trans (ab.mono tO))).at tO;have c0:=pG j aj;obtain⟨u,hu,zz⟩:=kO.o j aj;rw[hu] at c0;have ko:=aa.cellAt u (by rw[qEf];exact zz);have zy:=aa.free u;have cE:=qA (aa.set u (j:Int) ⟨tO,tO⟩);have yc:Wi ((plc k (o.take j) 1).set u (j:Int)=plc k (o.take (j+1)) 1):=qA (by
      have:=qLD k o 1 j aj mT.o u hu
      rwa [Int.add_sub_cancel] at this)
     generalize (plc k (o.take j) 1)[u]'(by rw[qEf];exact zz)=z0 at ko;have j0:(0:Int)<=(u:Int):=tO;have j1:(u:Int)<(k:Int):=tO;clear pG hu aa ab;go_wp2;go_roundw;exact⟨j+1,tO,by go_num,by rw[<-yc.o];exact cE.o.1,d8.o.grown cE.o.2 tO (fun j hj=>by cases hj;exact zac _)⟩;exact tM
    ·obtain rfl:j=o.length:=tO
     rw[zar] at aI;have hP:=(aI.o.1.lt W0 rfl).2;have q0:=(ab.cell (p:=⟨w,0,none⟩) mI).trans B0.o;have q2:=(ab.cell (p:=⟨w,2,none⟩) mI).trans B2.o;have mE:w.heap.size<wr.heap.size:=tO;have TC:w.heap.size+1<wr.heap.size:=tO;have hA: ∀ob o',(wr.alloc ob).cell? ⟨w,o',none⟩=wr.cell? ⟨w,o',none⟩:=fun ob o'=>zaw (Below.heap_alloc wr ob (w.heap.size) mE);clear aa ab;go_wp2;generalize eH:wr=w5 at*;clear eH;have iM:Wi (∀(wl:Wg),w5.grownBy wl (some w5)-> ∀u:Nat,u<k->wl.cell? ⟨W0,u,none⟩=some (.int .i64 (plv o u-1))):=qA fun wl hg u hu=>by
      rw[qAo hg hP tO,aI.o.cellAt u (by rw[qEf];exact hu),qKb _ _ _ _ hu]
     have PLR:Wi (∀v:Int,0<=plv o v/\plv o v<=40):=qA fun v=>by have:=qAu o v;omega
     go_loopw [44] (fun i wl=> ∃(j:Nat) (A2:Option Addr) (ao:Nat),j<=es.length/\i= .int .i64 j/\wl.cell? ⟨w5,2,none⟩=some (.slice A2 (rnL (es.take j) o).length ao)/\OwE wl (w5.heap.size+1) (.slice A2 (rnL (es.take j) o).length ao) (rnL (es.take j) o)/\w5.grownBy wl (some w5)/\wl.cell? ⟨w5,0,none⟩=some (.int .i64 r)/\wl.cell? ⟨w5,1,none⟩=some (.int .i64 o.length)/\(∀j,wl.frozen? ⟨w5,j,none⟩=false)/\w5.heap.size<wl.heap.size) (fun i _=>es.length-(intOf i).toNat)
     case atStart=>exact⟨0,none,0,zav _,rfl,by show _=some (zao none 0 0);simp[go_sem],OwE.nil,qAZ ((zak _ _).alloc (zac _) _),by simp[go_sem],by simp[go_sem],fun j=>by simp[go_sem],tZ⟩
     case round=>
      obtain⟨j,A2,ao,fo,rfl,ij,cD,aC,ek,gt,kY,eS⟩:=hrel;have fZ:=qA aC;have nN:=aC.size;have EJ:=qA (BX.trans (d8.mono (show w.heap.size<=W0.heap.size by omega)));have nU:=qA (EJ.o.grown aC tO (fun j hj=>by cases hj;omega));have b2:=(qAo (o:=2) aC (show w.heap.size<w5.heap.size by omega) tO).trans q2;have iP:=qA ij;have jM:=qA ek;have fW:=qA gt;have mO:=qA kY;clear ek gt kY;have dR:=qA cD;clear aC cD;by_cases mE:j<es.length
      ·obtain⟨be,offe,rfl,kF,c0,c1,c2,dl⟩:=(HE.below nU).at mE;obtain⟨e1,e2,e3⟩:=gR.o es[j] tZ;have HS:=qA (qLW es o j mE);have yT:Wi (∀x,rnE o es[j]=some x->rnL (es.take (j+1)) o=rnL (es.take j) o++ [x]):=qA fun x hx=>by
        rw[HS.o,hx];rfl
       have tt:Wi (rnE o es[j]=none->rnL (es.take (j+1)) o=rnL (es.take j) o):=qA fun hx=>by rw[HS.o,hx];simp
       have oK:(rnL (es.take j) o).length<=120:=by
        have h2:=qHy (es.take j) o;rw[zam] at h2;omega
       generalize es[j]=e at*;obtain⟨f,l,t⟩:=e;simp only at e1 e2 e3 c0 c1 c2
       obtain⟨a,rfl⟩: ∃a:Nat,f=(a:Int):=⟨f.toNat,tO⟩;obtain⟨c,rfl⟩: ∃c:Nat,t=(c:Int):=⟨t.toNat,tO⟩;have pa:=iM.o wr fZ.o a tO;have pc:=iM.o wr fZ.o c tO;obtain⟨SU,SN⟩:=PLR.o a;obtain⟨Qi,Rw⟩:=PLR.o c;have RN:Wi (rnE o ((a:Int),l,(c:Int))=if 0<plv o a/\0<plv o c then some (plv o a-1,l,plv o c-1) else none):=qA rfl;have ja:(a:Int)<(k:Int):=tO;have jc:(c:Int)<(k:Int):=tO;have KW:(0:Int)<=(a:Int):=tO;have MI:(0:Int)<=(c:Int):=tO;have Br:W0.heap.size<wr.heap.size:=tO;have pp:I64 l:=by unfold I64;omega
       have vu:=qA pp;generalize plv o a=pav at*;generalize plv o c=pcv at*;generalize hL:rnL (es.take j) o=L at*;clear pp HS dl;have bA:Wf wr wr (wr.alloc (.cells #[.int .i64 a,.int .i64 l,.int .i64 c] 97)):=(zak _ _).alloc (zac _) _;by_cases t1:0<=pav-1
       ·by_cases t2:0<=pcv-1
        ·have F:=qA (yT _ (by rw[RN.o,Wm ⟨tO,tO⟩]));go_wp2_with fail;have sA:wr.heap.size<(wr.alloc (.cells #[.int .i64 a,.int .i64 l,.int .i64 c] 97)).heap.size:=tZ;have l0:(wr.alloc (.cells #[.int .i64 a,.int .i64 l,.int .i64 c] 97)).cell? ⟨wr,0,none⟩=some (.int .i64 a):=by simp[go_sem]
         have l1:(wr.alloc (.cells #[.int .i64 a,.int .i64 l,.int .i64 c] 97)).cell? ⟨wr,1,none⟩=some (.int .i64 l):=by simp[go_sem]
         have l2:(wr.alloc (.cells #[.int .i64 a,.int .i64 l,.int .i64 c] 97)).cell? ⟨wr,2,none⟩=some (.int .i64 c):=by simp[go_sem]
         generalize wr.alloc (.cells #[.int .i64 a,.int .i64 l,.int .i64 c] 97)=W at bA sA l0 l1 l2⊢;have la:=(bA.cell (p:=⟨W0,a,none⟩) Br).trans pa;have lc:=(bA.cell (p:=⟨W0,c,none⟩) Br).trans pc;have lx:=(bA.cell (p:=⟨w5,2,none⟩) eS).trans iP.o;have Cw:=qA ((bA.cell (p:=⟨w5,0,none⟩) eS).trans jM.o);have CY:=qA ((bA.cell (p:=⟨w5,1,none⟩) eS).trans fW.o);have LXF:Wi (∀j,W.frozen? ⟨w5,j,none⟩=false):=qA fun j=>(bA.frozen (p:=⟨w5,j,none⟩) eS).trans (mO.o j);have OW:=qA (dR.o.below bA);have GW:=qA (fZ.o.trans (qAZ bA));have jp:w5.heap.size<W.heap.size:=tO;have tP:W0.heap.size<W.heap.size:=tO;have IU:W0.heap.size≠w5.heap.size:=tO;clear bA pa pc ij;refine qCf (n:=18) (S:=fun w'=>w'.cell? ⟨w5,2,none⟩=some (.slice A2 L.length ao)/\w'.cell? ⟨W0,a,none⟩=some (.int .i64 (pav-1))/\w'.cell? ⟨W0,c,none⟩=some (.int .i64 (pcv-1))/\w'.cell? ⟨wr,0,none⟩=some (.int .i64 a)/\w'.cell? ⟨wr,1,none⟩=some (.int .i64 l)/\w'.cell? ⟨wr,2,none⟩=some (.int .i64 c)) tK (by rfl) ⟨lx,la,lc,l0,l1,l2⟩ (fun hHeld=> ?_);(refine qL (n:=18) (i:=0) (v:= ?_) rfl tK rfl tD tK tK tK tK (fun _ _ _ h=>h) (Or.inl ⟨by rfl,?_⟩) (by assumption) ?_;rotate_left;focus (intro ww an;(try dsimp only at an);go_simp;try with_reducible rfl);(try simp only[zan,zab,zad,zae]));(refine qL (n:=18) (i:=1) (v:= ?_) rfl tK rfl tD tK tK tK tK (fun _ _ _ h=>h) (Or.inl ⟨by rfl,?_⟩) (by assumption) ?_;rotate_left;focus (intro ww an;(try dsimp only at an);go_simp;try with_reducible rfl);(try simp only[zan,zab,zad,zae]));(refine qL (n:=18) (i:=2) (v:= ?_) rfl tK rfl tD tK tK tK tK (fun _ _ _ h=>h) (Or.inl ⟨by rfl,?_⟩) (by assumption) ?_;rotate_left;focus (intro ww an;(try dsimp only at an);go_simp;try with_reducible rfl);(try simp only[zan,zab,zad,zae]));(refine qL (n:=18) (i:=3) (v:= ?_) rfl tK rfl tD tK tK tK tK (fun _ _ _ h=>h) (Or.inl ⟨by rfl,?_⟩) (by assumption) ?_;rotate_left;focus (intro ww an;(try dsimp only at an);go_simp;try with_reducible rfl);(try simp only[zan,zab,zad,zae]));(refine qL (n:=18) (i:=4) (v:= ?_) rfl tK rfl tD tK tK tK tK (fun _ _ _ h=>h) (Or.inl ⟨by rfl,?_⟩) (by assumption) ?_;rotate_left;focus (intro ww an;(try dsimp only at an);go_simp;try with_reducible rfl);(try simp only[zan,zab,zad,zae]));(refine qL (n:=18) (i:=5) (v:= ?_) rfl tK rfl tD tK tK tK tK (fun _ _ _ h=>h) (Or.inl ⟨by rfl,?_⟩) (by assumption) ?_;rotate_left;focus (intro ww an;(try dsimp only at an);go_simp;try with_reducible rfl);(try simp only[zan,zab,zad,zae]));(refine qL (n:=18) (i:=6) (v:= ?_) rfl tK rfl tD tK tK tK tK (fun _ _ _ h=>h) (Or.inl ⟨by rfl,?_⟩) (by assumption) ?_;rotate_left;focus (intro ww an;(try dsimp only at an);go_simp;try with_reducible rfl);(try simp only[zan,zab,zad,zae]));(refine qL (n:=18) (i:=7) (v:= ?_) rfl tK rfl tD tK tK tK tK (fun _ _ _ h=>h) (Or.inl ⟨by rfl,?_⟩) (by assumption) ?_;rotate_left;focus (intro ww an;(try dsimp only at an);go_simp;try with_reducible rfl);(try simp only[zan,zab,zad,zae]));(refine qL (n:=18) (i:=8) (v:= ?_) rfl tK rfl tD tK tK tK tK (fun _ _ _ h=>h) (Or.inl ⟨by rfl,?_⟩) (by assumption) ?_;rotate_left;focus (intro ww an;(try dsimp only at an);go_simp;try with_reducible rfl);(try simp only[zan,zab,zad,zae]));(refine qL (n:=18) (i:=9) (v:= ?_) rfl tK rfl tD tK tK tK tK (fun _ _ _ h=>h) (Or.inl ⟨by rfl,?_⟩) (by assumption) ?_;rotate_left;focus (intro ww an;(try dsimp only at an);go_simp;try with_reducible rfl);(try simp only[zan,zab,zad,zae]));(refine qL (n:=18) (i:=10) (v:= ?_) rfl tK rfl tD tK tK tK tK (fun _ _ _ h=>h) (Or.inl ⟨by rfl,?_⟩) (by assumption) ?_;rotate_left;focus (intro ww an;(try dsimp only at an);go_simp;try with_reducible rfl);(try simp only[zan,zab,zad,zae]));(refine qL (n:=18) (i:=11) (v:= ?_) rfl tK rfl tD tK tK tK tK (fun _ _ _ h=>h) (Or.inl ⟨by rfl,?_⟩) (by assumption) ?_;rotate_left;focus (intro ww an;(try dsimp only at an);go_simp;try with_reducible rfl);(try simp only[zan,zab,zad,zae]));(refine qL (n:=18) (i:=12) (v:= ?_) rfl tK rfl tD tK tK tK tK (fun _ _ _ h=>h) (Or.inl ⟨by rfl,?_⟩) (by assumption) ?_;rotate_left;focus (intro ww an;(try dsimp only at an);go_simp;try with_reducible rfl);(try simp only[zan,zab,zad,zae]));(refine qL (n:=18) (i:=13) (v:= ?_) rfl tK rfl tD tK tK tK tK (fun _ _ _ h=>h) (Or.inl ⟨by rfl,?_⟩) (by assumption) ?_;rotate_left;focus (intro ww an;(try dsimp only at an);go_simp;try with_reducible rfl);(try simp only[zan,zab,zad,zae]));(refine qL (n:=18) (i:=14) (v:= ?_) rfl tK rfl tD tK tK tK tK (fun _ _ _ h=>h) (Or.inl ⟨by rfl,?_⟩) (by assumption) ?_;rotate_left;focus (intro ww an;(try dsimp only at an);go_simp;try with_reducible rfl);(try simp only[zan,zab,zad,zae]))
         refine qAU (i:=15) tK rfl fun K' hK=> ?_;go_simp;have VS:W0.heap.size≠W.heap.size:=tO;have Va:w5.heap.size≠W.heap.size:=tO;have UH:wr.heap.size≠W.heap.size:=tO;have bB:Wf W W (W.alloc (.cells #[.int .i64 (pav-1),.int .i64 l,.int .i64 (pcv-1)] 97)).drew:=ZZ;have nE: ∀j u,(edC (pav-1,l,pcv-1))[j]? =some u->(W.alloc (.cells #[.int .i64 (pav-1),.int .i64 l,.int .i64 (pcv-1)] 97)).drew.cell? ⟨W,j,none⟩=some u:=fun j u hj=>by
          rcases j with _ | _ | _ | j<;>simp[edC] at hj<;>subst hj<;>simp[go_sem]
         have sB:W.heap.size<(W.alloc (.cells #[.int .i64 (pav-1),.int .i64 l,.int .i64 (pcv-1)] 97)).drew.heap.size:=tZ;have eC:(W.alloc (.cells #[.int .i64 (pav-1),.int .i64 l,.int .i64 (pcv-1)] 97)).drew.cell? ⟨w5,2,none⟩=some (.slice A2 L.length ao)/\(W.alloc (.cells #[.int .i64 (pav-1),.int .i64 l,.int .i64 (pcv-1)] 97)).drew.cell? ⟨W0,a,none⟩=some (.int .i64 (pav-1))/\(W.alloc (.cells #[.int .i64 (pav-1),.int .i64 l,.int .i64 (pcv-1)] 97)).drew.cell? ⟨W0,c,none⟩=some (.int .i64 (pcv-1))/\(W.alloc (.cells #[.int .i64 (pav-1),.int .i64 l,.int .i64 (pcv-1)] 97)).drew.cell? ⟨wr,0,none⟩=some (.int .i64 a)/\(W.alloc (.cells #[.int .i64 (pav-1),.int .i64 l,.int .i64 (pcv-1)] 97)).drew.cell? ⟨wr,1,none⟩=some (.int .i64 l)/\(W.alloc (.cells #[.int .i64 (pav-1),.int .i64 l,.int .i64 (pcv-1)] 97)).drew.cell? ⟨wr,2,none⟩=some (.int .i64 c):=
          ⟨(bB.cell (p:=⟨w5,2,none⟩) jp).trans lx,(bB.cell (p:=⟨W0,a,none⟩) tP).trans la,(bB.cell (p:=⟨W0,c,none⟩) tP).trans lc,(bB.cell (p:=⟨wr,0,none⟩) sA).trans l0,(bB.cell (p:=⟨wr,1,none⟩) sA).trans l1,(bB.cell (p:=⟨wr,2,none⟩) sA).trans l2⟩
         clear hHeld;refine hK.o _ _ eC (fun _=> ?_);clear hK;generalize (W.alloc (.cells #[.int .i64 (pav-1),.int .i64 l,.int .i64 (pcv-1)] 97)).drew=V at bB nE sB eC⊢;have sV:W.heap.size<V.heap.size:=sB;refine qAU (i:=16) tK rfl fun K' hK=> ?_;rw[Wm (by rfl)];refine qBs (.tmp 63) (.tmp 77) rfl (w5.heap.size+1) _ L (OW.below bB) rfl W (pav-1,l,pcv-1) rfl nE ⟨⟨by simp only;omega,by simp only;omega⟩,vu.o,⟨by simp only;omega,by simp only;omega⟩⟩ tO tO ?_;intro v' w' o' g' p';obtain⟨A9,bM,rfl,_⟩:=OwE.form o';have O9:=qA o';clear o';have bD: ∀x,(zao A2 L.length ao).ownBlock=some x->w5.heap.size+1<=x/\x<wr.heap.size:=fun x hx=>dR.o.1.lt x hx;have EM: ∀y,y<V.heap.size->(y<=w5.heap.size\/y=wr.heap.size)->some y≠(zao A2 L.length ao).ownBlock:=fun y _ h he=>by
          have:=bD y he.symm
          omega
         have cW: ∀y o u,y<V.heap.size->(y<=w5.heap.size\/y=wr.heap.size)->V.cell? ⟨y,o,none⟩=some u->w'.cell? ⟨y,o,none⟩=some u:=fun y o u h1 h2 h3=>(zaw (w:=V) (g'.block y h1 (EM y h1 h2))).trans h3;obtain⟨k1,k2,k3,k4,k5,k6⟩:=eC;have nQ:w'.cell? ⟨w5,2,none⟩=some (.slice A2 L.length ao)/\w'.cell? ⟨W0,a,none⟩=some (.int .i64 (pav-1))/\w'.cell? ⟨W0,c,none⟩=some (.int .i64 (pcv-1))/\w'.cell? ⟨wr,0,none⟩=some (.int .i64 a)/\w'.cell? ⟨wr,1,none⟩=some (.int .i64 l)/\w'.cell? ⟨wr,2,none⟩=some (.int .i64 c):=
          ⟨cW _ _ _ tO tO k1,cW _ _ _ tO tO k2,cW _ _ _ tO tO k3,cW _ _ _ tO tO k4,cW _ _ _ tO tO k5,cW _ _ _ tO tO k6⟩
         refine hK.o _ _ nQ (fun _=> ?_);clear hK;simp only[zan,zab,zad,zae];(refine qL (n:=18) (i:=17) (v:= ?_) rfl tK rfl tD tK tK tK tK (fun _ _ _ h=>h) (Or.inl ⟨by rfl,?_⟩) (by assumption) ?_;rotate_left;focus (intro ww an;(try dsimp only at an);go_simp;try with_reducible rfl);(try simp only[zan,zab,zad,zae]))
         have qf:w'.frozen? ⟨w5,2,none⟩=false:=((zaC (w:=V) (g'.block w5 tO (EM _ tO tO))).trans (bB.frozen (p:=⟨w5,2,none⟩) jp)).trans (LXF 2);have qx:=nQ.1;refine qDL (n:=18) tK rfl tK fun K' hK=> ?_;go_simp;refine hK.o _ _ ?_;clear hK;go_wp2;go_roundw
         case rel=>
          have GV:w5.grownBy V (some w5):=GW.o.trans (qAZ bB);have VA:=g'.size;have G9:w5.grownBy w' (some w5):=⟨g'.os.trans GV.os,g'.tape.trans GV.tape,g'.output.trans GV.output,tO,fun b hb ai=>(g'.block b tO (EM b tO tO)).trans (GV.block b hb ai)⟩;refine⟨j+1,A9,bM,tO,by go_num,by rw[F.o,zag];exact zaf _ _ _ qx,?_,G9.trans (qAl _ _ _ _),?_,?_,fun j=> ?_,by simp;omega⟩
          ·rw[F.o];have:=O9.o.far (p:=⟨w5,2,none⟩) (show w5.heap.size<w5.heap.size+1 by omega) (zao A9 (L.length+1) bM)
           simpa[zag] using this
          ·rw[zaa _ _ _ _ tZ];exact cW _ _ _ tO tO ((bB.cell (p:=⟨w5,0,none⟩) jp).trans Cw)
          ·rw[zaa _ _ _ _ tZ];exact cW _ _ _ tO tO ((bB.cell (p:=⟨w5,1,none⟩) jp).trans CY)
          ·rw[zap];exact((zaC (w:=V) (g'.block w5 tO (EM _ tO tO))).trans (bB.frozen (p:=⟨w5,j,none⟩) jp)).trans (LXF j)
         case measure=>exact tM
        ·have F:=qA (tt (by rw[RN.o,Wn (fun h=>t2 tO)]));go_wp2;go_roundw;exact⟨j+1,A2,ao,tO,by go_num,by rw[F.o];exact(bA.cell (p:=⟨w5,2,none⟩) eS).trans iP.o,by rw[F.o];exact dR.o.below bA,fZ.o.trans (qAZ bA),(bA.cell (p:=⟨w5,0,none⟩) eS).trans jM.o,(bA.cell (p:=⟨w5,1,none⟩) eS).trans fW.o,fun j=>(bA.frozen (p:=⟨w5,j,none⟩) eS).trans (mO j),by simp;omega⟩;exact tM
       ·have F:=qA (tt (by rw[RN.o,Wn (fun h=>t1 tO)]));go_wp2;go_roundw;exact⟨j+1,A2,ao,tO,by go_num,by rw[F.o];exact(bA.cell (p:=⟨w5,2,none⟩) eS).trans iP.o,by rw[F.o];exact dR.o.below bA,fZ.o.trans (qAZ bA),(bA.cell (p:=⟨w5,0,none⟩) eS).trans jM.o,(bA.cell (p:=⟨w5,1,none⟩) eS).trans fW.o,fun j=>(bA.frozen (p:=⟨w5,j,none⟩) eS).trans (mO j),by simp;omega⟩;exact tM
      ·obtain rfl:j=es.length:=tO
       rw[zar] at ij dR;have KL:=qA (qNC o D9);have oK:(rnL es o).length<=120:=by
        have h2:=qHy es o;omega
       have Gx:=mO.o 2;go_wp2_with fail;refine(qLq _ _ _ dR.arg KL tO).mono ?_
       rintro e' w9 ⟨r9,rfl,o9,b9⟩;have B9:=qA b9;have Vt:=(b9.cell (p:=⟨w5,0,none⟩) eS).trans jM.o;have Wb:=(b9.cell (p:=⟨w5,1,none⟩) eS).trans fW.o;have VB:=(b9.cell (p:=⟨w5,2,none⟩) eS).trans ij;have VX:=(b9.frozen (p:=⟨w5,2,none⟩) eS).trans Gx;obtain⟨A9,bM,rfl,_⟩:=OwE.form o9;have O9:=qA o9;have Ft:=(b9.cell (p:=⟨w.heap.size+1,0,none⟩) (by show w.heap.size+1<wr.heap.size;omega)).trans ((qAo (o:=0) fZ (show w.heap.size+1<w5.heap.size by omega) tO).trans ((d8.cell (p:=⟨w.heap.size+1,0,none⟩) eR).trans R0));have Fd:=(b9.cell (p:=⟨w.heap.size+1,1,none⟩) (by show w.heap.size+1<wr.heap.size;omega)).trans ((qAo (o:=1) fZ (show w.heap.size+1<w5.heap.size by omega) tO).trans ((d8.cell (p:=⟨w.heap.size+1,1,none⟩) eR).trans R1));have FN:=(b9.cell (p:=⟨w.heap.size+1,2,none⟩) (by show w.heap.size+1<wr.heap.size;omega)).trans ((qAo (o:=2) fZ (show w.heap.size+1<w5.heap.size by omega) tO).trans ((d8.cell (p:=⟨w.heap.size+1,2,none⟩) eR).trans R2));have rrf: ∀j,w9.frozen? ⟨w.heap.size+1,j,none⟩=false:=fun j=>(b9.frozen (p:=⟨w.heap.size+1,j,none⟩) (by show w.heap.size+1<wr.heap.size;omega)).trans ((qFs (o:=j) fZ (show w.heap.size+1<w5.heap.size by omega) tO).trans ((d8.frozen (p:=⟨w.heap.size+1,j,none⟩) eR).trans (RF j)));have fh:=rrf 0;have fu:=rrf 1;have fd:=rrf 2;have s9:=b9.size;clear rrf b9 o9;generalize hL:srt cmpE (rnL es o)=L at*;have fB:=qA hL;clear hL;have nX: ¬w5.heap.size=w.heap.size+1:=tO;have nX': ¬w.heap.size+1=w5.heap.size:=tO;go_wp2;have Pe:w.heap.size+1<w9.heap.size:=tO;have c0:((((w9.setCell ⟨w5,2,none⟩ (.slice A9 L.length bM)).setCell ⟨w.heap.size+1,0,none⟩ (.int .i64 r)).setCell ⟨w.heap.size+1,1,none⟩ (.int .i64 o.length)).setCell ⟨w.heap.size+1,2,none⟩ (.slice A9 L.length bM)).cell? ⟨w.heap.size+1,0,none⟩=some (.int .i64 r):=by
        rw[zaa _ _ _ _ tZ,zaa _ _ _ _ tZ];exact zaf _ _ _ ((qc _ _ _ _ _ _ tO).trans Ft)
       have c1:((((w9.setCell ⟨w5,2,none⟩ (.slice A9 L.length bM)).setCell ⟨w.heap.size+1,0,none⟩ (.int .i64 r)).setCell ⟨w.heap.size+1,1,none⟩ (.int .i64 o.length)).setCell ⟨w.heap.size+1,2,none⟩ (.slice A9 L.length bM)).cell? ⟨w.heap.size+1,1,none⟩=some (.int .i64 o.length):=by
        rw[zaa _ _ _ _ tZ];exact zaf _ _ _ ((zaa _ _ _ _ tZ).trans ((qc _ _ _ _ _ _ tO).trans Fd))
       have c2:((((w9.setCell ⟨w5,2,none⟩ (.slice A9 L.length bM)).setCell ⟨w.heap.size+1,0,none⟩ (.int .i64 r)).setCell ⟨w.heap.size+1,1,none⟩ (.int .i64 o.length)).setCell ⟨w.heap.size+1,2,none⟩ (.slice A9 L.length bM)).cell? ⟨w.heap.size+1,2,none⟩=some (.slice A9 L.length bM):=
        zaf _ _ _ ((zaa _ _ _ _ tZ).trans ((zaa _ _ _ _ tZ).trans ((qc _ _ _ _ _ _ tO).trans FN)))
       have Hg:=qA (nU.trans (B9.mono (show w.heap.size<=wr.heap.size by omega)));have bw:Wf w w ((((w9.setCell ⟨w5,2,none⟩ (.slice A9 L.length bM)).setCell ⟨w.heap.size+1,0,none⟩ (.int .i64 r)).setCell ⟨w.heap.size+1,1,none⟩ (.int .i64 o.length)).setCell ⟨w.heap.size+1,2,none⟩ (.slice A9 L.length bM)):=(by repeat(first | exact .refl _ _ | (refine BxS ?_ _) | (refine qC ?_ _) | (refine zal ?_) | (refine BxA ?_ _) | (refine BxT ?_ (Hid.out Hg))));have ow:OwE ((((w9.setCell ⟨w5,2,none⟩ (.slice A9 L.length bM)).setCell ⟨w.heap.size+1,0,none⟩ (.int .i64 r)).setCell ⟨w.heap.size+1,1,none⟩ (.int .i64 o.length)).setCell ⟨w.heap.size+1,2,none⟩ (.slice A9 L.length bM)) wr (.slice A9 L.length bM) L:=
        (((O9.o.far (p:=⟨w5,2,none⟩) tB _).far (p:=⟨w.heap.size+1,0,none⟩) tB _).far (p:=⟨w.heap.size+1,1,none⟩) tB _).far (p:=⟨w.heap.size+1,2,none⟩) tB _
       generalize (((w9.setCell ⟨w5,2,none⟩ (.slice A9 L.length bM)).setCell ⟨w.heap.size+1,0,none⟩ (.int .i64 r)).setCell ⟨w.heap.size+1,1,none⟩ (.int .i64 o.length)).setCell ⟨w.heap.size+1,2,none⟩ (.slice A9 L.length bM)=wf at*;refine Wj (v:= .agg #[.int .i64 r, .int .i64 o.length, .slice A9 L.length bM]) (by simp[results,Tryz.results160,go_sem,c0,c1,c2]) rfl ⟨_,rfl,⟨.slice A9 L.length bM,?_,?_,?_,?_⟩,bw⟩
       ·rfl
       ·show I64 r
        unfold I64;omega
       ·show I64 (o.length:Int)
        unfold I64;omega
       ·show OwE wf w (.slice A9 L.length bM) (srt cmpE (rnL es o))
        rw[fB.o];exact ow.mono tO
theorem qLQ (v vo:Wh) (g:GrD) (o:List Int) (w:Wg) (h:ArgG w v g) (ho:RdI w vo o) (hg:grB g=true) (af:qAL g.2.1 o):
  Wk Tryz.prog 160 #[v,vo] w fun e w'=> ∃r,e= .returned r/\OwG w' w r (rnG g o)/\Wf w w w':=qIy v vo g o w h ho hg af.toN
def qFR (bs:List Bool):List Wh:=bs.map Value.bool
def OwB (w:Wg) (base:Nat) (v:Wh) (bs:List Bool):Prop:=w.ownsRow base 4 1 v bs.length (qFR bs)
section
variable {w w':Wg} {base n g cap:Nat} {v:Wh} {bs:List Bool}
theorem OwB.len (h:OwB w base (.slice (some ⟨g,0,none⟩) n cap) bs):n=bs.length:=by
 rcases h.2 with ⟨hv,_⟩ | ⟨g',cap',cur,hv,_⟩
 ·cases hv
 ·injection hv
theorem OwB.set (h:OwB w base (.slice (some ⟨g,0,none⟩) n cap) bs) (j:Nat) (z:Bool):
  OwB (w.setCell ⟨g,j,none⟩ (.bool z)) base (.slice (some ⟨g,0,none⟩) n cap) (bs.set j z)/\w.grownBy (w.setCell ⟨g,j,none⟩ (.bool z)) (some g):=by
 have hn:=h.len;subst hn;obtain⟨h1,h2⟩:=zay.stored h j (.bool z);refine⟨?_,h2⟩;unfold OwB;rw[zaz];simpa[qFR,List.map_set] using h1
theorem OwB.cellAt (h:OwB w base (.slice (some ⟨g,0,none⟩) n cap) bs) (j:Nat) (hj:j<bs.length):w.cell? ⟨g,j,none⟩=some (.bool bs[j]):=by
 have hn:=h.len;subst hn;rw[zay.cellAt h j tO];simp[qFR,hj]
theorem OwB.free (h:OwB w base (.slice (some ⟨g,0,none⟩) n cap) bs) (j:Nat):w.frozen? ⟨g,j,none⟩=false:=by
 have hn:=h.len;subst hn;exact zay.frozenAt h j
end
theorem OwB.below {w w':Wg} {base:Nat} {v:Wh} {bs:List Bool} (h:OwB w base v bs) (hb:Wf w w w'):OwB w' base v bs:=qP h hb
theorem OwB.mono {w:Wg} {base base':Nat} {v:Wh} {bs:List Bool} (h:OwB w base v bs) (hb:base'<=base):OwB w base' v bs:=by
 refine⟨h.1,?_⟩;rcases h.2 with h0 | ⟨g,cap,cur,hv,hg,r⟩
 ·exact .inl h0
 ·exact .inr ⟨g,cap,cur,hv,tO,r⟩
def qRC (w:Wg) (b v:Nat):Nat:=match w.cell? ⟨b,v,none⟩ with
 | some (.bool false)=>1
 | _=>0
def mB (w:Wg) (b n:Nat):Nat:=((zaF n).map (qRC w b)).sum
theorem qMQ (bs:List Bool):(bs.map fun b=>if b=false then 1 else 0).sum=bs.count false:=by
 induction bs with
 | nil=>rfl
 | cons b bs ih=>cases b<;>simp[ih];omega
theorem qRG {w:Wg} {base g n cap:Nat} {bs:List Bool} (h:OwB w base (.slice (some ⟨g,0,none⟩) n cap) bs):mB w g bs.length=bs.count false:=by
 rw[<-qMQ];unfold mB;congr 1
 refine za2 tZ fun i h1 h2=> ?_;have hi:i<bs.length:=by simpa using h2
 simp only[List.getElem_map,List.getElem_range];unfold qRC;rw[h.cellAt i hi];cases bs[i]<;>rfl
def JI (es:List EdD) (n:Nat) (bs:List Bool):Prop:=bs.length=n/\bs[0]? =some true/\ ∀v:Nat,bs[v]? =some true->Conn es 0 v
theorem qBW {bs:List Bool} {a v:Nat}:(bs.set a true)[v]? =some true↔(v=a/\a<bs.length)\/bs[v]? =some true:=by
 rw[List.getElem?_set];by_cases e:a=v
 ·subst e;by_cases hl:a<bs.length
  ·simp[hl]
  ·simp[hl]
 ·rw[Wn e];constructor
  ·exact .inr
  ·rintro(⟨h,_⟩ | h)
   ·exact absurd h.symm e
   ·exact h
theorem qET {bs:List Bool} {a:Nat} (ha:a<bs.length):(bs.set a true).count false+(if bs[a]=false then 1 else 0)=bs.count false:=by
 induction bs generalizing a with
 | nil=>simp at ha
 | cons b bs ih=>
   cases a with
   | zero=>cases b<;>simp
   | succ a=>
     have:=ih (a:=a) (by simpa using ha)
     cases b<;>simp[List.count_cons]<;>omega
theorem JI.step {es:List EdD} {n a c:Nat} {bs:List Bool} {l:Int} (h:JI es n bs) (he:((a:Int),l,(c:Int))∈es) (ha:a<n) (hc:c<n) (ai:bs[a]? ≠bs[c]?):
  JI es n ((bs.set a true).set c true)/\((bs.set a true).set c true).count false<bs.count false:=by
 obtain⟨h1,h2,h3⟩:=h;have uN:a<bs.length:=tO;have rA:c<bs.length:=tO;have e1:bs[a]? =some bs[a]:=by simp[uN]
 have e2:bs[c]? =some bs[c]:=by simp[rA]
 have rB:bs[a]? =some true\/bs[c]? =some true:=by
  rw[e1,e2] at ai⊢;cases h:bs[a]<;>cases h':bs[c]<;>simp[h,h'] at ai⊢
 refine⟨⟨by simp[h1],?_,fun v hv=> ?_⟩,?_⟩
 ·rw[qBW,qBW];exact .inr (.inr h2)
 ·rw[qBW,qBW] at hv;rcases hv with ⟨rfl,_⟩ | ⟨rfl,_⟩ | hv
  ·rcases rB with h | h
   ·exact Conn.fwd _ he (h3 _ h)
   ·exact h3 _ h
  ·rcases rB with h | h
   ·exact h3 _ h
   ·exact Conn.back _ he (h3 _ h)
  ·exact h3 _ hv
 ·have k1:=qET uN;have k2:=qET (bs:=bs.set a true) (a:=c) (by simpa using rA);rw[e1,e2] at ai;have Ta:a≠c:=fun e=>by subst e;exact ai rfl
  have k3:(bs.set a true)[c]'(by simpa using rA)=bs[c]:=by rw[List.getElem_set_ne Ta]
  rw[k3] at k2;cases h:bs[a]<;>cases h':bs[c]<;>simp[h,h'] at ai k1 k2<;>omega
theorem JI.done {es:List EdD} {n:Nat} {bs:List Bool} (h:JI es n bs) (hr: ∀e∈es,0<=e.1/\0<=e.2.2) (aZ: ∀e∈es,bs[e.1.toNat]? =bs[e.2.2.toNat]?):
  ∀v (hv:v<bs.length),bs[v]=hasB (qCB es 0) v:=by
 intro v hv;have key:bs[v]? =some true↔Conn es 0 v:=by
  refine⟨h.2.2 v,fun hc=> ?_⟩;have:=qBI (S:=fun x=>0<=x->bs[x.toNat]? =some true) (v:=0) (fun _=>h.2.1) ?_ hc tO
  ·simpa using this
  ·intro e he;obtain⟨a,b⟩:=hr e he;have:=aZ e he
   exact⟨fun hx _=>by rw[<-this];exact hx a,fun hx _=>by rw[this];exact hx b⟩
 rw[Bool.eq_iff_iff,qBA,qED,<-key];simp[hv]
theorem qDC (w:Wg) (a:Addr) (u:Wh):(w.setCell a u).heap.size=w.heap.size:=tZ
theorem qDl:(Tryz.prog.info? 4).map (fun i=>(i.zero,i.size,i.bytes))=some (some (.bool false),1,1):=by kernel_rfl
def qHJ (g:GrD):List Bool:=(zaF g.2.1.toNat).map fun v=>hasB (qCB g.2.2 0) (v:Nat)
theorem qPX {g:GrD} {bs:List Bool} (hl:bs.length=g.2.1.toNat) (h: ∀v (hv:v<bs.length),bs[v]=hasB (qCB g.2.2 0) v):bs=qHJ g:=by
 refine za2 (by simp[qHJ,hl]) fun i h1 h2=> ?_;rw[h i h1];simp[qHJ]
theorem qLz (v:Wh) (g:GrD) (w:Wg) (h:ArgG w v g) (hg:grB g=true):
  Wk Tryz.prog 215 #[v, .int .i64 0] w fun e w'=> ∃r,e= .returned r/\OwB w' w r (qHJ g)/\Wf w w w':=by
 have HG:=qA h;obtain⟨aF,aA,aD,_⟩:=qD hg;have gR:=qA (fun e he=>qM hg (e:=e) he);have HJ:Wi (∀bs:List Bool,bs.length=g.2.1.toNat->(∀v (hv:v<bs.length),bs[v]=hasB (qCB g.2.2 0) v)->bs=qHJ g):=qA fun bs=>qPX;generalize qHJ g=JL at*;clear hg h;obtain⟨r,n,es⟩:=g;simp only at aF aA aD HG gR HJ
 obtain⟨N,rfl⟩: ∃N:Nat,n=(N:Int):=⟨n.toNat,tO⟩;have mH:1<=N:=tO;have yq:N<=40:=tO;clear aA aF;obtain⟨A,cap,rfl,HE⟩: ∃A cap,v= .agg #[.int .i64 r, .int .i64 N, .slice A es.length cap]/\Wi (ArgE w (.slice A es.length cap) es):=by
  obtain⟨s,hv,_,_,ha⟩:=HG.o;obtain⟨A,cap,rfl⟩:=ha.form;exact⟨A,cap,hv,qA ha⟩
 have kf:es.length<=cap/\cap<=maxLen:=by
  obtain⟨_,_,hv,h1,h2,_⟩:=HE.o;injection hv with _ _ e3
  subst e3;exact⟨h1,h2⟩
 obtain⟨aR,hm⟩:=kf;unfold maxLen at hm;have bx:Wf w w (w.alloc (.cells #[.int .i64 r,.int .i64 N, .slice A es.length cap] 26)):=ZZ;go_enter Tryz.func215,Tryz.ntmps215
 obtain⟨i0,ci,cB,bi,bQ⟩:=info_parts qDl;go_wp2_with (at_make;refine wpList_make_full _ rfl _ _ 64 rfl (w.heap.size+1) 4 i0 (.bool false) 1 Tryz.underlying64 ci cB bi _ _ _ _ N rfl rfl rfl rfl (by rw[bQ];omega) (by unfold maxLen;omega) tZ ?_)
 have b1:(w.alloc (.cells #[.int .i64 r,.int .i64 N, .slice A es.length cap] 26)).cell? ⟨w,1,none⟩=some (.int .i64 N):=by simp[go_sem]
 have b2:(w.alloc (.cells #[.int .i64 r,.int .i64 N, .slice A es.length cap] 26)).cell? ⟨w,2,none⟩=some (.slice A es.length cap):=by simp[go_sem]
 have aH:(w.alloc (.cells #[.int .i64 r,.int .i64 N, .slice A es.length cap] 26)).heap.size=w.heap.size+1:=tZ;generalize w.alloc (.cells #[.int .i64 r,.int .i64 N, .slice A es.length cap] 26)=w1 at bx b1 b2 aH⊢;rw[<-aH];have so:w.heap.size<w1.heap.size:=tO;have fj:=qA aH;clear aH;have B2:=qA b2;have BX:=qA bx;clear b2 bx;intro w2 hown0 hgrow0;have bU:OwB w2 w1 (.slice (some ⟨w1,0,none⟩) N N) (zaj N false):=by
  unfold OwB;rw[zaP];have:qFR (zaj N false)=zaj N (Value.bool false):=by simp[qFR]
  rw[this];simpa[toList_madeCells_one] using hown0
 have fL:=bU.cellAt 0 (by simp;omega);have ry:=bU.free 0;have O1:=qA (bU.set 0 true);have G0:=qA hgrow0;have rF:w1.heap.size<w2.heap.size:=(bU.lt w1 rfl).2;have j1:(0:Int)<(N:Int):=tO;clear hown0 bU hgrow0;simp only[List.getElem_replicate] at fL;have Rl:Wi (JI es N ((zaj N false).set 0 true)):=qA (by
  refine⟨tZ,?_,fun v hv=> ?_⟩
  ·rw[qBW];left;exact⟨rfl,by simp;omega⟩
  ·rw[qBW] at hv;rcases hv with ⟨rfl,_⟩ | hv
   ·exact Conn.base
   ·rw[List.getElem?_replicate] at hv;split at hv
    ·injection hv with hv;cases hv
    ·cases hv)
 have fY:Wi (∀e∈es,0<=e.1/\0<=e.2.2):=qA fun e he=>by have:=gR.o e he;omega
 go_wp2;go_loopw [6] (fun a wr=> ∃(ag:Bool) (bs:List Bool),a= .bool ag/\JI es N bs/\OwB wr w1 (.slice (some ⟨w1,0,none⟩) N N) bs/\Wf w1 w1 wr/\(ag=false-> ∀e∈es,bs[e.1.toNat]? =bs[e.2.2.toNat]?)) (fun a wr=>2*mB wr w1 N+(match a with | .bool true=>1 | _=>0))
 case atStart=>exact⟨true,_,rfl,Rl,O1.o.1,((zak _ _).grown G0 (zac _) (fun k h=>by cases h)).grown O1.o.2 tO (fun k h=>by cases h;omega),fun h=>by cases h⟩
 case round=>
  obtain⟨ag,bs,rfl,zj,aa,ab,aZ⟩:=hrel;have MB:=qA zj;have HO:=qA aa;have HB:=qA ab;have aW:=qA aZ;have cX:=zj.1;have FC:=qRG aa;rw[cX] at FC;have HM:=qA FC;clear FC;clear zj aa aZ;cases ag with
  | false=>
    have HF:Wi (bs=JL):=qA (HJ bs (by simpa using cX) (MB.o.done fY (aW rfl)));have BB:Wi (Wf w w wr):=qA (BX.trans (ab.mono tO));have au:w.heap.size<=w1.heap.size:=tO;clear ab;have Uc:Wi (OwB wr w (.slice (some ⟨w1,0,none⟩) N N) JL):=qA (by rw[<-HF.o];exact HO.o.mono au);go_wp2;exact Wj (v:= .slice (some ⟨w1,0,none⟩) N N) (by simp[results,Tryz.results215]) rfl ⟨_,rfl,Uc,BB⟩
  | true=>
    have q2:=(ab.cell (p:=⟨w,2,none⟩) (show w.heap.size<w1.heap.size from so)).trans B2.o;clear ab cX;obtain⟨wo,Nj⟩: ∃wo:Wg,wo=wr:=⟨_,rfl⟩;have ng:=qA Nj;clear Nj;go_wp2;go_loopw [6,19] (fun a i wr=> ∃(k:Nat) (ag:Bool) (b2:List Bool),k<=es.length/\i= .int .i64 k/\a= .bool ag/\JI es N b2/\OwB wr w1 (.slice (some ⟨w1,0,none⟩) N N) b2/\Wf w1 w1 wr/\b2.count false<=bs.count false/\(ag=true->b2.count false<bs.count false)/\(ag=false-> ∀j (hj:j<es.length),j<k->b2[es[j].1.toNat]? =b2[es[j].2.2.toNat]?)) (fun _ i _=>es.length-(intOf i).toNat)
    case atStart=>exact⟨0,false,bs,zav _,rfl,rfl,MB,HO,HB,zac _,(fun h=>by cases h),fun _ j hj h=>absurd h tO⟩
    case round=>
     obtain⟨k,ag,b2,hk,rfl,rfl,vc,cD,ku,sK,aj,gX⟩:=hrel;have uF:=qA vc;have aI:=qA cD;have al:=qA ku;have dX:=qA sK;have jz:=qA aj;have io:=qA gX;have iW:=vc.1;have hP:=(cD.lt w1 rfl).2;have Tl:=ku.size;clear vc sK aj gX;by_cases ac:k<es.length
     ·obtain⟨be,offe,rfl,kF,c0,c1,c2,dl⟩:=(HE.below (BX.trans (ku.mono tO))).at ac;obtain⟨e1,e2,e3⟩:=gR.o es[k] tZ;have dx:es[k]∈es:=tZ;have HX:Wi (∃x,es[k]=x):=qA ⟨_,rfl⟩;generalize hx:es[k]=e at c0 c1 c2 dl e1 e2 e3 dx;have HX:=qA hx;clear hx;obtain⟨f,l,t⟩:=e;simp only at e1 e2 e3 c0 c1 c2
      obtain⟨a,rfl⟩: ∃a:Nat,f=(a:Int):=⟨f.toNat,tO⟩;obtain⟨c,rfl⟩: ∃c:Nat,t=(c:Int):=⟨t.toNat,tO⟩;have ha:a<b2.length:=tO;have hc:c<b2.length:=tO;have ca:=cD.cellAt a ha;have cc:=cD.cellAt c hc;have ga:b2[a]? =some b2[a]:=by simp[ha]
      have gc:b2[c]? =some b2[c]:=by simp[hc]
      have GA:=qA ga;have GC:=qA gc;have ja:(a:Int)<(N:Int):=tO;have jc:(c:Int)<(N:Int):=tO;have KW:(0:Int)<=(a:Int):=tO;have MI:(0:Int)<=(c:Int):=tO;have gQ:=cD.free a;have Cd:=cD.free c;have uf:Wi (b2[a]? ≠b2[c]? ->JI es N ((b2.set a true).set c true)/\((b2.set a true).set c true).count false<b2.count false):=qA fun h=>uF.o.step dx tO tO h;have RW:=qA dx;have bA:Wf wr wr (wr.alloc (.cells #[.int .i64 a,.int .i64 l,.int .i64 c] 97)):=(zak _ _).alloc (zac _) _;have BA:=qA bA;generalize b2[a]=ba at*;generalize b2[c]=bc at*;clear ga gc dl cD ku dx bA ha hc iW;go_wp2_with fail;have l0:(wr.alloc (.cells #[.int .i64 a,.int .i64 l,.int .i64 c] 97)).cell? ⟨wr,0,none⟩=some (.int .i64 a):=by simp[go_sem]
      have l2:(wr.alloc (.cells #[.int .i64 a,.int .i64 l,.int .i64 c] 97)).cell? ⟨wr,2,none⟩=some (.int .i64 c):=by simp[go_sem]
      have la:=(BA.cell (p:=⟨w1,a,none⟩) hP).trans ca;have lc:=(BA.cell (p:=⟨w1,c,none⟩) hP).trans cc;have lfa:=(BA.frozen (p:=⟨w1,a,none⟩) hP).trans gQ;have lfc:=(BA.frozen (p:=⟨w1,c,none⟩) hP).trans Cd;have yE:wr.heap.size<(wr.alloc (.cells #[.int .i64 a,.int .i64 l,.int .i64 c] 97)).heap.size:=tZ;clear ca cc gQ Cd c0 c1 c2;generalize wr.alloc (.cells #[.int .i64 a,.int .i64 l,.int .i64 c] 97)=W at BA l0 l2 la lc lfa lfc yE⊢;have tP:w1.heap.size<W.heap.size:=tO;have fi:wr.heap.size≠w1.heap.size:=tO;cases ba<;>cases bc
      ·have CLX:Wi (b2[a]? =b2[c]?):=qA (by rw[GA.o,GC.o]);go_quiet (fail)
       go_wp2;go_roundw
       case rel=>
        refine⟨k+1,ag,b2,tO,by go_num,rfl,uF.o,aI.o.below (qC BA _),al.o.trans ((qC BA _).mono tO),dX.o,jz.o,fun h j hj jy=> ?_⟩;rcases zaU (zaW jy) with h2 | rfl
        ·exact io.o h j hj h2
        ·rw[HX.o];simpa using CLX.o
       case measure=>exact tM
      ·have STP:=qA (uf (by rw[GA.o,GC.o];simp));go_quiet (fail)
       have O3:=qA ((aI.below (qC BA nq)).set a true);have O4:=qA (O3.o.1.set c true);have l9:=O3.o.1.cellAt c (by rw[zaz];have:=uF.o.1;omega);have f9:=O3.o.1.free c;generalize (b2.set a true)[c]'(by rw[zaz];have:=uF.o.1;omega)=z9 at l9;go_wp2;go_roundw
       case rel=>
        refine⟨k+1,true,_,tO,by go_num,rfl,STP.o.1,O4.o.1,?_,?_,fun _=> ?_,fun h=>by cases h⟩
        ·have b5:=al.o.trans ((qC BA nq).mono tO);exact(b5.grown O3.o.2 (show w1.heap.size<=W.heap.size by omega) (fun j hj=>by cases hj;exact zac _)).grown O4.o.2 (by rw[qDC];exact Nat.le_of_lt tP) (fun j hj=>by cases hj;exact zac _)
        ·have:=STP.o.2;have:=dX.o;omega
        ·have:=STP.o.2;have:=dX.o;omega
       case measure=>exact tM
      ·have STP:=qA (uf (by rw[GA.o,GC.o];simp));go_quiet (fail)
       have O3:=qA ((aI.below (qC BA nq)).set a true);have O4:=qA (O3.o.1.set c true);have l9:=O3.o.1.cellAt c (by rw[zaz];have:=uF.o.1;omega);have f9:=O3.o.1.free c;generalize (b2.set a true)[c]'(by rw[zaz];have:=uF.o.1;omega)=z9 at l9;go_wp2;go_roundw
       case rel=>
        refine⟨k+1,true,_,tO,by go_num,rfl,STP.o.1,O4.o.1,?_,?_,fun _=> ?_,fun h=>by cases h⟩
        ·have b5:=al.o.trans ((qC BA nq).mono tO);exact(b5.grown O3.o.2 (show w1.heap.size<=W.heap.size by omega) (fun j hj=>by cases hj;exact zac _)).grown O4.o.2 (by rw[qDC];exact Nat.le_of_lt tP) (fun j hj=>by cases hj;exact zac _)
        ·have:=STP.o.2;have:=dX.o;omega
        ·have:=STP.o.2;have:=dX.o;omega
       case measure=>exact tM
      ·have CLX:Wi (b2[a]? =b2[c]?):=qA (by rw[GA.o,GC.o]);go_quiet (fail)
       go_wp2;go_roundw
       case rel=>
        refine⟨k+1,ag,b2,tO,by go_num,rfl,uF.o,aI.o.below (qC BA _),al.o.trans ((qC BA _).mono tO),dX.o,jz.o,fun h j hj jy=> ?_⟩;rcases zaU (zaW jy) with h2 | rfl
        ·exact io.o h j hj h2
        ·rw[HX.o];simpa using CLX.o
       case measure=>exact tM
     ·obtain rfl:k=es.length:=tO
      have nm:=qRG cD;rw[iW] at nm;have lV:=qA nm;clear nm cD ku;go_wp2;go_roundw
      case rel=>exact⟨ag,b2,rfl,uF,aI,al,fun h e he=>by obtain⟨j,hj,rfl⟩:=zaH he;exact io.o h j hj hj⟩
      case measure=>
       rw[HM.o,lV.o];cases ag with
       | false=>
         have:=dX.o
         show 2*_+0<2*_+1
         omega
       | true=>
         have:=jz.o rfl
         show 2*_+1<2*_+1
         omega
theorem qCS (x:Int): ∀n:Nat,(delO n x).length=if 0<=x/\x<n then n-1 else n
 | 0=>by
   rw[Wn tO];rfl
 | n+1=>by
   rw[qCA];have ih:=qCS x n;by_cases h:(n:Int)≠x
   ·rw[Wm h,zag,ih];by_cases h2:0<=x/\x<n
    ·rw[Wm h2,Wm tO];simp
     omega
    ·rw[Wn h2,Wn tO];rfl
   ·rw[Wn h,ih,Wn tO,Wm tO];omega
def trimF:Nat->GrD->List Int->GrD×List Int
 | 0,g,l=>(g,l)
 | f+1,g,l=>if qu g.2.2 g.2.1.toNat<0 then(g,l) else trimF f (rnG g (delO g.2.1.toNat (qu g.2.2 g.2.1.toNat))) (l.take (qu g.2.2 g.2.1.toNat).toNat++l.drop ((qu g.2.2 g.2.1.toNat).toNat+1))
theorem qFb {g:GrD} (l:List Int) (h:qu g.2.2 g.2.1.toNat<0): ∀f,trimF f g l=(g,l)
 | 0=>rfl
 | f+1=>by unfold trimF;rw[Wm h]
theorem qEp (g:GrD) (o:List Int):(rnG g o).2.1=(o.length:Int):=rfl
theorem qHY {g:GrD} (l:List Int) {u:Nat} (hu:qu g.2.2 g.2.1.toNat=(u:Int)) (hn:u<g.2.1.toNat):
  trimF g.2.1.toNat g l=trimF (rnG g (delO g.2.1.toNat u)).2.1.toNat (rnG g (delO g.2.1.toNat u)) (l.take u++l.drop (u+1)):=by
 rw[qEp,qCS,Wm tO];obtain⟨f,hf⟩: ∃f,g.2.1.toNat=f+1:=⟨g.2.1.toNat-1,tO⟩;have e:((g.2.1.toNat-1:Nat):Int).toNat=f:=tO;rw[e];have e2:trimF (f+1) g l=if qu g.2.2 g.2.1.toNat<0 then(g,l) else trimF f (rnG g (delO g.2.1.toNat (qu g.2.2 g.2.1.toNat))) (l.take (qu g.2.2 g.2.1.toNat).toNat++l.drop ((qu g.2.2 g.2.1.toNat).toNat+1)):=rfl
 rw[show trimF g.2.1.toNat g l=trimF (f+1) g l by rw[hf],e2,hu,Wn tO];simp
theorem qOV: ∀(f:Nat) (g:GrD) (l:List Int),grB g=true->(trimF f g l).1.2.1<=g.2.1:=by
 intro f;induction f with
 | zero=>intro g l _;exact za0 _
 | succ f ih=>
   intro g l hg;unfold trimF;obtain⟨_,ar,_,_⟩:=qD hg;rcases qAv g.2.2 g.2.1.toNat with h | ⟨h1,h2⟩
   ·rw[Wm tO];exact za0 _
   ·rw[Wn tO];have hd:=qCS (qu g.2.2 g.2.1.toNat) g.2.1.toNat;rw[Wm tO] at hd;have af:=qDZ (n:=g.2.1.toNat) tO h1;rw[show((g.2.1.toNat:Nat):Int)=g.2.1 by omega] at af;have:=ih (rnG g (delO g.2.1.toNat (qu g.2.2 g.2.1.toNat))) (l.take (qu g.2.2 g.2.1.toNat).toNat++l.drop ((qu g.2.2 g.2.1.toNat).toNat+1)) (qHx hg af)
    rw[qEp,hd] at this;omega
def qCt (g:GrD):GrD×List Int:=trimF g.2.1.toNat g ((zaF g.2.1.toNat).map fun v=>((v:Nat):Int))
theorem qLn {g:GrD} (hg:grB g=true):decide ((qCt g).1.2.1=g.2.1)=decide (qu g.2.2 g.2.1.toNat<0):=by
 obtain⟨_,ar,_,_⟩:=qD hg;unfold qCt;rcases qAv g.2.2 g.2.1.toNat with h | ⟨h1,h2⟩
 ·rw[qFb _ tO];simp[h]
 ·obtain⟨u,hu⟩: ∃u:Nat,qu g.2.2 g.2.1.toNat=(u:Int):=⟨(qu g.2.2 g.2.1.toNat).toNat,tO⟩;rw[qHY _ hu tO];have af:=qDZ (n:=g.2.1.toNat) (x:=(u:Int)) tO tO;rw[show((g.2.1.toNat:Nat):Int)=g.2.1 by omega] at af;have hd:=qCS (u:Int) g.2.1.toNat;rw[Wm tO] at hd;have:=qOV (rnG g (delO g.2.1.toNat u)).2.1.toNat (rnG g (delO g.2.1.toNat u)) (((zaF g.2.1.toNat).map fun v=>((v:Nat):Int)).take u++((zaF g.2.1.toNat).map fun v=>((v:Nat):Int)).drop (u+1)) (qHx hg af)
  rw[qEp g,hd] at this;have e1:decide (qu g.2.2 g.2.1.toNat<0)=false:=by rw[hu];simp
  rw[e1];rw[decide_eq_false_iff_not];rw[qEp,hd];omega
def slN:Wh->Nat
 | .slice _ n _=>n
 | _=>0
def rng (n:Nat):List Int:=(zaF n).map fun v=>((v:Nat):Int)
theorem qOX (n:Nat):rng (n+1)=rng n++ [(n:Int)]:=by simp[rng,List.range_succ]
theorem qHq (n:Nat):(rng n).length=n:=by simp[rng]
theorem qOD {g:GrD} (k:Nat) (h:k<g.2.1.toNat):(qHJ g)[k]'(by simpa[qHJ] using h)=hasB (qCB g.2.2 0) k:=by simp[qHJ]
theorem qJZ (g:GrD):(qHJ g).length=g.2.1.toNat:=by simp[qHJ]
theorem qEq (v:Wh) (g:GrD) (w:Wg) (h:ArgG w v g) (hg:grB g=true):
  Wk Tryz.prog 170 #[v] w fun e w'=> ∃r l,e= .returned (.tuple #[r,l])/\OwG w' w r (qCt g).1/\OwI w' w l (qCt g).2/\Wf w w w':=by
 have HG:=qA h;have aK:=qA hg;obtain⟨aF,aA,aD,_⟩:=qD hg;have HT:Wi (qCt g=trimF g.2.1.toNat g (rng g.2.1.toNat)):=qA rfl;generalize qCt g=R at*;clear hg h;obtain⟨r,n,es⟩:=g;simp only at aF aA aD HG HT
 obtain⟨N,rfl⟩: ∃N:Nat,n=(N:Int):=⟨n.toNat,tO⟩;simp only[zaq] at HT;have mH:1<=N:=tO;have yq:N<=40:=tO;clear aA;obtain⟨A,cap,rfl⟩: ∃A cap,v= .agg #[.int .i64 r, .int .i64 N, .slice A es.length cap]:=by
  obtain⟨s,hv,_,_,ha⟩:=HG.o;obtain⟨A,cap,rfl⟩:=ha.form;exact⟨A,cap,hv⟩
 have bx:Wf w w ((w.alloc (.cells #[.int .i64 r,.int .i64 N, .slice A es.length cap] 26)).alloc (.cells #[.int .i64 0,.int .i64 0, .slice none 0 0] 26)):=ZZ;go_enter Tryz.func170,Tryz.ntmps170
 go_wp2_with fail;obtain⟨W0,ah⟩: ∃W,W=(w.alloc (.cells #[.int .i64 r,.int .i64 N, .slice A es.length cap] 26)).alloc (.cells #[.int .i64 0,.int .i64 0, .slice none 0 0] 26):=⟨_,rfl⟩;rw[<-ah] at bx⊢;have aH:W0.heap.size=w.heap.size+1+1:=by rw[ah];simp
 have B0:Wi (W0.cell? ⟨w,0,none⟩=some (.int .i64 r)):=qA (by rw[ah];simp[go_sem]);have B1:Wi (W0.cell? ⟨w,1,none⟩=some (.int .i64 N)):=qA (by rw[ah];simp[go_sem]);have B2:Wi (W0.cell? ⟨w,2,none⟩=some (.slice A es.length cap)):=qA (by rw[ah];simp[go_sem]);have R0:Wi (W0.cell? ⟨w.heap.size+1,0,none⟩=some (.int .i64 0)):=qA (by rw[ah];simp[go_sem]);have R1:Wi (W0.cell? ⟨w.heap.size+1,1,none⟩=some (.int .i64 0)):=qA (by rw[ah];simp[go_sem]);have R2:Wi (W0.cell? ⟨w.heap.size+1,2,none⟩=some (.slice none 0 0)):=qA (by rw[ah];simp[go_sem]);have RF:Wi (∀j,W0.frozen? ⟨w.heap.size+1,j,none⟩=false):=qA fun j=>by rw[ah];simp[go_sem]
 clear ah;have BX:=qA bx;have fj:=qA aH;have mI:w.heap.size<W0.heap.size:=tO;have eR:w.heap.size+1<W0.heap.size:=tO;refine(xP10 _ (.inr ⟨rfl,xPb⟩) _ (r,(N:Int),es) W0 (HG.below bx) (by simp only;omega)).mono ?_
 clear bx aH;rintro e w1 ⟨r1,rfl,o1,b1⟩;obtain⟨s1,rfl,aN,aQ,oe⟩:=o1;simp only at aN aQ oe⊢
 obtain⟨A1,ak,rfl,du,fM,_⟩:=OwE.form oe;have OE:=qA oe;have so: ∀b,(zao A1 es.length ak).ownBlock=some b->b<w1.heap.size:=fun b hb=>(oe.1.lt b hb).2;have q0:=(b1.cell (p:=⟨w,0,none⟩) mI).trans B0.o;have q1:=(b1.cell (p:=⟨w,1,none⟩) mI).trans B1.o;have q2:=(b1.cell (p:=⟨w,2,none⟩) mI).trans B2.o;have To:=qA ((b1.cell (p:=⟨w.heap.size+1,0,none⟩) eR).trans R0);have So:=qA ((b1.cell (p:=⟨w.heap.size+1,1,none⟩) eR).trans R1);have PL:=qA ((b1.cell (p:=⟨w.heap.size+1,2,none⟩) eR).trans R2);have RQF:Wi (∀j,w1.frozen? ⟨w.heap.size+1,j,none⟩=false):=qA fun j=>(b1.frozen (p:=⟨w.heap.size+1,j,none⟩) eR).trans (RF j);have d8:Wi (Wf w w w1):=qA (BX.trans (b1.mono tO));have s1:=b1.size;have wR:=qA so;clear oe so b1 B0 B1 B2 R0 R1 R2 RF;have dh:w.heap.size<w1.heap.size:=tO;have mS:w.heap.size+1<w1.heap.size:=tO;go_wp2_with fail;have bA:Wf w1 w1 ((w1.alloc (.cells #[.int .i64 r,.int .i64 N, .slice A1 es.length ak] 26)).alloc (.cells #[] 3)):=ZZ;obtain⟨W2,aT⟩: ∃W,W=(w1.alloc (.cells #[.int .i64 r,.int .i64 N, .slice A1 es.length ak] 26)).alloc (.cells #[] 3):=⟨_,rfl⟩;have o0:OwI W2 (w1.heap.size+1) (.slice (some ⟨w1.heap.size+1,0,none⟩) 0 0) (rng 0):=by
  rw[aT];exact qAc _ [] (w1.heap.size+1) tZ (fun _ h=>by cases h) tZ (zac _)
 have G0:Wi (W2.cell? ⟨w1,0,none⟩=some (.int .i64 r)):=qA (by rw[aT];simp[go_sem]);have G1:Wi (W2.cell? ⟨w1,1,none⟩=some (.int .i64 N)):=qA (by rw[aT];simp[go_sem]);have G2:Wi (W2.cell? ⟨w1,2,none⟩=some (.slice A1 es.length ak)):=qA (by rw[aT];simp[go_sem]);have GF:Wi (∀j,W2.frozen? ⟨w1,j,none⟩=false):=qA fun j=>by rw[aT];simp[go_sem]
 have dQ:W2.heap.size=w1.heap.size+1+1:=by rw[aT];simp
 rw[<-aT] at bA⊢;clear aT;have Hu:=qAf _ (r,(N:Int),es) W2 ((HG.below d8).below bA);rw[aK.o] at Hu;have fC:=qA Hu;clear Hu;refine fC.o.mono ?_;rintro e w3 ⟨rfl,b3⟩;have s3:=b3.size;have sO:w1.heap.size<W2.heap.size:=tO;have Er:=bA.trans (b3.mono tO);have MV:=qA Er;have B3:=qA b3;have dI:=qA (OE.below Er);have Lw:=qA (o0.below b3);have QN:=qA ((Er.cell (p:=⟨w,1,none⟩) dh).trans q1);have MJ:=qA ((b3.cell (p:=⟨w1,0,none⟩) sO).trans G0);have LU:=qA ((b3.cell (p:=⟨w1,1,none⟩) sO).trans G1);have Mv:=qA ((b3.cell (p:=⟨w1,2,none⟩) sO).trans G2);have Of:Wi (∀j,w3.frozen? ⟨w1,j,none⟩=false):=qA fun j=>(b3.frozen (p:=⟨w1,j,none⟩) sO).trans (GF j);clear bA b3 Er o0 q0 q1 q2 G0 G1 G2 GF fC;go_wp2;go_loopw [5,6] (fun l i wr=> ∃k:Nat,k<=N/\i= .int .i64 k/\OwI wr (w1.heap.size+1) l (rng k)/\Wf (w1.heap.size+1) w3 wr) (fun _ i _=>N-(intOf i).toNat)
 case atStart=>exact⟨0,zav _,rfl,Lw,zak _ _⟩
 case round=>
  obtain⟨k,hk,rfl,aa,ab⟩:=hrel;have HO:=qA aa;have HB:=qA ab;have hs:=ab.size;have qn:=(ab.cell (p:=⟨w,1,none⟩) (by show w.heap.size<w1.heap.size+1;omega)).trans QN.o;have vP:=qHq k;obtain⟨Al,capl,rfl,_⟩:=OwI.form aa;clear aa ab;by_cases ac:k<N
  ·have HK:Wi (I64 (k:Int)):=qA ⟨tO,tO⟩;have mD:=qA (qOX k);go_wp2_with (at_builtin;refine qW rfl (.tmp 26) (.tmp 28) rfl _ _ _ (OwI.alloc HO _) rfl _ _ rfl (qU _ _ _) HK.o tB tB ?_;intro v9 wv9 o9 g9 p9)
   go_roundw;exact⟨k+1,tO,by go_num,by rw[mD.o];exact o9,qh HB.o tO HO.o.1 (zac _) g9⟩;exact tM
  ·obtain rfl:k=N:=tO
   have GE:Wi (OwE wr W0 (.slice A1 es.length ak) es):=qA (dI.keep fun b hb=>HB.o.block b (by have:=wR.o b hb;omega));have NY:=qA ((HB.cell (p:=⟨w1,0,none⟩) (by show w1.heap.size<w1.heap.size+1;omega)).trans MJ.o);have MW:=qA ((HB.cell (p:=⟨w1,1,none⟩) (by show w1.heap.size<w1.heap.size+1;omega)).trans LU.o);have LY:=qA ((HB.cell (p:=⟨w1,2,none⟩) (by show w1.heap.size<w1.heap.size+1;omega)).trans Mv.o);have GCF:Wi (∀j,wr.frozen? ⟨w1,j,none⟩=false):=qA fun j=>(HB.frozen (p:=⟨w1,j,none⟩) (by show w1.heap.size<w1.heap.size+1;omega)).trans (Of j);have BB:Wi (Wf w1 w1 wr):=qA (MV.trans (HB.mono tO));have wZ:w1.heap.size<wr.heap.size:=tO;clear MJ LU Mv Of Lw dI MV B3 QN;go_wp2;go_loopw [5] (fun l wr=> ∃(gg:GrD) (xs:List Int) (A':Option Addr) (cap':Nat),grB gg=true/\R=trimF gg.2.1.toNat gg xs/\xs.length=gg.2.1.toNat/\OwI wr (w1.heap.size+1) l xs/\wr.cell? ⟨w1,0,none⟩=some (.int .i64 gg.1)/\wr.cell? ⟨w1,1,none⟩=some (.int .i64 gg.2.1)/\wr.cell? ⟨w1,2,none⟩=some (.slice A' gg.2.2.length cap')/\(∀j,wr.frozen? ⟨w1,j,none⟩=false)/\OwE wr W0 (.slice A' gg.2.2.length cap') gg.2.2/\(∀b,(zao A' gg.2.2.length cap').ownBlock=some b->l.ownBlock≠some b)/\Wf w1 w1 wr/\w1.heap.size<wr.heap.size) (fun l _=>slN l)
   case atStart=>exact⟨(r,(k:Int),es),rng k,A1,ak,aK,HT,vP,HO,NY,MW,LY,GCF,GE,fun b hb he=>by have h1:=wR.o b hb;have h2:=HO.o.1.lt b he;omega,BB.o,wZ⟩
   case round=>
    clear HT HO NY MW LY GCF GE BB wR;obtain⟨gg,xs,A',cap',GX,hR,ei,aa,fL,aJ,dp,OT,mr,ai,ab,lC⟩:=hrel;obtain⟨wq,rfl⟩: ∃wq:Wg,wq=wr:=⟨_,rfl⟩;obtain⟨Qn,nN,sK,_⟩:=qD GX;obtain⟨r2,n2,bO⟩:=gg;simp only at hR ei fL aJ dp mr ai nN sK Qn
    obtain⟨M,rfl⟩: ∃M:Nat,n2=(M:Int):=⟨n2.toNat,tO⟩;simp only[zaq] at ei hR;have Mx:1<=M:=tO;have VC:M<=40:=tO;clear nN;have F4:=qA GX;have HR:=qA hR;have HO:=qA aa;have pS:=qA mr;have a8:=qA ai;have kX:=qA OT;have Cu:=qA ab;have hs:=ab.size;obtain⟨Al,capl,rfl,rA,dK,_,hf⟩:=OwI.form aa;obtain⟨gl,rfl,oI,kn⟩:=hf tO;have Lb:bO.length<=cap':=by obtain⟨_,_,e,h1,_⟩:=OwE.form mr;injection e with _ _ e3;subst e3;exact h1
    have HA:Wi (∀w',Wf wq wq w'->ArgG w' (.agg #[.int .i64 r2, .int .i64 M, .slice A' bO.length cap']) (r2,(M:Int),bO)):=qA fun w' hb=>⟨_,rfl,by show I64 r2;unfold I64;omega,by show I64 (M:Int);unfold I64;omega,(pS.below hb).arg⟩;clear GX hR aa mr ai OT ab hf;go_wp2_with fail;refine(qLz _ (r2,(M:Int),bO) wq (HA _ (zak _ _)) F4).mono ?_
    rintro e wj ⟨rj,rfl,oj,bj⟩;obtain⟨Aj,capj,rfl,Cy,_,_,E8⟩:=qAE oj;rw[qJZ] at E8 Cy⊢;simp only[zaq] at E8 Cy⊢;obtain⟨gj,rfl,Ri,Jr⟩:=E8 tO;have sj:=bj.size;have Ut:Wi (∀k:Nat,k<M->wj.cell? ⟨gj,k,none⟩=some (.bool (hasB (qCB bO 0) k))):=qA fun k hk=>by
     have h1:=OwB.cellAt oj k (by rw[qJZ];simpa using hk);rw[qOD k (by simpa using hk)] at h1;exact h1
    have zt:=qA bj;have d0:=qA ((bj.cell (p:=⟨w1,0,none⟩) lC).trans fL);have d1:=qA ((bj.cell (p:=⟨w1,1,none⟩) lC).trans aJ);have d2:=qA ((bj.cell (p:=⟨w1,2,none⟩) lC).trans dp);have dF:Wi (∀j,wj.frozen? ⟨w1,j,none⟩=false):=qA fun j=>(bj.frozen (p:=⟨w1,j,none⟩) lC).trans (kX j);have mm:w1.heap.size<wj.heap.size:=tO;clear oj bj E8 fL aJ dp kX;obtain⟨U,hU⟩: ∃U,U=qu bO M:=⟨_,rfl⟩;have HU:=qA hU;have KF:Wi (∀k:Nat,qHA bO k=(decide (degL bO k<2)|| !hasB (qCB bO 0) k)):=qA fun k=>rfl;clear hU;go_wp2;go_loopw [8,9] (fun a i wg=> ∃k:Nat,i= .int .i64 k/\1<=k/\k<=M/\((a= .int .i64 0/\qAM bO M (M-k) k=U)\/(∃u:Nat,a= .int .i64 u/\U=(u:Int)/\1<=u/\u<M/\k=u+1))/\Wf wj wj wg) (fun _ i _=>M+1-(intOf i).toNat)
    case atStart=>exact⟨1,rfl,zac _,Mx, .inl ⟨rfl,by rw[HU.o];rfl⟩,zak _ _⟩
    case round=>
     obtain⟨k,rfl,js,hk,An,y6⟩:=hrel;have mc:=qA y6;have In:=y6.size;have e0:=(y6.cell (p:=⟨w1,0,none⟩) mm).trans d0.o;have e1:=(y6.cell (p:=⟨w1,1,none⟩) mm).trans d1.o;have e2:=(y6.cell (p:=⟨w1,2,none⟩) mm).trans d2.o;clear y6;rcases An with ⟨rfl,mY⟩ | ⟨u,rfl,hUu,kL,huM,rfl⟩
     ·have Fs:=qA mY;clear mY;by_cases ac:k<M
      ·have tS:=(mc.cell (p:=⟨gj,k,none⟩) Jr).trans (Ut k ac);have LB:=qA (KF k);have tI:(k:Int)<(M:Int):=tO;have GK:degL bO k<=240:=by have:=qHo bO k bO.length;rw[zar] at this;omega
       go_wp2_with fail;refine(qGD _ (r2,(M:Int),bO) k _ (HA _ (zt.trans (mc.mono sj))) (by simp only;omega)).mono ?_
       rintro e w7 ⟨rfl,b7⟩;have B7:=qA b7;have s7:=b7.size;have Lx:=(b7.cell (p:=⟨gj,k,none⟩) (by show gj<wr.heap.size;omega)).trans tS;clear b7 tS;simp only
       generalize degL bO k=d at*;by_cases hd:d<2
       ·have Iv:(d:Int)<2:=tO;have F:=qA (qCi ac (by rw[LB.o];simp[hd]));go_wp2;go_roundw;exact⟨k+1,by go_num,tO,tO, .inr ⟨k,rfl,by rw[<-Fs.o,F.o],js,ac,rfl⟩,mc.o.trans (B7.mono In)⟩;exact tM
       ·have Iv: ¬(d:Int)<2:=tO;rcases h1:hasB (qCB bO 0) k with _ | _
        ·have F:=qA (qCi ac (by rw[LB.o,h1];simp));rw[h1] at Lx;go_wp2;go_roundw;exact⟨k+1,by go_num,tO,tO, .inr ⟨k,rfl,by rw[<-Fs.o,F.o],js,ac,rfl⟩,mc.o.trans (B7.mono In)⟩;exact tM
        ·have F:=qA (qFP ac (by rw[LB.o,h1];simp[hd]));rw[h1] at Lx;go_wp2;go_roundw;exact⟨k+1,by go_num,tO,tO, .inl ⟨rfl,by rw[<-F.o,Fs.o]⟩,mc.o.trans (B7.mono In)⟩;exact tM
      ·obtain rfl:k=M:=tO
       have QD:U= -1:=by rw[<-Fs.o,qFt]
       have HE:Wi (R=((r2,(k:Int),bO),xs)):=qA (by rw[HR.o];exact qFb _ (show qu bO ((k:Int)).toNat<0 by rw[zaq,<-HU.o,QD];decide) _);have bb:Wi (Wf w1 w1 wr):=qA (Cu.trans ((zt.trans (mc.mono sj)).mono tO));have Sn:=(bb.cell (p:=⟨w.heap.size+1,0,none⟩) mS).trans To.o;have TD:=(bb.cell (p:=⟨w.heap.size+1,1,none⟩) mS).trans So.o;have St:=(bb.cell (p:=⟨w.heap.size+1,2,none⟩) mS).trans PL.o;have fh:=(bb.frozen (p:=⟨w.heap.size+1,0,none⟩) mS).trans (RQF 0);have fu:=(bb.frozen (p:=⟨w.heap.size+1,1,none⟩) mS).trans (RQF 1);have fd:=(bb.frozen (p:=⟨w.heap.size+1,2,none⟩) mS).trans (RQF 2);have ow:=pS.o.below (zt.trans (mc.mono sj));have ol:=HO.o.below (zt.trans (mc.mono sj));have OW:Wi (OwE (((wr.setCell ⟨w.heap.size+1,0,none⟩ (.int .i64 r2)).setCell ⟨w.heap.size+1,1,none⟩ (.int .i64 k)).setCell ⟨w.heap.size+1,2,none⟩ (.slice A' bO.length cap')) W0 (.slice A' bO.length cap') bO):=qA
        (((ow.far (p:=⟨w.heap.size+1,0,none⟩) tB _).far (p:=⟨w.heap.size+1,1,none⟩) tB _).far (p:=⟨w.heap.size+1,2,none⟩) tB _)
       have OL:Wi (OwI (((wr.setCell ⟨w.heap.size+1,0,none⟩ (.int .i64 r2)).setCell ⟨w.heap.size+1,1,none⟩ (.int .i64 k)).setCell ⟨w.heap.size+1,2,none⟩ (.slice A' bO.length cap')) (w1.heap.size+1) (.slice (some ⟨gl,0,none⟩) xs.length capl) xs):=qA
        (((ol.far (p:=⟨w.heap.size+1,0,none⟩) tB _).far (p:=⟨w.heap.size+1,1,none⟩) tB _).far (p:=⟨w.heap.size+1,2,none⟩) tB _)
       have BBW:=qA (d8.trans (bb.mono (show w.heap.size<=w1.heap.size by omega)));clear ow ol;go_wp2;obtain⟨c0,c1,c2⟩:=qEF wr (w.heap.size+1) (.int .i64 r2) (.int .i64 k) (.slice A' bO.length cap') Sn TD St;have bw:Wf w w (((wr.setCell ⟨w.heap.size+1,0,none⟩ (.int .i64 r2)).setCell ⟨w.heap.size+1,1,none⟩ (.int .i64 k)).setCell ⟨w.heap.size+1,2,none⟩ (.slice A' bO.length cap')):=(by repeat(first | exact .refl _ _ | (refine BxS ?_ _) | (refine qC ?_ _) | (refine zal ?_) | (refine BxA ?_ _) | (refine BxT ?_ (Hid.out BBW))));generalize ((wr.setCell ⟨w.heap.size+1,0,none⟩ (.int .i64 r2)).setCell ⟨w.heap.size+1,1,none⟩ (.int .i64 k)).setCell ⟨w.heap.size+1,2,none⟩ (.slice A' bO.length cap')=wf at*;refine Wj (v:= .tuple #[.agg #[.int .i64 r2, .int .i64 k, .slice A' bO.length cap'], .slice (some ⟨gl,0,none⟩) xs.length capl]) (by simp[results,Tryz.results170,go_sem,c0,c1,c2,ei]) rfl ⟨_,_,rfl,?_,?_,bw⟩
       ·rw[HE.o];refine⟨.slice A' bO.length cap',rfl,?_,?_,OW.mono tO⟩
        ·show I64 r2
         unfold I64;omega
        ·show I64 (k:Int)
         unfold I64;omega
       ·rw[HE.o];exact OL.o.mono tO
     ·obtain⟨wg,rfl⟩: ∃wg:Wg,wg=wr:=⟨_,rfl⟩;have RT:Wi (qu bO M=(u:Int)):=qA (by rw[<-HU.o,hUu]);have af:qAL (M:Int) (delO M u):=qDZ Mx tO;have bH:=qA af;have tn:(delO M u).length=M-1:=by rw[qCS,Wm tO]
      have vd:Wi (rnG (r2,(M:Int),bO) (delO M u)=(r2,((M-1:Nat):Int),srt cmpE (rnL bO (delO M u)))):=qA (by rw[<-tn];rfl);have kP:Wi (R=trimF (M-1) (r2,((M-1:Nat):Int),srt cmpE (rnL bO (delO M u))) (xs.take u++xs.drop (u+1))):=qA (by
       have h1:=qHY (g:=(r2,(M:Int),bO)) (u:=u) xs (by simpa using RT.o) (by simpa using huM);simp only[zaq] at h1;rw[vd.o] at h1;simp only[zaq] at h1;rw[HR.o,h1])
      have aS:Wi (grB (r2,((M-1:Nat):Int),srt cmpE (rnL bO (delO M u)))=true):=qA (by rw[<-vd.o];exact qHx F4.o af);have eH:(wg.alloc (.cells #[] 3)).heap.size=wg.heap.size+1:=tZ;have o5:OwI (wg.alloc (.cells #[] 3)) wg (.slice (some ⟨wg,0,none⟩) 0 0) (delO 0 u):=qp wg [] (fun _ h=>by cases h) tZ (zac _);have O5:=qA o5;have B5:Wi (Wf wg wg (wg.alloc (.cells #[] 3))):=qA ZZ;have Uh:=qA eH;have E0:=qA e0;have E1:=qA e1;have E2:=qA e2;have EF:Wi (∀j,wg.frozen? ⟨w1,j,none⟩=false):=qA fun j=>(mc.frozen (p:=⟨w1,j,none⟩) mm).trans (dF j);have za:w1.heap.size<wg.heap.size:=tO;have g0:((u:Int)==0)=false:=by rw[beq_eq_false_iff_ne];omega
      clear af o5 eH hUu tn;obtain⟨kk,rh⟩: ∃kk:Int,((u+1:Nat):Int)=kk:=⟨_,rfl⟩;rw[rh];have TQ:kk<(M:Int)\/ ¬kk<(M:Int):=tO;clear hk js rh;rcases TQ with hq | hq
      all_goals
       go_wp2;generalize wg.alloc (.cells #[] 3)=W5 at O5 B5 Uh⊢;go_loopw [10,11] (fun o i wo=> ∃k:Nat,k<=M/\i= .int .i64 k/\OwI wo wg o (delO k u)/\Wf wg wg wo) (fun _ i _=>M-(intOf i).toNat)
       case atStart=>exact⟨0,zav _,rfl,O5,B5⟩
       case round=>
        obtain⟨k,hk,rfl,aa,oV⟩:=hrel;have Ff:=qA aa;have Cj:=qA oV;have Oi:=oV.size;have gK:=(oV.cell (p:=⟨w1,1,none⟩) za).trans E1.o;have AQ:=(oV.cell (p:=⟨w1,0,none⟩) za).trans E0.o;have yB:=(oV.cell (p:=⟨w1,2,none⟩) za).trans E2.o;obtain⟨Ao,capo,rfl,_⟩:=OwI.form aa;clear aa oV;by_cases ac:k<M
        ·by_cases kI:k=u
         ·subst kI;have F:Wi (delO (k+1) (k:Int)=delO k (k:Int)):=qA (by rw[qCA];simp);go_wp2;go_roundw;exact⟨k+1,tO,by go_num,by rw[F.o];exact Ff.o,Cj.o⟩;exact tM
         ·have fi: ¬(k:Int)=(u:Int):=tO;have F:Wi (delO (k+1) (u:Int)=delO k (u:Int)++ [(k:Int)]):=qA (by rw[qCA,Wm fi]);have HK:Wi (I64 (k:Int)):=qA ⟨tO,tO⟩;have Vx:(delO k (u:Int)).length<=40:=by rw[qCS];split<;>omega
          go_wp2_with (at_builtin;refine qW rfl (.tmp 68) (.tmp 70) rfl _ _ _ (OwI.alloc Ff _) rfl _ _ rfl (qU _ _ _) HK.o tB tB ?_;intro v9 wv9 o9 g9 p9)
          go_roundw;exact⟨k+1,tO,by go_num,by rw[F.o];exact o9,qh Cj.o tO Ff.o.1 (zac _) g9⟩;exact tM
        ·obtain rfl:k=M:=tO
         go_wp2_with fail;refine(qLQ _ _ (r2,(k:Int),bO) (delO k u) _ (HA _ ((zt.trans (mc.mono sj)).trans (Cj.mono tO))) Ff.o.rd F4.o bH.o).mono ?_
         rintro e w6 ⟨r6,rfl,o6,b6⟩;rw[vd.o] at o6;obtain⟨s6,rfl,_,_,rO⟩:=o6;simp only at rO⊢
         generalize srt cmpE (rnL bO (delO k (u:Int)))=es6 at*;generalize hm:k-1=m at*;have HM:=qA hm;clear hm;have B6:=qA b6;have We:=b6.size;have Dl:=qA rO;obtain⟨A6,iE,rfl,NU,Vr,_⟩:=OwE.form rO;have KY: ∀b,(zao A6 es6.length iE).ownBlock=some b->wr.heap.size<=b/\b<w6.heap.size:=fun b hb=>rO.1.lt b hb;have JQ:=qA KY;have f0:=(b6.cell (p:=⟨w1,0,none⟩) (by show w1.heap.size<wr.heap.size;omega)).trans AQ;have f1:=(b6.cell (p:=⟨w1,1,none⟩) (by show w1.heap.size<wr.heap.size;omega)).trans gK;have f2:=(b6.cell (p:=⟨w1,2,none⟩) (by show w1.heap.size<wr.heap.size;omega)).trans yB;have FF:Wi (∀j,w6.frozen? ⟨w1,j,none⟩=false):=qA fun j=>(b6.frozen (p:=⟨w1,j,none⟩) (by show w1.heap.size<wr.heap.size;omega)).trans ((Cj.frozen (p:=⟨w1,j,none⟩) za).trans (EF j));have SE:=FF.o 0;have UA:=FF.o 1;have Rz:=FF.o 2;clear rO b6 KY AQ gK yB;go_wp2;obtain⟨c0,c1,c2⟩:=qEF w6 w1 (.int .i64 r2) (.int .i64 m) (.slice A6 es6.length iE) f0 f1 f2;have Nz:Wi (Wf wq wq w6):=qA ((zt.trans (mc.mono sj)).trans (((Cj.trans (B6.mono tO))).mono tO));have FH:OwI (((w6.setCell ⟨w1,0,none⟩ (.int .i64 r2)).setCell ⟨w1,1,none⟩ (.int .i64 m)).setCell ⟨w1,2,none⟩ (.slice A6 es6.length iE)) (w1.heap.size+1) (.slice (some ⟨gl,0,none⟩) xs.length capl) xs:=
          ((((HO.below Nz).far (p:=⟨w1,0,none⟩) tB _).far (p:=⟨w1,1,none⟩) tB _).far (p:=⟨w1,2,none⟩) tB _)
         have iC:OwE (((w6.setCell ⟨w1,0,none⟩ (.int .i64 r2)).setCell ⟨w1,1,none⟩ (.int .i64 m)).setCell ⟨w1,2,none⟩ (.slice A6 es6.length iE)) wr (.slice A6 es6.length iE) es6:=
          (((Dl.o.far (p:=⟨w1,0,none⟩) tB _).far (p:=⟨w1,1,none⟩) tB _).far (p:=⟨w1,2,none⟩) tB _)
         have OM:Wf w1 w1 (((w6.setCell ⟨w1,0,none⟩ (.int .i64 r2)).setCell ⟨w1,1,none⟩ (.int .i64 m)).setCell ⟨w1,2,none⟩ (.slice A6 es6.length iE)):=
          (((Cu.trans (Nz.mono tO)).setCell (p:=⟨w1,0,none⟩) (by show w1.heap.size<=_;exact zac _) _).setCell (p:=⟨w1,1,none⟩) (by show w1.heap.size<=_;exact zac _) _).setCell (p:=⟨w1,2,none⟩) (by show w1.heap.size<=_;exact zac _) _
         have Mk: ∀j,(((w6.setCell ⟨w1,0,none⟩ (.int .i64 r2)).setCell ⟨w1,1,none⟩ (.int .i64 m)).setCell ⟨w1,2,none⟩ (.slice A6 es6.length iE)).frozen? ⟨w1,j,none⟩=false:=fun j=>by
          rw[zap,zap,zap];exact FF.o j
         have UN:(((w6.setCell ⟨w1,0,none⟩ (.int .i64 r2)).setCell ⟨w1,1,none⟩ (.int .i64 m)).setCell ⟨w1,2,none⟩ (.slice A6 es6.length iE)).heap.size=w6.heap.size:=tZ;generalize ((w6.setCell ⟨w1,0,none⟩ (.int .i64 r2)).setCell ⟨w1,1,none⟩ (.int .i64 m)).setCell ⟨w1,2,none⟩ (.slice A6 es6.length iE)=w7 at*;have EV:=qA FH;have Tn:=qA iC;have ik:=qA OM;have Pu:=qA Mk;have C0:=qA c0;have C1:=qA c1;have C2:=qA c2;have gt:u<=xs.length:=tO;have ij:u+1<=xs.length:=tO;have OC:=qA (qKX FH gt);have RC:=qA (RdI.cut (k:=u+1) (A:=some ⟨gl,0,none⟩) (cap:=capl) FH.rd rfl ij);clear FH iC OM Mk c0 c1 c2 f0 f1 f2 SE UA Rz FF;have z1:(0:Int)<=(u:Int):=tO;have z2:(u:Int)<=(capl:Int):=tO;have z3:(u:Int)+1<=(k:Int):=tO;have z4:(k:Int)<=(capl:Int):=tO;have z5:(0:Int)<=(u:Int)+1:=tO;have z6:(u:Int)+1<=(capl:Int):=tO;have zw:IntKind.i64.wrap ((u:Int)+1)=(u:Int)+1:=by rw[IntKind.wrap_i64];omega
         have HC:Wi (∀(v9:Wh) (w9:Wg),OwI w9 (w1.heap.size+1) v9 (xs.take u++xs.drop (u+1))->w7.drew.grownBy w9 (zao (some ⟨gl,0,none⟩) u capl).ownBlock->(v9.ownBlock=(zao (some ⟨gl,0,none⟩) u capl).ownBlock\/v9.ownBlock=some w7.drew.heap.size)->
           (∃(gg:GrD) (xs:List Int) (A':Option Addr) (cap':Nat),grB gg=true/\R=trimF gg.2.1.toNat gg xs/\xs.length=gg.2.1.toNat/\OwI w9 (w1.heap.size+1) v9 xs/\w9.cell? ⟨w1,0,none⟩=some (.int .i64 gg.1)/\w9.cell? ⟨w1,1,none⟩=some (.int .i64 gg.2.1)/\w9.cell? ⟨w1,2,none⟩=some (.slice A' gg.2.2.length cap')/\(∀j,w9.frozen? ⟨w1,j,none⟩=false)/\OwE w9 W0 (.slice A' gg.2.2.length cap') gg.2.2/\(∀b,(zao A' gg.2.2.length cap').ownBlock=some b->v9.ownBlock≠some b)/\Wf w1 w1 w9/\w1.heap.size<w9.heap.size)/\slN v9<k):=qA (by
          intro v9 w9 o9 g9 p9;have Kr: ∀b,b<w7.heap.size->b≠gl->w9.heap[b]? =w7.heap[b]? :=fun b hb ai=>g9.block b hb fun e=>ai (by simpa[zaQ] using e);have lJ:w7.heap.size<=w9.heap.size:=g9.size;have ze:(xs.take u++xs.drop (u+1)).length=m:=by
           have:=HM.o
           rw[zag,zam,zas];omega
          have zn:Wf w1 w1 w9:=(ik.o.drew).grown g9 (by show w1.heap.size<=w7.heap.size;omega) fun x hx=>by simp[zaQ] at hx;omega
          have cc: ∀o,w9.cell? ⟨w1,o,none⟩=w7.cell? ⟨w1,o,none⟩:=fun o=>zaw (Kr w1 tO tO);have cf: ∀o,w9.frozen? ⟨w1,o,none⟩=w7.frozen? ⟨w1,o,none⟩:=fun o=>zaC (Kr w1 tO tO);obtain⟨A9,bM,vf,_⟩:=OwI.form o9;refine⟨⟨(r2,(m:Int),es6),xs.take u++xs.drop (u+1),A6,iE,aS,by rw[kP.o];simp,by rw[ze];simp,o9,(cc 0).trans C0.o,(cc 1).trans C1.o,(cc 2).trans C2.o,fun j=>(cf j).trans (Pu j),(Tn.keep fun b hb=>Kr b (by have:=JQ.o b hb;omega) (by have:=JQ.o b hb;omega)).mono tO,fun b hb he=> ?_,zn,tO⟩,?_⟩
          ·have h1:=JQ.o b hb;rcases p9 with p9 | p9
           ·rw[p9] at he;simp[zaQ] at he
            omega
           ·rw[p9] at he;have h2:w7.heap.size=b:=by simpa using he
            omega
          ·rw[vf,ze];show m<k
           have:=HM.o
           omega)
         by_cases lS:capl=u+1
         ·have RC':Wi (RdI w7 (.slice (some ⟨gl,0,none⟩) (k-(u+1)) 0) (xs.drop (u+1))):=qA (by
           have h1:=RC.o;rw[Wm lS,ei,show capl-(u+1)=0 by omega] at h1;exact h1)
          clear RC;subst lS;have y1:(u:Int)<=(u:Int)+1:=tO;have y2:(k:Int)<=(u:Int)+1:=tO;clear z2 z4 z6;go_region_held3 (fun w'=>True) (trivial)
           (first | (refine ql rfl (.tmp 77) (.tmp 81) rfl (w1.heap.size+1) _ (xs.take u) (OwI.drew OC) (by rfl) _ (xs.drop (u+1)) ?_ (by rfl) (by simp only[zam,zas];omega) (by show _<=w7.heap.size;omega) ?_;(exact RC'.o.drew);intro v9 w9 o9 g9 p9;have X9:=qA (HC v9 w9 o9 g9 p9);clear o9 g9 p9))
          clear HC;obtain⟨X1,X2⟩:=X9.o;clear X9;have fW:=qA X1;clear X1;go_wp2;go_roundw
          case rel=>exact fW.o
          case measure=>(show slN v9<xs.length;omega)
         ·have RC':Wi (RdI w7 (.slice (some ⟨gl,u+1,none⟩) (k-(u+1)) (capl-(u+1))) (xs.drop (u+1))):=qA (by
           have h1:=RC.o;rw[Wn lS,ei] at h1;simpa[Addr.add] using h1)
          go_region_held3 (fun w'=>True) (trivial)
           (first | (refine ql rfl (.tmp 77) (.tmp 81) rfl (w1.heap.size+1) _ (xs.take u) (OwI.drew OC) (by rfl) _ (xs.drop (u+1)) ?_ (by rfl) (by simp only[zam,zas];omega) (by show _<=w7.heap.size;omega) ?_;(exact RC'.o.drew);intro v9 w9 o9 g9 p9;have X9:=qA (HC v9 w9 o9 g9 p9);clear o9 g9 p9))
          clear HC;obtain⟨X1,X2⟩:=X9.o;clear X9;have fW:=qA X1;clear X1;go_wp2;go_roundw
          case rel=>exact fW.o
          case measure=>(show slN v9<xs.length;omega)
theorem qV (es:List EdD) (v x:Int) (w:List Int):qQ es v (x::w)=if qF es v x<0 then-1 else qQ es (qF es v x) w:=rfl
theorem qAs (es:List EdD): ∀(a:List Int) (v:Int) (b:List Int),0<=qQ es v a->qQ es v (a++b)=qQ es (qQ es v a) b
 | [],_,_,_=>rfl
 | x::a,v,b,h=>by
   rw[za3,qV,qV];rw[qV] at h;split at h
   ·exact absurd h tD
   ·rename_i hn
    rw[Wn hn,Wn hn];exact qAs es a _ b h
theorem qJC (es:List EdD): ∀(a:List Int) (v:Int) (b:List Int),0<=v->0<=qQ es v (a++b)->0<=qQ es v a
 | [],v,_,hv,_=>hv
 | x::a,v,b,hv,h=>by
   rw[za3,qV] at h;rw[qV];split at h
   ·exact absurd h tD
   ·rename_i hn
    rw[Wn hn];exact qJC es a _ b tO h
theorem qFF (es:List EdD) (v x:Int) (h:0<=qF es v x):qQ es v [x]=qF es v x:=by
 rw[qV,Wn tO];rfl
def invN (w:List Int):List Int:=(w.map fun x=> -x).reverse
theorem qIA (w:List Int):invN (invN w)=w:=by
 unfold invN;rw[List.map_reverse,List.reverse_reverse,List.map_map];have:((fun x:Int=> -x)∘fun x:Int=> -x)=id:=by funext x;simp
 rw[this,List.map_id]
theorem qOu (a b:List Int):invN (a++b)=invN b++invN a:=by simp[invN]
theorem qCj {w:List Int} {x:Int} (h:x∈invN w): -x∈w:=by
 unfold invN at h;simp only[List.mem_reverse,zaG] at h;obtain⟨y,hy,rfl⟩:=h;simpa using hy
theorem qJr {g:GrD} (hg:grB g=true) (hf:Fol g.2.2): ∀(w:List Int) (v:Int),(∀x∈w,-3<=x/\x<=3)->0<=v->0<=qQ g.2.2 v w->qQ g.2.2 (qQ g.2.2 v w) (invN w)=v
 | [],_,_,_,_=>rfl
 | x::w,v,hx,hv,h=>by
   rw[qV] at h⊢;split at h
   ·exact absurd h tD
   ·rename_i hn
    rw[Wn hn];have e:invN (x::w)=invN w++ [-x]:=by simp[invN]
    have ih:=qJr hg hf w _ (fun y hy=>hx y (by simp[hy])) tO h;have hb:=qAS hg hf (hx x tZ) (by omega:0<=qF g.2.2 v x);rw[e,qAs _ _ _ _ (by rw[ih];omega),ih,qFF _ _ _ tO,hb]
def wst (es:List EdD) (u:Int) (wu:List Int) (tw:List (Int×List Int)) (x:Int):List (Int×List Int):=
 if 0<=qF es u x then(if hasB (tw.map (·.1)) (qF es u x) then tw else tw++ [(qF es u x,wu++ [x])]) else tw
def wcF (es:List EdD) (ls:List Int):Nat->Nat->List (Int×List Int)->List (Int×List Int)
 | 0,_,tw=>tw
 | f+1,i,tw=>match tw[i]? with
   | none=>tw
   | some p=>wcF es ls f (i+1) (ls.foldl (wst es p.1 p.2) tw)
def wcO (g:GrD):List (Int×List Int):=wcF g.2.2 (qB g.1.toNat) 41 0 [(0,[])]
theorem qQf (es:List EdD) (u:Int) (wu:List Int) (tw:List (Int×List Int)) (x:Int):(wst es u wu tw x).map (·.1)=qd es u (tw.map (·.1)) x:=by
 unfold wst qd;by_cases h0:0<=qF es u x
 ·rw[Wm h0,Wm h0];by_cases h1:hasB (tw.map (·.1)) (qF es u x)=true
  ·rw[Wm h1,Wm h1]
  ·rw[Wn h1,Wn h1];simp
 ·rw[Wn h0,Wn h0]
theorem qFN (es:List EdD) (u:Int) (wu:List Int): ∀(ls:List Int) (tw:List (Int×List Int)),(ls.foldl (wst es u wu) tw).map (·.1)=ls.foldl (qd es u) (tw.map (·.1))
 | [],_=>rfl
 | x::ls,tw=>by rw[za7,za7,qFN es u wu ls,qQf]
theorem qMz (es:List EdD) (ls:List Int): ∀(f i:Nat) (tw:List (Int×List Int)),(wcF es ls f i tw).map (·.1)=canF es ls f i (tw.map (·.1))
 | 0,_,_=>rfl
 | f+1,i,tw=>by
   rw[wcF,canF,zaJ];cases tw[i]? with
   | none=>rfl
   | some p=>simp only[Option.map_some];rw[qMz es ls f,qFN]
theorem qIH (g:GrD):(wcO g).map (·.1)=canO g:=by unfold wcO canO;rw[qMz];rfl
theorem qLX (es:List EdD) (ls:List Int) (f i:Nat) (o:List (Int×List Int)) (h:i<o.length):wcF es ls (f+1) i o=wcF es ls f (i+1) (ls.foldl (wst es o[i].1 o[i].2) o):=by
 rw[wcF,zat h]
theorem qHh (es:List EdD) (u:Int) (wu:List Int) (x:Int) (o:List (Int×List Int)) (i:Nat) (y:Int×List Int) (h:o[i]? =some y):(wst es u wu o x)[i]? =some y:=by
 unfold wst;split
 ·split
  ·exact h
  ·rw[List.getElem?_append_left (zaA.1 h).1];exact h
 ·exact h
theorem qDg (es:List EdD) (u:Int) (wu:List Int): ∀(ls:List Int) (o:List (Int×List Int)) (i:Nat) (y:Int×List Int),o[i]? =some y->(ls.foldl (wst es u wu) o)[i]? =some y
 | [],_,_,_,h=>h
 | x::ls,o,i,y,h=>qDg es u wu ls _ i y (qHh es u wu x o i y h)
theorem qMG (es:List EdD) (u:Int) (wu:List Int) (ls:List Int) (o:List (Int×List Int)) (k:Nat) (h:k<ls.length):(ls.take (k+1)).foldl (wst es u wu) o=wst es u wu ((ls.take k).foldl (wst es u wu) o) ls[k]:=by
 rw[zau h,zaK];rfl
theorem qFh (es:List EdD) (ls:List Int): ∀(f i:Nat) (o:List (Int×List Int)) (j:Nat) (y:Int×List Int),o[j]? =some y->(wcF es ls f i o)[j]? =some y
 | 0,_,_,_,_,h=>h
 | f+1,i,o,j,y,h=>by
   rw[wcF];cases o[i]? with
   | none=>exact h
   | some p=>exact qFh es ls f _ _ j y (qDg es _ _ ls o j y h)
structure TwI (es:List EdD) (ls:List Int) (tw:List (Int×List Int)):Prop where
 root:tw[0]? =some (0,[])
 par: ∀p∈tw,p=(0,[])\/ ∃q∈tw,∃x∈ls,p.2=q.2++ [x]/\qF es q.1 x=p.1/\0<=p.1
 len: ∀p∈tw,p.2.length<tw.length
theorem TwI.step {es:List EdD} {ls:List Int} {tw:List (Int×List Int)} (h:TwI es ls tw) {u:Int} {wu:List Int} (hu:(u,wu)∈tw) {x:Int} (hx:x∈ls):TwI es ls (wst es u wu tw x)/\(u,wu)∈wst es u wu tw x:=by
 refine⟨⟨qHh _ _ _ _ _ _ _ h.root,?_,?_⟩,?_⟩
 ·unfold wst;split
  ·rename_i h0
   split
   ·exact h.par
   ·intro p hp;rcases zah.1 hp with hp | hp
    ·rcases h.par p hp with e | ⟨q,hq,r⟩
     ·exact .inl e
     ·exact .inr ⟨q,zah.2 (.inl hq),r⟩
    ·rw[zai.1 hp];exact .inr ⟨(u,wu),zah.2 (.inl hu),x,hx,rfl,rfl,h0⟩
  ·exact h.par
 ·unfold wst;split
  ·split
   ·exact h.len
   ·intro p hp;rw[zag];rcases zah.1 hp with hp | hp
    ·have:=h.len p hp;simp;omega
    ·rw[zai.1 hp];have:=h.len _ hu
     simp only[zag,zaE] at this⊢;omega
  ·exact h.len
 ·unfold wst;split
  ·split
   ·exact hu
   ·exact zah.2 (.inl hu)
  ·exact hu
theorem TwI.fold {es:List EdD} {ls:List Int} {u:Int} {wu:List Int}: ∀(l2:List Int) {tw:List (Int×List Int)},TwI es ls tw->(u,wu)∈tw->(∀x∈l2,x∈ls)->TwI es ls (l2.foldl (wst es u wu) tw)
 | [],_,h,_,_=>h
 | x::l2,tw,h,hu,hs=>by
   have:=h.step hu (hs x tZ)
   exact TwI.fold l2 this.1 this.2 fun y hy=>hs y (by simp[hy])
theorem TwI.bfs {es:List EdD} {ls:List Int}: ∀(f i:Nat) {tw:List (Int×List Int)},TwI es ls tw->TwI es ls (wcF es ls f i tw)
 | 0,_,_,h=>h
 | f+1,i,tw,h=>by
   rw[wcF];cases e:tw[i]? with
   | none=>exact h
   | some p=>exact TwI.bfs f _ (h.fold ls (zax e) fun _ hx=>hx)
theorem TwI.one (es:List EdD) (ls:List Int):TwI es ls [(0,[])]:=⟨rfl,fun p hp=> .inl (zai.1 hp),fun p hp=>by rw[zai.1 hp];simp⟩
theorem qNW (g:GrD):TwI g.2.2 (qB g.1.toNat) (wcO g):=(TwI.one _ _).bfs _ _
def lkW (tw:List (Int×List Int)) (v:Int):List Int:=match tw.find? (fun p=>decide (p.1=v)) with
 | some p=>p.2
 | none=> []
def wdO (g:GrD) (v:Int):List Int:=lkW (wcO g) v
theorem qQy {tw:List (Int×List Int)} (hn:(tw.map (·.1)).Nodup) {p:Int×List Int} (hp:p∈tw):lkW tw p.1=p.2:=by
 unfold lkW;induction tw with
 | nil=>cases hp
 | cons q tw ih=>
   rw[zaS,za8] at hn;rw[List.find?_cons];rcases zbb.1 hp with rfl | hp
   ·simp
   ·have ai:q.1≠p.1:=fun e=>hn.1 (e▸zaG.2 ⟨p,hp,rfl⟩);rw[show decide (q.1=p.1)=false by simp[ai]];exact ih hn.2 hp
section
variable {g:GrD}
theorem qNH (hg:grB g=true):((wcO g).map (·.1)).Nodup:=by rw[qIH];exact(qAD hg).1
theorem qOK (hg:grB g=true) {p:Int×List Int} (hp:p∈wcO g):wdO g p.1=p.2:=qQy (qNH hg) hp
theorem qPr (hg:grB g=true) {v:Int} (hv:v∈canO g):(v,wdO g v)∈wcO g:=by
 rw[<-qIH] at hv;obtain⟨p,hp,rfl⟩:=zaG.1 hv;rw[qOK hg hp];exact hp
theorem qPe {p:Int×List Int} (hp:p∈wcO g):p.1∈canO g:=by rw[<-qIH];exact zaG.2 ⟨p,hp,rfl⟩
theorem qDH (hg:grB g=true):wdO g 0= []:=qOK hg (p:=(0,[])) (zax (qNW g).root)
theorem qEu (hg:grB g=true) {v:Int} (hv:v∈canO g) (h0:v≠0): ∃u∈canO g,∃x∈qB g.1.toNat,wdO g v=wdO g u++ [x]/\qF g.2.2 u x=v:=by
 rcases(qNW g).par _ (qPr hg hv) with e | ⟨q,hq,x,hx,h1,h2,_⟩
 ·exact absurd (congrArg Prod.fst e) h0
 ·exact⟨q.1,qPe hq,x,hx,by rw[qOK hg hq];exact h1,h2⟩
theorem qBh (hg:grB g=true) {v:Int} (hv:v∈canO g):(wdO g v).length<40:=by
 have h1:=(qNW g).len _ (qPr hg hv);have h2:=(qAD hg).len (qD hg).2.1.2 (by have:=(qD hg).2.1.1;omega);rw[<-qIH,zaO] at h2;simp only at h1
 omega
theorem let3 (hg:grB g=true) {x:Int} (hx:x∈qB g.1.toNat): -3<=x/\x<=3:=by
 have h1:=qw.1 hx;have h2:=(qD hg).1;omega
theorem qIQ (hg:grB g=true): ∀(n:Nat) {v:Int},v∈canO g->(wdO g v).length<=n->qQ g.2.2 0 (wdO g v)=v/\ ∀x∈wdO g v,x∈qB g.1.toNat
 | n,v,hv,hn=>by
   by_cases h0:v=0
   ·subst h0;rw[qDH hg];exact⟨rfl,fun x hx=>by cases hx⟩
   ·obtain⟨u,hu,x,hx,e,ej⟩:=qEu hg hv h0;have mJ:=(qAD hg).2.1 v hv;have eW:=(qAD hg).2.1 u hu;rw[e] at hn⊢;rw[zag,zaE] at hn;match n,hn with
    | n+1,hn=>
      have ih:=qIQ hg n hu tO;refine⟨?_,fun y hy=> ?_⟩
      ·rw[qAs _ _ _ _ (by rw[ih.1];omega),ih.1,qFF _ _ _ tO,ej]
      ·rcases zah.1 hy with hy | hy
       ·exact ih.2 y hy
       ·rw[zai.1 hy];exact hx
theorem qGl (hg:grB g=true) {v:Int} (hv:v∈canO g):qQ g.2.2 0 (wdO g v)=v:=(qIQ hg _ hv (zac _)).1
theorem qPi (hg:grB g=true) {v:Int} (hv:v∈canO g): ∀x∈wdO g v,x∈qB g.1.toNat:=(qIQ hg _ hv (zac _)).2
theorem qFi (hg:grB g=true) {v:Int} (hv:v∈canO g): ∀x∈wdO g v,-3<=x/\x<=3:=fun x hx=>let3 hg (qPi hg hv x hx)
theorem qLa {a b:List Int} {x y:Int} (h:a++ [x]=b++ [y]):a=b/\x=y:=by
 have:=List.append_inj' h rfl
 exact⟨this.1,by simpa using this.2⟩
def NoB:List Int->Prop
 | []=>True
 | [_]=>True
 | a::b::l=>b≠ -a/\NoB (b::l)
theorem NoB.app: ∀ {a b:List Int},NoB a->NoB b->(∀x∈a.getLast?,∀y∈b.head?,y≠ -x)->NoB (a++b)
 | [],_,_,hb,_=>hb
 | [x],[],_,_,_=>trivial
 | [x],y::b,_,hb,h=>⟨h x rfl y rfl,hb⟩
 | x::y::a,b,ha,hb,h=>⟨ha.1,NoB.app (a:=y::a) ha.2 hb (by rw[List.getLast?_cons_cons] at h;exact h)⟩
theorem NoB.inv: ∀ {w:List Int},NoB w->NoB (invN w)
 | [],_=>trivial
 | [x],_=>trivial
 | x::y::w,h=>by
   have e:invN (x::y::w)=invN (y::w)++ [-x]:=by simp[invN]
   rw[e];refine NoB.app h.2.inv trivial fun a ha b hb=> ?_;simp[invN] at ha hb
   have:=h.1
   omega
theorem qIY (hg:grB g=true) (hf:Fol g.2.2): ∀(n:Nat) {v:Int},v∈canO g->(wdO g v).length<=n->NoB (wdO g v)
 | n,v,hv,hn=>by
   by_cases h0:v=0
   ·subst h0;rw[qDH hg];exact trivial
   ·obtain⟨u,hu,x,hx,e,ej⟩:=qEu hg hv h0;have hl:(wdO g v).length=(wdO g u).length+1:=by rw[e];simp
    match n,hn with
    | 0,hn=>omega
    | n+1,hn=>
      have ih:=qIY hg hf n hu tO;rw[e];refine NoB.app ih trivial fun a ha b hb=> ?_;simp at hb
      subst hb;intro gw;by_cases eW:u=0
      ·subst eW;rw[qDH hg] at ha;simp at ha
      ·obtain⟨t,ht,y,hy,e2,uh⟩:=qEu hg hu eW;rw[e2] at ha;simp at ha
       subst ha;have kL:=(qAD hg).2.1 u hu;have hb:=qAS hg hf (let3 hg hy) (by rw[uh];omega);rw[uh,<-gw,ej] at hb;subst hb;rw[e2] at e;have:=congrArg zaI e
       simp at this
def exB (g:GrD) (e:EdD):Bool:= !decide (wdO g e.2.2=wdO g e.1++ [e.2.1])&& !decide (wdO g e.1=wdO g e.2.2++ [-e.2.1])
theorem qMi {e:EdD}:exB g e=true↔wdO g e.2.2≠wdO g e.1++ [e.2.1]/\wdO g e.1≠wdO g e.2.2++ [-e.2.1]:=by simp[exB]
def extL (g:GrD):List EdD:=g.2.2.filter (exB g)
def basW (g:GrD) (e:EdD):List Int:=wdO g e.1++ [e.2.1]++invN (wdO g e.2.2)
theorem qAb (hg:grB g=true) (hf:Fol g.2.2) {e:EdD} (he:e∈g.2.2):qF g.2.2 e.1 e.2.1=e.2.2:=by
 have h:=(qM hg he).2.1;exact qEC hf he (by unfold mt;rw[Wm tO,Wm ⟨rfl,rfl⟩])
theorem qBo (hg:grB g=true) (hf:Fol g.2.2) {e:EdD} (he:e∈g.2.2):qF g.2.2 e.2.2 (-e.2.1)=e.1:=by
 have h:=(qM hg he).2.1;have h3:=(qD hg).1;have hb:=qAS hg hf (v:=e.1) (x:=e.2.1) tO (by rw[qAb hg hf he];exact(qM hg he).2.2.1);rwa [qAb hg hf he] at hb
theorem qIi (hg:grB g=true) (hf:Fol g.2.2) {e:EdD} (he:e∈g.2.2) (hx:exB g e=true) (h1:e.1∈canO g) (h2:e.2.2∈canO g):NoB (basW g e):=by
 obtain⟨n1,n2⟩:=qMi.1 hx;have hl:=(qM hg he).2.1;have hr:=(qD hg).1;unfold basW;refine NoB.app (NoB.app (qIY hg hf _ h1 (zac _)) trivial fun a ha b hb=> ?_) (qIY hg hf _ h2 (zac _)).inv fun a ha b hb=> ?_
 ·simp at hb
  subst hb;intro gw;by_cases eW:e.1=0
  ·rw[eW,qDH hg] at ha;simp at ha
  ·obtain⟨t,ht,y,hy,e2,uh⟩:=qEu hg h1 eW;rw[e2] at ha;simp at ha
   subst ha;have kL:=(qAD hg).2.1 _ h1;have hb:=qAS hg hf (let3 hg hy) (by rw[uh];omega);rw[uh,<-gw,qAb hg hf he] at hb;subst hb;exact n2 (by rw[e2,gw];simp)
 ·simp at ha
  subst ha;intro aL;by_cases eW:e.2.2=0
  ·rw[eW,qDH hg] at hb;simp[invN] at hb
  ·obtain⟨t,ht,y,hy,e2,uh⟩:=qEu hg h2 eW;rw[e2,qOu] at hb;simp[invN] at hb
   have Sc:y=e.2.1:=tO;subst Sc;have pT:=(qAD hg).2.1 _ h2;have b1:=qAS hg hf (let3 hg hy) (by rw[uh];omega);rw[uh,qBo hg hf he] at b1;subst b1;exact n1 e2
theorem qLJ (hg:grB g=true) (hf:Fol g.2.2) {e:EdD} (he:e∈g.2.2) (h1:e.1∈canO g) (h2:e.2.2∈canO g):qQ g.2.2 0 (basW g e)=0:=by
 have a1:=(qAD hg).2.1 _ h1;have a2:=(qAD hg).2.1 _ h2;have w1:qQ g.2.2 0 (wdO g e.1++ [e.2.1])=e.2.2:=by
  rw[qAs _ _ _ _ (by rw[qGl hg h1];omega),qGl hg h1,qFF _ _ _ (by rw[qAb hg hf he];omega),qAb hg hf he]
 unfold basW;rw[qAs _ _ _ _ (by rw[w1];omega),w1];have:=qJr hg hf (wdO g e.2.2) 0 (qFi hg h2) (za0 _) (by rw[qGl hg h2];omega)
 rwa [qGl hg h2] at this
theorem qBS (h:qS g=true) {v:Int} (hv:0<=v/\v<g.2.1):v∈canO g:=by
 have hg:=qBz h;have af:=qAD hg;have hl:((canO g).length:Int)=g.2.1:=by
  unfold qS at h;simp only[zaM,decide_eq_true_eq] at h;have:=congrArg (fun g:GrD=>g.2.1) h.2
  exact this
 apply zaB
 intro hn;have:=qBM g.2.1.toNat (v::canO g) (za8.2 ⟨hn,af.1⟩) fun y hy=>by
  rcases zbb.1 hy with rfl | hy
  ·omega
  ·have:=af.2.1 y hy;omega
 rw[za4] at this;omega
theorem qIn (es:List EdD) (n:Nat): ∀(f v:Nat),v+f=n->qAM es n f v<0-> ∀u,v<=u->u<n->qHA es u=false
 | 0,v,h,_,u,h1,h2=>tO
 | f+1,v,h,hl,u,h1,h2=>by
   unfold qAM at hl;rw[Wm tO] at hl;split at hl
   ·omega
   ·rename_i hb
    by_cases e:u=v
    ·subst e;simpa using hb
    ·exact qIn es n f (v+1) tO hl u tO h2
theorem qJh {v:Int}: ∀ {es:List EdD},(∀e∈es,degE v e=0)->degL es v=0
 | [],_=>rfl
 | e::es,h=>by
   have h1:=qJh (es:=es) fun e he=>h e (by simp[he]);have h2:=h e tZ;unfold degL at h1⊢;rw[zaS,List.sum_cons,h1,h2]
theorem qNK {v l0:Int}: ∀ {es:List EdD},Fol es->(∀e∈es,1<=e.2.1)->(∀e∈es,(e.1=v->e.2.1=l0)/\(e.2.2=v-> -e.2.1=l0))->degL es v<=1
 | [],_,_,_=>by simp[degL]
 | e::es,hf,hl,h=>by
   have p:=List.pairwise_cons.1 hf;have ih:=qNK p.2 (fun e he=>hl e (by simp[he])) fun e he=>h e (by simp[he]);have he:=h e tZ;have fN:=hl e tZ;have IW:degL (e::es) v=degE v e+degL es v:=by simp[degL]
   rw[IW];by_cases ht:e.1=v\/e.2.2=v
   ·have hz:degL es v=0:=by
     refine qJh fun e' mh=> ?_;have h':=h e' (by simp[mh]);have ri:=hl e' (by simp[mh]);have hc:=p.1 e' mh;unfold qBX at hc;have ai: ¬(e'.1=v\/e'.2.2=v):=by
      rintro(ha | ha)
      ·rcases ht with ht | ht
       ·have a1:=he.1 ht;have a2:=h'.1 ha;rw[show(e.2.1==e'.2.1)=true by simp;omega,show(e.1==e'.1)=true by simp;omega] at hc;simp at hc
       ·have a1:=he.2 ht;have a2:=h'.1 ha;omega
      ·rcases ht with ht | ht
       ·have a1:=he.1 ht;have a2:=h'.2 ha;omega
       ·have a1:=he.2 ht;have a2:=h'.2 ha;rw[show(e.2.1==e'.2.1)=true by simp;omega,show(e.2.2==e'.2.2)=true by simp;omega] at hc;simp at hc
     unfold degE;rw[Wn fun q=>ai (.inl q),Wn fun q=>ai (.inr q)]
    rw[hz];unfold degE;by_cases a:e.1=v
    ·rw[Wm a];by_cases b:e.2.2=v
     ·have a1:=he.1 a;have a2:=he.2 b;omega
     ·rw[Wn b];omega
    ·rw[Wn a];by_cases b:e.2.2=v
     ·rw[Wm b];omega
     ·rw[Wn b];omega
   ·have:degE v e=0:=by
     unfold degE;rw[Wn fun q=>ht (.inl q),Wn fun q=>ht (.inr q)]
    omega
end
def imgW (a b:GrD) (v:Int):Int:=qQ b.2.2 0 (wdO a v)
section
variable {a b:GrD}
end
def TwS (g:GrD) (ls:List Int) (k:Nat) (o:List Int):Prop:= ∃tw,tw.map (·.1)=o/\wcO g=wcF g.2.2 ls (41-k) k tw
theorem TwS.zero (g:GrD):TwS g (qB g.1.toNat) 0 [0]:=⟨[(0,[])],rfl,rfl⟩
theorem TwS.step {g:GrD} {ls:List Int} {k:Nat} {o:List Int} (h:TwS g ls k o) {u:Int} (hk:o[k]? =some u) (h41:k<41):TwS g ls (k+1) (ls.foldl (qd g.2.2 u) o):=by
 obtain⟨tw,rfl,h2⟩:=h;have ac:k<tw.length:=by have:=(zaA.1 hk).1;simpa using this
 have hu:tw[k].1=u:=by rw[zaJ,zat ac] at hk;simpa using hk
 refine⟨ls.foldl (wst g.2.2 tw[k].1 tw[k].2) tw,by rw[qFN,hu],?_⟩;rw[h2,show 41-k=(41-(k+1))+1 by omega,qLX _ _ _ _ _ ac]
theorem TwS.new {g:GrD} (hg:grB g=true) {ls:List Int} {k:Nat} {o:List Int} (h:TwS g ls k o) {u:Int} (hk:o[k]? =some u) (h41:k<41) {m:Nat} (hm:m<ls.length)
  (h0:0<=qF g.2.2 u ls[m]) (hn:hasB ((ls.take m).foldl (qd g.2.2 u) o) (qF g.2.2 u ls[m])=false):wdO g (qF g.2.2 u ls[m])=wdO g u++ [ls[m]]:=by
 obtain⟨tw,rfl,h2⟩:=h;have ac:k<tw.length:=by have:=(zaA.1 hk).1;simpa using this
 have hu:tw[k].1=u:=by rw[zaJ,zat ac] at hk;simpa using hk
 rw[show 41-k=(41-(k+1))+1 by omega] at h2;have m1:tw[k]∈wcO g:=by rw[h2];exact zax (qFh _ _ _ _ _ k _ (zat ac))
 have w1:=qOK hg m1;rw[hu] at w1;rw[qLX _ _ _ _ _ ac,hu] at h2;have Gi:=qFN g.2.2 u tw[k].2 (ls.take m) tw;have hst:wst g.2.2 u tw[k].2 ((ls.take m).foldl (wst g.2.2 u tw[k].2) tw) ls[m]=(ls.take m).foldl (wst g.2.2 u tw[k].2) tw++ [(qF g.2.2 u ls[m],tw[k].2++ [ls[m]])]:=by
  rw[wst,Wm h0,Gi,Wn (by rw[hn];simp)]
 have aG:ls.foldl (wst g.2.2 u tw[k].2) tw=(ls.drop (m+1)).foldl (wst g.2.2 u tw[k].2) ((ls.take (m+1)).foldl (wst g.2.2 u tw[k].2) tw):=by
  rw[<-zaK,List.take_append_drop]
 have m2:(qF g.2.2 u ls[m],tw[k].2++ [ls[m]])∈wcO g:=by
  rw[h2,aG,qMG _ _ _ _ _ _ hm,hst];refine zax (qFh _ _ _ _ _ ((ls.take m).foldl (wst g.2.2 u tw[k].2) tw).length _ (qDg _ _ _ _ _ _ _ ?_));rw[List.getElem?_append_right (zac _),Nat.sub_self];rfl
 have w2:=qOK hg m2;rw[w2,w1]
def tE (g:GrD) (y:Int):EdD:=
 if 0<(wdO g y).getLastD 0 then(qF g.2.2 y (-(wdO g y).getLastD 0),(wdO g y).getLastD 0,y) else(y,-(wdO g y).getLastD 0,qF g.2.2 y (-(wdO g y).getLastD 0))
theorem qPf {g:GrD} {v:Int} (hv:v∉canO g):wdO g v= []:=by
 unfold wdO lkW;cases e:(wcO g).find? (fun p=>decide (p.1=v)) with
 | none=>rfl
 | some p=>
   have h1:=List.find?_some e;have h2:=List.mem_of_find?_eq_some e;rw[decide_eq_true_eq] at h1;exact absurd (h1▸qPe h2) hv
theorem qEw (l:List Int) (x:Int):(l++ [x]).getLastD 0=x:=by simp[List.getLastD_eq_getLast?]
theorem qJV {g:GrD} (hg:grB g=true) (hf:Fol g.2.2) {u x y:Int} (hx:x∈qB g.1.toNat) (h0:0<=qF g.2.2 u x) (hy:qF g.2.2 u x=y) (hw:wdO g y=wdO g u++ [x]):tE g y=if 0<x then(u,x,y) else(y,-x,u):=by
 have hb:=qAS hg hf (let3 hg hx) h0;rw[hy] at hb;unfold tE;rw[hw,qEw,hb]
theorem qPh {g:GrD} (hg:grB g=true) (hf:Fol g.2.2) {e:EdD} (he:e∈g.2.2):(∃y∈canO g,y≠0/\e=tE g y)↔exB g e=false:=by
 have hl:=(qM hg he).2.1;rw[zaX,Ne,qMi,Classical.not_and_iff_not_or_not,zaY,zaY];constructor
 ·rintro⟨y,hy,h0,rfl⟩
  obtain⟨u,hu,x,hx,e1,ej⟩:=qEu hg hy h0;have sH:=(qAD hg).2.1 y hy;have ht:=qJV hg hf hx (by rw[ej];omega) ej e1;rw[ht];split
  ·exact .inl e1
  ·exact .inr (by simp only;rw[za1];exact e1)
 ·rintro(h | h)
  ·have hy:e.2.2∈canO g:=zaB fun hn=>by
    rw[qPf hn] at h;have:=congrArg zaI h
    simp at this
   have h0:e.2.2≠0:=fun h0=>by
    rw[h0,qDH hg] at h;have:=congrArg zaI h
    simp at this
   obtain⟨u,hu,x,hx,e1,ej⟩:=qEu hg hy h0;have sH:=(qAD hg).2.1 _ hy;rw[h] at e1;have ue:=(qLa e1).2;subst ue;have hb:=qAS hg hf (let3 hg hx) (by rw[ej];omega);rw[ej,qBo hg hf he] at hb;refine⟨e.2.2,hy,h0,?_⟩;have ht:=qJV hg hf hx (by rw[ej];omega) ej (by rw[h,hb]);rw[ht,Wm tO,<-hb]
  ·have hy:e.1∈canO g:=zaB fun hn=>by
    rw[qPf hn] at h;have:=congrArg zaI h
    simp at this
   have h0:e.1≠0:=fun h0=>by
    rw[h0,qDH hg] at h;have:=congrArg zaI h
    simp at this
   obtain⟨u,hu,x,hx,e1,ej⟩:=qEu hg hy h0;have sH:=(qAD hg).2.1 _ hy;rw[h] at e1;have ue:=(qLa e1).2;subst ue;have hb:=qAS hg hf (let3 hg hx) (by rw[ej];omega);rw[ej,za1,qAb hg hf he] at hb;refine⟨e.1,hy,h0,?_⟩;have ht:=qJV hg hf hx (by rw[ej];omega) ej (by rw[h,hb]);rw[ht,Wn tO,<-hb,za1]
def TrE (g:GrD) (o:List Int) (T:List EdD):Prop:= ∀e,e∈T↔ ∃y∈o,y≠0/\e=tE g y
theorem TrE.add {g:GrD} {o:List Int} {T T':List EdD} (h:TrE g o T) {y:Int} (hy:y≠0) (hT: ∀e,e∈T'↔e=tE g y\/e∈T):TrE g (o++ [y]) T':=by
 intro e;rw[hT,h e];constructor
 ·rintro(rfl | ⟨z,hz,r⟩)
  ·exact⟨y,tZ,hy,rfl⟩
  ·exact⟨z,by simp[hz],r⟩
 ·rintro⟨z,hz,r⟩
  rcases zah.1 hz with hz | hz
  ·exact .inr ⟨z,hz,r⟩
  ·rw[zai.1 hz] at r;exact .inl r.2
theorem TrE.ext {g:GrD} (hf:qO g=true) {T:List EdD} (h:TrE g (canO g) T) {e:EdD} (he:e∈g.2.2):(e∈T↔exB g e=false):=by
 obtain⟨hg,aO⟩:=qE hf;rw[h e];exact qPh hg aO he
abbrev FoD:=Int×Int
def fo2 (a b:EdD):List FoD:=
 (if a.2.1=b.2.1/\a.1=b.1 then [(min a.2.2 b.2.2,max a.2.2 b.2.2)] else [])++
 (if a.2.1=b.2.1/\a.2.2=b.2.2 then [(min a.1 b.1,max a.1 b.1)] else [])
def foAt (es:List EdD) (i k:Nat):List FoD:=((es.take k).drop (i+1)).flatMap (fo2 (es.getD i (0,0,0)))
def foUp (es:List EdD):Nat->List FoD
 | 0=> []
 | i+1=>foUp es i++foAt es i es.length
def foL (es:List EdD):List FoD:=foUp es es.length
theorem qFg (es:List EdD) (i:Nat):foAt es i (i+1)= []:=by
 unfold foAt;rw[List.drop_eq_nil_of_le (by rw[zam];omega)];rfl
theorem qIo (es:List EdD) (i k:Nat) (hk:k<es.length) (hi:i<k):foAt es i (k+1)=foAt es i k++fo2 (es.getD i (0,0,0)) es[k]:=by
 unfold foAt;rw[zau hk,List.drop_append_of_le_length (by rw[zam];omega),List.flatMap_append];simp
theorem qQF (a b:EdD):(fo2 a b).length<=2:=by
 unfold fo2;rw[zag];split<;>split<;>simp
theorem qIZ (es:List EdD) (i k:Nat):(foAt es i k).length<=2*es.length:=by
 unfold foAt;have h: ∀L:List EdD,(L.flatMap (fo2 (es.getD i (0,0,0)))).length<=2*L.length:=by
  intro L;induction L with
  | nil=>simp
  | cons a L ih=>
    rw[List.flatMap_cons,zag,za4];have:=qQF (es.getD i (0,0,0)) a
    omega
 have h1:=h ((es.take k).drop (i+1));rw[zas,zam] at h1;omega
theorem qIF (es:List EdD): ∀i,(foUp es i).length<=2*es.length*i
 | 0=>by simp[foUp]
 | i+1=>by
   have h1:=qIF es i;have h2:=qIZ es i es.length;unfold foUp;rw[zag,Nat.mul_succ];omega
theorem qPW {es:List EdD} {i k:Nat} (hi:i<k) (hk:k<es.length) {f:FoD} (h:f∈fo2 es[i] es[k]):f∈foAt es i es.length:=by
 unfold foAt;rw[zar];refine za5.2 ⟨es[k],?_,by simpa[zba,show i<es.length by omega] using h⟩;rw[zaR];exact⟨k-(i+1),by rw[zas];omega,by rw[zaZ];congr 1;omega⟩
theorem qLI {es:List EdD} {i:Nat} {f:FoD} (h:f∈foAt es i es.length): ∀n,i<n->f∈foUp es n
 | 0,hn=>tO
 | n+1,hn=>by
   unfold foUp;by_cases e:i=n
   ·subst e;exact zah.2 (.inr h)
   ·exact zah.2 (.inl (qLI h n tO))
theorem qJD {es:List EdD} {f:FoD}: ∀n,f∈foUp es n-> ∃i,i<n/\f∈foAt es i es.length
 | 0,h=>by cases h
 | n+1,h=>by
   unfold foUp at h;rcases zah.1 h with h | h
   ·obtain⟨i,hi,hf⟩:=qJD n h;exact⟨i,tO,hf⟩
   ·exact⟨n,tO,h⟩
theorem qKk {es:List EdD} {f:FoD} (h:f∈foL es): ∃i k,∃(hi:i<k) (hk:k<es.length),f∈fo2 (es[i]'tO) es[k]:=by
 obtain⟨i,hi,hf⟩:=qJD _ h;unfold foAt at hf;rw[zar] at hf;obtain⟨b,hb,hf⟩:=za5.1 hf;obtain⟨j,hj,rfl⟩:=zaR.1 hb;rw[zas] at hj;rw[zaZ] at hf;refine⟨i,i+1+j,tO,tO,?_⟩;simpa[zba,hi] using hf
theorem qMJ {es:List EdD} (h:foL es= []):Fol es:=by
 refine qPd fun k hk i hi=> ?_;rcases e:qBX es[k] es[i] with _ | _
 ·rfl
 ·rw[qCq] at e;have hm: ∃f,f∈fo2 es[i] es[k]:=by
   unfold qBX at e;simp only[zaM,za9,beq_iff_eq] at e;unfold fo2;rcases e.2 with q | q
   ·exact⟨_,zah.2 (.inl (by rw[Wm ⟨e.1,q⟩];exact zai.2 rfl))⟩
   ·exact⟨_,zah.2 (.inr (by rw[Wm ⟨e.1,q⟩];exact zai.2 rfl))⟩
  obtain⟨f,hf⟩:=hm;have:=qLI (qPW hi hk hf) es.length tO
  rw[show foUp es es.length= [] from h] at this;cases this
theorem qHe {g:GrD} (h:grB g=true):Srt cmpE g.2.2:=(qHs h).1
theorem qLP {g:GrD} (h:grB g=true) {f:FoD} (hf:f∈foL g.2.2):0<=f.1/\f.1<f.2/\f.2<g.2.1:=by
 obtain⟨i,k,hi,hk,hm⟩:=qKk hf;have ai:g.2.2[i]≠g.2.2[k]:=fun e=>by
  have:=(zaL.1 (qHe h)) i k tO hk hi
  rw[e,qBc.2 rfl] at this;omega
 have e1:=qM h (zaN (show i<g.2.2.length by omega));have e2:=qM h (zaN hk);generalize g.2.2[i]'tO=a at*;generalize g.2.2[k]=b at*;obtain⟨a1,a2,a3⟩:=a;obtain⟨b1,b2,b3⟩:=b;simp only at*
 unfold fo2 at hm;rcases zah.1 hm with hm | hm
 ·split at hm
  ·rename_i q
   simp only at q
   have:a3≠b3:=fun e=>ai (by rw[q.1,q.2,e])
   rw[zai.1 hm];simp only
   omega
  ·cases hm
 ·split at hm
  ·rename_i q
   simp only at q
   have:a1≠b1:=fun e=>ai (by rw[q.1,q.2,e])
   rw[zai.1 hm];simp only
   omega
  ·cases hm
def plF (f:FoD) (v:Int):Int:=if v=f.2 then f.1 else if f.2<v then v-1 else v
def plE (f:FoD) (e:EdD):EdD:=(plF f e.1,e.2.1,plF f e.2.2)
def merG (g:GrD) (f:FoD):GrD:=(g.1,g.2.1-1,srt cmpE (g.2.2.map (plE f)))
theorem qCz {f:FoD} {n v:Int} (hf:0<=f.1/\f.1<f.2/\f.2<n) (hv:0<=v/\v<n):0<=plF f v/\plF f v<n-1:=by
 unfold plF;split
 ·omega
 ·split<;>omega
theorem qLf {g:GrD} {f:FoD} (hg:grB g=true) (hf:0<=f.1/\f.1<f.2/\f.2<g.2.1):grB (merG g f)=true:=by
 obtain⟨h1,h2,h3,_⟩:=qD hg;have et:=qAq qz (g.2.2.map (plE f));refine qEr h1 ⟨by show(1:Int)<=g.2.1-1;omega,by show g.2.1-1<=40;omega⟩ ?_ et.1 fun e he=> ?_
 ·have a:=qCp (c:=cmpE) (g.2.2.map (plE f));rw[zaO] at a;show(srt cmpE (g.2.2.map (plE f))).length<=120
  omega
 ·obtain⟨d,hd,rfl⟩:=zaG.1 ((et.2 e).1 he);obtain⟨q1,q2,q3⟩:=qM hg hd;exact⟨qCz hf q1,q2,qCz hf q3⟩
def folF:Nat->GrD->GrD
 | 0,g=>g
 | n+1,g=>match foL g.2.2 with
   | []=>g
   | f::_=>folF n (merG g f)
def folA (g:GrD):GrD:=folF g.2.1.toNat g
theorem qIR {g:GrD} (h:foL g.2.2= []): ∀n,folF n g=g
 | 0=>rfl
 | n+1=>by unfold folF;rw[h]
theorem qJQ {g:GrD} {f:FoD} {l:List FoD} (h:foL g.2.2=f::l) (n:Nat):folF (n+1) g=folF n (merG g f):=by
 show(match foL g.2.2 with | []=>g | f::_=>folF n (merG g f))=_
 rw[h]
theorem qMr: ∀(n:Nat) (g:GrD),grB g=true->g.2.1<=n->qO (folF n g)=true
 | 0,g,hg,hn=>by have:=(qD hg).2.1;omega
 | n+1,g,hg,hn=>by
   rcases e:foL g.2.2 with _ | ⟨f,l⟩
   ·rw[qIR e];unfold qO;rw[hg,decide_eq_true (qMJ e)];rfl
   ·rw[qJQ e];have hf:=qLP hg (f:=f) (by rw[e];simp);exact qMr n (merG g f) (qLf hg hf) (by show g.2.1-1<=n;omega)
theorem qKD {g:GrD} (hg:grB g=true):qO (folA g)=true:=qMr _ g hg (by have:=(qD hg).2.1;omega)
theorem qPu {es:List EdD} (h:Fol es) {a b:EdD} (ha:a∈es) (hb:b∈es) (ai:a≠b):qBX a b=false:=by
 unfold Fol at h;rw[zaL] at h;obtain⟨i,hi,rfl⟩:=zaH ha;obtain⟨k,hk,rfl⟩:=zaH hb;rcases Nat.lt_trichotomy i k with q | q | q
 ·exact h i k hi hk q
 ·subst q;exact absurd rfl ai
 ·rw[qCq];exact h k i hk hi q
theorem qQC {g:GrD} (o:List Int) (h:Fol g.2.2):Fol (rnG g o).2.2:=by
 have et:=qAq qz (rnL g.2.2 o);show Fol (srt cmpE (rnL g.2.2 o))
 unfold Fol;refine et.1.imp_of_mem fun {x y} hx hy hxy=> ?_;obtain⟨a,ha,vl⟩:=zaV.1 ((et.2 x).1 hx);obtain⟨b,hb,t8⟩:=zaV.1 ((et.2 y).1 hy);have ai:a≠b:=fun e=>by
  subst e;rw[vl] at t8;injection t8 with e
  rw[e,qBc.2 rfl] at hxy;omega
 have hc:=qPu h ha hb ai;unfold rnE at vl t8;split at vl
 ·rename_i p1
  split at t8
  ·rename_i p2
   injection vl with vl
   injection t8 with t8
   subst vl t8;unfold qBX at hc⊢;rw[zaX] at hc⊢;intro q;apply hc
   simp only[zaM,za9,beq_iff_eq] at q⊢;refine⟨q.1,?_⟩;rcases q.2 with q | q
   ·exact .inl (qGr (o:=o) tO tO)
   ·exact .inr (qGr (o:=o) tO tO)
  ·cases t8
 ·cases vl
theorem qCr {g:GrD} {o:List Int} (h:qO g=true) (ho:OrdN g.2.1 o):qO (rnG g o)=true:=by
 obtain⟨h1,h2⟩:=qE h;unfold qO;rw[qHt h1 ho,decide_eq_true (qQC o h2)];rfl
theorem qEs {g:GrD} {o:List Int} (h:qO g=true) (ho:qAL g.2.1 o):qO (rnG g o)=true:=qCr h ho.toN
theorem qFe: ∀(n:Nat) (g:GrD) (l:List Int),qO g=true->qO (trimF n g l).1=true
 | 0,g,l,h=>h
 | n+1,g,l,h=>by
   unfold trimF;split
   ·exact h
   ·rename_i hv
    have ar:=(qD (qE h).1).2.1;have hr:=qAv g.2.2 g.2.1.toNat;refine qFe n _ _ (qEs h ?_);have:=qDZ (n:=g.2.1.toNat) (x:=qu g.2.2 g.2.1.toNat) tO tO
    rwa [show((g.2.1.toNat:Nat):Int)=g.2.1 by omega] at this
theorem qFZ {g:GrD} (h:qO g=true):qO (qCt g).1=true:=qFe _ _ _ h
def qCU (g:GrD):GrD:=canG (qCt (folA g)).1
def foC (f:FoD):List Wh:= [.int .i64 f.1, .int .i64 f.2]
def foCs (l:List FoD):List Wh:=(l.map foC).flatten
theorem qOC (l:List FoD) (f:FoD):foCs (l++ [f])=foCs l++foC f:=by simp[foCs]
def OwFo (w:Wg) (base:Nat) (v:Wh) (l:List FoD):Prop:=w.ownsRow base 106 2 v l.length (foCs l)
section
variable {w w':Wg} {base:Nat} {v:Wh} {l:List FoD}
theorem OwFo.below (h:OwFo w base v l) (hb:Wf w w w'):OwFo w' base v l:=qP h hb
theorem OwFo.alloc (h:OwFo w base v l) (o:Obj):OwFo (w.alloc o) base v l:=zay.alloc h o
theorem OwFo.mono {base':Nat} (h:OwFo w base v l) (hb:base'<=base):OwFo w base' v l:=by
 refine⟨h.1,?_⟩;rcases h.2 with h0 | ⟨g,cap,cur,hv,hg,r⟩
 ·exact .inl h0
 ·exact .inr ⟨g,cap,cur,hv,Nat.le_trans hb hg,r⟩
theorem OwFo.form (h:OwFo w base v l): ∃A cap,v= .slice A l.length cap/\l.length<=cap/\cap<=maxLen/\(A=none->cap=0)/\(0<l.length-> ∃g,A=some ⟨g,0,none⟩/\base<=g/\g<w.heap.size):=qAE h
end
theorem qNd:(Tryz.prog.info? 106).map (fun i=>(i.zero,i.size,i.bytes))=some (some (.agg #[.int .i64 0, .int .i64 0]),2,16):=by kernel_rfl
theorem qBG {w:Wg} {ops:Array Oper} {rest:List Oper} {o:Oper} {a:Act} {R:Exit->Act->Wg->Prop} (dq:o.guard=none) (s x:Operand)
  (ho:o.op= .call {callee:= .builtin .append,args:= #[s,x],argTypes:= #[126,126]})
  (base:Nat) (v:Wh) (l:List FoD) (aa:OwFo w base v l) (hs:a.eval s=v) (b:Nat) (f:FoD) (hx:a.eval x= .slice (some ⟨b,0,none⟩) 1 1)
  (hc: ∀j u,(foC f)[j]? =some u->w.cell? ⟨b,j,none⟩=some u) (hl:l.length<=1073741824) (au:base<=w.heap.size)
  (h: ∀v' w',OwFo w' base v' (l++ [f])->w.grownBy w' v.ownBlock->(v'.ownBlock=v.ownBlock\/v'.ownBlock=some w)->wpList Tryz.prog ops R rest (a.put o.dst v') w'):
  wpList Tryz.prog ops R (o::rest) a w:=by
 obtain⟨i0,ci,cB,bi,bQ⟩:=info_parts qNd;refine wpList_append_own_at _ dq s x 126 ho base 106 i0 _ 2 16 Tryz.underlying126 ci cB bi bQ rfl tD v l.length (foCs l) hs aa ⟨b,0,none⟩ 1 1 (foC f) hx rfl ?_ ?_ (by unfold maxLen;omega) tO au ?_
 ·intro j u hj;rw[Addr.add_lit,Nat.zero_add];exact hc j u hj
 ·intro u hu;simp[foC] at hu
  rcases hu with rfl | rfl<;>rfl
 ·intro v' w' h1 h2 h3 h5;refine h v' w' ?_ h2 h5;unfold OwFo;rw[qOC,zag];exact h1
theorem qQs (w:Wg) (a b:Wh) (t:TypeId): ∀j u,[a,b][j]? =some u->(w.alloc (.cells #[a,b] t)).cell? ⟨w,j,none⟩=some u:=by
 intro j u hj;match j,hj with
 | 0,hj=>simp at hj;subst hj;simp[go_sem]
 | 1,hj=>simp at hj;subst hj;simp[go_sem]
theorem qCl (w:Wg) (N:Nat) (hN:w.heap.size=N) (a b:Wh) (t:TypeId): ∀j u,[a,b][j]? =some u->(w.alloc (.cells #[a,b] t)).cell? ⟨N,j,none⟩=some u:=by
 subst hN;exact qQs w a b t
theorem qK {w w':Wg} {row:Option Nat} (hg:w.grownBy w' row) {b o:Nat} (ac:b<w.heap.size) (ai: ∀c,row=some c->c≠b):w'.cell? ⟨b,o,none⟩=w.cell? ⟨b,o,none⟩:=
 zaw (hg.block b ac fun e=>ai b e.symm rfl)
theorem qID (w:Wg) {base:Nat} (h:base<=w.heap.size):OwFo (w.alloc (.cells #[] 106)) base (.slice (some ⟨w,0,none⟩) 0 0) []:=by
 have:=World.ownsRow_lit (e:=106) (size:=2) (base:=base) w #[] 0 h (by unfold maxLen;omega) tZ
 simpa[OwFo,foCs] using this
theorem qKT (v:Wh) (g:GrD) (w:Wg) (h:ArgG w v g) (hl:g.2.2.length<=120):
  Wk Tryz.prog 254 #[v] w fun e w'=> ∃r,e= .returned r/\OwFo w' w r (foL g.2.2)/\Wf w w w':=by
 obtain⟨s,rfl,aN,aQ,ha⟩:=h;obtain⟨A,cap,rfl⟩:=ha.form;obtain⟨g1,N,es⟩:=g;simp only at*
 have zR:=qA ha;clear ha;have IZ:=qA (qIF es);have jb:=qA (qIZ es);go_enter Tryz.func254,Tryz.ntmps254
 have bx:Wf w w ((w.alloc (.cells #[.int .i64 g1,.int .i64 N, .slice A es.length cap] 26)).alloc (.cells #[] 106)):=ZZ;have nx:Wi (OwFo ((w.alloc (.cells #[.int .i64 g1,.int .i64 N, .slice A es.length cap] 26)).alloc (.cells #[] 106)) (w.heap.size+1) (.slice (some ⟨w.heap.size+1,0,none⟩) 0 0) []):=qA (by
  have:=qID (base:=w.heap.size+1) (w.alloc (.cells #[.int .i64 g1,.int .i64 N, .slice A es.length cap] 26)) tZ
  simpa using this)
 go_wp2;obtain⟨W,hW⟩: ∃W,W=(w.alloc (.cells #[.int .i64 g1,.int .i64 N, .slice A es.length cap] 26)).alloc (.cells #[] 106):=⟨_,rfl⟩;rw[<-hW] at bx nx⊢;have aH:W.heap.size=w.heap.size+2:=by rw[hW];simp
 have L2:Wi (W.cell? ⟨w,2,none⟩=some (.slice A es.length cap)):=qA (by rw[hW];simp[go_sem]);have BX:=qA bx;have HA:Wi (∀w',Wf (w.heap.size+1) W w'->ArgE w' (.slice A es.length cap) es):=qA fun w' hb=>zR.o.below (BX.trans (hb.mono tO));clear hW bx;go_loopw [3,4] (fun out i wr=> ∃k:Nat,k<=es.length/\i= .int .i64 k/\OwFo wr (w.heap.size+1) out (foUp es k)/\Wf (w.heap.size+1) W wr) (fun _ i _=>es.length-(intOf i).toNat)
 case atStart=>exact⟨0,zav _,rfl,nx,(zak W W).mono tO⟩
 case round=>
  obtain⟨i,hi,rfl,ho,hb⟩:=hrel;have HO:=qA ho;have HB:=qA hb;obtain⟨wi,rfl⟩: ∃wi:Wg,wi=wr:=⟨_,rfl⟩;clear ho hb;have q2:=(HB.cell (p:=⟨w,2,none⟩) (by show w.heap.size<w.heap.size+1;omega)).trans L2.o;by_cases ac:i<es.length
  ·have ua:Wi (OwFo wi (w.heap.size+1) u3 (foUp es i++foAt es i (i+1))):=qA (by rw[qFg,List.append_nil];exact HO.o);have FK:=qA (show foUp es (i+1)=foUp es i++foAt es i es.length from rfl);have Th:(i:Int)<(es.length:Int):=tO;go_wp2;go_loopw [3,5] (fun out k wr=> ∃j:Nat,i<j/\j<=es.length/\k= .int .i64 j/\OwFo wr (w.heap.size+1) out (foUp es i++foAt es i j)/\Wf (w.heap.size+1) W wr) (fun _ k _=>es.length-(intOf k).toNat)
   case atStart=>exact⟨i+1,tO,tO,by go_num,ua.o,HB.o⟩
   case round=>
    obtain⟨j,dU,hj,rfl,ho,hb⟩:=hrel;have aI:=qA ho;have al:=qA hb;obtain⟨wj,rfl⟩: ∃wj:Wg,wj=wr:=⟨_,rfl⟩;clear ho hb q2;have q2:=(al.cell (p:=⟨w,2,none⟩) (by show w.heap.size<w.heap.size+1;omega)).trans L2.o;by_cases aj:j<es.length
    ·obtain⟨b,off,rfl,fv,a0,a1,a2,_⟩:=(HA wj al).at ac;obtain⟨b',off',hA,_,c0,c1,c2,_⟩:=(HA wj al).at aj;injection hA with hA
     injection hA with e1 e2
     subst e1 e2;have eO:=qA (qIo es i j aj dU);rw[show es.getD i (0,0,0)=es[i] by simp[zba,ac]] at eO;have ze:(foUp es i++foAt es i j).length<=1000000:=by
      have h1:=IZ.o i;have h2:=jb.o i j;have h3:2*es.length*i<=240*120:=Nat.mul_le_mul tO tO;rw[zag];omega
     have au:=al.o.size;generalize es[i]=d at*;generalize es[j]=d' at*;obtain⟨d1,d2,d3⟩:=d;obtain⟨f1,f2,f3⟩:=d';simp only at a0 a1 a2 c0 c1 c2
     have Ol:(j:Int)<(es.length:Int):=tO;generalize foAt es i j=FA at*;have QT:w.heap.size<wj.heap.size:=tO;have bA:Wf wj wj (wj.alloc (.cells #[.int .i64 d1,.int .i64 d2,.int .i64 d3] 97)):=(zak _ _).alloc (zac _) _;have U6:=(bA.cell (p:=⟨w,2,none⟩) QT).trans q2;have M3:=(bA.cell (p:=⟨b,off+j*3,none⟩) fv).trans c0;have jD:=(bA.cell (p:=⟨b,off+j*3+1,none⟩) fv).trans c1;have nG:=(bA.cell (p:=⟨b,off+j*3+2,none⟩) fv).trans c2;clear bA;rcases e1:(d2==f2) with _ | _
     ·have HE:Wi (foAt es i (j+1)=FA):=qA (by have ai:d2≠f2:=(by simpa using e1);rw[eO.o];simp[fo2,ai]);go_wp2;go_roundw;exact⟨j+1,tO,tO,by go_num,by rw[HE.o];exact(aI.alloc _).alloc _,((al.alloc tO _).alloc (by simp;omega) _)⟩;exact tM
     have cA:Wi (Wf (w.heap.size+1) W ((wj.alloc (.cells #[.int .i64 d1,.int .i64 d2,.int .i64 d3] 97)).alloc (.cells #[.int .i64 f1,.int .i64 f2,.int .i64 f3] 97))):=qA ((al.alloc tO _).alloc (by simp;omega) _);rcases e2:(d1==f1) with _ | _
     ·rcases e3:(d3==f3) with _ | _
      ·have HE:Wi (foUp es i++foAt es i (j+1)=foUp es i++FA):=qA (by have h1:d2=f2:=(by simpa using e1);have h2: ¬d1=f1:=(by simpa using e2);have h3: ¬d3=f3:=(by simpa using e3);rw[eO.o];simp[fo2,h1,h2,h3]);go_wp2;go_roundw;exact⟨j+1,tO,tO,by go_num,by rw[HE.o];exact(aI.alloc _).alloc _,cA.o⟩;exact tM
      ·have HE:Wi (foUp es i++foAt es i (j+1)=(foUp es i++FA)++ [(min d1 f1,max d1 f1)]):=qA (by have h1:d2=f2:=(by simpa using e1);have h2: ¬d1=f1:=(by simpa using e2);have h3:d3=f3:=(by simpa using e3);rw[eO.o];simp[fo2,h1,h2,h3]);go_wp2_with (at_builtin;refine qBG rfl (.tmp 73) (.tmp 85) rfl (w.heap.size+1) _ _ (((aI.alloc _).alloc _).alloc _) rfl _ (min d1 f1,max d1 f1) rfl (qCl _ _ tZ _ _ _) tO tB ?_;intro v6 w6 o6 g6 p6;have O6:=qA o6;have B6:Wi (Wf (w.heap.size+1) W w6):=qA ((cA.alloc tB (.cells #[.int .i64 (min d1 f1),.int .i64 (max d1 f1)] 106)).grown g6 tB (fun k hk=>(aI.lt k hk).1));clear o6 g6 p6)
       go_roundw;exact⟨j+1,tO,tO,by go_num,by rw[HE.o];exact O6.o,B6.o⟩;exact tM
     ·rcases e3:(d3==f3) with _ | _
      ·have HE:Wi (foUp es i++foAt es i (j+1)=(foUp es i++FA)++ [(min d3 f3,max d3 f3)]):=qA (by have h1:d2=f2:=(by simpa using e1);have h2:d1=f1:=(by simpa using e2);have h3: ¬d3=f3:=(by simpa using e3);rw[eO.o];simp[fo2,h1,h2,h3]);go_wp2_with (at_builtin;refine qBG rfl (.tmp 47) (.tmp 59) rfl (w.heap.size+1) _ _ (((aI.alloc _).alloc _).alloc _) rfl _ (min d3 f3,max d3 f3) rfl (qCl _ _ tZ _ _ _) tO tB ?_;intro v5 w5 o5 g5 p5;have k0:=(qK g5 (b:=wj.heap.size) (o:=0) tB (fun c hc=>by have:=(aI.lt c hc).2;omega)).trans (show(((wj.alloc (.cells #[.int .i64 d1,.int .i64 d2,.int .i64 d3] 97)).alloc (.cells #[.int .i64 f1,.int .i64 f2,.int .i64 f3] 97)).alloc (.cells #[.int .i64 (min d3 f3),.int .i64 (max d3 f3)] 106)).cell? _=some (.int .i64 d1) by simp[go_sem]);have k1:=(qK g5 (b:=wj.heap.size) (o:=1) tB (fun c hc=>by have:=(aI.lt c hc).2;omega)).trans (show(((wj.alloc (.cells #[.int .i64 d1,.int .i64 d2,.int .i64 d3] 97)).alloc (.cells #[.int .i64 f1,.int .i64 f2,.int .i64 f3] 97)).alloc (.cells #[.int .i64 (min d3 f3),.int .i64 (max d3 f3)] 106)).cell? _=some (.int .i64 d2) by simp[go_sem]);have k2:=(qK g5 (b:=wj.heap.size) (o:=2) tB (fun c hc=>by have:=(aI.lt c hc).2;omega)).trans (show(((wj.alloc (.cells #[.int .i64 d1,.int .i64 d2,.int .i64 d3] 97)).alloc (.cells #[.int .i64 f1,.int .i64 f2,.int .i64 f3] 97)).alloc (.cells #[.int .i64 (min d3 f3),.int .i64 (max d3 f3)] 106)).cell? _=some (.int .i64 d3) by simp[go_sem]);have k3:=(qK g5 (b:=wj.heap.size+1) (o:=0) tB (fun c hc=>by have:=(aI.lt c hc).2;omega)).trans (show(((wj.alloc (.cells #[.int .i64 d1,.int .i64 d2,.int .i64 d3] 97)).alloc (.cells #[.int .i64 f1,.int .i64 f2,.int .i64 f3] 97)).alloc (.cells #[.int .i64 (min d3 f3),.int .i64 (max d3 f3)] 106)).cell? _=some (.int .i64 f1) by simp[go_sem]);have k4:=(qK g5 (b:=wj.heap.size+1) (o:=1) tB (fun c hc=>by have:=(aI.lt c hc).2;omega)).trans (show(((wj.alloc (.cells #[.int .i64 d1,.int .i64 d2,.int .i64 d3] 97)).alloc (.cells #[.int .i64 f1,.int .i64 f2,.int .i64 f3] 97)).alloc (.cells #[.int .i64 (min d3 f3),.int .i64 (max d3 f3)] 106)).cell? _=some (.int .i64 f2) by simp[go_sem]);have k5:=(qK g5 (b:=wj.heap.size+1) (o:=2) tB (fun c hc=>by have:=(aI.lt c hc).2;omega)).trans (show(((wj.alloc (.cells #[.int .i64 d1,.int .i64 d2,.int .i64 d3] 97)).alloc (.cells #[.int .i64 f1,.int .i64 f2,.int .i64 f3] 97)).alloc (.cells #[.int .i64 (min d3 f3),.int .i64 (max d3 f3)] 106)).cell? _=some (.int .i64 f3) by simp[go_sem]);have O5:=qA o5;have B5:Wi (Wf (w.heap.size+1) W w5):=qA ((cA.alloc tB (.cells #[.int .i64 (min d3 f3),.int .i64 (max d3 f3)] 106)).grown g5 tB (fun k hk=>(aI.lt k hk).1));have vD:=B5.o.size;clear o5 g5 p5)
       go_roundw;exact⟨j+1,tO,tO,by go_num,by rw[HE.o];exact O5.o,B5.o⟩;exact tM
      ·have HE:Wi (foUp es i++foAt es i (j+1)=((foUp es i++FA)++ [(min d3 f3,max d3 f3)])++ [(min d1 f1,max d1 f1)]):=qA (by have h1:d2=f2:=(by simpa using e1);have h2:d1=f1:=(by simpa using e2);have h3:d3=f3:=(by simpa using e3);rw[eO.o];simp[fo2,h1,h2,h3]);go_wp2_with (first | (at_builtin;refine qBG rfl (.tmp 47) (.tmp 59) rfl (w.heap.size+1) _ _ (((aI.alloc _).alloc _).alloc _) rfl _ (min d3 f3,max d3 f3) rfl (qCl _ _ tZ _ _ _) tO tB ?_;intro v5 w5 o5 g5 p5;have k0:=(qK g5 (b:=wj.heap.size) (o:=0) tB (fun c hc=>by have:=(aI.lt c hc).2;omega)).trans (show(((wj.alloc (.cells #[.int .i64 d1,.int .i64 d2,.int .i64 d3] 97)).alloc (.cells #[.int .i64 f1,.int .i64 f2,.int .i64 f3] 97)).alloc (.cells #[.int .i64 (min d3 f3),.int .i64 (max d3 f3)] 106)).cell? _=some (.int .i64 d1) by simp[go_sem]);have k1:=(qK g5 (b:=wj.heap.size) (o:=1) tB (fun c hc=>by have:=(aI.lt c hc).2;omega)).trans (show(((wj.alloc (.cells #[.int .i64 d1,.int .i64 d2,.int .i64 d3] 97)).alloc (.cells #[.int .i64 f1,.int .i64 f2,.int .i64 f3] 97)).alloc (.cells #[.int .i64 (min d3 f3),.int .i64 (max d3 f3)] 106)).cell? _=some (.int .i64 d2) by simp[go_sem]);have k2:=(qK g5 (b:=wj.heap.size) (o:=2) tB (fun c hc=>by have:=(aI.lt c hc).2;omega)).trans (show(((wj.alloc (.cells #[.int .i64 d1,.int .i64 d2,.int .i64 d3] 97)).alloc (.cells #[.int .i64 f1,.int .i64 f2,.int .i64 f3] 97)).alloc (.cells #[.int .i64 (min d3 f3),.int .i64 (max d3 f3)] 106)).cell? _=some (.int .i64 d3) by simp[go_sem]);have k3:=(qK g5 (b:=wj.heap.size+1) (o:=0) tB (fun c hc=>by have:=(aI.lt c hc).2;omega)).trans (show(((wj.alloc (.cells #[.int .i64 d1,.int .i64 d2,.int .i64 d3] 97)).alloc (.cells #[.int .i64 f1,.int .i64 f2,.int .i64 f3] 97)).alloc (.cells #[.int .i64 (min d3 f3),.int .i64 (max d3 f3)] 106)).cell? _=some (.int .i64 f1) by simp[go_sem]);have k4:=(qK g5 (b:=wj.heap.size+1) (o:=1) tB (fun c hc=>by have:=(aI.lt c hc).2;omega)).trans (show(((wj.alloc (.cells #[.int .i64 d1,.int .i64 d2,.int .i64 d3] 97)).alloc (.cells #[.int .i64 f1,.int .i64 f2,.int .i64 f3] 97)).alloc (.cells #[.int .i64 (min d3 f3),.int .i64 (max d3 f3)] 106)).cell? _=some (.int .i64 f2) by simp[go_sem]);have k5:=(qK g5 (b:=wj.heap.size+1) (o:=2) tB (fun c hc=>by have:=(aI.lt c hc).2;omega)).trans (show(((wj.alloc (.cells #[.int .i64 d1,.int .i64 d2,.int .i64 d3] 97)).alloc (.cells #[.int .i64 f1,.int .i64 f2,.int .i64 f3] 97)).alloc (.cells #[.int .i64 (min d3 f3),.int .i64 (max d3 f3)] 106)).cell? _=some (.int .i64 f3) by simp[go_sem]);have O5:=qA o5;have B5:Wi (Wf (w.heap.size+1) W w5):=qA ((cA.alloc tB (.cells #[.int .i64 (min d3 f3),.int .i64 (max d3 f3)] 106)).grown g5 tB (fun k hk=>(aI.lt k hk).1));have vD:=B5.o.size;clear o5 g5 p5) | (at_builtin;refine qBG rfl (.tmp 73) (.tmp 85) rfl (w.heap.size+1) _ _ (O5.alloc _) rfl _ (min d1 f1,max d1 f1) rfl (qCl _ _ tZ _ _ _) (by rw[zag];simp only[zaE];omega) tB ?_;intro v6 w6 o6 g6 p6;have O6:=qA o6;have B6:Wi (Wf (w.heap.size+1) W w6):=qA ((B5.alloc tO (.cells #[.int .i64 (min d1 f1),.int .i64 (max d1 f1)] 106)).grown g6 tB (fun k hk=>(O5.lt k hk).1));clear o6 g6 p6))
       go_roundw;exact⟨j+1,tO,tO,by go_num,by rw[HE.o];exact O6.o,B6.o⟩;exact tM
    ·obtain rfl:j=es.length:=tO
     go_wp2;go_roundw;exact⟨i+1,tO,by go_num,by rw[FK.o];exact aI.o,al.o⟩;exact tM
  ·obtain rfl:i=es.length:=tO
   obtain⟨Ao,co,sT,_⟩:=HO.o.form;subst sT;have uG:=qA (HO.mono (show w.heap.size<=w.heap.size+1 by omega));have aV:Wi (Wf w w wi):=qA (BX.trans (HB.mono tO));go_wp2;go_ret;exact⟨_,rfl,uG,aV⟩
theorem qKA {W:Wg} {b:Nat} {u0 u1:Wh} (x y:Wh) (h0:W.cell? ⟨b,0,none⟩=some u0) (h1:W.cell? ⟨b,1,none⟩=some u1):
  ((W.setCell ⟨b,0,none⟩ x).setCell ⟨b,1,none⟩ y).cell? ⟨b,0,none⟩=some x/\((W.setCell ⟨b,0,none⟩ x).setCell ⟨b,1,none⟩ y).cell? ⟨b,1,none⟩=some y:=
 ⟨by rw[zaa _ _ _ _ tZ,zaf _ _ _ h0],zaf _ _ _ ((zaa _ _ _ _ tZ).trans h1)⟩
def firF (g:GrD):FoD×Bool:=if grB g=true then(match foL g.2.2 with | []=>((0,0),false) | f::_=>(f,true)) else((0,0),false)
theorem OwFo.head {w:Wg} {base g n cap:Nat} {f:FoD} {l:List FoD} (h:OwFo w base (.slice (some ⟨g,0,none⟩) n cap) (f::l)):w.cell? ⟨g,0,none⟩=some (.int .i64 f.1)/\w.cell? ⟨g,1,none⟩=some (.int .i64 f.2):=by
 obtain rfl:n=(f::l).length:=by
  obtain⟨_,_,hv,_⟩:=OwFo.form h;injection hv
 have h':w.ownsRow base 106 2 (.slice (some ⟨g,0,none⟩) (f::l).length cap) (f::l).length (foCs (f::l)):=h;have e0:=zay.cellAt h' 0 tB;have e1:=zay.cellAt h' 1 tB;exact⟨by rw[e0];rfl,by rw[e1];rfl⟩
theorem gbox {w W:Wg} {a b c:Wh} {t:TypeId} (hW:W=w.alloc (.cells #[a,b,c] t)):W.heap.size=w.heap.size+1/\Wf w w W/\
  (∀w',Wf (w.heap.size+1) W w'->w'.cell? ⟨w,0,none⟩=some a/\w'.cell? ⟨w,1,none⟩=some b/\w'.cell? ⟨w,2,none⟩=some c)/\ ∀j w',Wf (w.heap.size+1) W w'->w'.frozen? ⟨w,j,none⟩=false:=by
 have hs:W.heap.size=w.heap.size+1:=by rw[hW];simp
 have h0:W.cell? ⟨w,0,none⟩=some a:=by rw[hW];simp[go_sem]
 have h1:W.cell? ⟨w,1,none⟩=some b:=by rw[hW];simp[go_sem]
 have h2:W.cell? ⟨w,2,none⟩=some c:=by rw[hW];simp[go_sem]
 refine⟨hs,by rw[hW];exact(zak _ _).alloc (zac _) _,fun w' hb=>⟨(hb.cell (p:=⟨w,0,none⟩) (zaD _)).trans h0,(hb.cell (p:=⟨w,1,none⟩) (zaD _)).trans h1,(hb.cell (p:=⟨w,2,none⟩) (zaD _)).trans h2⟩,fun j w' hb=>(hb.frozen (p:=⟨w,j,none⟩) (zaD _)).trans ?_⟩;rw[hW];simp[go_sem]
theorem qo {W:Wg} {b:Nat} {u0 u1 u2:Wh} (x y z:Wh) (h0:W.cell? ⟨b,0,none⟩=some u0) (h1:W.cell? ⟨b,1,none⟩=some u1) (h2:W.cell? ⟨b,2,none⟩=some u2):
  (((W.setCell ⟨b,0,none⟩ x).setCell ⟨b,1,none⟩ y).setCell ⟨b,2,none⟩ z).cell? ⟨b,0,none⟩=some x/\(((W.setCell ⟨b,0,none⟩ x).setCell ⟨b,1,none⟩ y).setCell ⟨b,2,none⟩ z).cell? ⟨b,1,none⟩=some y/\(((W.setCell ⟨b,0,none⟩ x).setCell ⟨b,1,none⟩ y).setCell ⟨b,2,none⟩ z).cell? ⟨b,2,none⟩=some z:=
 ⟨by rw[zaa _ _ _ _ tZ,zaa _ _ _ _ tZ,zaf _ _ _ h0],
  by rw[zaa _ _ _ _ tZ];exact zaf _ _ _ ((zaa _ _ _ _ tZ).trans h1),
  zaf _ _ _ ((zaa _ _ _ _ tZ).trans ((zaa _ _ _ _ tZ).trans h2))⟩
theorem qPS (es:List EdD) (f:FoD) (k:Nat) (h:k<es.length):srt cmpE ((es.take (k+1)).map (plE f))=insF cmpE (srt cmpE ((es.take k).map (plE f))) (plE f es[k]):=by
 rw[zau h,List.map_append];unfold srt;rw[zaK];rfl
theorem qQL (es:List EdD) (f:FoD) (k:Nat):(srt cmpE ((es.take k).map (plE f))).length<=es.length:=by
 have:=qCp (c:=cmpE) ((es.take k).map (plE f))
 rw[zaO,zam] at this;omega
theorem qNZ (v:Int) (f:FoD) (w:Wg) (hv:0<=v/\v<=1000) (hf:0<=f.1/\f.1<f.2/\f.2<=1000):
  Wk Tryz.prog 191 #[.int .i64 v, .agg #[.int .i64 f.1, .int .i64 f.2]] w fun e w'=>e= .returned (.int .i64 (plF f v))/\Wf w w w':=by
 obtain⟨a,b⟩:=f;simp only at hf⊢
 have hw:IntKind.i64.wrap (v-1)=v-1:=by rw[IntKind.wrap_i64];omega
 rcases e1:(v==b) with _ | _
 ·have h1: ¬v=b:=by simpa using e1
  rcases e2:decide (b<v) with _ | _
  ·have h2: ¬b<v:=by simpa using e2
   go_enter Tryz.func191,Tryz.ntmps191
   go_wp2;go_ret;exact⟨qAP (by unfold plF;rw[Wn h1,Wn (show ¬b<v by omega)]),ZZ⟩
  ·have h2:b<v:=by simpa using e2
   go_enter Tryz.func191,Tryz.ntmps191
   go_wp2;go_ret;exact⟨by simp[plF,h1,h2],ZZ⟩
 ·have h1:v=b:=by simpa using e1
  have e2:decide (b<a)=false:=by simp;omega
  go_enter Tryz.func191,Tryz.ntmps191
  go_wp2;go_ret;exact⟨by simp[plF,h1],ZZ⟩
theorem qDs (v:Wh) (g:GrD) (f:FoD) (w:Wg) (h:ArgG w v g) (hg:grB g=true) (hf:0<=f.1/\f.1<f.2/\f.2<g.2.1):
  Wk Tryz.prog 124 #[v, .agg #[.int .i64 f.1, .int .i64 f.2]] w fun e w'=> ∃r,e= .returned (.tuple #[r, .bool true])/\OwG w' w r (merG g f)/\Wf w w w':=by
 have HG:=qA h;have aK:=qA hg;obtain⟨jB,bn,a7,_⟩:=qD hg;have gR:=qA fun e (he:e∈g.2.2)=>qM hg he;obtain⟨s,rfl,aN,aQ,ha⟩:=h;obtain⟨A,cap,rfl⟩:=ha.form;obtain⟨g1,N,es⟩:=g;obtain⟨fa,fb⟩:=f;simp only at*
 have zR:=qA ha;clear ha hg;have mH:IntKind.i64.wrap (N-1)=N-1:=by rw[IntKind.wrap_i64];omega
 have aJ:decide (fa<0)=false:=by simp;omega
 have dp:decide (fb<=fa)=false:=by simp;omega
 have mu:decide (N<=fb)=false:=by simp;omega
 go_enter Tryz.func124,Tryz.ntmps124
 have bx:Wf w w (((w.alloc (.cells #[.int .i64 g1,.int .i64 N, .slice A es.length cap] 26)).alloc (.cells #[.int .i64 fa,.int .i64 fb] 106)).alloc (.cells #[.int .i64 0,.int .i64 0, .slice none 0 0] 26)):=ZZ;go_wp2_with fail;obtain⟨W,hW⟩: ∃W,W=(((w.alloc (.cells #[.int .i64 g1,.int .i64 N, .slice A es.length cap] 26)).alloc (.cells #[.int .i64 fa,.int .i64 fb] 106)).alloc (.cells #[.int .i64 0,.int .i64 0, .slice none 0 0] 26)):=⟨_,rfl⟩;rw[<-hW] at bx⊢;have aH:W.heap.size=w.heap.size+3:=by rw[hW];simp
 have L0:Wi (W.cell? ⟨w,0,none⟩=some (.int .i64 g1)):=qA (by rw[hW];simp[go_sem]);have L1:Wi (W.cell? ⟨w,1,none⟩=some (.int .i64 N)):=qA (by rw[hW];simp[go_sem]);have L2:Wi (W.cell? ⟨w,2,none⟩=some (.slice A es.length cap)):=qA (by rw[hW];simp[go_sem]);have M0:Wi (W.cell? ⟨w.heap.size+1,0,none⟩=some (.int .i64 fa)):=qA (by rw[hW];simp[go_sem]);have M1:Wi (W.cell? ⟨w.heap.size+1,1,none⟩=some (.int .i64 fb)):=qA (by rw[hW];simp[go_sem]);have R0:Wi (W.cell? ⟨w.heap.size+1+1,0,none⟩=some (.int .i64 0)):=qA (by rw[hW];simp[go_sem]);have R1:Wi (W.cell? ⟨w.heap.size+1+1,1,none⟩=some (.int .i64 0)):=qA (by rw[hW];simp[go_sem]);have R2:Wi (W.cell? ⟨w.heap.size+1+1,2,none⟩=some (.slice none 0 0)):=qA (by rw[hW];simp[go_sem]);have RF:Wi (∀j,W.frozen? ⟨w.heap.size+1+1,j,none⟩=false):=qA fun j=>by rw[hW];simp[go_sem]
 have BX:=qA bx;have HA:Wi (∀w',Wf W W w'->ArgG w' (.agg #[.int .i64 g1, .int .i64 N, .slice A es.length cap]) (g1,N,es)):=qA fun w' hb=>HG.o.below (BX.trans (hb.mono BX.size));have tL:Wi (∀w',Wf W W w'->ArgE w' (.slice A es.length cap) es):=qA fun w' hb=>zR.o.below (BX.trans (hb.mono BX.size));clear hW bx;have yu:=qk _ (g1,N,es) W (HA _ (zak _ _));rw[aK.o] at yu;refine yu.mono ?_;rintro e w1 ⟨rfl,b1⟩;have B1:=qA b1;have aE:=b1.size;clear b1 yu;have Bk:Wi (∀wr,Wf w1 w1 wr->wr.cell? ⟨w,0,none⟩=some (.int .i64 g1)/\wr.cell? ⟨w,1,none⟩=some (.int .i64 N)/\wr.cell? ⟨w,2,none⟩=some (.slice A es.length cap)/\wr.cell? ⟨w.heap.size+1,0,none⟩=some (.int .i64 fa)/\wr.cell? ⟨w.heap.size+1,1,none⟩=some (.int .i64 fb)):=qA fun wr hb=>by
  have cF:Wf W W wr:=B1.o.trans (hb.mono aE);exact⟨(cF.cell (p:=⟨w,0,none⟩) tB).trans L0.o,(cF.cell (p:=⟨w,1,none⟩) tB).trans L1.o,(cF.cell (p:=⟨w,2,none⟩) tB).trans L2.o,(cF.cell (p:=⟨w.heap.size+1,0,none⟩) tB).trans M0.o,(cF.cell (p:=⟨w.heap.size+1,1,none⟩) tB).trans M1.o⟩
 obtain⟨q0,q1,q2,q3,q4⟩:=Bk.o w1 (zak _ _);have bX:Wf w1 w1 (w1.alloc (.cells #[.int .i64 g1,.int .i64 (N-1), .slice none 0 0] 26)):=(zak _ _).alloc (zac _) _;have BXX:=qA bX;have X0:Wi ((w1.alloc (.cells #[.int .i64 g1,.int .i64 (N-1), .slice none 0 0] 26)).cell? ⟨w1,0,none⟩=some (.int .i64 g1)):=qA (by simp[go_sem]);have X1:Wi ((w1.alloc (.cells #[.int .i64 g1,.int .i64 (N-1), .slice none 0 0] 26)).cell? ⟨w1,1,none⟩=some (.int .i64 (N-1))):=qA (by simp[go_sem]);have X2:Wi ((w1.alloc (.cells #[.int .i64 g1,.int .i64 (N-1), .slice none 0 0] 26)).cell? ⟨w1,2,none⟩=some (.slice none 0 0)):=qA (by simp[go_sem]);have XF:Wi (∀j,(w1.alloc (.cells #[.int .i64 g1,.int .i64 (N-1), .slice none 0 0] 26)).frozen? ⟨w1,j,none⟩=false):=qA fun j=>by simp[go_sem]
 clear bX;go_wp2;obtain⟨w5,eH⟩: ∃W,W=w1.alloc (.cells #[.int .i64 g1,.int .i64 (N-1), .slice none 0 0] 26):=⟨_,rfl⟩;have fg:w5.heap.size=w1.heap.size+1:=by rw[eH];simp
 rw[<-eH] at BXX X0 X1 X2 XF⊢;clear eH q0 q1 q2 q3 q4;go_loopw [7] (fun i wr=> ∃(k:Nat) (A2:Option Addr) (ao:Nat),k<=es.length/\i= .int .i64 k/\wr.cell? ⟨w1,2,none⟩=some (.slice A2 (srt cmpE ((es.take k).map (plE (fa,fb)))).length ao)/\OwE wr (w1.heap.size+1) (.slice A2 (srt cmpE ((es.take k).map (plE (fa,fb)))).length ao) (srt cmpE ((es.take k).map (plE (fa,fb))))/\Wf w1 w1 wr/\
   wr.cell? ⟨w1,0,none⟩=some (.int .i64 g1)/\wr.cell? ⟨w1,1,none⟩=some (.int .i64 (N-1))/\(∀j,wr.frozen? ⟨w1,j,none⟩=false)/\w1.heap.size<wr.heap.size) (fun i _=>es.length-(intOf i).toNat)
 case atStart=>exact⟨0,none,0,zav _,rfl,X2,OwE.nil,BXX,X0,X1,XF,tO⟩
 case round=>
  obtain⟨k,A2,ao,hk,rfl,ij,Cq,bJ,ek,gt,kY,fQ⟩:=hrel;have jM:=qA ek;have fW:=qA gt;have iP:=qA ij;have mO:=qA kY;have dR:=qA Cq;have fl:=qA bJ;have B4:=qA (B1.trans (bJ.mono aE));clear ek gt ij kY Cq bJ;obtain⟨q0,q1,q2,q3,q4⟩:=Bk.o wr fl.o;by_cases ac:k<es.length
  ·obtain⟨b,off,rfl,fv,a0,a1,a2,dl⟩:=(tL wr B4).at ac;have eO:=qA (qPS es (fa,fb) k ac);have dK:=qQL es (fa,fb) k;have xa:=gR.o es[k] (zaN ac);have ce:=qA dl;have mG:(k:Int)<(es.length:Int):=tO;generalize es[k]=d at*;obtain⟨a,l,c⟩:=d;simp only at a0 a1 a2 xa
   generalize srt cmpE ((es.take k).map (plE (fa,fb)))=L at*;have bA:Wf wr wr (wr.alloc (.cells #[.int .i64 a,.int .i64 l,.int .i64 c] 97)):=(zak _ _).alloc (zac _) _;have ka:Wi (plE (fa,fb) (a,l,c)=(plF (fa,fb) a,l,plF (fa,fb) c)):=qA rfl;have F6:=qA (qCz (f:=(fa,fb)) (n:=N) (v:=a) hf xa.1);have IN:=qA (qCz (f:=(fa,fb)) (n:=N) (v:=c) hf xa.2.2);have HN:Wi (∀x:Int,0<=x/\x<=1000-> ∀W':Wg,Wk Tryz.prog 191 #[.int .i64 x, .agg #[.int .i64 fa, .int .i64 fb]] W' fun e w'=>e= .returned (.int .i64 (plF (fa,fb) x))/\Wf W'.heap.size W' w'):=qA fun x hx W'=>qNZ x (fa,fb) W' hx ⟨hf.1,hf.2.1,by simp only;omega⟩;have TO:0<=a/\a<=1000:=tO;have Pb:0<=c/\c<=1000:=tO;clear dl;go_wp2_with fail;have sA:wr.heap.size<(wr.alloc (.cells #[.int .i64 a,.int .i64 l,.int .i64 c] 97)).heap.size:=tZ;have l0:(wr.alloc (.cells #[.int .i64 a,.int .i64 l,.int .i64 c] 97)).cell? ⟨wr,0,none⟩=some (.int .i64 a):=by simp[go_sem]
   have l1:(wr.alloc (.cells #[.int .i64 a,.int .i64 l,.int .i64 c] 97)).cell? ⟨wr,1,none⟩=some (.int .i64 l):=by simp[go_sem]
   have l2:(wr.alloc (.cells #[.int .i64 a,.int .i64 l,.int .i64 c] 97)).cell? ⟨wr,2,none⟩=some (.int .i64 c):=by simp[go_sem]
   generalize wr.alloc (.cells #[.int .i64 a,.int .i64 l,.int .i64 c] 97)=W9 at bA sA l0 l1 l2⊢;have lx:=(bA.cell (p:=⟨w1,2,none⟩) fQ).trans iP.o;have la:=(bA.cell (p:=⟨w.heap.size+1,0,none⟩) tB).trans q3;have lb:=(bA.cell (p:=⟨w.heap.size+1,1,none⟩) tB).trans q4;have Cw:=qA ((bA.cell (p:=⟨w1,0,none⟩) fQ).trans jM);have CY:=qA ((bA.cell (p:=⟨w1,1,none⟩) fQ).trans fW);have LXF:Wi (∀j,W9.frozen? ⟨w1,j,none⟩=false):=qA fun j=>(bA.frozen (p:=⟨w1,j,none⟩) fQ).trans (mO j);have OW:=qA (dR.below bA);have UE:=qA (fl.trans (bA.mono tO));have jp:w1.heap.size<W9.heap.size:=tO;have L7:w.heap.size+1<W9.heap.size:=tO;have Qp:wr.heap.size≠w1.heap.size:=tO;clear bA a0 a1 a2 q0 q1 q2 q3 q4;have f0:=BelW.cell l0 sA;have f1:=BelW.cell l1 sA;have f2:=BelW.cell l2 sA;have f3:=BelW.cell la L7;have f4:=BelW.cell lb L7;have f5:=BelW.cell lx jp;(refine qBb 13 tK tK tK tK (by rfl) (by rfl) ?_;dsimp only[dum3,dumO];(repeat(go_big_quiet_step ((go_at_call 191;exact Calls.bel_of (HN _ (by assumption) _)))));refine wpQuiet_nil ?_;refine⟨⟨_,fun _=>by rfl⟩,?_⟩;intro wq hw';obtain⟨pq,ae⟩:=hw';have bq:=pq.h;rw[<-ae] at bq;clear ae pq;refine⟨_,_,by rfl,?_⟩)
   clear f0 f1 f2 f3 f4 f5;simp only[List.map_toArray,zaS,List.map_nil,Array.empty_append,Array.append_empty];refine(show Wk Tryz.prog 166 #[.slice A2 L.length ao, .agg #[.int .i64 (plF (fa,fb) a), .int .i64 l, .int .i64 (plF (fa,fb) c)]] wq _ from ?_)
   have yA:=F6.o;have rC:=IN.o;refine(qBy _ L (plF (fa,fb) a,l,plF (fa,fb) c) wq (OW.below bq).arg ⟨⟨by simp only;omega,by simp only;omega⟩,⟨by simp only;omega,by simp only;omega⟩,⟨by simp only;omega,by simp only;omega⟩⟩ tO).mono ?_
   rintro e' w9 ⟨r9,rfl,o9,b9⟩;have B9:=qA (bq.trans (b9.mono bq.size));have qx:=(B9.cell (p:=⟨w1,2,none⟩) jp).trans lx;have qf:=(B9.frozen (p:=⟨w1,2,none⟩) jp).trans (LXF 2);have s9:W9.heap.size<=w9.heap.size:=B9.o.size;have O9:=qA o9;obtain⟨A9,bM,rfl,_⟩:=o9.form;clear o9 b9 yA rC;refine⟨_,rfl,?_⟩;simp only[zan,zab,zad,zae];go_wp2;go_roundw
   case rel=>
    have F:=qA (eO.trans (by rw[ka.o]));refine⟨k+1,A9,bM,tO,by go_num,by rw[F.o];exact zaf _ _ _ qx,?_,(UE.trans (B9.mono tO)).setCell (zac _) _,?_,?_,fun j=>by rw[zap];exact(B9.frozen (p:=⟨w1,j,none⟩) jp).trans (LXF j),by simp;omega⟩
    ·rw[F.o];exact(O9.mono (by show _<=wq.heap.size;have:=bq.size;omega)).far (show w1.heap.size<w1.heap.size+1 by omega) _
    ·rw[zaa _ _ _ _ tZ];exact(B9.cell (p:=⟨w1,0,none⟩) jp).trans Cw.o
    ·rw[zaa _ _ _ _ tZ];exact(B9.cell (p:=⟨w1,1,none⟩) jp).trans CY.o
   case measure=>exact tM
  ·obtain rfl:k=es.length:=tO
   rw[zar] at iP dR;have wL:Wi (merG (g1,N,es) (fa,fb)=(g1,N-1,srt cmpE (es.map (plE (fa,fb))))):=qA rfl;generalize srt cmpE (es.map (plE (fa,fb)))=L at*;have ek:=jM.o;have gt:=fW.o;have ij:=iP.o;have r0:=(B4.cell (p:=⟨w.heap.size+1+1,0,none⟩) tB).trans R0.o;have r1:=(B4.cell (p:=⟨w.heap.size+1+1,1,none⟩) tB).trans R1.o;have r2:=(B4.cell (p:=⟨w.heap.size+1+1,2,none⟩) tB).trans R2.o;have fh:=(B4.frozen (p:=⟨w.heap.size+1+1,0,none⟩) tB).trans (RF 0);have fu:=(B4.frozen (p:=⟨w.heap.size+1+1,1,none⟩) tB).trans (RF 1);have fd:=(B4.frozen (p:=⟨w.heap.size+1+1,2,none⟩) tB).trans (RF 2);have uY:w.heap.size+1+1≠w1.heap.size:=tO;have aV:=qA (BX.trans (B4.mono BX.size));go_wp2;obtain⟨c0,c1,c2⟩:=qo (.int .i64 g1) (.int .i64 (N-1)) (.slice A2 L.length ao) r0 r1 r2;have bw:Wf w w (((wr.setCell ⟨w.heap.size+1+1,0,none⟩ (.int .i64 g1)).setCell ⟨w.heap.size+1+1,1,none⟩ (.int .i64 (N-1))).setCell ⟨w.heap.size+1+1,2,none⟩ (.slice A2 L.length ao)):=(((aV.o.setCell tB _).setCell tB _).setCell tB _);have ow:OwE (((wr.setCell ⟨w.heap.size+1+1,0,none⟩ (.int .i64 g1)).setCell ⟨w.heap.size+1+1,1,none⟩ (.int .i64 (N-1))).setCell ⟨w.heap.size+1+1,2,none⟩ (.slice A2 L.length ao)) (w1.heap.size+1) (.slice A2 L.length ao) L:=((dR.o.far tB _).far tB _).far tB _;generalize (((wr.setCell ⟨w.heap.size+1+1,0,none⟩ (.int .i64 g1)).setCell ⟨w.heap.size+1+1,1,none⟩ (.int .i64 (N-1))).setCell ⟨w.heap.size+1+1,2,none⟩ (.slice A2 L.length ao))=wf at*;rw[wL.o];exact Wj (v:= .tuple #[.agg #[.int .i64 g1, .int .i64 (N-1), .slice A2 L.length ao], .bool true]) (by simp[results,Tryz.results124,go_sem,c0,c1,c2]) rfl ⟨_,rfl,⟨.slice A2 L.length ao,rfl,(by show I64 g1;unfold I64;omega),(by show I64 (N-1);unfold I64;omega),ow.mono tO⟩,bw⟩
def qIb (g:GrD):GrD:=match foL g.2.2 with | []=>g | f::_=>merG g f
theorem qN {W:Wg} {b b' o o':Nat} {u:Wh} {x:Option Wh} (ai:b≠b') (h:W.cell? ⟨b,o,none⟩=x):(W.setCell ⟨b',o',none⟩ u).cell? ⟨b,o,none⟩=x:=
 (zaa _ _ _ _ (by simp[ai])).trans h
theorem qNx {g:GrD} {f:FoD} {l:List FoD} (hg:grB g=true) (h:foL g.2.2=f::l):folA (merG g f)=folA g:=by
 have hf:=qLP hg (f:=f) (by rw[h];simp);unfold folA;obtain⟨n,hn⟩: ∃n,g.2.1.toNat=n+1:=⟨g.2.1.toNat-1,tO⟩;rw[hn,qJQ h,show(merG g f).2.1.toNat=n by show(g.2.1-1).toNat=n;omega]
theorem qPF {g:GrD} (h:foL g.2.2= []):folA g=g:=qIR h _
def Tw (base:Nat) (w:Wg) (vo:Wh) (lo:List Int) (vr:Wh) (lr:List Int):Prop:=OwI w base vo lo/\OwI w base vr lr/\ ∀b,vo.ownBlock=some b->vr.ownBlock≠some b
section
variable {base:Nat} {w wa w':Wg} {vo vr vo':Wh} {lo lr lo':List Int}
theorem Tw.swap (h:Tw base w vo lo vr lr):Tw base w vr lr vo lo:=⟨h.2.1,h.1,fun b hb e=>h.2.2 b e hb⟩
theorem Tw.below (h:Tw base w vo lo vr lr) (hb:Wf w w w'):Tw base w' vo lo vr lr:=⟨h.1.below hb,h.2.1.below hb,h.2.2⟩
theorem Tw.push (h:Tw base w vo lo vr lr) (hb:Wf w w wa) (o:OwI w' base vo' lo') (g:wa.grownBy w' vo.ownBlock) (dY:vo'.ownBlock=vo.ownBlock\/vo'.ownBlock=some wa):Tw base w' vo' lo' vr lr:=by
 refine⟨o,(h.2.1.below hb).kept g ?_,fun b hv e=> ?_⟩
 ·rcases e:vr.ownBlock with _ | b
  ·exact .inl rfl
  ·exact .inr fun e2=>h.2.2 b e2.symm e
 ·rcases dY with q | q
  ·exact h.2.2 b (by rw[<-q];exact hv) e
  ·rw[q] at hv;injection hv with hv
   have:=(h.2.1.1.lt b e).2
   have:=hb.size
   omega
end
theorem qNU {es:List EdD} {n:Nat} (h: ¬qu es n<0):1<=qu es n/\qu es n<n:=by
 have:=qAv es n
 omega
end Go.Proofs.YtnjpoljbagfdnaaGreat
