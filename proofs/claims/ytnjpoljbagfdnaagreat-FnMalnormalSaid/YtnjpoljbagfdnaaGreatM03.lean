/- Parts of the proof (3). -/
import Derived.Test.YtnjpoljbagfdnaaGreatM02
import Derived.Deep.RegionHeld3
import Derived.Ground.SlsfProg
import Derived.Lib.SliceRun
import Derived.OrdersHeld
import Derived.Shelf.SlSortCmp.WholeK
set_option maxRecDepth 100000
set_option maxHeartbeats 16000000
set_option linter.unusedVariables false
set_option linter.unusedSimpArgs false
namespace Go.Proofs.YtnjpoljbagfdnaaGreat
open Go.RowKit
open Go.RowKit renaming Below→Wf,Hid→Wi
open Go renaming Calls→Wk,Value→Wh,World→Wg,bodyPost_ret→Wj
open Go.World renaming cell?_setCell_other->zaa,cell?_setCell_same->zag,cell?_of_block->zax,frozen?_of_block->zaA,ownsRow->zaB,grownBy->zaR
open _root_.Nat renaming le_refl->zab,zero_add->zad,zero_le->zau,le_of_lt->zaZ
open _root_.List renaming pairwise_iff_getElem->zac,getElem?_eq_getElem->zae,take_length->zai,take_succ_eq_append_getElem->zaj,all_eq_true->zak,length_take->zam,getElem?_eq_some_iff->zaq,mem_range->zar,replicate->zas,mem_singleton->zat,range->zav,length_cons->zaw,getElem_take->zay,mem_append->zaC,mem_filterMap->zaD,getD_eq_getElem?_getD->zaE,ext_getElem?->zaG,getElem?_eq_none->zaL,length_replicate->zaM,mem_of_getElem?->zaN,mem_append_left->zaO,mem_iff_getElem->zaQ,getElem_of_mem->zaS,set_cons_zero->zaW,set_cons_succ->zaX,mem_map->zaY,getElem?_drop->za0,length_append->za1,getElem?_map->za2,foldl_append->za3,cons_append->za6,map_toArray->za7,length_map->za8,range_succ->zba,map_append->zbb,take_zero->zbd,drop_drop->zbe,getD->zbf,map_cons->zbh
open Go.Value renaming ownBlock->zaf,agg->zaK,int->zaU
open _root_.Bool renaming and_eq_true->zah,not_eq_true'->zaH,or_eq_true->zaJ,not_false->zbc,true_and->zbg
open Go.RowKit.Below renaming refl->zal,drew->zan,heap_alloc->zaI,heap_setCell->zaT
open _root_.Array renaming getD_eq_getD_getElem?->zao,replicate->zap,getElem?_eq_none->zaz,getElem?_eq_some_iff->zaF,getElem_toList->zaP
open _root_.Int renaming sub_zero->zaV
open _root_.Option renaming getD_some->za4,bind_some->za5,map_some->za9
section
variable {P:Program} {I Hs:Wg->Prop} {D:List Nat} {J:Nat->Wg->Prop} {l:List Oper} {L:List Sg} {T:List (Option (Wg->Wg->Prop))} {w:Wg} {a:Act} {Q:Exit->Act->Wg->Prop} {G:List Nat}
theorem qMl (hB:freG l=true) (hgB:gdB2 l L G=true) (hGo:GOff L T G) (ar: ∀(i:Nat) (o:Oper),l[i]? =some o-> ∀t,o.dst=some t->t<a.tmps.size)
  (hIT: ∀t,some t∈T-> ∀W W',I W->t W W'->I W') (hHT:ItD I Hs D T 0 T) (hst:Stb I L T (clG l L T)) (h: ∀vs,ObwG G P (JH I Hs l D) l L T vs Q l L 0 a): ∀(fuel:Nat) (listed:Array Bool) (vs:Nat->Wh) (W:Wg),
  ((zav l.length).filter fun j=> !listed.getD j false).length=fuel->Cl l.toArray listed->I W->((∀d∈D,listed.getD d false=false)->Hs W)->(∀j,j<l.length->(sgA L j).pick (vs j)=vs j)->(∀j,listed.getD j false=true->(sgA L j).R (qBw l j vs) W (vs j))->
  wpAny P .any l.toArray Q fuel listed (actV (fun j=>listed.getD j false) vs l 0 a) W:=by
 have hI: ∀k W W',I W->tnA T k W W'->I W':=fun k W W' hi ht=>by
  unfold tnA at ht;cases e:T.getD k none with
  | none=>rw[e] at ht;rw[show W'=W from ht];exact hi
  | some t=>
    rw[e] at ht;refine hIT t ?_ W W' hi ht;rw[zaE] at e;cases e2:T[k]? with
    | none=>rw[e2] at e;cases e
    | some q=>rw[e2] at e;simp only[za4] at e;subst e;exact zaN e2
 have hH: ∀k W W',I W->k∉D->Hs W->tnA T k W W'->Hs W':=fun k W W' hi hk hs ht=>by
  unfold tnA at ht;cases e:T.getD k none with
  | none=>rw[e] at ht;rw[show W'=W from ht];exact hs
  | some t=>
    rw[e] at ht;rw[zaE] at e;cases e2:T[k]? with
    | none=>rw[e2] at e;cases e
    | some q=>
      rw[e2] at e;simp only[za4] at e;subst e;rcases hHT.at k t e2 with h | h
      ·rw[zad] at h;exact absurd h hk
      ·exact h W W' hi hs ht
 have all: ∀(listed:Array Bool) (vs:Nat->Wh) (W:Wg),Cl l.toArray listed->I W->((∀d∈D,listed.getD d false=false)->Hs W)->(∀j,j<l.length->(sgA L j).pick (vs j)=vs j)->(∀j,listed.getD j false=true->(sgA L j).R (qBw l j vs) W (vs j))->(∀j,j<l.length->listed.getD j false=true)->Q .normal (actV (fun j=>listed.getD j false) vs l 0 a) W:=fun listed vs W hc hb hd hp hr hl=>by
  have:=(qKG hp l L 0 a (fun j=>by rw[zad]) (fun j=>by rw[zad];rfl) (h vs)).2 W (qA ⟨hb,fun ok=>hd fun d hd'=>by
   have h1:=zak.1 ok d hd';simp only[zaJ,beq_iff_eq] at h1;rcases h1 with h1 | h1
   ·rw[zao,zaz (by rw[hc.1,h1];simp)];rfl
   ·have h2:=qDh hB _ _ _ h1;rw[zao,zaz (by rw[hc.1];simp;omega)];rfl⟩) (qA fun j hj=>hr j (hl j hj))
  rwa [qCK (S':=fun _=>true) (vs':=vs) l 0 a fun j hj=>by rw[zad];exact⟨hl j hj,fun _=>rfl⟩]
 have none_ready: ∀(listed:Array Bool),Cl l.toArray listed->Region.ready .any l.toArray listed= []-> ∀j,j<l.length->listed.getD j false=true:=fun listed hc hr j=>by
  induction j using Nat.strongRecOn with
  | _ j ih=>
    intro hj;by_cases q:listed.getD j false=true
    ·exact q
    ·exfalso
     have:j∈Region.ready .any l.toArray listed:=by
      rw[mem_ready];refine⟨by rw[qAp (by rw[hc.1];simpa using hj)];simpa using q,l[j],by simp[hj],fun e he hb=> ?_⟩;have:=((qCu hB).2 j l[j] (zae hj)).1 e he hb
      exact ih e.on this tO
     rw[hr] at this;cases this
 intro fuel;induction fuel with
 | zero=>
   intro listed vs W hf hc hb hd hp hr;have hl: ∀j,j<l.length->listed.getD j false=true:=fun j hj=>by
    have:=List.filter_eq_nil_iff.1 (List.eq_nil_of_length_eq_zero hf) j (zar.2 hj)
    simpa using this
   refine⟨?_,all listed vs W hc hb hd hp hr hl⟩;cases hq:Region.ready .any l.toArray listed with
   | nil=>rfl
   | cons i r=>
     obtain⟨h1,o,ho,_⟩:=mem_ready.1 (show i∈Region.ready .any l.toArray listed by rw[hq];simp);have hi:i<l.length:=by simpa using (zaF.1 ho).1
     rw[qAp (by rw[hc.1];simpa using hi),hl i hi] at h1;cases h1
 | succ fuel ih=>
   intro listed vs W hf hc hb hd hp hr;refine⟨fun h0=>all listed vs W hc hb hd hp hr (none_ready listed hc h0),fun i hi=> ?_⟩;obtain⟨h1,o,ho,po⟩:=mem_ready.1 hi;have cV:l[i]? =some o:=by simpa using ho
   have kJ:i<l.length:=(zaq.1 cV).1;have uJ:i<listed.size:=by rw[hc.1];simpa using kJ
   have dW:listed.getD i false=false:=by rw[<-qAp uJ];exact h1
   obtain⟨_,vg,pN⟩:=(qCu hB).2 i o cV;have pu:=fun (cs:Array SelectCase) (b:Bool)=>Region.noSelect_spec (qCu hB).1 i o cs b ho;have BG:=(qKG hp l L 0 a (fun j=>by rw[zad]) (fun j=>by rw[zad];rfl) (h vs)).1 i o cV;rw[zad] at BG;have mz: ∀j,qAR l l.length i j=true->listed.getD j false=true:=fun j hj=>qBV hc l.length i j (fun o2 gf e he hb=>by rw[cV] at gf;injection gf with gf;subst gf;exact po e he hb) hj;have dz: ∀j,listed.getD j false=true->qAR l l.length j i=false:=fun j hj=>by
    cases q:qAR l l.length j i with
    | false=>rfl
    | true=>
      have:=qBV hc l.length j i (fun o2 gf e he hb=>hc.2 j o2 (by simpa using gf) hj e he hb) q
      rw[dW] at this;cases this
   have lP:Region.wanted o (yielded l.toArray (actV (fun j=>listed.getD j false) vs l 0 a).tmps)= !G.contains i:=by
    have h1:=zak.1 hgB i (zar.2 kJ);rw[cV] at h1;cases hq:o.guard with
    | none=>
      simp only[hq] at h1;rw[qAi hq,h1]
    | some p=>
      obtain⟨j,want⟩:=p;simp only[hq,zah] at h1;obtain⟨⟨h2,h3⟩,h4⟩:=h1;have eF:=mz j h2;cases mm:l[j]? with
      | none=>rw[mm] at h3;cases h3
      | some oj=>
        cases jI:oj.dst with
        | none=>rw[mm] at h3;simp only[za5,jI] at h3;cases h3
        | some d=>
          have Od:=hr j eF;have pY:j<l.length:=(zaq.1 mm).1;have hy:yielded l.toArray (actV (fun j=>listed.getD j false) vs l 0 a).tmps j=(match vs j with | .bool b=>some b | _=>none):=by
           have hg:=qLY (S:=fun j=>listed.getD j false) (vs:=vs) (d:=d) l 0 a j oj mm jI (by rw[zad];exact eF) (fun m o2 hm hmj=>((qCu hB).2 j oj mm).2.1 m o2 hm (fun e=>hmj e.symm) d jI) (ar j oj mm d jI);rw[zad] at hg;unfold yielded;simp only[List.getElem?_toArray,mm,za5,jI,hg];cases vs j<;>rfl
          cases hsj:sgA L j with
          | pur q=>rw[hsj] at h4;cases h4
          | mem q=>rw[hsj] at h4;cases h4
          | val c=>
            rw[hsj] at h4 Od;have MQ:vs j=c:=Od;cases c with
            | bool b=>
              unfold Region.wanted;rw[hq];simp only[hy,MQ];simp only[beq_iff_eq] at h4;rw[<-h4];cases b<;>cases want<;>rfl
            | tuple _=>
              unfold Region.wanted;rw[hq];simp only[hy,MQ];simp only at h4
              rw[h4];rfl
            | _=>cases h4
   have tail: ∀v W',tnA T i W W'->(sgA L i).R (qBw l i vs) W' v->wpAny P .any l.toArray Q fuel (listed.setIfInBounds i true) ((actV (fun j=>listed.getD j false) vs l 0 a).put o.dst v) W':=fun v W' hbv hv=>by
    have e:=qIO (S:=fun j=>listed.getD j false) (vs:=vs) (v:=v) l 0 a i o cV (by rw[zad];exact dW) fun j o2 hj dU d hd=>vg j o2 hj dU d hd;rw[zad] at e;rw[e];rw[qCK (S':=fun j=>(listed.setIfInBounds i true).getD j false) (vs':=fun j=>if j=i then v else vs j) l 0 a fun j hj=>⟨by
     rw[zad];by_cases q:j=i
     ·subst q;simp[uJ]
     ·rw[decide_eq_false q,Bool.or_false,getD_set_ne false (fun e=>q e.symm)],fun _=>rfl⟩]
    have bK: ∀j,(listed.setIfInBounds i true).getD j false=true->j≠i->listed.getD j false=true:=fun j hj q=>by
     rwa [getD_set_ne false (fun e=>q e.symm)] at hj
    have tU: ∀j,qAR l l.length j i=false->qBw l j (fun m=>if m=i then v else vs m)=qBw l j vs:=fun j hj=>by
     funext m
     unfold qBw;by_cases q:m=i
     ·subst q;rw[Wn (by simp[hj]),Wn (by simp[hj])]
     ·simp only[Wn q]
    have CJ:qAR l l.length i i=false:=by
     cases q:qAR l l.length i i with
     | false=>rfl
     | true=>have:=qDh hB _ _ _ q;omega
    have OI:I W':=hI i W W' hb hbv;refine ih (listed.setIfInBounds i true) _ W' ?_ (hc.set hi) OI (fun hd'=> ?_) (fun j hj=> ?_) (fun j hj=> ?_)
    ·have:=qHE uJ dW l.length kJ
     omega
    ·have vM:i∉D:=fun hm=>by have:=hd' i hm;simp[uJ] at this
     exact hH i W W' hb vM (hd fun d zE=>by
      have ai:i≠d:=fun e=>vM (e▸zE);have:=hd' d zE
      rwa [getD_set_ne false ai] at this) hbv
    ·by_cases q:j=i
     ·subst q;simp only[if_true];exact Sg.pick_of _ _ hv
     ·simp only[Wn q];exact hp j hj
    ·by_cases q:j=i
     ·subst q;simp only[if_true];rw[tU _ CJ];exact hv
     ·simp only[Wn q];have eF:=bK j hj q;rw[tU j (dz j eF)];have pY:j<l.length:=by
       by_cases q:j<l.length
       ·exact q
       ·rw[zao,zaz (by rw[hc.1];simpa using q)] at eF;cases eF
      have mM:=hr j eF;cases hs:sgA L j with
      | val c=>rw[hs] at mM;exact mM
      | pur p=>rw[hs] at mM;exact mM
      | mem p=>
        cases ht:T.getD i none with
        | none=>
          have:W'=W:=by unfold tnA at hbv;rw[ht] at hbv;exact hbv
          rw[this,<-hs];exact mM
        | some t=>
          rw[<-hs];refine hst.at (j,i) ?_ _ W W' _ hb OI hbv mM;unfold clG;refine List.mem_flatMap.2 ⟨j,zar.2 pY,zaD.2 ⟨i,zar.2 kJ,?_⟩⟩;rw[Wm];simp only[hs,ht,Sg.isMem,Option.isSome_some,dz j eF,zbc,Bool.and_true,zbg];simpa using q
   unfold wpOp;simp only[ho];cases hGi:G.contains i with
   | true=>
     rw[hGi] at lP;rw[Wn (by rw[lP];decide)];obtain⟨hu,ht⟩:=hGo.at i hGi;refine tail undef W ?_ ?_
     ·unfold tnA;rw[ht]
     ·rw[hu];rfl
   | false=>
   have dy:=BG hGi;have AS:=dy W (fun c W'=> ∃v,c=(actV (fun j=>decide (j<i)) vs l 0 a).put o.dst v/\(tnA T i W W'/\(sgA L i).R (qBw l i vs) W' v)) (fun e _ _=>e= .outgrown/\False) (qA ⟨hb,fun ok=>hd fun d hd'=>by
    have h1:=zak.1 ok d hd';simp only[zaJ,beq_iff_eq] at h1;rcases h1 with h1 | h1
    ·rw[h1];exact dW
    ·cases q:listed.getD d false with
     | false=>rfl
     | true=>have:=dz d q;rw[h1] at this;cases this⟩) (qA fun j hj=>hr j (mz j hj)) (qA fun v W' hbv hv=>⟨v,rfl,hbv,hv⟩)
   rw[hGi] at lP;rw[Wm (by rw[lP];rfl)];refine .inl (qMw ?_ AS (fun t ht=> ?_) fun v W' ⟨hbv,hv⟩=>tail v W' hbv hv)
   ·refine execOp_congr o (fun cs b e=>pu cs b e) fun x hx=> ?_;cases x with
    | tmp t=>
      refine qGa l 0 a a rfl rfl fun k o' hk hd=> ?_;rw[zad];have ht:t∈o.looksAt l.toArray:=zaO _ (zaD.2 ⟨.tmp t,by simpa using hx,rfl⟩);rcases pN k o' t hk hd ht with q | q
      ·rw[mz k q,decide_eq_true (qDh hB _ _ _ q)]
      ·have tI:=qDh hB _ _ _ q;rw[decide_eq_false tO];cases gN:listed.getD k false with
       | false=>rfl
       | true=>
         exfalso
         have:=dz k gN
         rw[q] at this;cases this
    | const v=>rfl
    | global g=>rfl
    | func f=>rfl
   ·have: ∀(S:Nat->Bool) (r:List Oper) (k:Nat) (b:Act),(actV S vs r k b).tmps.size=b.tmps.size:=by
     intro S r;induction r with
     | nil=>intros;rfl
     | cons o r ih=>intro k b;unfold actV;rw[ih];split;exact qGR _ _ _;rfl
    rw[this];exact ar i o cV t ht
theorem qAy {id:Nat} (G:List Nat) (L:List Sg) (T:List (Option (Wg->Wg->Prop))) (I Hs:Wg->Prop) (D:List Nat) (X:List (Nat×Nat)) (hm:P.follows .mixedOrders=true) (hB:freG l=true) (hgB:gdB2 l L G=true) (hGo:GOff L T G) (hX:clG l L T=X) (ar:(l.all fun o=>match o.dst with | some t=>decide (t<a.tmps.size) | none=>true)=true)
  (hI0:I w.drew) (hH0:Hs w.drew) (hIT:Its I T) (hHT:ItD I Hs D T 0 T) (hst:Stb I L T X)
  (h: ∀vs,ObwG G P (JH I Hs l D) l L T vs Q l L 0 a):(Code.region id l.toArray true).wp P Q a w:=by
 refine wp_region_any hm ?_;subst hX;have hv: ∀j,j<l.length->(sgA L j).pick ((sgA L j).pick undef)=(sgA L j).pick undef:=fun j _=>by cases sgA L j<;>rfl
 have h0: ∀j,(zap l.toArray.size false).getD j false=false:=fun j=>by
  simp only[zao,Array.getElem?_replicate];split<;>rfl
 have:=qMl (P:=P) (Q:=Q) (G:=G) hB hgB hGo (fun i o ho t ht=>by
  have:=zak.1 ar o (zaN ho)
  rw[ht] at this;simpa using this) hIT.at hHT hst h l.toArray.size (zap l.toArray.size false) (fun j=>(sgA L j).pick undef) w.drew (by
   have:(zav l.length).filter (fun j=> !(zap l.toArray.size false).getD j false)=zav l.length:=List.filter_eq_self.2 fun j _=>by rw[h0];rfl
   rw[this];simp) ⟨tZ,fun j o _ hj=>by rw[h0] at hj;cases hj⟩ hI0 (fun _=>hH0) hv (fun j hj=>by rw[h0] at hj;cases hj)
 have e:actV (fun j=>(zap l.toArray.size false).getD j false) (fun j=>(sgA L j).pick undef) l 0 a=a:=by
  have: ∀(r:List Oper) (k:Nat) (b:Act),actV (fun j=>(zap l.toArray.size false).getD j false) (fun j=>(sgA L j).pick undef) r k b=b:=by
   intro r;induction r with
   | nil=>intros;rfl
   | cons o r ih=>intro k b;unfold actV;rw[h0];exact ih _ _
  exact this l 0 a
 rw[e] at this;exact this
end
theorem qQu {l:List Oper} {L:List Sg} (hB:freB l=true):freG l=true/\gdB2 l L []=true:=by
 unfold freB at hB;rw[zah,zak] at hB;refine⟨?_,zak.2 fun i hi=> ?_⟩
 ·unfold freG;rw[zah,zak];refine⟨hB.1,fun i hi=> ?_⟩;have:=hB.2 i hi
  rcases e:l[i]? with _ | o
  ·rfl
  ·rw[e] at this;simp only[zah] at this⊢;exact⟨this.1.2,this.2⟩
 ·have:=hB.2 i hi
  rcases e:l[i]? with _ | o
  ·rfl
  ·rw[e] at this;simp only[zah,Option.isNone_iff_eq_none] at this;simp only[this.1.1];rfl
theorem qRI {P:Program} {J:Nat->Wg->Prop} {l:List Oper} {L:List Sg} {T:List (Option (Wg->Wg->Prop))} {vs:Nat->Wh} {Q:Exit->Act->Wg->Prop}: ∀ {r:List Oper} {ss:List Sg} {k:Nat} {b:Act},Obw P J l L T vs Q r ss k b->ObwG [] P J l L T vs Q r ss k b
 | [],_,_,_,h=>h
 | _::_,[],_,_,h=>h
 | _::_,_::_,_,_,h=>⟨h.1,qRI h.2⟩
section
variable {P:Program} {I Hs:Wg->Prop} {D:List Nat} {J:Nat->Wg->Prop} {l:List Oper} {L:List Sg} {T:List (Option (Wg->Wg->Prop))} {w:Wg} {a:Act} {Q:Exit->Act->Wg->Prop}
theorem qAm {id:Nat} (L:List Sg) (T:List (Option (Wg->Wg->Prop))) (I Hs:Wg->Prop) (D:List Nat) (X:List (Nat×Nat)) (hm:P.follows .mixedOrders=true) (hB:freB l=true) (hX:clG l L T=X) (ar:(l.all fun o=>match o.dst with | some t=>decide (t<a.tmps.size) | none=>true)=true)
  (hI0:I w.drew) (hH0:Hs w.drew) (hIT:Its I T) (hHT:ItD I Hs D T 0 T) (hst:Stb I L T X)
  (h: ∀vs,Obw P (JH I Hs l D) l L T vs Q l L 0 a):(Code.region id l.toArray true).wp P Q a w:=
 qAy [] L T I Hs D X hm (qQu (L:=L) hB).1 (qQu hB).2 trivial hX ar hI0 hH0 hIT hHT hst fun vs=>qRI (h vs)
theorem Obw.mono {J J':Nat->Wg->Prop} (hJ: ∀k W,J' k W->J k W) {vs:Nat->Wh}: ∀ {r:List Oper} {ss:List Sg} {k:Nat} {b:Act},Obw P J l L T vs Q r ss k b->Obw P J' l L T vs Q r ss k b
 | [],_,_,_,h=>fun W' hj hr=>h W' (qA (hJ _ _ hj)) hr
 | _::_,[],_,_,h=>h
 | _::_,_::_,_,_,h=>⟨fun W K Q0 hj hr hk=>h.1 W K Q0 (qA (hJ _ _ hj)) hr hk,h.2.mono hJ⟩
theorem qAj {id:Nat} (L:List Sg) (T:List (Option (Wg->Wg->Prop))) (I:Wg->Prop) (X:List (Nat×Nat)) (hm:P.follows .mixedOrders=true) (hB:freB l=true) (hX:clG l L T=X) (ar:(l.all fun o=>match o.dst with | some t=>decide (t<a.tmps.size) | none=>true)=true)
  (hI0:I w.drew) (hIT:Its I T) (hst:Stb I L T X)
  (h: ∀vs,Obw P (fun _=>I) l L T vs Q l L 0 a):(Code.region id l.toArray true).wp P Q a w:=
 qAm L T I (fun _=>True) [] X hm hB hX ar hI0 trivial hIT (qEi T 0) hst fun vs=>(h vs).mono fun _ _ hj=>hj.1
end
def qHA (es:List EdD) (v:Nat):Bool:=decide (degL es v<2)|| !hasB (qCB es 0) v
def qAM (es:List EdD) (n:Nat):Nat->Nat->Int
 | 0,_=> -1
 | f+1,v=>if v<n then(if qHA es v then(v:Int) else qAM es n f (v+1)) else-1
def qu (es:List EdD) (n:Nat):Int:=qAM es n (n-1) 1
theorem qFt (es:List EdD) (n f:Nat):qAM es n f n= -1:=by
 cases f with
 | zero=>rfl
 | succ f=>unfold qAM;rw[Wn (Nat.lt_irrefl n)]
theorem qCi {es:List EdD} {n v:Nat} (hv:v<n) (h:qHA es v=true):qAM es n (n-v) v=v:=by
 obtain⟨f,hf⟩: ∃f,n-v=f+1:=⟨n-v-1,tO⟩;rw[hf];unfold qAM;rw[Wm hv,Wm h]
theorem qFP {es:List EdD} {n v:Nat} (hv:v<n) (h:qHA es v=false):qAM es n (n-v) v=qAM es n (n-(v+1)) (v+1):=by
 obtain⟨f,hf⟩: ∃f,n-v=f+1:=⟨n-v-1,tO⟩;rw[hf];rw[qAM,Wm hv,Wn (by simp[h]),show n-(v+1)=f by omega]
theorem qHf (v:Wh) (g:GrD) (w:Wg) (h:ArgG w v g) (hg:grB g=true):
  Wk Tryz.prog 203 #[v] w fun e w'=>e= .returned (.int .i64 (qu g.2.2 g.2.1.toNat))/\Wf w w w':=by
 have HG:=qA h;have aK:=qA hg;obtain⟨_,aA,aD,_⟩:=qD hg;have hu:inB 0 0 (wrap64 (g.2.1-1))=true:=by
  rw[IntWalk.wrap64_in _ ⟨tO,tO⟩];exact qm.2 ⟨Int.le_refl _,tO⟩
 have HU:=qA hu;obtain⟨N,hN⟩: ∃N:Nat,g.2.1=(N:Int):=⟨g.2.1.toNat,tO⟩;clear hu hg;obtain⟨s,rfl,_,_,ha⟩:=h;obtain⟨A,cap,rfl⟩:=ha.form;obtain⟨r,n,es⟩:=g;simp only at hN aA aD
 subst hN;simp only[Int.toNat_natCast];have mH:1<=N:=tO;have yq:N<=40:=tO;obtain⟨R,hR⟩: ∃R,R=qu es N:=⟨_,rfl⟩;rw[<-hR];have HR:=qA hR;clear hR ha aA;have bx:Wf w w (w.alloc (.cells #[.int .i64 r,.int .i64 N, .slice A es.length cap] 26)):=ZZ;have k0:(w.alloc (.cells #[.int .i64 r,.int .i64 N, .slice A es.length cap] 26)).cell? ⟨w,0,none⟩=some (.int .i64 r):=by simp[go_sem]
 have k1:(w.alloc (.cells #[.int .i64 r,.int .i64 N, .slice A es.length cap] 26)).cell? ⟨w,1,none⟩=some (.int .i64 N):=by simp[go_sem]
 have k2:(w.alloc (.cells #[.int .i64 r,.int .i64 N, .slice A es.length cap] 26)).cell? ⟨w,2,none⟩=some (.slice A es.length cap):=by simp[go_sem]
 have sx:w.heap.size<(w.alloc (.cells #[.int .i64 r,.int .i64 N, .slice A es.length cap] 26)).heap.size:=tZ;have BX:=qA bx;have K0:=qA k0;have K1:=qA k1;have K2:=qA k2;clear k0 k1 k2 bx;go_enter Tryz.func203,Tryz.ntmps203
 go_wp2_with fail;refine(qGk _ (r,(N:Int),es) 0 _ (HG.below BX) aK HU ⟨by decide,by decide⟩).mono ?_
 rintro e w1 ⟨rs,rfl,o1,b1⟩;have HB:=qA (BX.trans (b1.mono BX.size));have s1:=b1.size;have cZ:w.heap.size<w1.heap.size:=tO;have q0:=(b1.cell (p:=⟨w,0,none⟩) sx).trans K0.o;have q1:=(b1.cell (p:=⟨w,1,none⟩) sx).trans K1.o;have q2:=(b1.cell (p:=⟨w,2,none⟩) sx).trans K2.o;have Q0:=qA q0;have Q1:=qA q1;have Q2:=qA q2;have O1:=qA o1;obtain⟨A1,ak,rfl,_⟩:=o1.form;have FL:(qCB es 0).length<=100000:=by
  have:=qGt es 0 (es.length+1) aD
  unfold qCB;omega
 have KF:Wi (∀v:Nat,qHA es v=(decide (degL es v<2)|| !hasB (qCB es 0) v)):=qA fun v=>rfl;clear q0 q1 q2 b1 o1 K0 K1 K2 s1 sx;simp only at O1 FL
 generalize qCB es 0=L at*;go_wp2;go_loopw [4] (fun i wr=> ∃k:Nat,1<=k/\k<=N/\i= .int .i64 k/\R=qAM es N (N-k) k/\Wf w1 w1 wr) (fun i _=>N-(intOf i).toNat)
 case atStart=>exact⟨1,zab _,mH,rfl,HR,zal _ _⟩
 case round=>
  obtain⟨k,js,hk,rfl,kc,ab⟩:=hrel;have kv:=qA kc;have al:=qA ab;have aB:=qA (HB.trans (ab.mono HB.size));have ar:=ab.size;have p0:=(ab.cell (p:=⟨w,0,none⟩) cZ).trans Q0.o;have p1:=(ab.cell (p:=⟨w,1,none⟩) cZ).trans Q1.o;have p2:=(ab.cell (p:=⟨w,2,none⟩) cZ).trans Q2.o;have OL:=qA (O1.below ab);clear kc ab;by_cases ac:k<N
  ·have TF:(k:Int)<(N:Int):=tO;have GK:degL es k<=240:=by have:=qHo es k es.length;rw[zai] at this;omega
   have LB:=qA (KF k);go_wp2_with fail;refine(qFv _ (r,(N:Int),es) k _ (HG.below aB) (by simp only;omega)).mono ?_
   rintro e w2 ⟨rfl,b2⟩;have B2:=qA b2;have s2:=b2.size;have Q4:=qA (OL.below b2);clear b2;simp only
   generalize degL es k=d at*;by_cases hd:d<2
   ·have Iv:(d:Int)<2:=tO;have F:=qA (qCi ac (by rw[LB.o];simp[hd]));go_wp2;go_ret;exact⟨qAP (by rw[kv.o,F.o]),aB.o.trans (B2.mono tO)⟩
   ·have Iv: ¬(d:Int)<2:=tO;go_wp2_with fail;refine(qCy _ L k _ Q4.rd.arg tO).mono ?_
    rintro e' w' ⟨rfl,rfl⟩;rcases h1:hasB L k with _ | _
    ·have F:=qA (qCi ac (by rw[LB.o,h1];simp));go_wp2;go_ret;exact⟨qAP (by rw[kv.o,F.o]),aB.o.trans (B2.mono tO)⟩
    ·have F:=qA (qFP ac (by rw[LB.o,h1];simp[hd]));go_wp2;go_roundw;exact⟨k+1,tO,tO,by go_num,by rw[kv.o,F.o],al.o.trans (B2.mono tO)⟩;exact tM
  ·obtain rfl:k=N:=tO
   have F:Wi (R= -1):=qA (by rw[kv.o,qFt]);go_wp2;go_ret;exact⟨qAP F.o.symm,aB⟩
theorem qCH {g:GrD} (hg:grB g=true) {u:Int} (ls:List Int) (k:Nat) {o:List Int} (h:qAL g.2.1 o):qAL g.2.1 ((ls.take k).foldl (qd g.2.2 u) o):=qIS hg _ h
theorem qGH {es:List EdD} {u x:Int} {o:List Int} (h: ¬0<=qF es u x):qd es u o x=o:=by unfold qd;rw[Wn h]
theorem qGS {es:List EdD} {u x:Int} {o:List Int} (h:0<=qF es u x) (h1:hasB o (qF es u x)=true):qd es u o x=o:=by unfold qd;rw[Wm h,Wm h1]
theorem qEl {es:List EdD} {u x:Int} {o:List Int} (h:0<=qF es u x) (h1:hasB o (qF es u x)=false):qd es u o x=o++ [qF es u x]:=by unfold qd;rw[Wm h,Wn (by simp[h1])]
theorem qDX (v:Wh) (g:GrD) (w:Wg) (h:ArgG w v g) (hf:qO g=true):
  Wk Tryz.prog 214 #[v] w fun e w'=> ∃r,e= .returned r/\OwI w' w r (canO g)/\Wf w w w':=by
 have HG:=qA h;obtain⟨hg,aO⟩:=qE hf;have aK:=qA hg;have HF:=qA hf;have ONE:=qA (qAH aO);obtain⟨aF,aA,aD,_⟩:=qD hg;obtain⟨A,cap,hv⟩: ∃A cap,v= .agg #[.int .i64 g.1, .int .i64 g.2.1, .slice A g.2.2.length cap]:=by
  obtain⟨s,hv,_,_,ha⟩:=h;obtain⟨A,cap,rfl⟩:=ha.form;exact⟨A,cap,hv⟩
 subst hv;obtain⟨rn,kr⟩: ∃rn:Nat,g.1=(rn:Int):=⟨g.1.toNat,tO⟩;have yl:1<=rn:=tO;have vj:rn<=3:=tO;have fG:Wi (canO g=canF g.2.2 (qB rn) 41 0 [0]):=qA (by unfold canO;rw[kr];rfl);have xC:=qA (qAL.one (n:=g.2.1) tO);have OKS:Wi (∀(u:Int) (o:List Int) (k:Nat),qAL g.2.1 o->qAL g.2.1 (((qB rn).take k).foldl (qd g.2.2 u) o)):=qA fun u o k h=>qCH hg _ k h;have OKL:Wi (∀o:List Int,qAL g.2.1 o->o.length<=40):=qA fun o h=>h.len tO tO;have NV:Wi (∀u x,qF g.2.2 u x= -1\/(0<=qF g.2.2 u x/\qF g.2.2 u x<41)):=qA fun u x=>by
  rcases qR hg u x with e | e
  ·exact .inl e
  ·exact .inr ⟨e.1,tO⟩
 have vd:=qA kr;clear hg hf aO h kr;have gH:1<=g.1/\g.1<=3:=aF;clear aA aD aF;have bx:Wf w w (w.alloc (.cells #[.int .i64 g.1,.int .i64 g.2.1, .slice A g.2.2.length cap] 26)):=ZZ;have k0:(w.alloc (.cells #[.int .i64 g.1,.int .i64 g.2.1, .slice A g.2.2.length cap] 26)).cell? ⟨w,0,none⟩=some (.int .i64 g.1):=by simp[go_sem]
 have k1:(w.alloc (.cells #[.int .i64 g.1,.int .i64 g.2.1, .slice A g.2.2.length cap] 26)).cell? ⟨w,1,none⟩=some (.int .i64 g.2.1):=by simp[go_sem]
 have k2:(w.alloc (.cells #[.int .i64 g.1,.int .i64 g.2.1, .slice A g.2.2.length cap] 26)).cell? ⟨w,2,none⟩=some (.slice A g.2.2.length cap):=by simp[go_sem]
 have sx:w.heap.size<(w.alloc (.cells #[.int .i64 g.1,.int .i64 g.2.1, .slice A g.2.2.length cap] 26)).heap.size:=tZ;have BX:=qA bx;have K0:=qA k0;have K1:=qA k1;have K2:=qA k2;clear k0 k1 k2 bx;go_enter Tryz.func214,Tryz.ntmps214
 go_wp2_with fail;have aX:=qj _ g _ (HG.below BX);rw[HF.o] at aX;have ky:=qA aX;clear aX;refine ky.o.mono ?_;rintro e w1 ⟨rfl,b1⟩;clear ky;have HB:=qA (BX.trans (b1.mono BX.size));have s1:=b1.size;have cZ:w.heap.size<w1.heap.size:=tO;have q0:=(b1.cell (p:=⟨w,0,none⟩) sx).trans K0.o;have q1:=(b1.cell (p:=⟨w,1,none⟩) sx).trans K1.o;have q2:=(b1.cell (p:=⟨w,2,none⟩) sx).trans K2.o;clear b1 K0 K1 K2 s1 sx;go_wp2_with fail;have cF:Wf w1 w1 (w1.alloc (.cells #[.int .i64 0] 3)):=(zal _ _).alloc (zab _) _;have o2:OwI (w1.alloc (.cells #[.int .i64 0] 3)) w1 (.slice (some ⟨w1,0,none⟩) 1 1) [0]:=qp w1 [0] (fun x hx=>by simp at hx;subst hx;exact⟨by decide,by decide⟩) tZ (zab _);have s2:w1.heap.size<(w1.alloc (.cells #[.int .i64 0] 3)).heap.size:=tZ;generalize w1.alloc (.cells #[.int .i64 0] 3)=w2 at cF o2 s2⊢;have fN:=qCG rn w2 tO;rw[<-vd.o] at fN;have dX:=qA fN;clear fN;refine dX.o.mono ?_;rintro e w3 ⟨rl,rfl,ol,b3⟩;have s3:=b3.size;have pO:=cF.trans (b3.mono cF.size);have aB:=qA (HB.trans (pO.mono HB.size));have Q0:=qA ((pO.cell (p:=⟨w,0,none⟩) cZ).trans q0);have Q1:=qA ((pO.cell (p:=⟨w,1,none⟩) cZ).trans q1);have Q2:=qA ((pO.cell (p:=⟨w,2,none⟩) cZ).trans q2);have O2:=qA ((o2.below b3).mono (base':=w.heap.size+1) tO);have dH:=qAX rn;generalize qB rn=ls at*;obtain⟨Al,capl,rfl,aZ,dK,_,fJ⟩:=ol.form;obtain⟨bl,rfl,Cm,iW⟩:=fJ tO;unfold maxLen at dK;have OL:=qA ol.rd;have Gv:bl≠w1.heap.size:=tO;clear ol b3 cF o2 pO q0 q1 q2 fJ dX;go_wp2;go_loopw [3,5] (fun out i wo=> ∃(k:Nat) (o:List Int),k<=o.length/\i= .int .i64 k/\qAL g.2.1 o/\canO g=canF g.2.2 ls (41-k) k o/\OwI wo (w.heap.size+1) out o/\RdI wo (.slice (some ⟨bl,0,none⟩) ls.length capl) ls/\out.ownBlock≠some bl/\bl<wo.heap.size/\Wf (w.heap.size+1) w3 wo) (fun _ i _=>41-(intOf i).toNat)
 case atStart=>exact⟨0,[0],tZ,rfl,xC,fG,O2,OL,by simp[zaf];omega,iW,zal _ _⟩
 case round=>
  obtain⟨k,o,hk,rfl,af,jn,aa,aP,ai,ym,ab⟩:=hrel;obtain⟨wo,rfl⟩: ∃wo:Wg,wo=wr:=⟨_,rfl⟩;have fe:=OKL.o o af;have bH:=qA af;have HC:=qA jn;have HO:=qA aa;have dC:=qA aP;have a8:=qA ai;have al:=qA ab;have ar:=ab.size;obtain⟨A1,ak,rfl,_⟩:=aa.form;clear af jn aa aP ai ab;by_cases ac:k<o.length
  ·obtain⟨u,hu⟩: ∃u,o[k]? =some u:=⟨o[k],tZ⟩;have kI:o[k]=u:=by rw[zae ac] at hu;injection hu
   have kX:Wi (canO g=canF g.2.2 ls (41-(k+1)) (k+1) (ls.foldl (qd g.2.2 u) o)):=qA (by
    rw[HC.o,show 41-k=(41-(k+1))+1 by omega,qDq _ _ _ _ _ ac,kI])
   have eE:Wi (∀m:Nat,(((ls.take m).foldl (qd g.2.2 u) o))[k]? =some u):=qA fun m=>qBU _ _ _ _ _ _ hu;have gy:Wi (∀(m:Nat) (hm:m<ls.length),(ls.take (m+1)).foldl (qd g.2.2 u) o=qd g.2.2 u ((ls.take m).foldl (qd g.2.2 u) o) ls[m]):=qA fun m hm=>qEI _ _ _ _ _ hm;have fU:Wi (∀m:Nat,qAL g.2.1 ((ls.take m).foldl (qd g.2.2 u) o)):=qA fun m=>OKS.o u o m bH.o;clear hu kI;go_wp2;go_loopw [3,6] (fun out j wr=> ∃m:Nat,m<=ls.length/\j= .int .i64 m/\OwI wr (w.heap.size+1) out ((ls.take m).foldl (qd g.2.2 u) o)/\RdI wr (.slice (some ⟨bl,0,none⟩) ls.length capl) ls/\out.ownBlock≠some bl/\bl<wr.heap.size/\Wf (w.heap.size+1) wo wr) (fun _ j _=>ls.length-(intOf j).toNat)
   case atStart=>exact⟨0,zau _,rfl,HO,dC,a8,ym,zal _ _⟩
   case round=>
    obtain⟨m,fM,rfl,aa,aP,ai,eJ,a6⟩:=hrel;have xK:=a6.size;have cU:=qA a6;have aU:=qA (aB.trans ((al.trans a6).mono tO));have bZ:w.heap.size<wr.heap.size:=tO;have gC:=al.o.trans a6;have p0:=(gC.cell (p:=⟨w,0,none⟩) (show w.heap.size<w.heap.size+1 by omega)).trans Q0.o;have p1:=(gC.cell (p:=⟨w,1,none⟩) (show w.heap.size<w.heap.size+1 by omega)).trans Q1.o;have p2:=(gC.cell (p:=⟨w,2,none⟩) (show w.heap.size<w.heap.size+1 by omega)).trans Q2.o;have mL:=qA aP;have dG:=qA ai;clear a6 gC;by_cases aj:m<ls.length
    ·have bm:=fU.o m;have yY:=OKL.o _ bm;have dj:=eE.o m;have HS:=qA (gy m aj);obtain⟨_,_,gD,_,aZ⟩:=aP.at tO;obtain⟨rfl,rfl⟩:bl=_/\0=_:=by simpa using gD
     have c0:=aZ m aj;rw[zad] at c0;generalize ls[m]=x at c0 HS;generalize (ls.take m).foldl (qd g.2.2 u) o=om at*;have eV:k<om.length:=(zaq.1 dj).1;have iR:om[k]=u:=by rw[zae eV] at dj;injection dj
     have eZ:=qA aa;obtain⟨A2,ao,rfl,_,_,_,db⟩:=aa.form;obtain⟨b2,rfl,wO,kt⟩:=db tO;have d0:=aa.cellAt k eV;rw[iR] at d0;have NX:=qA (NV u x);have N0:=qA (qGH (es:=g.2.2) (u:=u) (x:=x) (o:=om));have N1:=qA (qGS (es:=g.2.2) (u:=u) (x:=x) (o:=om));have N2:=qA (qEl (es:=g.2.2) (u:=u) (x:=x) (o:=om));have dJ:=qA (fun W (h:ArgG W (.agg #[.int .i64 g.1, .int .i64 g.2.1, .slice A g.2.2.length cap]) g)=>qe _ g u x W h (ONE u x));clear aZ gD aa aP db dj iR bm;go_wp2_with fail;have f0:=BelW.cell p0 bZ;have f1:=BelW.cell p1 bZ;have f2:=BelW.cell p2 bZ;have f3:=BelW.cell c0 eJ;have f4:=BelW.cell d0 kt;(refine qG tK tK ?_;(repeat(go_big_quiet_step (first | (go_at_call 86;exact Calls.bel_of (dJ _ (HG.below (aU.trans ((BelW.h _).mono tO))))))));refine wpQuiet_nil ?_;intro wq hw';obtain⟨pq,ae⟩:=hw';have bq:=pq.h;rw[<-ae] at bq;clear ae pq)
     clear f0 f1 f2 f3 f4 p0 p1 p2 c0 d0;have sq:=bq.size;have HQ:=qA (cU.trans (bq.mono tO));have ff:=qA (eZ.below bq);have jA:=qA (mL.below bq);clear bq;generalize qF g.2.2 u x=y at*;rcases NX.o with hy | hy
     ·subst hy;have F:=qA (N0 tO);go_wp2;go_roundw;exact⟨m+1,tO,by go_num,by rw[HS.o,F.o];exact ff.o,jA.o,dG.o,tO,HQ.o⟩;exact tM
     ·have eK:(0:Int)<=y:=hy.1;have GI:y<41:=hy.2;go_wp2_with fail;refine(qCy _ om y _ ff.rd.arg tO).mono ?_
      rintro e' w' ⟨rfl,rfl⟩;rcases h1:hasB om y with _ | _
      ·have F:=qA (N2 eK h1);have HY:Wi (I64 y):=qA ⟨tO,tO⟩;go_wp2_with (at_builtin;refine qW rfl (.tmp 46) (.tmp 48) rfl _ _ _ (OwI.alloc ff _) rfl _ _ rfl (qU _ _ _) HY.o tB tB ?_;intro v9 wv9 o9 g9 p9)
       have gh:=g9.size;simp at gh
       go_roundw
       case rel=>
        refine⟨m+1,tO,by go_num,by rw[HS.o,F.o];exact o9,(jA.alloc _).grown g9 (fun b hb aL=> ?_),fun e=> ?_,tO,qh HQ.o tO ff.o.1 (zab _) g9⟩
        ·simp[zaf] at hb aL
         have:=dG.o
         simp[zaf] at this
         omega
        ·rcases p9 with p9 | p9
         ·rw[p9] at e;exact dG.o e
         ·rw[p9] at e;simp at e;omega
       case measure=>exact tM
      ·have F:=qA (N1 eK h1);go_wp2;go_roundw;exact⟨m+1,tO,by go_num,by rw[HS.o,F.o];exact ff.o,jA.o,dG.o,tO,HQ.o⟩;exact tM
    ·obtain rfl:m=ls.length:=tO
     rw[zai] at aa;have bm:=fU.o ls.length;rw[zai] at bm;have kZ:=qA bm;have eZ:=qA aa;have aM:k+1<=(ls.foldl (qd g.2.2 u) o).length:=by
      have:=eE.o ls.length
      rw[zai] at this;have:=(zaq.1 this).1
      omega
     obtain⟨A2,ao,rfl,_⟩:=aa.form;clear aa aP ai bm p0 p1 p2;go_wp2;go_roundw;exact⟨k+1,_,aM,by go_num,kZ.o,kX.o,eZ.o,mL.o,dG.o,eJ,al.o.trans cU.o⟩;exact tM
  ·obtain rfl:k=o.length:=tO
   have F:Wi (canO g=o):=qA (by rw[HC.o,qGL]);go_wp2;go_ret;exact⟨_,rfl,by rw[F.o];exact HO.o.mono tO,aB.o.trans (al.mono tO)⟩
def plv:List Int->Int->Int
 | [],_=>0
 | u::o,v=>if u=v then 1 else if plv o v=0 then 0 else plv o v+1
theorem qAu (o:List Int) (v:Int):0<=plv o v/\plv o v<=o.length:=by
 induction o with
 | nil=>simp[plv]
 | cons u o ih=>
   unfold plv;simp only[zaw];split
   ·omega
   ·split<;>omega
theorem qEK {o:List Int} {v:Int}:plv o v=0↔v∉o:=by
 induction o with
 | nil=>simp[plv]
 | cons u o ih=>
   unfold plv;have:=qAu o v
   split
   ·rename_i h
    simp[h]
   ·rename_i h
    rw[List.mem_cons];split
    ·rename_i h0
     constructor
     ·intro _;rintro(e | e)
      ·exact h e.symm
      ·exact ih.1 h0 e
     ·intro _;rfl
    ·rename_i h0
     constructor
     ·intro e;omega
     ·intro hn;exact absurd (ih.2 fun e=>hn (.inr e)) h0
theorem qOo {o:List Int} {u:Int} (hu:u∉o) (v:Int):plv (o++ [u]) v=if v=u then(o.length:Int)+1 else plv o v:=by
 induction o with
 | nil=>
   simp only[List.nil_append,plv,List.length_nil];by_cases h:u=v
   ·simp[h]
   ·have h': ¬v=u:=fun e=>h e.symm;simp[h,h']
 | cons a o ih=>
   have DX:u∉o:=fun e=>hu (by simp[e]);have Pk:a≠u:=fun e=>hu (by simp[e]);have ih:=ih DX;simp only[za6,plv,zaw];by_cases h:a=v
   ·rw[Wm h,Wm h,Wn (fun e=>Pk (h.trans e))]
   ·rw[Wn h,Wn h,ih];by_cases h2:v=u
    ·rw[Wm h2,Wm h2,Wn tO];omega
    ·rw[Wn h2,Wn h2]
theorem qGr {o:List Int} {v v':Int} (h:plv o v=plv o v') (h0:plv o v≠0):v=v':=by
 induction o with
 | nil=>exact absurd rfl h0
 | cons a o ih=>
   have r1:=qAu o v;have r2:=qAu o v';unfold plv at h h0;by_cases e1:a=v
   ·by_cases e2:a=v'
    ·rw[<-e1,<-e2]
    ·rw[Wm e1,Wn e2] at h;split at h<;>omega
   ·by_cases e2:a=v'
    ·rw[Wn e1,Wm e2] at h;split at h<;>omega
    ·rw[Wn e1,Wn e2] at h;rw[Wn e1] at h0;by_cases z1:plv o v=0
     ·rw[Wm z1] at h0;exact absurd rfl h0
     ·by_cases z2:plv o v'=0
      ·rw[Wn z1,Wm z2] at h;omega
      ·rw[Wn z1,Wn z2] at h;exact ih tO z1
def plc (n:Nat) (o:List Int) (d:Int):List Int:=(zav n).map fun v=>plv o (v:Nat)-d
theorem qEf (n:Nat) (o:List Int) (d:Int):(plc n o d).length=n:=by simp[plc]
theorem qKb (n:Nat) (o:List Int) (d:Int) (v:Nat) (h:v<n):(plc n o d)[v]'(by rw[qEf];exact h)=plv o v-d:=by simp[plc]
theorem qKM (n:Nat) (d:Int):plc n [] d=zas n (-d):=by
 apply zaG
 intro i;simp only[plc,plv,za2,List.getElem?_replicate];by_cases h:i<n
 ·simp[h]
 ·simp[h]
theorem qLD (n:Nat) (o:List Int) (d:Int) (k:Nat) (hk:k<o.length) (hd:o.Nodup) (u:Nat) (hu:o[k]=(u:Int)):
  (plc n (o.take k) d).set u ((k:Int)+1-d)=plc n (o.take (k+1)) d:=by
 have hn:(u:Int)∉o.take k:=by
  rw[<-hu];intro hm;obtain⟨j,hj,e⟩:=zaS hm;rw[zay] at e;have jy:j<k:=by rw[zam] at hj;omega
  have:=(zac.1 hd) j k tO hk jy
  exact this e
 rw[zaj hk,hu];have hl:(o.take k).length=k:=by rw[zam];omega
 apply zaG
 intro i;rw[List.getElem?_set];simp only[plc,za2,za8,List.length_range];by_cases hi:i<n
 ·simp only[List.getElem?_range hi,za9];rw[qOo hn,hl];by_cases e:u=i
  ·subst e;simp[hi]
  ·rw[Wn e,Wn tO]
 ·simp only[zaL (show(zav n).length<=i by simp;omega),Option.map_none];split
  ·rename_i e
   rw[Wn tO]
  ·rfl
def rnE (o:List Int) (e:EdD):Option EdD:=if 0<plv o e.1/\0<plv o e.2.2 then some (plv o e.1-1,e.2.1,plv o e.2.2-1) else none
def rnL (es:List EdD) (o:List Int):List EdD:=es.filterMap (rnE o)
def rnG (g:GrD) (o:List Int):GrD:=(g.1,o.length,srt cmpE (rnL g.2.2 o))
theorem qLW (es:List EdD) (o:List Int) (k:Nat) (h:k<es.length):rnL (es.take (k+1)) o=rnL (es.take k) o++(rnE o es[k]).toList:=by
 unfold rnL;rw[zaj h,List.filterMap_append];congr 1
theorem qHy (es:List EdD) (o:List Int):(rnL es o).length<=es.length:=List.length_filterMap_le _ _
theorem qNC {es:List EdD} (o:List Int) (h:es.Nodup):(rnL es o).Nodup:=by
 unfold rnL;unfold List.Nodup at*;rw[List.pairwise_filterMap];refine h.imp fun {a b} gq x hx y hy e=>gq ?_;subst e;unfold rnE at hx hy;split at hx
 ·rename_i ha
  split at hy
  ·rename_i hb
   injection hx with hx
   injection hy with hy
   rw[<-hy] at hx;injection hx with e1 hx
   injection hx with e2 e3
   have i1:=qGr (o:=o) (v:=a.1) (v':=b.1) tO tO;have i3:=qGr (o:=o) (v:=a.2.2) (v':=b.2.2) tO tO;obtain⟨_,_,_⟩:=a;obtain⟨_,_,_⟩:=b;simp only at i1 e2 i3
   rw[i1,e2,i3]
  ·cases hy
 ·cases hx
theorem qHs {g:GrD} (h:grB g=true):Srt cmpE g.2.2/\g.2.2.Nodup:=by
 obtain⟨_,_,_,h4⟩:=qD h;have adj: ∀k (hk:k+1<g.2.2.length),cmpE g.2.2[k] g.2.2[k+1]<0:=fun k hk=>by
  have:=h4 (k+1) hk
  rw[qGd tO hk,zah] at this;have h2:=this.2;simp only[zaH,decide_eq_false_iff_not,Nat.add_sub_cancel] at h2;omega
 have all: ∀d k (hk:k+d+1<g.2.2.length),cmpE (g.2.2[k]'tO) g.2.2[k+d+1]<0:=by
  intro d;induction d with
  | zero=>intro k hk;exact adj k hk
  | succ d ih=>intro k hk;exact qz.trans (ih k tO) (adj (k+d+1) hk)
 have hs:Srt cmpE g.2.2:=by
  unfold Srt;rw[zac];intro i j hi hj dU;have:=all (j-i-1) i tO
  have e:i+(j-i-1)+1=j:=tO;simpa only[e] using this
 refine⟨hs,hs.imp fun {a b} gq e=> ?_⟩;rw[e] at gq;exact qz.irrefl b gq
theorem qAZ {w w':Wg} {row:Option Nat} (h:Wf w w w'):w.grownBy w' row:=⟨h.os,h.tape,h.output,h.size,fun b hb _=>h.block b hb⟩
theorem qAo {w w':Wg} {x b o:Nat} (h:w.grownBy w' (some x)) (hb:b<w.heap.size) (ai:b≠x):w'.cell? ⟨b,o,none⟩=w.cell? ⟨b,o,none⟩:=
 zax (w:=w) (h.block b hb fun e=>ai (by injection e))
theorem qFs {w w':Wg} {x b o:Nat} (h:w.grownBy w' (some x)) (hb:b<w.heap.size) (ai:b≠x):w'.frozen? ⟨b,o,none⟩=w.frozen? ⟨b,o,none⟩:=
 zaA (w:=w) (h.block b hb fun e=>ai (by injection e))
theorem qc (w:Wg) (b o b' o':Nat) (u:Wh) (h:b≠b'):(w.setCell ⟨b',o',none⟩ u).cell? ⟨b,o,none⟩=w.cell? ⟨b,o,none⟩:=
 zax (w:=w) (zaT w _ u b h)
theorem qDS (w:Wg) (b o b' o':Nat) (u:Wh) (h:b≠b'):(w.setCell ⟨b',o',none⟩ u).frozen? ⟨b,o,none⟩=w.frozen? ⟨b,o,none⟩:=
 zaA (w:=w) (zaT w _ u b h)
theorem qCv (v vo:Wh) (g:GrD) (o:List Int) (w:Wg) (h:ArgG w v g) (ho:RdI w vo o) (hg:grB g=true) (af:OrdN g.2.1 o):
  Wk Tryz.prog 163 #[v,vo] w fun e w'=> ∃r,e= .returned (.tuple #[r, .bool true])/\OwG w' w r (rnG g o)/\Wf w w w':=by
 have HG:=qA h;have aK:=qA hg;have bH:=qA af;have kH:=qA ho;obtain⟨aF,aA,aD,_⟩:=qD hg;have gR:=qA (fun e he=>qM hg (e:=e) he);obtain⟨N,hN⟩: ∃N:Nat,g.2.1=(N:Int):=⟨g.2.1.toNat,tO⟩;have fe:o.length<=N:=qBM N o af.1 fun y hy=>by have:=af.2.1 y hy;omega
 have AT:1<=o.length:=af.2.2;have kO:Wi (∀k (hk:k<o.length),∃u:Nat,o[k]=(u:Int)/\u<N):=qA fun k hk=>by
  have:=af.2.1 o[k] tZ
  exact⟨o[k].toNat,tO,tO⟩
 have mT:=qA af.1;clear hg af h;obtain⟨r,n,es⟩:=g;simp only at hN aF aA aD
 subst hN;have mH:1<=N:=tO;have yq:N<=40:=tO;have RM:(N:Int)<=40:=tO;clear aA;obtain⟨A,cap,rfl,HE⟩: ∃A cap,v= .agg #[.int .i64 r, .int .i64 N, .slice A es.length cap]/\Wi (ArgE w (.slice A es.length cap) es):=by
  obtain⟨s,hv,_,_,ha⟩:=HG.o;obtain⟨A,cap,rfl⟩:=ha.form;exact⟨A,cap,hv,qA ha⟩
 obtain⟨Ao,capo,rfl,jn,uu,_⟩:=ho.arg;have kf:es.length<=cap/\cap<=maxLen:=by
  obtain⟨_,_,hv,h1,h2,_⟩:=HE.o;injection hv with _ _ e3
  subst e3;exact⟨h1,h2⟩
 obtain⟨aR,hm⟩:=kf;unfold maxLen at uu hm;clear ho;have bx:Wf w w (((w.alloc (.cells #[.int .i64 r,.int .i64 N, .slice A es.length cap] 26)).alloc (.cells #[.int .i64 0,.int .i64 0, .slice none 0 0] 26)).alloc (.cells #[.int .i64 r,.int .i64 o.length, .slice none 0 0] 26)):=ZZ;go_enter Tryz.func163,Tryz.ntmps163
 go_wp2_with fail;obtain⟨W0,ah⟩: ∃W,W=((w.alloc (.cells #[.int .i64 r,.int .i64 N, .slice A es.length cap] 26)).alloc (.cells #[.int .i64 0,.int .i64 0, .slice none 0 0] 26)).alloc (.cells #[.int .i64 r,.int .i64 o.length, .slice none 0 0] 26):=⟨_,rfl⟩;rw[<-ah] at bx⊢;have aH:W0.heap.size=w.heap.size+3:=by rw[ah];simp
 have b0:W0.cell? ⟨w,0,none⟩=some (.int .i64 r):=by rw[ah];simp[go_sem]
 have b1:W0.cell? ⟨w,1,none⟩=some (.int .i64 N):=by rw[ah];simp[go_sem]
 have b2:W0.cell? ⟨w,2,none⟩=some (.slice A es.length cap):=by rw[ah];simp[go_sem]
 have r0: ∃u,W0.cell? ⟨w.heap.size+1,0,none⟩=some u:=⟨.int .i64 0,by rw[ah];simp[go_sem]⟩;have r1: ∃u,W0.cell? ⟨w.heap.size+1,1,none⟩=some u:=⟨.int .i64 0,by rw[ah];simp[go_sem]⟩;have r2: ∃u,W0.cell? ⟨w.heap.size+1,2,none⟩=some u:=⟨.slice none 0 0,by rw[ah];simp[go_sem]⟩;have rf: ∀j,W0.frozen? ⟨w.heap.size+1,j,none⟩=false:=fun j=>by rw[ah];simp[go_sem]
 have x0:W0.cell? ⟨w.heap.size+1+1,0,none⟩=some (.int .i64 r):=by rw[ah];simp[go_sem]
 have x1:W0.cell? ⟨w.heap.size+1+1,1,none⟩=some (.int .i64 o.length):=by rw[ah];simp[go_sem]
 have x2:W0.cell? ⟨w.heap.size+1+1,2,none⟩=some (.slice none 0 0):=by rw[ah];simp[go_sem]
 have xf: ∀j,W0.frozen? ⟨w.heap.size+1+1,j,none⟩=false:=fun j=>by rw[ah];simp[go_sem]
 clear ah;have BX:=qA bx;have B0:=qA b0;have B1:=qA b1;have B2:=qA b2;have R0:=qA r0;have R1:=qA r1;have R2:=qA r2;have RF:=qA rf;have X0:=qA x0;have X1:=qA x1;have X2:=qA x2;have XF:=qA xf;have aC:=qk _ (r,(N:Int),es) W0 (HG.below bx);rw[aK.o] at aC;have Dv:=qA aC;clear aC b0 b1 b2 r0 r1 r2 rf x0 x1 x2 xf;refine Dv.o.mono ?_;rintro e w1 ⟨rfl,bW⟩;clear Dv;have q1:=(bW.cell (p:=⟨w,1,none⟩) (show w.heap.size<W0.heap.size by omega)).trans B1.o;have s1:=bW.size;have d8:=qA bW;clear bW bx;have g0:((o.length:Int)==0)=false:=by rw[beq_eq_false_iff_ne];omega
 have g1: ¬(N:Int)<(o.length:Int):=tO;obtain⟨i0,ci,cB,bi,bQ⟩:=info_parts qEG;go_wp2_with (at_make;refine wpList_make_full _ rfl _ _ 37 rfl w1 3 i0 (.int .i64 0) 1 Tryz.underlying37 ci cB bi _ _ _ _ N rfl rfl rfl rfl (by rw[bQ];omega) (by unfold maxLen;omega) (zab _) ?_)
 intro w2 hown0 hgrow0;have bU:OwI w2 w1 (.slice (some ⟨w1,0,none⟩) N N) (plc N (o.take 0) 0):=by
  refine⟨?_,fun y hy=> ?_⟩
  ·rw[zbd,qKM,zaM];have:ints (zas N (-0))=zas N (zaU .i64 0):=by simp[ints]
   rw[this];simpa[toList_madeCells_one] using hown0
  ·rw[zbd,qKM] at hy;obtain⟨_,rfl⟩:=List.mem_replicate.1 hy;exact⟨by decide,by decide⟩
 have Ai:=qA bU;have al:=qA (d8.o.grown hgrow0 s1 (fun k h=>by cases h));clear bU hown0 hgrow0 q1 g0 g1;go_wp2;go_loopw [8] (fun i wr=> ∃k:Nat,k<=o.length/\i= .int .i64 k/\OwI wr w1 (.slice (some ⟨w1,0,none⟩) N N) (plc N (o.take k) 0)/\Wf W0 W0 wr) (fun i _=>o.length-(intOf i).toNat)
 case atStart=>exact⟨0,zau _,rfl,Ai,al⟩
 case round=>
  obtain⟨k,hk,rfl,aa,ab⟩:=hrel;have aB:=qA ab;have EJ:=qA (BX.trans (ab.mono tO));have ar:=ab.size;have hP:=(aa.1.lt w1 rfl).2;have uo:=(ab.cell (p:=⟨w,1,none⟩) (show w.heap.size<W0.heap.size by omega)).trans B1.o;have HO:=qA aa;clear ab;by_cases ac:k<o.length
  ·obtain⟨bo,offo,rfl,oV,pG⟩:=(kH.below EJ).at tO;have c0:=pG k ac;obtain⟨u,hu,zz⟩:=kO.o k ac;rw[hu] at c0;have ko:=aa.cellAt u (by rw[qEf];exact zz);have hz:(plc N (o.take k) 0)[u]'(by rw[qEf];exact zz)=0:=by
    rw[qKb _ _ _ _ zz,qEK.2,zaV];intro hm;rw[<-hu] at hm;obtain⟨j,hj,e⟩:=zaS hm;rw[zay] at e;have jy:j<k:=by rw[zam] at hj;omega
    exact(zac.1 mT) j k tO ac jy e
   rw[hz] at ko;have zy:=aa.free u;have cE:=qA (aa.set u ((k:Int)+1) ⟨tO,tO⟩);have yc:Wi ((plc N (o.take k) 0).set u ((k:Int)+1)=plc N (o.take (k+1)) 0):=qA (by
    have:=qLD N o 0 k ac mT.o u hu
    rwa [zaV] at this)
   have j0:(0:Int)<=(u:Int):=tO;have j1:(u:Int)<(N:Int):=tO;have cY:=fun w=>qi (u:Int) 0 ((N:Int)-1) w;have Ml:inB (u:Int) 0 ((N:Int)-1)=true:=qm.2 ⟨tO,tO⟩;simp only[Ml] at cY;have sZ:=qA cY;have bZ:w.heap.size<wr.heap.size:=tO;clear pG hu hz aa cY Ml;go_wp2_with fail;have f0:=BelW.cell uo bZ;have f1:=BelW.cell c0 oV;have f2:=BelW.cell ko hP;(refine qG tK tK ?_;(repeat(go_big_quiet_step (first | (go_at_call 138;exact Calls.bel_same (sZ _)))));refine wpQuiet_nil ?_;intro wq hw';obtain⟨pq,ae⟩:=hw';have bq:=pq.h;rw[<-ae] at bq;clear ae pq)
   replace c0:=f1 ⟨wq,bq⟩;replace ko:=f2 ⟨wq,bq⟩;simp only at c0 ko
   clear f0 f1 f2;have Vf:=(bq.frozen (p:=⟨w1,u,none⟩) hP).trans zy;have sq:=bq.size;have ff:=qA ((HO.below bq).set u ((k:Int)+1) ⟨tO,tO⟩);have gY:=qA (aB.trans (bq.mono tO));clear bq zy uo;go_wp2;go_roundw;exact⟨k+1,tO,by go_num,by rw[<-yc.o];exact ff.o.1,gY.o.grown ff.o.2 tO (fun j hj=>by cases hj;omega)⟩;exact tM
  ·obtain rfl:k=o.length:=tO
   rw[zai] at HO;clear aa;have HP:=qA HO.o;obtain⟨w5,rfl⟩: ∃w5:Wg,w5=wr:=⟨_,rfl⟩;have hX:w.heap.size+1+1<w5.heap.size:=tO;have TN:=qA ((aB.cell (p:=⟨w.heap.size+1+1,2,none⟩) (show w.heap.size+1+1<W0.heap.size by omega)).trans X2.o);have SA:=qA ((aB.cell (p:=⟨w.heap.size+1+1,0,none⟩) (show w.heap.size+1+1<W0.heap.size by omega)).trans X0.o);have QZ:=qA ((aB.cell (p:=⟨w.heap.size+1+1,1,none⟩) (show w.heap.size+1+1<W0.heap.size by omega)).trans X1.o);have PXF:Wi (∀j,w5.frozen? ⟨w.heap.size+1+1,j,none⟩=false):=qA fun j=>(aB.frozen (p:=⟨w.heap.size+1+1,j,none⟩) (show w.heap.size+1+1<W0.heap.size by omega)).trans (XF j);clear uo;have iM:Wi (∀(wr:Wg),w5.grownBy wr (some (w.heap.size+1+1))-> ∀u:Nat,u<N->wr.cell? ⟨w1,u,none⟩=some (.int .i64 (plv o u))):=qA fun wr hg u hu=>by
    rw[qAo hg hP tO,HP.o.cellAt u (by rw[qEf];exact hu),qKb _ _ _ _ hu,zaV]
   have PLR:Wi (∀v:Int,0<=plv o v/\plv o v<=40):=qA fun v=>by have:=qAu o v;omega
   go_wp2;go_loopw [9] (fun i wr=> ∃(k:Nat) (A2:Option Addr) (ao:Nat),k<=es.length/\i= .int .i64 k/\wr.cell? ⟨w.heap.size+1+1,2,none⟩=some (.slice A2 (srt cmpE (rnL (es.take k) o)).length ao)/\OwE wr (w.heap.size+1+1+1) (.slice A2 (srt cmpE (rnL (es.take k) o)).length ao) (srt cmpE (rnL (es.take k) o))/\w5.grownBy wr (some (w.heap.size+1+1))/\wr.cell? ⟨w.heap.size+1+1,0,none⟩=some (.int .i64 r)/\wr.cell? ⟨w.heap.size+1+1,1,none⟩=some (.int .i64 o.length)/\ ∀j,wr.frozen? ⟨w.heap.size+1+1,j,none⟩=false) (fun i _=>es.length-(intOf i).toNat)
   case atStart=>exact⟨0,none,0,zau _,rfl,TN,OwE.nil,zaR.refl _ _,SA,QZ,PXF⟩
   case round=>
    obtain⟨k,A2,ao,fo,rfl,ij,cD,aC,ek,gt,kY⟩:=hrel;have fZ:=qA aC;have nN:=aC.size;have nU:=qA (EJ.o.grown aC tO (fun j hj=>by cases hj;omega));have b2:=(qAo (o:=2) aC (show w.heap.size<w5.heap.size by omega) tO).trans ((aB.cell (p:=⟨w,2,none⟩) (show w.heap.size<W0.heap.size by omega)).trans B2.o);have iP:=qA ij;have jM:=qA ek;have fW:=qA gt;have mO:=qA kY;clear ek gt kY;have dR:=qA cD;clear aC cD;by_cases aj:k<es.length
    ·obtain⟨be,offe,rfl,kF,c0,c1,c2,dl⟩:=(HE.below nU).at aj;obtain⟨e1,e2,e3⟩:=gR.o es[k] tZ;have HS:=qA (qLW es o k aj);have yT:Wi (∀x,rnE o es[k]=some x->srt cmpE (rnL (es.take (k+1)) o)=insF cmpE (srt cmpE (rnL (es.take k) o)) x):=qA fun x hx=>by
      rw[HS.o,hx];unfold srt;rw[za3];rfl
     have tt:Wi (rnE o es[k]=none->rnL (es.take (k+1)) o=rnL (es.take k) o):=qA fun hx=>by rw[HS.o,hx];simp
     have oK:(srt cmpE (rnL (es.take k) o)).length<=120:=by
      have h1:=qCp (c:=cmpE) (rnL (es.take k) o);have h2:=qHy (es.take k) o;rw[zam] at h2;omega
     have ce:=qA dl;generalize es[k]=e at*;obtain⟨f,l,t⟩:=e;simp only at e1 e2 e3 c0 c1 c2
     obtain⟨a,rfl⟩: ∃a:Nat,f=(a:Int):=⟨f.toNat,tO⟩;obtain⟨c,rfl⟩: ∃c:Nat,t=(c:Int):=⟨t.toNat,tO⟩;have pa:=iM.o wr fZ.o a tO;have pc:=iM.o wr fZ.o c tO;obtain⟨SU,SN⟩:=PLR.o a;obtain⟨Qi,Rw⟩:=PLR.o c;have RN:Wi (rnE o ((a:Int),l,(c:Int))=if 0<plv o a/\0<plv o c then some (plv o a-1,l,plv o c-1) else none):=qA rfl;have ja:(a:Int)<(N:Int):=tO;have jc:(c:Int)<(N:Int):=tO;have KW:(0:Int)<=(a:Int):=tO;have MI:(0:Int)<=(c:Int):=tO;have Br:w1.heap.size<wr.heap.size:=tO;have eS:w.heap.size+1+1<wr.heap.size:=tO;have pp:I64 l:=by unfold I64;omega
     have vu:=qA pp;generalize plv o a=pav at*;generalize plv o c=pcv at*;generalize hL:srt cmpE (rnL (es.take k) o)=L at*;clear pp HS ce dl;have bA:Wf wr wr (wr.alloc (.cells #[.int .i64 a,.int .i64 l,.int .i64 c] 97)):=(zal _ _).alloc (zab _) _;by_cases t1:0<pav
     ·by_cases t2:0<pcv
      ·have F:=qA (yT _ (by rw[RN.o,Wm ⟨t1,t2⟩]));go_wp2_with fail;have sA:wr.heap.size<(wr.alloc (.cells #[.int .i64 a,.int .i64 l,.int .i64 c] 97)).heap.size:=tZ;have l0:(wr.alloc (.cells #[.int .i64 a,.int .i64 l,.int .i64 c] 97)).cell? ⟨wr,0,none⟩=some (.int .i64 a):=by simp[go_sem]
       have l1:(wr.alloc (.cells #[.int .i64 a,.int .i64 l,.int .i64 c] 97)).cell? ⟨wr,1,none⟩=some (.int .i64 l):=by simp[go_sem]
       have l2:(wr.alloc (.cells #[.int .i64 a,.int .i64 l,.int .i64 c] 97)).cell? ⟨wr,2,none⟩=some (.int .i64 c):=by simp[go_sem]
       generalize wr.alloc (.cells #[.int .i64 a,.int .i64 l,.int .i64 c] 97)=W at bA sA l0 l1 l2⊢;have la:=(bA.cell (p:=⟨w1,a,none⟩) Br).trans pa;have lc:=(bA.cell (p:=⟨w1,c,none⟩) Br).trans pc;have lx:=(bA.cell (p:=⟨w.heap.size+1+1,2,none⟩) eS).trans iP.o;have Cw:=qA ((bA.cell (p:=⟨w.heap.size+1+1,0,none⟩) eS).trans jM);have CY:=qA ((bA.cell (p:=⟨w.heap.size+1+1,1,none⟩) eS).trans fW);have LXF:Wi (∀j,W.frozen? ⟨w.heap.size+1+1,j,none⟩=false):=qA fun j=>(bA.frozen (p:=⟨w.heap.size+1+1,j,none⟩) eS).trans (mO j);have OW:=qA (dR.below bA);have GW:=qA (fZ.trans (qAZ bA));have jp:w.heap.size+1+1<W.heap.size:=tO;have tP:w1.heap.size<W.heap.size:=tO;have IU:w1.heap.size≠w.heap.size+1+1:=tO;have Qp:wr.heap.size≠w.heap.size+1+1:=tO;clear bA pa pc ij;have QS:IntKind.i64.wrap (pav-1)=pav-1:=by rw[IntKind.wrap_i64];omega
       have Rc:IntKind.i64.wrap (pcv-1)=pcv-1:=by rw[IntKind.wrap_i64];omega
       have f0:=BelW.cell l0 sA;have f1:=BelW.cell l1 sA;have f2:=BelW.cell l2 sA;have f3:=BelW.cell la tP;have f4:=BelW.cell lc tP;have f5:=BelW.cell lx jp;(refine qBb 17 tK tK tK tK (by rfl) (by rfl) ?_;dsimp only[dum3,dumO];(repeat(go_big_quiet_step (fail)));refine wpQuiet_nil ?_;refine⟨⟨_,fun _=>by rfl⟩,?_⟩;intro wq hw';obtain⟨pq,ae⟩:=hw';have bq:=pq.h;rw[<-ae] at bq;clear ae pq;refine⟨_,_,by rfl,?_⟩)
       clear f0 f1 f2 f3 f4 f5;simp only[QS,Rc,za7,zbh,List.map_nil,Array.empty_append,Array.append_empty];refine(show Wk Tryz.prog 166 #[.slice A2 L.length ao, .agg #[.int .i64 (pav-1), .int .i64 l, .int .i64 (pcv-1)]] wq _ from ?_)
       refine(qBy _ L (pav-1,l,pcv-1) wq (OW.below bq).arg ⟨⟨by simp only;omega,by simp only;omega⟩,vu.o,⟨by simp only;omega,by simp only;omega⟩⟩ tO).mono ?_
       rintro e' w9 ⟨r9,rfl,o9,b9⟩;have B9:=qA (bq.trans (b9.mono bq.size));have qx:=(B9.cell (p:=⟨w.heap.size+1+1,2,none⟩) jp).trans lx;have qf:=(B9.frozen (p:=⟨w.heap.size+1+1,2,none⟩) jp).trans (LXF 2);have s9:W.heap.size<=w9.heap.size:=B9.o.size;have O9:=qA o9;obtain⟨A9,bM,rfl,_⟩:=o9.form;clear o9 b9;refine⟨_,rfl,?_⟩;simp only[Act.put,List.setIfInBounds_toArray,zaW,zaX];go_wp2;go_roundw
       case rel=>
        have g9:w5.grownBy w9 (some (w.heap.size+1+1)):=GW.o.trans (qAZ B9);refine⟨k+1,A9,bM,tO,by go_num,by rw[F.o];exact zag _ _ _ qx,?_,g9.trans (qAl _ _ _ _),?_,?_,fun j=>by rw[World.frozen?_setCell];exact(B9.frozen (p:=⟨w.heap.size+1+1,j,none⟩) jp).trans (LXF j)⟩
        ·rw[F.o];exact(O9.mono (by show _<=wq.heap.size;have:=bq.size;omega)).far (show w.heap.size+1+1<w.heap.size+1+1+1 by omega) _
        ·rw[zaa _ _ _ _ tZ];exact(B9.cell (p:=⟨w.heap.size+1+1,0,none⟩) jp).trans Cw.o
        ·rw[zaa _ _ _ _ tZ];exact(B9.cell (p:=⟨w.heap.size+1+1,1,none⟩) jp).trans CY.o
       case measure=>exact tM
      ·have F:=qA (tt (by rw[RN.o,Wn (fun h=>t2 h.2)]));go_wp2;go_roundw;exact⟨k+1,A2,ao,tO,by go_num,by rw[F.o,hL];exact(bA.cell (p:=⟨w.heap.size+1+1,2,none⟩) eS).trans iP.o,by rw[F.o,hL];exact dR.o.below bA,fZ.o.trans (qAZ bA),(bA.cell (p:=⟨w.heap.size+1+1,0,none⟩) eS).trans jM.o,(bA.cell (p:=⟨w.heap.size+1+1,1,none⟩) eS).trans fW.o,fun j=>(bA.frozen (p:=⟨w.heap.size+1+1,j,none⟩) eS).trans (mO j)⟩;exact tM
     ·have F:=qA (tt (by rw[RN.o,Wn (fun h=>t1 h.1)]));go_wp2;go_roundw;exact⟨k+1,A2,ao,tO,by go_num,by rw[F.o,hL];exact(bA.cell (p:=⟨w.heap.size+1+1,2,none⟩) eS).trans iP.o,by rw[F.o,hL];exact dR.o.below bA,fZ.o.trans (qAZ bA),(bA.cell (p:=⟨w.heap.size+1+1,0,none⟩) eS).trans jM.o,(bA.cell (p:=⟨w.heap.size+1+1,1,none⟩) eS).trans fW.o,fun j=>(bA.frozen (p:=⟨w.heap.size+1+1,j,none⟩) eS).trans (mO j)⟩;exact tM
    ·obtain rfl:k=es.length:=tO
     rw[zai] at ij dR;have Ft:=(qAo (o:=0) fZ (show w.heap.size+1<w5.heap.size by omega) tO).trans (aB.cell (p:=⟨w.heap.size+1,0,none⟩) (show w.heap.size+1<W0.heap.size by omega));have Fd:=(qAo (o:=1) fZ (show w.heap.size+1<w5.heap.size by omega) tO).trans (aB.cell (p:=⟨w.heap.size+1,1,none⟩) (show w.heap.size+1<W0.heap.size by omega));have FN:=(qAo (o:=2) fZ (show w.heap.size+1<w5.heap.size by omega) tO).trans (aB.cell (p:=⟨w.heap.size+1,2,none⟩) (show w.heap.size+1<W0.heap.size by omega));have rrf: ∀j,wr.frozen? ⟨w.heap.size+1,j,none⟩=false:=fun j=>((qFs (o:=j) fZ (show w.heap.size+1<w5.heap.size by omega) tO).trans (aB.frozen (p:=⟨w.heap.size+1,j,none⟩) (show w.heap.size+1<W0.heap.size by omega))).trans (RF j);obtain⟨u0,eW⟩:=R0.o;obtain⟨u1,kL⟩:=R1.o;obtain⟨u2,D5⟩:=R2.o;have Cz:=Ft.trans eW;have Dc:=Fd.trans kL;have Bx:=FN.trans D5;have ek:=jM.o;have gt:=fW.o;have fh:=rrf 0;have fu:=rrf 1;have fd:=rrf 2;have Pe:w.heap.size+1<wr.heap.size:=tO;clear Ft Fd FN eW kL D5 rrf;generalize hL:srt cmpE (rnL es o)=L at*;have fB:=qA hL;clear hL;go_wp2;have c0:(((wr.setCell ⟨w.heap.size+1,0,none⟩ (.int .i64 r)).setCell ⟨w.heap.size+1,1,none⟩ (.int .i64 o.length)).setCell ⟨w.heap.size+1,2,none⟩ (.slice A2 L.length ao)).cell? ⟨w.heap.size+1,0,none⟩=some (.int .i64 r):=by
      rw[zaa _ _ _ _ tZ,zaa _ _ _ _ tZ,zag _ _ _ Cz]
     have c1:(((wr.setCell ⟨w.heap.size+1,0,none⟩ (.int .i64 r)).setCell ⟨w.heap.size+1,1,none⟩ (.int .i64 o.length)).setCell ⟨w.heap.size+1,2,none⟩ (.slice A2 L.length ao)).cell? ⟨w.heap.size+1,1,none⟩=some (.int .i64 o.length):=by
      rw[zaa _ _ _ _ tZ];exact zag _ _ _ ((zaa _ _ _ _ tZ).trans Dc)
     have c2:(((wr.setCell ⟨w.heap.size+1,0,none⟩ (.int .i64 r)).setCell ⟨w.heap.size+1,1,none⟩ (.int .i64 o.length)).setCell ⟨w.heap.size+1,2,none⟩ (.slice A2 L.length ao)).cell? ⟨w.heap.size+1,2,none⟩=some (.slice A2 L.length ao):=
      zag _ _ _ ((zaa _ _ _ _ tZ).trans ((zaa _ _ _ _ tZ).trans Bx))
     have bw:Wf w w (((wr.setCell ⟨w.heap.size+1,0,none⟩ (.int .i64 r)).setCell ⟨w.heap.size+1,1,none⟩ (.int .i64 o.length)).setCell ⟨w.heap.size+1,2,none⟩ (.slice A2 L.length ao)):=(by repeat(first | exact .refl _ _ | (refine BxS ?_ _) | (refine qC ?_ _) | (refine zan ?_) | (refine BxA ?_ _) | (refine BxT ?_ (Hid.out nU))));have ow:OwE (((wr.setCell ⟨w.heap.size+1,0,none⟩ (.int .i64 r)).setCell ⟨w.heap.size+1,1,none⟩ (.int .i64 o.length)).setCell ⟨w.heap.size+1,2,none⟩ (.slice A2 L.length ao)) (w.heap.size+1+1+1) (.slice A2 L.length ao) L:=
      ((dR.o.far tB _).far tB _).far tB _
     generalize ((wr.setCell ⟨w.heap.size+1,0,none⟩ (.int .i64 r)).setCell ⟨w.heap.size+1,1,none⟩ (.int .i64 o.length)).setCell ⟨w.heap.size+1,2,none⟩ (.slice A2 L.length ao)=wf at*;refine Wj (v:= .tuple #[.agg #[.int .i64 r, .int .i64 o.length, .slice A2 L.length ao], .bool true]) (by simp[results,Tryz.results163,go_sem,c0,c1,c2]) rfl ⟨_,rfl,⟨.slice A2 L.length ao,?_,?_,?_,?_⟩,bw⟩
     ·rfl
     ·show I64 r
      unfold I64;omega
     ·show I64 (o.length:Int)
      unfold I64;omega
     ·show OwE wf w (.slice A2 L.length ao) (srt cmpE (rnL es o))
      rw[fB.o];exact ow.mono tO
theorem qDT (v vo:Wh) (g:GrD) (o:List Int) (w:Wg) (h:ArgG w v g) (ho:RdI w vo o) (hg:grB g=true) (af:qAL g.2.1 o):
  Wk Tryz.prog 163 #[v,vo] w fun e w'=> ∃r,e= .returned (.tuple #[r, .bool true])/\OwG w' w r (rnG g o)/\Wf w w w':=qCv v vo g o w h ho hg af.toN
theorem qEr {g:GrD} (h1:1<=g.1/\g.1<=3) (h2:1<=g.2.1/\g.2.1<=40) (h3:g.2.2.length<=120) (hs:Srt cmpE g.2.2)
  (he: ∀e∈g.2.2,(0<=e.1/\e.1<g.2.1)/\(1<=e.2.1/\e.2.1<=g.1)/\(0<=e.2.2/\e.2.2<g.2.1)):grB g=true:=by
 have hw:wrap64 (g.2.1-1)=g.2.1-1:=by unfold wrap64;omega
 have ho: ∀k (hk:k<g.2.2.length),qAh g.1 g.2.1 g.2.2[k]=true:=fun k hk=>by
  obtain⟨⟨a1,a2⟩,⟨b1,b2⟩,c1,c2⟩:=he g.2.2[k] tZ;unfold qAh;rw[hw];simp only[zah];exact⟨⟨qm.2 ⟨tO,tO⟩,qm.2 ⟨tO,tO⟩⟩,qm.2 ⟨tO,tO⟩⟩
 unfold grB;simp only[zah,decide_eq_true_eq,zak,zar];refine⟨⟨⟨qm.2 h1,qm.2 h2⟩,h3⟩,fun k hk=> ?_⟩;rcases Nat.eq_zero_or_pos k with rfl | h0
 ·rw[qGP hk];exact ho 0 hk
 ·rw[qGd h0 hk,ho k hk];have:=(zac.1 hs) (k-1) k tO hk tO
  simp only[zbg,zaH,decide_eq_false_iff_not];omega
theorem qRD {o:List Int} {r n:Int} {e x:EdD} (he:(0<=e.1/\e.1<n)/\(1<=e.2.1/\e.2.1<=r)/\(0<=e.2.2/\e.2.2<n)) (h:rnE o e=some x):
  (0<=x.1/\x.1<o.length)/\(1<=x.2.1/\x.2.1<=r)/\(0<=x.2.2/\x.2.2<o.length):=by
 unfold rnE at h;split at h
 ·rename_i hp
  injection h with h
  subst h;have h1:=qAu o e.1;have h2:=qAu o e.2.2;simp only
  omega
 ·cases h
theorem qHt {g:GrD} {o:List Int} (hg:grB g=true) (ho:OrdN g.2.1 o):grB (rnG g o)=true:=by
 obtain⟨h1,h2,h3,_⟩:=qD hg;have fe:o.length<=g.2.1.toNat:=qBM g.2.1.toNat o ho.1 fun y hy=>by have:=ho.2.1 y hy;omega
 have AT:1<=o.length:=ho.2.2;have et:=qAq qz (rnL g.2.2 o);refine qEr h1 ⟨by show(1:Int)<=(o.length:Int);omega,by show(o.length:Int)<=40;omega⟩ ?_ et.1 fun e he=> ?_
 ·have a:=qCp (c:=cmpE) (rnL g.2.2 o);have b:=qHy g.2.2 o;show(srt cmpE (rnL g.2.2 o)).length<=120
  omega
 ·have hm:=(et.2 e).1 he;unfold rnL at hm;obtain⟨d,hd,hx⟩:=zaD.1 hm;exact qRD (qM hg hd) hx
theorem qHx {g:GrD} {o:List Int} (hg:grB g=true) (ho:qAL g.2.1 o):grB (rnG g o)=true:=qHt hg ho.toN
def delO (n:Nat) (x:Int):List Int:=((zav n).map fun v=>((v:Nat):Int)).filter fun y=>decide (y≠x)
theorem qCA (n:Nat) (x:Int):delO (n+1) x=if(n:Int)≠x then delO n x++ [(n:Int)] else delO n x:=by
 unfold delO;rw[zba,zbb,List.filter_append];by_cases h:(n:Int)=x<;>simp[h]
theorem qBp {n:Nat} {x y:Int}:y∈delO n x↔(0<=y/\y<n)/\y≠x:=by
 unfold delO;simp only[List.mem_filter,zaY,zar,decide_eq_true_eq];constructor
 ·rintro⟨⟨v,hv,rfl⟩,h⟩
  exact⟨⟨tO,tO⟩,h⟩
 ·rintro⟨⟨h0,h1⟩,h⟩
  exact⟨⟨y.toNat,tO,tO⟩,h⟩
theorem qFm (n:Nat) (x:Int):(delO n x).Nodup:=by
 induction n with
 | zero=>exact List.nodup_nil
 | succ n ih=>
   rw[qCA];split
   ·rw[List.nodup_append];refine⟨ih,tZ,fun a ha b hb e=> ?_⟩;have:=(qBp.1 ha).1.2
    simp only[zat] at hb;omega
   ·exact ih
theorem qMd {n:Nat} {x:Int} (hn:1<=n) (hx:1<=x):(delO n x)[0]? =some 0:=by
 obtain⟨m,rfl⟩: ∃m,n=m+1:=⟨n-1,tO⟩;induction m with
 | zero=>
   rw[qCA,Wm tO];rfl
 | succ m ih=>
   rw[qCA];have:=ih tO
   split
   ·rw[List.getElem?_append_left (by
     cases h:delO (m+1) x with
     | nil=>rw[h] at this;cases this
     | cons _ _=>simp)]
    exact this
   ·exact this
theorem qDZ {n:Nat} {x:Int} (hn:1<=n) (hx:1<=x):qAL (n:Int) (delO n x):=
 ⟨qFm n x,fun y hy=>(qBp.1 hy).1,qMd hn hx⟩
theorem qOt {n:Nat} {x:Int} (hx:0<=x) (GR:x<n):(delO n x).length+1<=n:=by
 have h1:(delO n x).length<=n-1:=by
  have hn:=qFm n x;have key:=qBM (n-1) ((delO n x).map fun y=>if y<x then y else y-1) ?_ ?_
  ·rwa [za8] at key
  ·unfold List.Nodup at*;rw[List.pairwise_map];refine hn.imp_of_mem fun {a b} ha hb gq e=>gq ?_;have h1:=(qBp.1 ha).2;have h2:=(qBp.1 hb).2;split at e<;>split at e<;>omega
  ·intro y hy;obtain⟨z,hz,rfl⟩:=zaY.1 hy;obtain⟨⟨a,b⟩,c⟩:=qBp.1 hz;split<;>omega
 omega
theorem qEQ (es:List EdD) (n:Nat): ∀f v:Nat,qAM es n f v= -1\/((v:Int)<=qAM es n f v/\qAM es n f v<n)
 | 0,v=> .inl rfl
 | f+1,v=>by
   unfold qAM;split
   ·split
    ·right;omega
    ·rcases qEQ es n f (v+1) with h | h
     ·exact .inl h
     ·right;omega
   ·exact .inl rfl
theorem qAv (es:List EdD) (n:Nat):qu es n= -1\/(1<=qu es n/\qu es n<n):=by
 have:=qEQ es n (n-1) 1
 unfold qu;omega
theorem qOx (v:Wh) (n:Int) (w:Wg) (hn:n=0\/n=1):
  Wk Tryz.prog 243 #[v, .int .i64 0, .int .i64 n] w fun e w'=>e= .returned (.tuple #[])/\w=w':=by
 rcases hn with rfl | rfl
 all_goals (
  go_enter Tryz.func243,Tryz.ntmps243
  go_wp2;refine wp_loop_rounds 1 ?_;rw[rounds_succ];go_wp2;go_end0
  exact⟨rfl,rfl⟩)
theorem qMo (n:Int) (w:Wg) (hn:n=0\/n=1):
  Wk Tryz.prog 253 #[.int .u64 n] w fun e w'=>(∃l:Int,e= .returned (.int .i64 l))/\w=w':=by
 rcases hn with rfl | rfl
 ·go_enter Tryz.func253,Tryz.ntmps253
  go_wp2;go_ret;exact⟨⟨_,rfl⟩,rfl⟩
 ·go_enter Tryz.func253,Tryz.ntmps253
  go_wp2;go_ret;exact⟨⟨_,rfl⟩,rfl⟩
theorem qPL (n:Int) (w:Wg) (hn:n=0\/n=1):
  Wk Tryz.prog 234 #[.int .u64 n] w fun e w'=>(∃l:Int,e= .returned (.int .i64 l))/\w=w':=by
 have h:=qMo n w hn;have HN:=qA h;clear h;rcases hn with rfl | rfl
 all_goals (
  go_enter Tryz.func234,Tryz.ntmps234
  go_wp2_with fail;refine HN.o.mono ?_;rintro e w' ⟨⟨l,rfl⟩,rfl⟩;go_wp2;go_ret;exact⟨⟨_,rfl⟩,rfl⟩)
theorem qPT (v:Wh) (n:Int) (l:Int) (w:Wg) (hn:n=0\/n=1):
  Wk Tryz.prog 233 #[v, .int .i64 0, .int .i64 n, .int .i64 l] w fun e w'=>e= .returned (.tuple #[])/\w=w':=by
 have h:=qOx v n w hn;have HN:=qA h;clear h;rcases hn with rfl | rfl
 all_goals (
  go_enter Tryz.func233,Tryz.ntmps233
  go_wp2;refine wp_loop_rounds 1 ?_;rw[rounds_succ];go_wp2_with fail;refine HN.o.mono ?_;rintro e w' ⟨rfl,rfl⟩;go_wp2;exact Wj (v:= .tuple #[]) (by simp[results,Tryz.results233,go_sem]) rfl ⟨rfl,rfl⟩)
theorem qNb (v:Wh) (xs:List Int) (w:Wg) (h:RdI w v xs) (hn:xs.length<=1):
  Wk Tryz.prog 209 #[v] w fun e w'=>e= .returned (.tuple #[])/\w=w':=by
 obtain⟨A,cap,rfl,_⟩:=h.arg;have eX:(xs.length:Int)=0\/(xs.length:Int)=1:=tO;have H1:=qA (qPL (xs.length:Int) w eX);have H2:=qA (fun l=>qPT (.slice A xs.length cap) (xs.length:Int) l w eX);have hw:IntKind.u64.wrap (xs.length:Int)=(xs.length:Int):=by
  rcases eX with h | h<;>rw[h]<;>decide+kernel
 clear eX h;go_enter Tryz.func209,Tryz.ntmps209
 go_wp2_with fail;refine H1.o.mono ?_;rintro e w' ⟨⟨l,rfl⟩,rfl⟩;go_wp2_with fail;refine(H2 l).mono ?_
 rintro e w' ⟨rfl,rfl⟩;go_wp2;go_end0
 exact⟨rfl,rfl⟩
theorem qIj (A:Option Addr) (n cap:Nat) (w:Wg) (hn:n<=1):
  Wk Tryz.prog 210 #[.slice A n cap] w fun e w'=>e= .returned (.slice A n cap)/\w=w':=by
 have h1:(n:Int)<2:=tO;go_enter Tryz.func210,Tryz.ntmps210
 go_wp2;go_ret;exact⟨rfl,rfl⟩
theorem qFd (v:Wh) (g:GrD) (u x:Int) (w:Wg) (h:ArgG w v g) (hone:(qAJ g.2.2 u x).length<=1) (fX: ∀e∈g.2.2,1<=e.2.1):
  Wk Tryz.prog 161 #[v, .int .i64 u, .int .i64 x] w fun e w'=> ∃r,e= .returned r/\OwI w' w r (qAJ g.2.2 u x)/\Wf w w w':=by
 obtain⟨s,rfl,_,_,ha⟩:=h;have H:=qA ha;obtain⟨A,cap,rfl,aR,hm,_,hr,_⟩:=ha;have HR:=qA hr;unfold maxLen at hm;clear hr;have Ju:=qA fX;clear fX;go_enter Tryz.func161,Tryz.ntmps161
 go_wp2;have hb:Wf w w ((w.alloc (.cells #[.int .i64 g.1,.int .i64 g.2.1, .slice A g.2.2.length cap] 26)).alloc (.cells #[] 3)):=ZZ;have k2:((w.alloc (.cells #[.int .i64 g.1,.int .i64 g.2.1, .slice A g.2.2.length cap] 26)).alloc (.cells #[] 3)).cell? ⟨w,2,none⟩=some (.slice A g.2.2.length cap):=by simp[go_sem]
 have cZ:w.heap.size+1<((w.alloc (.cells #[.int .i64 g.1,.int .i64 g.2.1, .slice A g.2.2.length cap] 26)).alloc (.cells #[] 3)).heap.size:=tZ;have o0:OwI ((w.alloc (.cells #[.int .i64 g.1,.int .i64 g.2.1, .slice A g.2.2.length cap] 26)).alloc (.cells #[] 3)) (w.heap.size+1) (.slice (some ⟨w.heap.size+1,0,none⟩) 0 0) []:=qAc (w.alloc (.cells #[.int .i64 g.1,.int .i64 g.2.1, .slice A g.2.2.length cap] 26)) [] (w.heap.size+1) tZ qt tZ (zab _);generalize (w.alloc (.cells #[.int .i64 g.1,.int .i64 g.2.1, .slice A g.2.2.length cap] 26)).alloc (.cells #[] 3)=w1 at hb k2 cZ o0⊢;have HB:=qA hb;have K2:=qA k2;have O0:=qA o0;clear hb k2 o0;go_loopw [7,14] (fun out i wr=> ∃k:Nat,k<=g.2.2.length/\i= .int .i64 k/\OwI wr (w.heap.size+1) out (qAJ (g.2.2.take k) u x)/\Wf (w.heap.size+1) w1 wr) (fun _ i _=>g.2.2.length-(intOf i).toNat)
 case atStart=>exact⟨0,zau _,rfl,O0,zal _ _⟩
 case round=>
  obtain⟨k,hk,rfl,aa,ab⟩:=hrel;have ar:=ab.size;have aB:=qA (HB.trans (ab.mono tO));have p2:=(ab.cell (p:=⟨w,2,none⟩) (show w.heap.size<w.heap.size+1 by omega)).trans K2.o;have HO:=qA aa;have al:=qA ab;obtain⟨A1,ak,rfl,du,fM,_,_⟩:=aa.form;clear ab;by_cases ac:k<g.2.2.length
  ·obtain⟨b,off,rfl,cX,c0,c1,c2,_⟩:=(H.below aB).at ac;have HS:=qA (qGo g.2.2 u x k ac);have HX:=qA (HR g.2.2[k] tZ);have dX:=qA (Ju g.2.2[k] tZ);have bk:=qEb g.2.2 u x (k+1);have bh:(qAJ (g.2.2.take k) u x).length<=1:=by have:=qEb g.2.2 u x k;omega
   have GO:Wi ((qAJ (g.2.2.take (k+1)) u x).length<=1):=qA tO;clear bk aa;generalize g.2.2[k]=e at*;obtain⟨f,l,t⟩:=e;simp only at c0 c1 c2
   have keep:mt u x (f,l,t)=none->qAJ (g.2.2.take (k+1)) u x=qAJ (g.2.2.take k) u x:=fun e=>by rw[HS.o,e];simp
   have KE:=qA keep;have put: ∀y,mt u x (f,l,t)=some y->qAJ (g.2.2.take k) u x= []/\qAJ (g.2.2.take (k+1)) u x= [y]:=fun y e=>by
    have h1:=HS.o;have h2:=GO.o;rw[e] at h1;rw[h1] at h2;simp at h2
    refine⟨h2,by rw[h1,h2];rfl⟩
   have PU:=qA put;clear keep put;by_cases hp:0<x
   ·have hn: ¬x<0:=tO;rcases e1:(l==x) with _ | _
    ·have F:=qA (KE (by simp at e1;simp[mt,hp,e1]));go_wp2;go_roundw;exact⟨k+1,tO,by go_num,by rw[F.o];exact HO.o.alloc _,al.o.alloc tO _⟩;exact tM
    ·rcases e2:(f==u) with _ | _
     ·have F:=qA (KE (by simp at e2;simp[mt,hp,e2]));go_wp2;go_roundw;exact⟨k+1,tO,by go_num,by rw[F.o];exact HO.o.alloc _,al.o.alloc tO _⟩;exact tM
     ·have F:=qA (PU t (by simp at e1 e2;simp[mt,hp,e1,e2]));go_wp2_with (at_builtin;refine qW rfl (.tmp 33) (.tmp 36) rfl _ _ _ (OwI.alloc (OwI.alloc HO _) _) rfl (wr.heap.size+1) t rfl (by simp[go_sem]) HX.o.2.2 tO (by simp;omega) ?_;intro v9 wv9 o9 g9 p9)
      go_roundw;exact⟨k+1,tO,by go_num,by have:=o9;rw[F.o.1] at this;rw[F.o.2];exact this,qh (B:=w.heap.size+1) (al.alloc tO _) (by simp;omega) (OwI.alloc HO _).1 (zab _) g9⟩;exact tM
   ·by_cases hn:x<0
    ·rcases e0:(x != -9223372036854775808) with _ | _
     ·have ek:x= -9223372036854775808:=by simpa using e0
      have F:=qA (KE (by
       have h1:wrap64 (-x)= -9223372036854775808:=by rw[ek];decide+kernel
       have h2:=dX.o;unfold mt;rw[Wn hp,Wm hn,h1,Wn (fun h=>by have:=h.1;simp only at this;omega)]))
      go_wp2;go_roundw;exact⟨k+1,tO,by go_num,by rw[F.o];exact HO.o.alloc _,al.o.alloc tO _⟩;exact tM
     rcases e1:(l==wrap64 (-x)) with _ | _
     ·have F:=qA (KE (by simp at e1;simp[mt,hp,hn,e1]));go_wp2;go_roundw;exact⟨k+1,tO,by go_num,by rw[F.o];exact HO.o.alloc _,al.o.alloc tO _⟩;exact tM
     ·rcases e2:(t==u) with _ | _
      ·have F:=qA (KE (by simp at e2;simp[mt,hp,hn,e2]));go_wp2;go_roundw;exact⟨k+1,tO,by go_num,by rw[F.o];exact HO.o.alloc _,al.o.alloc tO _⟩;exact tM
      ·have F:=qA (PU f (by simp at e1 e2;simp[mt,hp,hn,e1,e2]));go_wp2_with (at_builtin;refine qW rfl (.tmp 58) (.tmp 61) rfl _ _ _ (OwI.alloc (OwI.alloc HO _) _) rfl (wr.heap.size+1) f rfl (by simp[go_sem]) HX.o.1 tO (by simp;omega) ?_;intro v9 wv9 o9 g9 p9)
       go_roundw;exact⟨k+1,tO,by go_num,by have:=o9;rw[F.o.1] at this;rw[F.o.2];exact this,qh (B:=w.heap.size+1) (al.alloc tO _) (by simp;omega) (OwI.alloc HO _).1 (zab _) g9⟩;exact tM
    ·have F:=qA (KE (by simp[mt,hp,hn]));go_wp2;go_roundw;exact⟨k+1,tO,by go_num,by rw[F.o];exact HO.o.alloc _,al.o.alloc tO _⟩;exact tM
  ·obtain rfl:k=g.2.2.length:=tO
   clear aa;rw[zai];rw[zai] at HO du;have eX:(qAJ g.2.2 u x).length<=1:=hone;go_wp2_with fail;refine(qNb _ _ _ HO.rd eX).mono ?_
   rintro e wz ⟨rfl,rfl⟩;go_wp2_with fail;refine(qIj _ _ _ _ eX).mono ?_
   rintro e wz ⟨rfl,rfl⟩;go_wp2;go_ret;exact⟨_,rfl,HO.mono (base':=w.heap.size) tO,aB.o⟩
theorem qAI (v:Wh) (g:GrD) (u x:Int) (w:Wg) (h:ArgG w v g) (hone:(qAJ g.2.2 u x).length<=1) (fX: ∀e∈g.2.2,1<=e.2.1):
  Wk Tryz.prog 80 #[v, .int .i64 u, .int .i64 x] w fun e w'=>e= .returned (.int .i64 (qF g.2.2 u x))/\Wf w w w':=by
 have H:=qA h;obtain⟨s,rfl,_,_,ha⟩:=h;obtain⟨A,cap,rfl⟩:=ha.form;obtain⟨R,hR⟩: ∃R,R=qF g.2.2 u x:=⟨_,rfl⟩;rw[<-hR];unfold qF at hR;have HR:=qA hR;clear hR;go_enter Tryz.func80,Tryz.ntmps80
 go_wp2_with fail;have hb:Wf w w (w.alloc (.cells #[.int .i64 g.1,.int .i64 g.2.1, .slice A g.2.2.length cap] 26)):=ZZ;refine(qFd _ g u x _ (H.below hb) hone fX).mono ?_
 rintro e w1 ⟨r,rfl,o1,b1⟩;have B1:=qA (hb.trans (b1.mono hb.size));generalize qAJ g.2.2 u x=L at o1 HR;clear hb b1 ha;obtain⟨A1,ak,rfl,aJ,fM,_,_⟩:=o1.form;match L,o1,HR with
 | [],o1,HR=>
   have F:Wi (R= -1):=HR;clear o1;go_wp2;go_ret;exact⟨qAP F.o.symm,B1⟩
 | y::L,o1,HR=>
   obtain rfl:R=y:=HR.o
   clear HR;obtain⟨b,off,rfl,cX,hc⟩:=o1.rd.at tZ;have c0:=hc 0 tZ;simp only[List.getElem_cons_zero,Nat.add_zero] at c0;clear o1 hc;go_wp2;go_ret;exact⟨rfl,B1⟩
structure TreeW (bb P N:Nat) (w:Wg) (ord:Wh) (o:List Int):Prop where
 ex: ∃vs:List Wh,vs.length=N/\w.ownsRow bb 37 1 (.slice (some ⟨P,0,none⟩) N N) N vs/\ ∀(j:Nat) (hj:j<vs.length),
  ((j:Int)∉o/\vs[j]= .slice none 0 0)\/((j:Int)∈o/\ ∃(b cap:Nat) (ws:List Int),vs[j]= .slice (some ⟨b,0,none⟩) ws.length cap/\ws.length<=o.length/\RdI w vs[j] ws/\b≠P/\ord.ownBlock≠some b/\b<w.heap.size)
 ne:ord.ownBlock≠some P
section
variable {bb P N:Nat} {w w':Wg} {ord:Wh} {o:List Int}
theorem TreeW.lt (h:TreeW bb P N w ord o):bb<=P/\P<w.heap.size:=by
 obtain⟨vs,_,h2,_⟩:=h.ex;exact h2.lt P rfl
theorem TreeW.at_new (h:TreeW bb P N w ord o) {y:Nat} (hy:y<N) (hn:(y:Int)∉o):w.cell? ⟨P,y,none⟩=some (.slice none 0 0):=by
 obtain⟨vs,h1,h2,h3⟩:=h.ex;rw[zaB.cellAt h2 y tO];rcases h3 y tO with ⟨_,h4⟩ | ⟨h4,_⟩
 ·rw[zae tO,h4]
 ·exact absurd h4 hn
theorem TreeW.at_old (h:TreeW bb P N w ord o) {y:Nat} (hy:y<N) (hn:(y:Int)∈o):
  ∃(b cap:Nat) (ws:List Int),w.cell? ⟨P,y,none⟩=some (.slice (some ⟨b,0,none⟩) ws.length cap)/\ws.length<=o.length/\RdI w (.slice (some ⟨b,0,none⟩) ws.length cap) ws:=by
 obtain⟨vs,h1,h2,h3⟩:=h.ex;rw[zaB.cellAt h2 y tO];rcases h3 y tO with ⟨h4,_⟩ | ⟨_,b,cap,ws,e1,e2,e3,_⟩
 ·exact absurd hn h4
 ·rw[e1] at e3;exact⟨b,cap,ws,by rw[zae tO,e1],e2,e3⟩
theorem TreeW.free (h:TreeW bb P N w ord o) (j:Nat):w.frozen? ⟨P,j,none⟩=false:=by
 obtain⟨vs,h1,h2,h3⟩:=h.ex;exact zaB.frozenAt h2 j
theorem TreeW.below (h:TreeW bb P N w ord o) (hb:Wf w w w'):TreeW bb P N w' ord o:=by
 obtain⟨vs,h1,h2,h3⟩:=h.ex;refine⟨⟨vs,h1,qP h2 hb,fun j hj=> ?_⟩,h.ne⟩;rcases h3 j hj with h4 | ⟨h4,b,cap,ws,e1,e2,e3,e4,e5,e6⟩
 ·exact .inl h4
 ·exact .inr ⟨h4,b,cap,ws,e1,e2,e3.below hb,e4,e5,by have:=hb.size;omega⟩
theorem TreeW.set (h:TreeW bb P N w ord o) {y:Nat} (hy:y<N) {b cap:Nat} {ws:List Int} (hr:RdI w (.slice (some ⟨b,0,none⟩) ws.length cap) ws) (hl:ws.length<=o.length+1) (hb:b≠P) (ho:ord.ownBlock≠some b) (ac:b<w.heap.size):
  TreeW bb P N (w.setCell ⟨P,y,none⟩ (.slice (some ⟨b,0,none⟩) ws.length cap)) ord (o++ [(y:Int)]):=by
 obtain⟨vs,h1,h2,h3⟩:=h.ex;obtain⟨s1,s2⟩:=zaB.stored h2 y (.slice (some ⟨b,0,none⟩) ws.length cap);have ar:(w.setCell ⟨P,y,none⟩ (.slice (some ⟨b,0,none⟩) ws.length cap)).heap.size=w.heap.size:=tZ;have hg:w.grownBy (w.setCell ⟨P,y,none⟩ (.slice (some ⟨b,0,none⟩) ws.length cap)) (some P):=qAl _ _ _ _;refine⟨⟨_,by simpa using h1,s1,fun j hj=> ?_⟩,h.ne⟩;have jR:j<vs.length:=by simpa using hj
 by_cases hjy:j=y
 ·subst hjy;refine .inr ⟨tZ,b,cap,ws,tZ,by simp;omega,?_,hb,ho,tO⟩;rw[List.getElem_set_self];exact hr.grown hg fun x hx gw=>by simp[zaf] at hx gw;omega
 ·rw[List.getElem_set_ne (Ne.symm hjy)];rcases h3 j jR with ⟨h4,h5⟩ | ⟨h4,b',cap',ws',e1,e2,e3,e4,e5,e6⟩
  ·refine .inl ⟨?_,h5⟩;rw[zaC,zat];rintro(h6 | h6)
   ·exact h4 h6
   ·omega
  ·refine .inr ⟨zaO _ h4,b',cap',ws',e1,by simp;omega,e3.grown hg fun x hx gw=> ?_,e4,e5,tO⟩;rw[e1] at hx;simp[zaf] at hx gw
   omega
theorem TreeW.lit (h:TreeW bb P N w (.slice none 0 0) o) (ob:Obj) (n c:Nat):TreeW bb P N (w.alloc ob) (.slice (some ⟨w,0,none⟩) n c) o:=by
 have ac:=h.lt;obtain⟨vs,h1,h2,h3⟩:=h.ex;refine⟨⟨vs,h1,qP h2 ((zal w w).alloc (zab _) ob),fun j hj=> ?_⟩,by simp[zaf];omega⟩;rcases h3 j hj with h4 | ⟨h4,b,cap,ws,e1,e2,e3,e4,e5,e6⟩
 ·exact .inl h4
 ·exact .inr ⟨h4,b,cap,ws,e1,e2,e3.alloc _,e4,by simp[zaf];omega,by simp;omega⟩
theorem TreeW.push (h:TreeW bb P N w ord o) {w9:Wg} {v9:Wh} {ob:Obj} (hg:(w.alloc ob).grownBy w9 ord.ownBlock) (hp:v9.ownBlock=ord.ownBlock\/v9.ownBlock=some (w.alloc ob).heap.size):TreeW bb P N w9 v9 o:=by
 have ac:=h.lt;have h':=h.below ((zal w w).alloc (zab _) ob);obtain⟨vs,h1,h2,h3⟩:=h'.ex;have hs:(w.alloc ob).heap.size=w.heap.size+1:=tZ;have lJ:=hg.size;refine⟨⟨vs,h1,h2.kept hg (.inr fun e=>h.ne e.symm),fun j hj=> ?_⟩,?_⟩
 ·rcases h3 j hj with h4 | ⟨h4,b,cap,ws,e1,e2,e3,e4,e5,e6⟩
  ·exact .inl h4
  ·refine .inr ⟨h4,b,cap,ws,e1,e2,e3.grown hg fun x hx gw=> ?_,e4,?_,tO⟩
   ·rw[e1] at hx;simp only[zaf,Option.some.injEq] at hx;subst hx;exact e5 gw
   ·rcases hp with hp | hp
    ·rw[hp];exact e5
    ·rw[hp];intro e;injection e with e
     omega
 ·rcases hp with hp | hp
  ·rw[hp];exact h.ne
  ·rw[hp];intro e;injection e with e
   omega
end
theorem qFY:(Tryz.prog.info? 37).map (fun i=>(i.zero,i.size,i.bytes))=some (some (.slice none 0 0),1,24):=by kernel_rfl
def qX (es:List EdD):Int->List Int->Int×Nat
 | v,[]=>(v,0)
 | v,x::w=>if qF es v x<0 then(v,0) else((qX es (qF es v x) w).1,(qX es (qF es v x) w).2+1)
theorem qHa (es:List EdD) (v:Int) (w:List Int) (k:Nat) (h:k<w.length):qX es v (w.drop k)=if qF es v w[k]<0 then(v,0) else((qX es (qF es v w[k]) (w.drop (k+1))).1,(qX es (qF es v w[k]) (w.drop (k+1))).2+1):=by
 rw[List.drop_eq_getElem_cons h];rfl
theorem qEv (es:List EdD): ∀(w:List Int) (v:Int),(qX es v w).2<=w.length
 | [],v=>zab _
 | x::w,v=>by
   unfold qX;split
   ·exact zau _
   ·simp only[zaw];have:=qEv es w (qF es v x)
    omega
theorem qJY (es:List EdD): ∀(w:List Int) (v:Int),0<=v->(qQ es v w<0/\(qX es v w).2<w.length)\/(0<=qQ es v w/\(qX es v w).2=w.length/\(qX es v w).1=qQ es v w)
 | [],v,hv=> .inr ⟨hv,rfl,rfl⟩
 | x::w,v,hv=>by
   unfold qQ qX;by_cases h:qF es v x<0
   ·rw[Wm h,Wm h];exact .inl ⟨by decide,tZ⟩
   ·rw[Wn h,Wn h];rcases qJY es w (qF es v x) tO with ⟨h1,h2⟩ | ⟨h1,h2,h3⟩
    ·exact .inl ⟨h1,by simp only[zaw];omega⟩
    ·exact .inr ⟨h1,by simp only[zaw];omega,h3⟩
theorem qKn (v vw:Wh) (g:GrD) (u:Int) (ws:List Int) (w:Wg) (h:ArgG w v g) (hw:RdI w vw ws) (hf:qO g=true) (hu:0<=u/\u<g.2.1):
  Wk Tryz.prog 77 #[v, .int .i64 u,vw] w fun e w'=>e= .returned (.tuple #[.int .i64 (qX g.2.2 u ws).1, .int .i64 ((qX g.2.2 u ws).2:Nat)])/\Wf w w w':=by
 have HG:=qA h;have HW:=qA hw;obtain⟨hg,aO⟩:=qE hf;have ONE:=qA (qAH aO);have LET:=qA (qBu hg);have NV:Wi (∀v x,qF g.2.2 v x= -1\/(0<=qF g.2.2 v x/\qF g.2.2 v x<g.2.1)):=qA fun v x=>qR hg v x;obtain⟨s,rfl,aN,aQ,ha⟩:=h;obtain⟨A,cap,rfl⟩:=ha.form;obtain⟨Aw,capw,rfl,l8,Bj,_⟩:=hw.arg;unfold maxLen at Bj;clear hf hg aO ha hw;have HR:Wi (qX g.2.2 u ws=((qX g.2.2 u (ws.drop 0)).1,0+(qX g.2.2 u (ws.drop 0)).2)):=qA (by rw[List.drop_zero,zad]);generalize qX g.2.2 u ws=R at*;go_enter Tryz.func77,Tryz.ntmps77
 go_wp2_with fail;have bx:Wf w w (w.alloc (.cells #[.int .i64 g.1,.int .i64 g.2.1, .slice A g.2.2.length cap] 26)):=ZZ;have l0:(w.alloc (.cells #[.int .i64 g.1,.int .i64 g.2.1, .slice A g.2.2.length cap] 26)).cell? ⟨w,0,none⟩=some (.int .i64 g.1):=by simp[go_sem]
 have l1:(w.alloc (.cells #[.int .i64 g.1,.int .i64 g.2.1, .slice A g.2.2.length cap] 26)).cell? ⟨w,1,none⟩=some (.int .i64 g.2.1):=by simp[go_sem]
 have l2:(w.alloc (.cells #[.int .i64 g.1,.int .i64 g.2.1, .slice A g.2.2.length cap] 26)).cell? ⟨w,2,none⟩=some (.slice A g.2.2.length cap):=by simp[go_sem]
 have sA:w.heap.size<(w.alloc (.cells #[.int .i64 g.1,.int .i64 g.2.1, .slice A g.2.2.length cap] 26)).heap.size:=tZ;generalize w.alloc (.cells #[.int .i64 g.1,.int .i64 g.2.1, .slice A g.2.2.length cap] 26)=W at bx l0 l1 l2 sA⊢;have BX:=qA bx;have HA:Wi (∀w',Wf W W w'->ArgG w' (.agg #[.int .i64 g.1, .int .i64 g.2.1, .slice A g.2.2.length cap]) g):=qA fun w' hb=>HG.o.below (BX.trans (hb.mono tO));have L0:=qA l0;have L1:=qA l1;have L2:=qA l2;clear bx l0 l1 l2;go_loopw [1,13] (fun a i wr=> ∃(k:Nat) (u':Int),k<=ws.length/\i= .int .i64 k/\a= .int .i64 u'/\(0<=u'/\u'<g.2.1)/\R=((qX g.2.2 u' (ws.drop k)).1,k+(qX g.2.2 u' (ws.drop k)).2)/\Wf W W wr) (fun _ i _=>ws.length-(intOf i).toNat)
 case atStart=>exact⟨0,u,zau _,rfl,rfl,hu,HR,zal _ _⟩
 case round=>
  obtain⟨k,u',hk,rfl,rfl,DX,hR,ab⟩:=hrel;have HB:=qA ab;have pf:=qA hR;have hs:=ab.size;have q0:=(ab.cell (p:=⟨w,0,none⟩) sA).trans L0.o;have q1:=(ab.cell (p:=⟨w,1,none⟩) sA).trans L1.o;have q2:=(ab.cell (p:=⟨w,2,none⟩) sA).trans L2.o;by_cases ac:k<ws.length
  ·have Ch:=qA (HW.below (BX.trans (ab.mono tO)));obtain⟨bw,offw,rfl,fv,jZ⟩:=Ch.o.at tO;have c0:=jZ k ac;have ST:=qA (qHa g.2.2 u' ws k ac);generalize ws[k]=x at c0 ST;have NX:=qA (NV u' x);have dJ:=qA (qAI _ g u' x wr (HA _ ab) (ONE u' x) LET);clear ab hR jZ;go_wp2_with fail;refine dJ.o.mono ?_;rintro e wq ⟨rfl,bq⟩;have HQ:=qA (HB.trans (bq.mono tO));clear bq dJ q0 q1 q2 c0;generalize qF g.2.2 u' x=y at*;rcases NX.o with hy | hy
   ·subst hy;have F:Wi (R=(u',k)):=qA (by rw[pf.o,ST.o];rfl);go_wp2;exact Wj (v:= .tuple #[.int .i64 u', .int .i64 k]) (by simp[results,Tryz.results77]) rfl ⟨by rw[F.o],BX.o.trans (HQ.mono tO)⟩
   ·have eK: ¬y<0:=tO;have F:Wi (R=((qX g.2.2 y (ws.drop (k+1))).1,(k+1)+(qX g.2.2 y (ws.drop (k+1))).2)):=qA (by
     rw[pf.o,ST.o,Wn eK];simp only
     rw[Nat.add_assoc,Nat.add_comm 1])
    go_wp2;go_roundw;exact⟨k+1,y,tO,by go_num,rfl,hy,F.o,HQ.o⟩;exact tM
  ·obtain rfl:k=ws.length:=tO
   have F:Wi (R=(u',ws.length)):=qA (by rw[pf.o,List.drop_length];rfl);clear ab hR;go_wp2;exact Wj (v:= .tuple #[.int .i64 u', .int .i64 ws.length]) (by simp[results,Tryz.results77]) rfl ⟨by rw[F.o],BX.o.trans (HB.mono tO)⟩
theorem qMj {α:Type} (c:α->α->Int) (L:List α) (e:α):srt c (L++ [e])=insF c (srt c L) e:=by
 unfold srt;rw[za3];rfl
def stpE (u x v:Int):EdD:=if 0<x then(u,x,v) else(v,-x,u)
def nxP (N:Nat) (len:Nat) (v:Int) (j:Nat):Int:=if j+1<len then((N+j:Nat):Int) else v
def atP (N:Nat) (len:Nat) (u v:Int):Nat->Int
 | 0=>u
 | j+1=>nxP N len v j
theorem qBN (N len:Nat) (u v:Int) (j:Nat):atP N len u v (j+1)=nxP N len v j:=rfl
theorem qGV (N len:Nat) (u v:Int):atP N len u v 0=u:=rfl
theorem qAx {α:Type} {l:List α} {i:Nat} {d:α} (h:i<l.length):l.getD i d=l[i]:=by simp[h]
def pthE (N:Nat) (u v:Int) (w:List Int) (j:Nat):EdD:=stpE (atP N w.length u v j) (w.getD j 0) (nxP N w.length v j)
def pthL (N:Nat) (u v:Int) (w:List Int) (k:Nat):List EdD:=(zav k).map (pthE N u v w)
theorem qJn (N:Nat) (u v:Int) (w:List Int) (k:Nat):pthL N u v w (k+1)=pthL N u v w k++ [pthE N u v w k]:=by
 unfold pthL;rw[zba,zbb];rfl
theorem qKh (N:Nat) (u v:Int) (w:List Int) (k:Nat):(pthL N u v w k).length=k:=by simp[pthL]
def szP (N len j:Nat):Nat:=N+min j (len-1)
theorem qLU {N len j:Nat} (h:j<len):szP N len (j+1)=if j+1<len then szP N len j+1 else szP N len j:=by
 unfold szP;split<;>omega
theorem qPc {N len j:Nat} (h:j+1<len):szP N len j=N+j:=by
 unfold szP;omega
theorem qJX {N len j:Nat} {u v:Int} (hu:0<=u/\u<N) (hv:0<=v/\v<N):0<=atP N len u v j/\atP N len u v j<N+len:=by
 cases j with
 | zero=>show 0<=u/\u<N+len;omega
 | succ j=>
   unfold atP nxP;split<;>omega
theorem qJb {N len j:Nat} {v:Int} (hv:0<=v/\v<N):0<=nxP N len v j/\nxP N len v j<N+len:=by
 unfold nxP;split<;>omega
def addG (g:GrD) (u v:Int) (w:List Int):GrD:=(g.1,((g.2.1.toNat+(w.length-1):Nat):Int),srt cmpE (g.2.2++pthL g.2.1.toNat u v w w.length))
def qBF (g:GrD) (t:List Int):Bool:=decide (g.2.1+t.length-1<=40/\(g.2.2.length:Int)+t.length<=120)
theorem qLL {L:List EdD} (h:Srt cmpE L):srt cmpE L=L:=(qKl qz h fun _=>Iff.rfl).symm
theorem qEF (w:Wg) (b:Nat) {x0 x1 x2:Wh} (v0 v1 v2:Wh) (h0:w.cell? ⟨b,0,none⟩=some x0) (h1:w.cell? ⟨b,1,none⟩=some x1) (h2:w.cell? ⟨b,2,none⟩=some x2):
  (((w.setCell ⟨b,0,none⟩ v0).setCell ⟨b,1,none⟩ v1).setCell ⟨b,2,none⟩ v2).cell? ⟨b,0,none⟩=some v0/\(((w.setCell ⟨b,0,none⟩ v0).setCell ⟨b,1,none⟩ v1).setCell ⟨b,2,none⟩ v2).cell? ⟨b,1,none⟩=some v1/\(((w.setCell ⟨b,0,none⟩ v0).setCell ⟨b,1,none⟩ v1).setCell ⟨b,2,none⟩ v2).cell? ⟨b,2,none⟩=some v2:=by
 refine⟨?_,?_,?_⟩
 ·rw[zaa _ _ _ _ tZ,zaa _ _ _ _ tZ,zag _ _ _ h0]
 ·rw[zaa _ _ _ _ tZ];exact zag _ _ _ ((zaa _ _ _ _ tZ).trans h1)
 ·exact zag _ _ _ ((zaa _ _ _ _ tZ).trans ((zaa _ _ _ _ tZ).trans h2))
def canG (g:GrD):GrD:=rnG g (canO g)
theorem qBi (v:Wh) (g:GrD) (w:Wg) (h:ArgG w v g) (hf:qO g=true):
  Wk Tryz.prog 169 #[v] w fun e w'=> ∃r,e= .returned r/\OwG w' w r (canG g)/\Wf w w w':=by
 have HG:=qA h;have HF:=qA hf;obtain⟨hg,_⟩:=qE hf;have aK:=qA hg;have af:=qAD hg;obtain⟨aF,aA,aD,_⟩:=qD hg;have AT:1<=(canO g).length:=by
  have:=af.2.2
  cases hc:canO g with
  | nil=>rw[hc] at this;cases this
  | cons _ _=>simp
 have fe:(canO g).length<=g.2.1.toNat:=qBM g.2.1.toNat _ af.1 fun y hy=>by have:=af.2.1 y hy;omega
 have bH:=qA af;have oZ:Wi (canG g=rnG g (canO g)):=qA rfl;obtain⟨s,rfl,aN,aQ,ha⟩:=h;clear hf hg af;generalize hO:canO g=o at*;have pS:=qA hO;clear hO;obtain⟨r,n,es⟩:=g;simp only at aF aA aD fe aN aQ ha HG⊢
 obtain⟨A,cap,rfl,aR,hm,_⟩:=ha;unfold maxLen at hm;have bx:Wf w w ((w.alloc (.cells #[.int .i64 r,.int .i64 n, .slice A es.length cap] 26)).alloc (.cells #[.int .i64 0,.int .i64 0, .slice none 0 0] 26)):=ZZ;go_enter Tryz.func169,Tryz.ntmps169
 go_wp2_with fail;obtain⟨W0,ah⟩: ∃W,W=(w.alloc (.cells #[.int .i64 r,.int .i64 n, .slice A es.length cap] 26)).alloc (.cells #[.int .i64 0,.int .i64 0, .slice none 0 0] 26):=⟨_,rfl⟩;rw[<-ah] at bx⊢;have aH:W0.heap.size=w.heap.size+2:=by rw[ah];simp
 have B0:Wi (W0.cell? ⟨w,0,none⟩=some (.int .i64 r)):=qA (by rw[ah];simp[go_sem]);have B1:Wi (W0.cell? ⟨w,1,none⟩=some (.int .i64 n)):=qA (by rw[ah];simp[go_sem]);have B2:Wi (W0.cell? ⟨w,2,none⟩=some (.slice A es.length cap)):=qA (by rw[ah];simp[go_sem]);have R0:Wi (W0.cell? ⟨w.heap.size+1,0,none⟩=some (.int .i64 0)):=qA (by rw[ah];simp[go_sem]);have R1:Wi (W0.cell? ⟨w.heap.size+1,1,none⟩=some (.int .i64 0)):=qA (by rw[ah];simp[go_sem]);have R2:Wi (W0.cell? ⟨w.heap.size+1,2,none⟩=some (.slice none 0 0)):=qA (by rw[ah];simp[go_sem]);have RF:Wi (∀j,W0.frozen? ⟨w.heap.size+1,j,none⟩=false):=qA fun j=>by rw[ah];simp[go_sem]
 clear ah;have BX:=qA bx;refine(qDX _ (r,n,es) W0 (HG.below bx) HF).mono ?_
 rintro e w1 ⟨r1,rfl,o1,b1⟩;rw[pS.o] at o1;have O1:=qA o1;have tv:=qA b1;have s1:=b1.size;obtain⟨A1,ak,rfl,QU,KA,_⟩:=OwI.form o1;unfold maxLen at KA;have q0:=(b1.cell (p:=⟨w,0,none⟩) (show w.heap.size<W0.heap.size by omega)).trans B0.o;have q1:=(b1.cell (p:=⟨w,1,none⟩) (show w.heap.size<W0.heap.size by omega)).trans B1.o;have q2:=(b1.cell (p:=⟨w,2,none⟩) (show w.heap.size<W0.heap.size by omega)).trans B2.o;have g0:((o.length:Int)==0)=false:=by rw[beq_eq_false_iff_ne];omega
 clear o1 b1 bx;go_wp2_with fail;refine(qDT _ _ (r,n,es) o w1 (HG.below (BX.trans (tv.mono tO))) O1.o.rd aK.o bH.o).mono ?_
 rintro e w2 ⟨r2,rfl,o2,b2⟩;have CE:=qA b2;have s2:=b2.size;have O2:=qA o2;obtain⟨sv,rfl,bi,bQ,Ag⟩:=o2;obtain⟨A2,ao,rfl,IG,PH,_⟩:=Ag.form;have fh:=((b2.frozen (p:=⟨w.heap.size+1,0,none⟩) (show w.heap.size+1<w1.heap.size by omega)).trans (tv.frozen (p:=⟨w.heap.size+1,0,none⟩) (show w.heap.size+1<W0.heap.size by omega))).trans (RF 0);have fu:=((b2.frozen (p:=⟨w.heap.size+1,1,none⟩) (show w.heap.size+1<w1.heap.size by omega)).trans (tv.frozen (p:=⟨w.heap.size+1,1,none⟩) (show w.heap.size+1<W0.heap.size by omega))).trans (RF 1);have fd:=((b2.frozen (p:=⟨w.heap.size+1,2,none⟩) (show w.heap.size+1<w1.heap.size by omega)).trans (tv.frozen (p:=⟨w.heap.size+1,2,none⟩) (show w.heap.size+1<W0.heap.size by omega))).trans (RF 2);have Cz:=((b2.cell (p:=⟨w.heap.size+1,0,none⟩) (show w.heap.size+1<w1.heap.size by omega)).trans (tv.cell (p:=⟨w.heap.size+1,0,none⟩) (show w.heap.size+1<W0.heap.size by omega))).trans R0.o;have Dc:=((b2.cell (p:=⟨w.heap.size+1,1,none⟩) (show w.heap.size+1<w1.heap.size by omega)).trans (tv.cell (p:=⟨w.heap.size+1,1,none⟩) (show w.heap.size+1<W0.heap.size by omega))).trans R1.o;have Bx:=((b2.cell (p:=⟨w.heap.size+1,2,none⟩) (show w.heap.size+1<w1.heap.size by omega)).trans (tv.cell (p:=⟨w.heap.size+1,2,none⟩) (show w.heap.size+1<W0.heap.size by omega))).trans R2.o;clear b2 q0 q1 q2 Ag;generalize rnG (r,n,es) o=D at*;obtain⟨dr,dn,de⟩:=D;simp only at O2 bi bQ IG⊢
 have ac:w.heap.size+1<w2.heap.size:=tO;have hA: ∀ob o',(w2.alloc ob).cell? ⟨w.heap.size+1,o',none⟩=w2.cell? ⟨w.heap.size+1,o',none⟩:=fun ob o'=>zax (zaI w2 ob _ ac);have VE: ∀ob o',(w2.alloc ob).frozen? ⟨w.heap.size+1,o',none⟩=w2.frozen? ⟨w.heap.size+1,o',none⟩:=fun ob o'=>zaA (zaI w2 ob _ ac);go_wp2;obtain⟨c0,c1,c2⟩:=qEF w2 (w.heap.size+1) (.int .i64 dr) (.int .i64 dn) (.slice A2 de.length ao) Cz Dc Bx;have BB:Wi (Wf w w w2):=qA (BX.trans ((tv.mono tO).trans (CE.mono tO)));have bw:Wf w w (((w2.setCell ⟨w.heap.size+1,0,none⟩ (.int .i64 dr)).setCell ⟨w.heap.size+1,1,none⟩ (.int .i64 dn)).setCell ⟨w.heap.size+1,2,none⟩ (.slice A2 de.length ao)):=(by repeat(first | exact .refl _ _ | (refine BxS ?_ _) | (refine qC ?_ _) | (refine zan ?_) | (refine BxA ?_ _) | (refine BxT ?_ (Hid.out BB))));have ow:OwE (((w2.setCell ⟨w.heap.size+1,0,none⟩ (.int .i64 dr)).setCell ⟨w.heap.size+1,1,none⟩ (.int .i64 dn)).setCell ⟨w.heap.size+1,2,none⟩ (.slice A2 de.length ao)) w1 (.slice A2 de.length ao) de:=by
  obtain⟨sv,e,_,_,ha⟩:=O2.o;injection e with e
  have e3:sv= .slice A2 de.length ao:=by injection e with e;injection e with _ e;injection e with _ e;injection e with e _;exact e.symm
  subst e3;exact((ha.far tB _).far tB _).far tB _
 have Tq:(((w2.setCell ⟨w.heap.size+1,0,none⟩ (.int .i64 dr)).setCell ⟨w.heap.size+1,1,none⟩ (.int .i64 dn)).setCell ⟨w.heap.size+1,2,none⟩ (.slice A2 de.length ao)).heap.size=w2.heap.size:=tZ;generalize ((w2.setCell ⟨w.heap.size+1,0,none⟩ (.int .i64 dr)).setCell ⟨w.heap.size+1,1,none⟩ (.int .i64 dn)).setCell ⟨w.heap.size+1,2,none⟩ (.slice A2 de.length ao)=wf at*;have ba: ∀ob,Wf wf wf (wf.alloc ob):=fun ob=>(zal _ _).alloc (zab _) _;have fk: ∀ob o',(wf.alloc ob).cell? ⟨w.heap.size+1,o',none⟩=wf.cell? ⟨w.heap.size+1,o',none⟩:=fun ob o'=>zax (zaI wf ob (w.heap.size+1) (show w.heap.size+1<wf.heap.size by omega));refine Wj (v:= .agg #[.int .i64 dr, .int .i64 dn, .slice A2 de.length ao]) (by simp[results,Tryz.results169,go_sem,fk,c0,c1,c2]) rfl ⟨_,rfl,?_,bw.trans ((ba _).mono bw.size)⟩;rw[oZ.o];exact⟨_,rfl,bi,bQ,(ow.below (ba _)).mono tO⟩
section
variable {w w':Wg} {v:Wh} {ds:List GrD} {lo hi:Nat}
end
def qS (g:GrD):Bool:=qO g&&decide (qu g.2.2 g.2.1.toNat<0)&&decide (canG g=g)
theorem qHQ (v:Wh) (g:GrD) (w:Wg) (h:ArgG w v g):
  Wk Tryz.prog 147 #[v] w fun e w'=>e= .returned (.bool (qS g))/\Wf w w w':=by
 have HG:=qA h;obtain⟨s,rfl,aN,aQ,ha⟩:=h;have HC:Wi (qS g=(qO g&&decide (qu g.2.2 g.2.1.toNat<0)&&decide (canG g=g))):=qA rfl;generalize qS g=cb at*;clear ha;go_enter Tryz.func147,Tryz.ntmps147
 go_wp2_with fail;have bx:Wf w w (w.alloc (.cells #[.int .i64 g.1,.int .i64 g.2.1,s] 26)):=ZZ;have l0:(w.alloc (.cells #[.int .i64 g.1,.int .i64 g.2.1,s] 26)).cell? ⟨w,0,none⟩=some (.int .i64 g.1):=by simp[go_sem]
 have l1:(w.alloc (.cells #[.int .i64 g.1,.int .i64 g.2.1,s] 26)).cell? ⟨w,1,none⟩=some (.int .i64 g.2.1):=by simp[go_sem]
 have l2:(w.alloc (.cells #[.int .i64 g.1,.int .i64 g.2.1,s] 26)).cell? ⟨w,2,none⟩=some s:=by simp[go_sem]
 have sA:w.heap.size<(w.alloc (.cells #[.int .i64 g.1,.int .i64 g.2.1,s] 26)).heap.size:=tZ;generalize w.alloc (.cells #[.int .i64 g.1,.int .i64 g.2.1,s] 26)=W at bx l0 l1 l2 sA⊢;have BX:=qA bx;have HA:Wi (∀w',Wf W W w'->ArgG w' (.agg #[.int .i64 g.1, .int .i64 g.2.1,s]) g):=qA fun w' hb=>HG.o.below (BX.trans (hb.mono tO));clear bx;have dW:=fun w' hb=>qj _ g w' (HA w' hb);rcases e1:qO g with _ | _
 ·have HF:=qA e1;have HR:Wi (cb=false):=qA (by rw[HC.o,e1];rfl);simp only[e1] at dW;have gU:=qA dW;clear e1 dW;have f0:=BelW.cell l0 sA;have f1:=BelW.cell l1 sA;have f2:=BelW.cell l2 sA;(refine qG tK tK ?_;(repeat(go_big_quiet_step (first | (go_at_call 148;exact Calls.bel_of (gU _ (BelW.h _))))));refine wpQuiet_nil ?_;intro wq hw';obtain⟨pq,ae⟩:=hw';have bq:=pq.h;rw[<-ae] at bq;clear ae pq)
  go_wp2;exact Wj (v:= .bool false) (by simp[results,Tryz.results147]) rfl ⟨by rw[HR.o],BX.o.trans (bq.mono (zaZ sA))⟩
 ·have HF:=qA e1;have hg:=(qE e1).1;simp only[e1] at dW;have gU:=qA dW;clear dW;have aK:=qA hg;have nJ:Wi (qu g.2.2 g.2.1.toNat=qu g.2.2 g.2.1.toNat):=qA rfl;have L8:=qA (fun w' hb=>qHf _ g w' (HA w' hb) aK);generalize qu g.2.2 g.2.1.toNat=lv at*;clear hg;by_cases hl:lv<0
  ·have HR:Wi (cb=decide (canG g=g)):=qA (by rw[HC.o,e1];simp[hl]);clear e1;go_region_held3 (fun w'=>w'.cell? ⟨w,0,none⟩=some (.int .i64 g.1)/\w'.cell? ⟨w,1,none⟩=some (.int .i64 g.2.1)/\w'.cell? ⟨w,2,none⟩=some s)
    (first | go_keep | exact⟨q0,q1,q2⟩)
    (first
     | (go_at_call 148;refine(qj _ g _ (HA _ (zal _ _).drew)).mono ?_;rintro e' w1 ⟨rfl,b1⟩;rw[HF.o];have B1:=qA ((zal _ W).drew.trans b1);have q0:=(B1.cell (p:=⟨w,0,none⟩) sA).trans l0;have q1:=(B1.cell (p:=⟨w,1,none⟩) sA).trans l1;have q2:=(B1.cell (p:=⟨w,2,none⟩) sA).trans l2;clear b1)
     | (go_at_call 203;refine(L8 _ B1).mono ?_;rintro e' w2 ⟨rfl,b2⟩;have B2:=qA (B1.trans (b2.mono B1.size));have q0:=(B2.cell (p:=⟨w,0,none⟩) sA).trans l0;have q1:=(B2.cell (p:=⟨w,1,none⟩) sA).trans l1;have q2:=(B2.cell (p:=⟨w,2,none⟩) sA).trans l2;clear b2)
     | (go_at_call 169;refine(qBi _ g _ (HA _ B2) HF).mono ?_;rintro e' w3 ⟨r3,rfl,o3,b3⟩;have B3:=qA (B2.trans (b3.mono B2.size));have O3:=qA o3;have q0:=(B3.cell (p:=⟨w,0,none⟩) sA).trans l0;have q1:=(B3.cell (p:=⟨w,1,none⟩) sA).trans l1;have q2:=(B3.cell (p:=⟨w,2,none⟩) sA).trans l2;clear b3 o3)
     | (go_at_call 47;refine(qEj _ _ (canG g) g _ O3.arg (HA _ B3)).mono ?_;rintro e' w4 ⟨rfl,b4⟩;have B4:=qA (B3.trans (b4.mono B3.size));have q0:=(B4.cell (p:=⟨w,0,none⟩) sA).trans l0;have q1:=(B4.cell (p:=⟨w,1,none⟩) sA).trans l1;have q2:=(B4.cell (p:=⟨w,2,none⟩) sA).trans l2;clear b4))
   go_wp2;exact Wj (v:= .bool (decide (canG g=g))) (by simp[results,Tryz.results147]) rfl ⟨by rw[HR.o],BX.o.trans (B4.mono (zaZ sA))⟩
  ·have HR:Wi (cb=false):=qA (by rw[HC.o,e1];simp[hl]);clear e1;have f0:=BelW.cell l0 sA;have f1:=BelW.cell l1 sA;have f2:=BelW.cell l2 sA;(refine qG tK tK ?_;(repeat(go_big_quiet_step (first | (go_at_call 148;exact Calls.bel_of (gU _ (BelW.h _))) | (go_at_call 203;exact Calls.bel_of (L8 _ (BelW.h _))))));refine wpQuiet_nil ?_;intro wq hw';obtain⟨pq,ae⟩:=hw';have bq:=pq.h;rw[<-ae] at bq;clear ae pq)
   go_wp2;exact Wj (v:= .bool false) (by simp[results,Tryz.results147]) rfl ⟨by rw[HR.o],BX.o.trans (bq.mono (zaZ sA))⟩
def qHw (g:GrD):Int:=if qS g then(g.2.2.length:Int)-g.2.1+1 else-1
theorem qBz {g:GrD} (h:qS g=true):grB g=true:=by
 unfold qS at h;simp only[zah] at h;exact(qE h.1.1).1
theorem qY (v:Wh) (g:GrD) (w:Wg) (h:ArgG w v g):
  Wk Tryz.prog 68 #[v] w fun e w'=>e= .returned (.bool (qS g))/\Wf w w w':=by
 have HG:=qA h;obtain⟨s,rfl,aN,aQ,ha⟩:=h;clear ha;go_enter Tryz.func68,Tryz.ntmps68
 go_wp2_with fail;have bx:Wf w w (w.alloc (.cells #[.int .i64 g.1,.int .i64 g.2.1,s] 26)):=ZZ;refine(qHQ _ g _ (HG.below bx)).mono ?_
 rintro e w1 ⟨rfl,b1⟩;have b2:=bx.trans (b1.mono bx.size);go_wp2;exact Wj (v:= .bool (qS g)) (by simp[results,Tryz.results68]) rfl ⟨rfl,b2⟩
section
open Go.RowKit Go.Shelf Go.Lib Go.Sort
def Tryz.sortE_ren:Go.Shelf.Ren:=⟨fun | 6=>217 | 15=>234 | 14=>236 | 28=>252 | 29=>253 | 20=>255 | 21=>256 | 22=>257 | 23=>258 | 24=>259 | 25=>260 | 26=>261 | 27=>262 | 46=>272 | 47=>267 | 48=>268 | 49=>273 | 50=>274 | 57=>277 | n=>n,fun | 22=>24 | 24=>97 | 25=>157 | 3=>3 | 39=>174 | 0=>0 | 53=>187 | 55=>189 | 4=>4 | 46=>181 | 45=>180 | 50=>80 | 5=>5 | 9=>9 | 66=>198 | 70=>202 | 76=>207 | 77=>30 | n=>n,fun | n=>n⟩
theorem Tryz.sortE:Go.Proofs.SlLaysF0.n6 Tryz.prog Tryz.sortE_ren:= {
 mixed:=by kernel_rfl,
 f6:=⟨Tryz.f217.name,by decide,Tryz.func217.trans (congrArg some tK)⟩,
 f14:=⟨Tryz.f236.name,by decide,Tryz.func236.trans (congrArg some tK)⟩,
 f15:=Tryz.func234.trans (congrArg some tK),
 f20:=⟨Tryz.f255.name,by decide,Tryz.func255.trans (congrArg some tK)⟩,
 f21:=⟨Tryz.f256.name,by decide,Tryz.func256.trans (congrArg some tK)⟩,
 f22:=⟨Tryz.f257.name,by decide,Tryz.func257.trans (congrArg some tK)⟩,
 f23:=⟨Tryz.f258.name,by decide,Tryz.func258.trans (congrArg some tK)⟩,
 f24:=⟨Tryz.f259.name,by decide,Tryz.func259.trans (congrArg some tK)⟩,
 f25:=⟨Tryz.f260.name,by decide,Tryz.func260.trans (congrArg some tK)⟩,
 f26:=⟨Tryz.f261.name,by decide,Tryz.func261.trans (congrArg some tK)⟩,
 f27:=⟨Tryz.f262.name,by decide,Tryz.func262.trans (congrArg some tK)⟩,
 f28:=Tryz.func252.trans (congrArg some tK),
 f29:=Tryz.func253.trans (congrArg some tK),
 f46:=⟨Tryz.f272.name,by decide,Tryz.func272.trans (congrArg some tK)⟩,
 f47:=Tryz.func267.trans (congrArg some tK),
 f48:=Tryz.func268.trans (congrArg some tK),
 f49:=⟨Tryz.f273.name,by decide,Tryz.func273.trans (congrArg some tK)⟩,
 f50:=⟨Tryz.f274.name,by decide,Tryz.func274.trans (congrArg some tK)⟩,
 f57:=⟨Tryz.f277.name,by decide,Tryz.func277.trans (congrArg some tK)⟩,
 t0:=Tryz.underlying0,
 a0:=Tryz.isAgg0,
 z0:=Tryz.sizeOf0,
 v0:=Tryz.zeroValue0,
 t3:=Tryz.underlying3,
 a3:=Tryz.isAgg3,
 z3:=Tryz.sizeOf3,
 v3:=Tryz.zeroValue3,
 t4:=Tryz.underlying4,
 a4:=Tryz.isAgg4,
 z4:=Tryz.sizeOf4,
 v4:=Tryz.zeroValue4,
 t5:=Tryz.underlying5,
 a5:=Tryz.isAgg5,
 z5:=Tryz.sizeOf5,
 v5:=Tryz.zeroValue5,
 t9:=Tryz.underlying9,
 a9:=Tryz.isAgg9,
 z9:=Tryz.sizeOf9,
 v9:=Tryz.zeroValue9,
 t22:=Tryz.underlying24,
 a22:=Tryz.isAgg24,
 z22:=Tryz.sizeOf24,
 v22:=Tryz.zeroValue24,
 t25:=Tryz.underlying157,
 a25:=Tryz.isAgg157,
 z25:=Tryz.sizeOf157,
 v25:=Tryz.zeroValue157,
 t39:=Tryz.underlying174,
 a39:=Tryz.isAgg174,
 z39:=Tryz.sizeOf174,
 v39:=Tryz.zeroValue174,
 t45:=Tryz.underlying180,
 a45:=Tryz.isAgg180,
 z45:=Tryz.sizeOf180,
 v45:=Tryz.zeroValue180,
 t46:=Tryz.underlying181,
 a46:=Tryz.isAgg181,
 z46:=Tryz.sizeOf181,
 v46:=Tryz.zeroValue181,
 t50:=Tryz.underlying80,
 a50:=Tryz.isAgg80,
 z50:=Tryz.sizeOf80,
 v50:=Tryz.zeroValue80,
 t53:=Tryz.underlying187,
 a53:=Tryz.isAgg187,
 z53:=Tryz.sizeOf187,
 v53:=Tryz.zeroValue187,
 t55:=Tryz.underlying189,
 a55:=Tryz.isAgg189,
 z55:=Tryz.sizeOf189,
 v55:=Tryz.zeroValue189,
 t66:=Tryz.underlying198,
 a66:=Tryz.isAgg198,
 z66:=Tryz.sizeOf198,
 v66:=Tryz.zeroValue198,
 t70:=Tryz.underlying202,
 a70:=Tryz.isAgg202,
 z70:=Tryz.sizeOf202,
 v70:=Tryz.zeroValue202,
 t76:=Tryz.underlying207,
 a76:=Tryz.isAgg207,
 z76:=Tryz.sizeOf207,
 v76:=Tryz.zeroValue207,
 t77:=Tryz.underlying30,
 a77:=Tryz.isAgg30,
 z77:=Tryz.sizeOf30,
 v77:=Tryz.zeroValue30}
theorem qPO:SWO (ltOf cmpE) where
 irrefl x:=by
  unfold ltOf;simpa using qz.irrefl x
 trans x y z h1 h2:=by
  unfold ltOf at*;simp only[decide_eq_true_eq] at*;exact qz.trans h1 h2
 ntrans x y z h1 h2:=by
  unfold ltOf at*;simp only[decide_eq_false_iff_not] at*;rw[qGZ] at*;omega
theorem qDe (a b:EdD) (w:Wg):
  Wk Tryz.prog 218 #[edV a,edV b] w fun e w'=>e= .returned (.int .i64 (cmpE a b))/\ ∃q os',w'=grow (w.drewN q) os':=by
 obtain⟨x,y,z⟩:=a;obtain⟨x',y',z'⟩:=b;unfold edV;rcases e1:(cmpI x x' != 0) with _ | _
 ·rcases e2:(cmpI y y' != 0) with _ | _
  ·have F:Wi (cmpE (x,y,z) (x',y',z')=cmpI z z'):=qA (by simp at e1 e2;simp[cmpE,e1,e2]);go_enter Tryz.func218,Tryz.ntmps218
   go_wp2_with (go_at_call 237;refine(qAg _ _ _).mono ?_;rintro e w' ⟨rfl,rfl⟩)
   go_ret;exact⟨qAP F.o.symm,0,_,by rw[alloc_eq_grow,alloc_eq_grow,grow_grow];rfl⟩
  ·have F:Wi (cmpE (x,y,z) (x',y',z')=cmpI y y'):=qA (by simp at e1 e2;simp[cmpE,e1,e2]);go_enter Tryz.func218,Tryz.ntmps218
   go_wp2_with (go_at_call 237;refine(qAg _ _ _).mono ?_;rintro e w' ⟨rfl,rfl⟩)
   go_ret;exact⟨qAP F.o.symm,0,_,by rw[alloc_eq_grow,alloc_eq_grow,grow_grow];rfl⟩
 ·have F:Wi (cmpE (x,y,z) (x',y',z')=cmpI x x'):=qA (by simp at e1;simp[cmpE,e1]);go_enter Tryz.func218,Tryz.ntmps218
  go_wp2_with (go_at_call 237;refine(qAg _ _ _).mono ?_;rintro e w' ⟨rfl,rfl⟩)
  go_ret;exact⟨qAP F.o.symm,0,_,by rw[alloc_eq_grow,alloc_eq_grow,grow_grow];rfl⟩
theorem qGs (e:EdD):(edC e).length=3:=rfl
theorem qQR (e:EdD) (v:Wh) (h:v∈edC e):v.oneCell'=true:=by
 simp[edC] at h
 rcases h with rfl | rfl | rfl<;>rfl
theorem qJd (d:Array EdD) (j:Nat) (h:j<d.size*3):(flatK edC 3 d)[j]! =(edC d[j/3]!)[j%3]! :=by
 unfold flatK;rw[getElem!_pos _ _ (by simpa using h)];simp
theorem qMU (es:List EdD) (j:Nat) (h:j<es.length*3):(edCs es)[j]? =some ((edC (es.toArray)[j/3]!)[j%3]!):=by
 have hk:j/3<es.length:=tO;have:=qHn es (j/3) (j%3) hk tO
 rw[show j/3*3+j%3=j by omega] at this;rw[this,zae (show j%3<(edC es[j/3]).length by rw[qGs];omega)];rw[getElem!_pos (es.toArray) _ (by simpa using hk),getElem!_pos _ _ (by rw[qGs];omega)];simp
theorem OwE.holdsK {w:Wg} {base g n cap:Nat} {es:List EdD} (h:OwE w base (.slice (some ⟨g,0,none⟩) n cap) es):HoldsK edC 3 w g 0 es.toArray:=by
 have hn:n=es.length:=by
  rcases h.1.2 with ⟨hv,_⟩ | ⟨g',cap',cur,hv,_⟩
  ·cases hv
  ·injection hv
 subst hn;intro j hj;have jR:j<es.length*3:=by simpa[flatK] using hj
 refine⟨?_,h.free _⟩;rw[zad,h.1.cellAt j jR,qJd _ _ (by simpa using jR)];exact qMU es j jR
theorem qIX {w:Wg} {base g n cap:Nat} {es:List EdD} (h:OwE w base (.slice (some ⟨g,0,none⟩) n cap) es) (d:Array EdD) (hd:d.size=es.length) (hE:E64s d.toList) (q:Nat) (os:Array Obj):
  OwE (sortWorldK edC 3 w g 0 q d os) base (.slice (some ⟨g,0,none⟩) n cap) d.toList/\w.grownBy (sortWorldK edC 3 w g 0 q d os) (some g):=by
 have ac:=(h.1.lt g rfl).2;have uE: ∀b,b<w.heap.size->(sortWorldK edC 3 w g 0 q d os).heap[b]? =if g=b then(w.heap[b]?).map (onCells (putCells id 0 (flatK edC 3 d))) else w.heap[b]? :=by
  intro b hb;show((w.heap.modify g (onCells (putCells id 0 (flatK edC 3 d))))++os)[b]? =_
  rw[Array.getElem?_append_left (by simpa using hb),Array.getElem?_modify]
 refine⟨⟨⟨by rw[qCX],?_⟩,hE⟩,rfl,rfl,rfl,?_,fun b hb ai=> ?_⟩
 ·rcases h.1.2 with ⟨hv,_⟩ | ⟨g',cap',cur,hv,hg,hh,hnc,ke,iz,htake⟩
  ·cases hv
  ·injection hv with e1 e2 e3
   injection e1 with e1
   injection e1 with e1
   subst e1 e2 e3;refine .inr ⟨g,cap,putCells id 0 (flatK edC 3 d) cur,by simp[hd],hg,?_,by simp[hd];exact hnc,ke,by simp[putCells,iz],?_⟩
   ·rw[uE g ac,Wm rfl,hh];rfl
   ·apply zaG
    intro j;rw[List.getElem?_take];split
    ·rename_i hj
     rw[Array.length_toList] at hj;have Cy:j<cur.size:=by rw[iz];have:d.size*3<=cap*3:=Nat.mul_le_mul_right 3 tO;omega
     rw[qMU _ _ (by simpa using hj),Array.getElem?_toList];simp only[putCells,Array.getElem?_mapIdx];rw[Array.getElem?_eq_getElem Cy];simp only[za9,zau,true_and,zad,Nat.sub_zero,id];rw[Wm (by simpa[flatK] using hj),qJd _ _ hj]
    ·rename_i hj
     rw[zaL (by rw[qCX];omega)]
 ·show w.heap.size<=((w.heap.modify g (onCells (putCells id 0 (flatK edC 3 d))))++os).size
  simp
 ·rw[uE b hb,Wn (fun e=>ai (by rw[e]))]
theorem qJI (g n cap base:Nat) (es:List EdD) (w:Wg) (h:OwE w base (.slice (some ⟨g,0,none⟩) n cap) es) (hl:es.length<=1073741824):
  Wk Tryz.prog 217 #[.slice (some ⟨g,0,none⟩) n cap, .func (.func 218) #[] #[]] w fun e w'=>
   e= .returned (.tuple #[])/\ ∃es',OwE w' base (.slice (some ⟨g,0,none⟩) n cap) es'/\es'.Perm es/\(es'.Pairwise fun a b=> ¬0<cmpE a b)/\w.grownBy w' (some g):=by
 have hn:n=es.length:=by
  rcases h.1.2 with ⟨hv,_⟩ | ⟨g',cap',cur,hv,_⟩
  ·cases hv
  ·injection hv
 subst hn;have eg: ∀args w,(callFunc 218 args).run Tryz.prog w= .ok (.enter 218 args) w:=enters_of Tryz.func218 tK rfl;have Dd:=AnyQ.slices_SortFunc Tryz.sortE 3 Tryz.isAgg97 Tryz.sizeOf97 edC qGs qQR cmpE qPO 218 #[] g 0 cap es.toArray w eg (fun _ _ _ _ x y=>qDe x y _) h.holdsK (h.1.lt g rfl).2 (by simp;omega);change Wk Tryz.prog 217 _ _ _ at Dd;refine Dd.mono ?_;rintro e w' ⟨rfl,d,q,os,hp,hs,rfl⟩;obtain⟨p1,_,p3⟩:=hp;have jV:d.toList.Perm es:=by
  have e1:d.extract 0 es.toArray.size=d:=by rw[<-p1];simp
  have e2:es.toArray.extract 0 es.toArray.size=es.toArray:=tZ;rw[e1,e2] at p3;simpa using p3
 have hE:E64s d.toList:=fun x hx=>h.2 x (jV.mem_iff.1 hx);obtain⟨o1,g1⟩:=qIX h d (by simpa using p1) hE q os;refine⟨rfl,d.toList,o1,jV,?_,g1⟩;rw[zac];intro i j hi hj dU;have dB:i<d.size:=by simpa using hi
 have jR:j<d.size:=by simpa using hj
 have:=hs i j (zau _) dU (by rw[<-p1];exact jR)
 unfold ltOf at this;rw[decide_eq_false_iff_not,getElem!_pos d j jR,getElem!_pos d i dB] at this;rw[zaP,zaP];intro h0;exact this (qz.anti.2 h0)
end
theorem qJq (A:Option Addr) (n cap:Nat) (es:List EdD) (w:Wg) (h:ArgE w (.slice A n cap) es) (hs:Srt cmpE es):
  Wk Tryz.prog 219 #[.slice A n cap] w fun e w'=>e= .returned (.slice A n cap)/\ ∃q,w'=w.drewN q:=by
 have H:=qA h;obtain⟨A',cap',hv,aR,hm,_⟩:=h;injection hv with e1 e2 e3
 subst e1 e2 e3;unfold maxLen at hm;have HS:=qA hs;clear hs;by_cases aj:es.length<2
 ·have h1:(es.length:Int)<2:=tO;go_enter Tryz.func219,Tryz.ntmps219
  go_wp2;go_ret;exact⟨rfl,0,rfl⟩
 ·have h1: ¬(es.length:Int)<2:=tO;go_enter Tryz.func219,Tryz.ntmps219
  go_wp2;go_loopw [3] (fun i wr=> ∃k:Nat,k+1<=es.length/\i= .int .i64 ((k:Int)+1)/\ ∃q,wr=w.drewN q) (fun i _=>es.length-(intOf i).toNat)
  case atStart=>exact⟨0,tO,rfl,0,rfl⟩
  case round=>
   obtain⟨k,hk,rfl,q,rfl⟩:=hrel;by_cases ac:k+1<es.length
   ·obtain⟨b,off,rfl,cX,c0,c1,c2,_⟩:=H.o.at ac;obtain⟨b2,iY,fk,_,d0,d1,d2,_⟩:=H.o.at (k:=k) tO;obtain⟨rfl,rfl⟩:b=b2/\off=iY:=by simpa using fk
    have ai:decide (es[k+1]=es[k])=false:=by
     rw[decide_eq_false_iff_not];intro e;have:=(zac.1 HS) k (k+1) tO ac tO
     rw[e] at this;exact qz.irrefl _ this
    have i0:(0:Int)<=(k:Int):=tO;have i1:(k:Int)<(es.length:Int):=tO;have i2:(k:Int)+1<(es.length:Int):=tO;have i3:(0:Int)<=(k:Int)+1:=tO;have i4:((k:Int)+1).toNat=k+1:=tO;have i5:IntKind.i64.wrap ((k:Int)+1-1)=(k:Int):=by rw[IntKind.wrap_i64];omega
    clear fk;have eo:=fun w=>qEo es[k+1] es[k] w;rw[ai] at eo;unfold edV at eo;have dq:=qBk;generalize es[k]=y at*;generalize es[k+1]=x at*;go_wp2;go_quiet (fail)
    go_wp2;go_roundw;exact⟨k+1,tO,by go_num,_,rfl⟩;exact tM
   ·have dw:k+1=es.length:=tO;have i2: ¬(k:Int)+1<(es.length:Int):=tO;go_wp2;go_ret;exact⟨rfl,q,rfl⟩
theorem qLq (v:Wh) (es:List EdD) (w:Wg) (h:ArgE w v es) (eL:es.Nodup) (hl:es.length<=1073741824):
  Wk Tryz.prog 173 #[v] w fun e w'=> ∃r,e= .returned r/\OwE w' w r (srt cmpE es)/\Wf w w w':=by
 have H:=qA h;obtain⟨A,cap,rfl⟩:=h.form;clear h;go_enter Tryz.func173,Tryz.ntmps173
 go_wp2_with (at_builtin;refine qFu rfl (.tmp 4) (.tmp 5) rfl w _ [] (qKH _ (zab _)) rfl _ es (H.alloc _) rfl (by simp;omega) tZ ?_;intro v1 w1 o1 g1 p1)
 have O1:Wi (OwE w1 w v1 es):=qA (by simpa using o1);have B1:Wi (Wf w w w1):=qA (((zal _ _).alloc (zab _) _).grown g1 tZ (fun k hk=>by simp[zaf] at hk;omega));obtain⟨g,ak,rfl⟩: ∃g ak,v1= .slice (some ⟨g,0,none⟩) es.length ak:=by
  obtain⟨A1,ak,rfl,_⟩:=O1.o.form;rcases O1.o.1.2 with ⟨hv,_⟩ | ⟨g',cap',cur,hv,_⟩
  ·rw[hv] at p1;simp[zaf] at p1
  ·injection hv with e1 e2 e3
   subst e1;exact⟨g',ak,rfl⟩
 clear g1 o1 p1;refine(qJI g es.length ak w es w1 O1 hl).mono ?_
 rintro e w2 ⟨rfl,es',o2,hp,DQ,g2⟩;have Do:es'.Nodup:=hp.nodup_iff.2 eL;have hS:Srt cmpE es':=(DQ.and Do).imp fun {a b} ⟨h1,h2⟩=>by
  have:cmpE a b≠0:=fun e=>h2 (qBc.1 e)
  omega
 have hE:es'=srt cmpE es:=qKl qz hS fun x=>hp.mem_iff;have O2:=qA o2;have B2:=qA (B1.o.grown g2 B1.size (fun k hk=>by cases hk;exact(O1.o.1.lt g rfl).1));have HE:=qA hE;have HS:=qA hS;clear o2 g2 hp DQ Do hE hS;go_wp2_with fail;refine(qJq _ _ _ es' w2 O2.arg HS).mono ?_
 rintro e w3 ⟨rfl,q,rfl⟩;go_wp2;go_ret;exact⟨_,rfl,by rw[<-HE.o];exact O2.o.drewN q,qC B2.o q⟩
def ddAt (es:List EdD) (j:Nat):List EdD:=if 0<j/\es.getD j (0,0,0)=es.getD (j-1) (0,0,0) then [] else [es.getD j (0,0,0)]
def ddU (es:List EdD):Nat->List EdD
 | 0=> []
 | j+1=>ddU es j++ddAt es j
theorem qHF {es:List EdD} {j:Nat} (h0:0<j) (hj:j<es.length) (h:es[j]=es[j-1]):ddU es (j+1)=ddU es j:=by
 show ddU es j++ddAt es j=_
 unfold ddAt;rw[Wm ⟨h0,by simp[zbf,hj,show j-1<es.length by omega,h]⟩,List.append_nil]
theorem qEy {es:List EdD} {j:Nat} (hj:j<es.length) (h: ∀_:0<j,es[j]≠es[j-1]):ddU es (j+1)=ddU es j++ [es[j]]:=by
 show ddU es j++ddAt es j=_
 unfold ddAt;rw[Wn]
 ·simp[zbf,hj]
 ·rintro⟨h0,e⟩
  exact h h0 (by simpa[zbf,hj,show j-1<es.length by omega] using e)
theorem qKe {es:List EdD} (hs:es.Pairwise fun a b=>cmpE a b<=0): ∀j,j<=es.length->Srt cmpE (ddU es j)/\ ∀x,x∈ddU es j↔x∈es.take j
 | 0,_=>⟨List.Pairwise.nil,fun x=>by simp[ddU]⟩
 | j+1,hj=>by
   obtain⟨h1,h2⟩:=qKe hs j tO;have eF:j<es.length:=tO;have ht:es.take (j+1)=es.take j++ [es[j]]:=zaj eF;by_cases hd: ∃h0:0<j,es[j]=es[j-1]
   ·obtain⟨h0,e⟩:=hd;rw[qHF h0 eF e];refine⟨h1,fun x=> ?_⟩;rw[h2,ht,zaC,zat];refine⟨.inl,fun h=> ?_⟩;rcases h with h | h
    ·exact h
    ·rw[h,e];exact zaQ.2 ⟨j-1,by rw[zam];omega,by rw[zay]⟩
   ·rw[qEy eF fun h0 e=>hd ⟨h0,e⟩];refine⟨List.pairwise_append.2 ⟨h1,List.pairwise_singleton _ _,fun x hx y hy=> ?_⟩,fun x=> ?_⟩
    ·rw[zat.1 hy];obtain⟨i,hi,rfl⟩:=zaQ.1 ((h2 x).1 hx);rw[zam] at hi;rw[zay];have fN:=(zac.1 hs) i j tO eF tO;have h0:0<j:=tO;have ai:cmpE es[j-1] es[j]≠0:=fun e=>hd ⟨h0,(qBc.1 e).symm⟩;have ud:=(zac.1 hs) (j-1) j tO eF tO;by_cases dU:i=j-1
     ·subst dU;omega
     ·have me:=(zac.1 hs) i (j-1) tO tO tO;by_cases h3:cmpE es[i] es[j-1]=0
      ·rw[qBc.1 h3];omega
      ·exact qz.trans tO (show cmpE es[j-1] es[j]<0 by omega)
    ·rw[zaC,h2,ht,zaC]
theorem qQQ {es:List EdD} (hs:es.Pairwise fun a b=>cmpE a b<=0) {L:List EdD} (hm: ∀x,x∈es↔x∈L):ddU es es.length=srt cmpE L:=by
 obtain⟨h1,h2⟩:=qKe hs es.length (zab _);exact qKl qz h1 fun x=>by rw[h2,zai,hm]
theorem qNe {w:Wg} {base g cap k o:Nat} {es:List EdD} (h:OwE w base (.slice (some ⟨g,0,none⟩) k cap) es) (ho:k*3<=o): ∀(vs:List Wh) (o':Nat),o<=o'->OwE (w.setCells g o' vs) base (.slice (some ⟨g,0,none⟩) k cap) es/\w.grownBy (w.setCells g o' vs) (some g):=by
 intro vs;induction vs generalizing w with
 | nil=>intro o' _;exact⟨h,zaR.refl _ _⟩
 | cons v vs ih=>
   intro o' cV;have hk:k=es.length:=by
    obtain⟨_,_,hv,_⟩:=OwE.form h;injection hv
   subst hk;have hst:=zaB.stored h.1 o' v;have hl:=h.1.1;rw[List.set_eq_of_length_le tO] at hst;obtain⟨i1,i2⟩:=ih (w:=w.setCell ⟨g,o',none⟩ v) ⟨hst.1,h.2⟩ (o'+1) tO;exact⟨i1,hst.2.trans i2⟩
theorem OwE.head {w:Wg} {base g n cap k:Nat} {es:List EdD} (h:OwE w base (.slice (some ⟨g,0,none⟩) n cap) es) (hk:k<=es.length):OwE w base (.slice (some ⟨g,0,none⟩) k cap) (es.take k):=by
 have hn:n=es.length:=by
  obtain⟨_,_,hv,_⟩:=OwE.form h;injection hv
 subst hn;have h1:=qJS h.1 rfl hk;refine⟨?_,fun e he=>h.2 e (List.mem_of_mem_take he)⟩;have hl:(es.take k).length=k:=by rw[zam];omega
 rw[hl];have e:edCs (es.take k)=(edCs es).take (k*3):=by
  have h2:edCs es=edCs (es.take k)++edCs (es.drop k):=by rw[<-qDM,List.take_append_drop]
  rw[h2,List.take_left' (by rw[qCX,hl])]
 rw[e];exact h1
theorem qMF (n:Nat):(Builtin.zeroCells (zaK #[.int .i64 0, .int .i64 0, .int .i64 0]).cells n).toList.length=n*3/\ ∀v∈(Builtin.zeroCells (zaK #[.int .i64 0, .int .i64 0, .int .i64 0]).cells n).toList,v.oneCell'=true:=by
 have hc:(zaK #[.int .i64 0, .int .i64 0, .int .i64 0]).cells= #[.int .i64 0, .int .i64 0, .int .i64 0]:=by simp[Value.cells]
 rw[hc];refine⟨by simp[Builtin.zeroCells],fun v hv=> ?_⟩;simp only[Builtin.zeroCells,Array.toList_map,zaY] at hv;obtain⟨i,_,rfl⟩:=hv;have h3: #[zaU IntKind.i64 0,zaU IntKind.i64 0,zaU IntKind.i64 0].size=3:=rfl;rw[h3];have:i%3=0\/i%3=1\/i%3=2:=tO
 rcases this with e | e | e<;>rw[e]<;>rfl
theorem qHO (w:Wg) (g o n c:Nat) (hn:0<n) (hc: ∀j,j<n*3->(w.cell? ⟨g,o+j,none⟩).isSome=true) (hf: ∀j,j<n*3->w.frozen? ⟨g,o+j,none⟩=false):
  ∃vs,∀ty,(Builtin.clear_ #[24] ty #[.slice (some ⟨g,o,none⟩) n c]).run Tryz.prog w= .ok (.tuple #[]) (w.setCells g o vs):=by
 obtain⟨h1,h2⟩:=qMF n;obtain⟨i0,ci,cB,_,_⟩:=info_parts qFI;refine⟨(Builtin.zeroCells (zaK #[.int .i64 0, .int .i64 0, .int .i64 0]).cells n).toList,fun ty=> ?_⟩;have hst:=run_storeCells_cells (P:=Tryz.prog) g o (Builtin.zeroCells (zaK #[.int .i64 0, .int .i64 0, .int .i64 0]).cells n).toList 0 w (by rw[h1];simpa using hc) (by rw[h1];simpa using hf) h2;simp only[Nat.add_zero] at hst;have hv: ∀w,(zeroValue 97).run Tryz.prog w= .ok (.agg #[.int .i64 0, .int .i64 0, .int .i64 0]) w:=fun w=>by rfl
 obtain⟨m,rfl⟩: ∃m,n=m+1:=⟨n-1,tO⟩;simp[Builtin.clear_,run_underlying Tryz.underlying24,hv,hst]
theorem qKm: ∀(R:List EdD) (k:Nat) (x:EdD),k<R.length->(R.set k x).take (k+1)=R.take k++ [x]
 | [],k,x,h=>by cases h
 | a::R,0,x,_=>tZ
 | a::R,k+1,x,h=>by
   have:=qKm R k x (by simpa using h)
   simp only[zaX,List.take_succ_cons,za6];rw[this]
theorem qLM: ∀(R:List EdD) (k m:Nat) (x:EdD),k<m->(R.set k x).drop m=R.drop m
 | [],k,m,x,h=>tZ
 | a::R,0,m+1,x,_=>tZ
 | a::R,k+1,m+1,x,h=>by
   have:=qLM R k m x tO
   simpa using this
theorem qJT (g n cap base:Nat) (es:List EdD) (w:Wg) (h:OwE w base (.slice (some ⟨g,0,none⟩) n cap) es) (hl:es.length<=1073741824):
  Wk Tryz.prog 219 #[.slice (some ⟨g,0,none⟩) n cap] w fun e w'=>e= .returned (.slice (some ⟨g,0,none⟩) (ddU es es.length).length cap)/\OwE w' base (.slice (some ⟨g,0,none⟩) (ddU es es.length).length cap) (ddU es es.length)/\w.grownBy w' (some g):=by
 obtain⟨_,_,hv,aR,hm,_,hg⟩:=h.form;injection hv with e1 e2 e3
 subst e1 e2 e3;unfold maxLen at hm;have H:=qA h;clear h hg;by_cases aj:es.length<2
 ·have h1:(es.length:Int)<2:=tO;have hd:ddU es es.length=es:=by
   match es,aj with
   | [],_=>rfl
   | [a],_=>simp[ddU,ddAt]
  rw[hd];go_enter Tryz.func219,Tryz.ntmps219
  go_wp2;go_ret;exact⟨rfl,H,zaR.refl _ _⟩
 ·have h1: ¬(es.length:Int)<2:=tO;go_enter Tryz.func219,Tryz.ntmps219
  go_wp2;go_loopw [3] (fun i wr=> ∃k:Nat,k+1<=es.length/\i= .int .i64 ((k:Int)+1)/\ddU es (k+1)=es.take (k+1)/\ ∃q,wr=w.drewN q) (fun i _=>es.length-(intOf i).toNat)
  case atStart=>exact⟨0,tO,rfl,by rw[qEy tO (fun h=>absurd h tO)];rw[zaj tO];rfl,0,rfl⟩
  case round=>
   obtain⟨k,hk,rfl,uO,q,rfl⟩:=hrel;have Hc:=qA uO;clear uO;by_cases ac:k+1<es.length
   ·obtain⟨c0,c1,c2⟩:=H.o.cellAt (k+1) ac;obtain⟨d0,d1,d2⟩:=H.o.cellAt k tO;have i0:(0:Int)<=(k:Int):=tO;have i1:(k:Int)<(es.length:Int):=tO;have i2:(k:Int)+1<(es.length:Int):=tO;have i3:(0:Int)<=(k:Int)+1:=tO;have i4:((k:Int)+1).toNat=k+1:=tO;have i5:IntKind.i64.wrap ((k:Int)+1-1)=(k:Int):=by rw[IntKind.wrap_i64];omega
    have eo:=fun w=>qEo es[k+1] es[k] w;unfold edV at eo;have dq:=qBk;by_cases he:es[k+1]=es[k]
    ·have Iq:=qA (qHF (es:=es) (j:=k+1) tO ac he);rw[decide_eq_true he] at eo;generalize es[k]=y at*;generalize es[k+1]=x at*;go_wp2;go_quiet (fail)
     have lD: ¬cap=k+1:=tO;have i6:(k:Int)+1<=(es.length:Int):=tO;have i7:(es.length:Int)<=(cap:Int):=tO;have N8:=qA H.o.free;have Lj:Wi ((ddU es (k+2)).length=k+1/\es.take (k+1)=ddU es (k+2)):=qA (by
      have h1:=Iq.o;rw[Hc.o] at h1;exact⟨by rw[show k+2=k+1+1 from rfl,h1,zam];omega,h1.symm⟩)
     clear c0 c1 c2 d0 d1 d2;go_wp2;obtain⟨rem,kc⟩: ∃r,r=es.length-(k+1):=⟨_,rfl⟩;have FL:rem+(k+1)=es.length:=tO;have kv:=qA kc;clear kc;rw[<-kv.o];go_loopw [3,5] (fun s3 s5 wr=> ∃(kk t:Nat) (R:List EdD),s3= .int .i64 kk/\s5= .int .i64 ((t:Int)+1)/\t+1<=rem/\kk=(ddU es (k+t+2)).length/\R.length=es.length/\R.take kk=ddU es (k+t+2)/\R.drop (k+t+1)=es.drop (k+t+1)/\kk<=k+t+1/\OwE wr base (.slice (some ⟨g,0,none⟩) es.length cap) R/\w.grownBy wr (some g)) (fun _ i _=>rem-(intOf i).toNat)
     case atStart=>exact⟨k+1,0,es,by go_num,rfl,tO,Lj.o.1.symm,rfl,Lj.o.2,rfl,tO,H.o.drewN _,⟨rfl,rfl,rfl,zab _,fun _ _ _=>rfl⟩⟩
     case round=>
      obtain⟨kk,t,R,rfl,rfl,ht,rh,Fz,Bo,zr,U7,EZ,aC⟩:=hrel;have kH:=qA EZ;have aK:=qA aC;have FX:=qA Bo;have dC:=qA zr;have MA:=qA rh;have JF:=qA Fz;obtain⟨wi,rfl⟩: ∃wi:Wg,wi=wr:=⟨_,rfl⟩;have mR: ∀j (hj:j<es.length),k+t+1<=j->R[j]'tO=es[j]:=fun j hj fN=>by
       have e1:(R.drop (k+t+1))[j-(k+t+1)]? =(es.drop (k+t+1))[j-(k+t+1)]? :=by rw[zr]
       rw[za0,za0,show k+t+1+(j-(k+t+1))=j by omega,zae tO,zae hj] at e1;injection e1
      have pU:=qA kH.o.free;by_cases mE:t+1<rem
      ·have aN:k+t+2<es.length:=tO;obtain⟨c0,c1,c2⟩:=kH.o.cellAt (k+t+2) tO;obtain⟨d0,d1,d2⟩:=kH.o.cellAt (k+t+1) tO;rw[mR (k+t+2) aN tO,show(k+t+2)*3=(k+1)*3+(t+1)*3 by omega] at c0 c1 c2;rw[mR (k+t+1) tO tO,show(k+t+1)*3=(k+1)*3+t*3 by omega] at d0 d1 d2;have xT:=fun w=>qIM es[k+t+2] es[k+t+1] w;unfold edV at xT;have j0:(0:Int)<=(t:Int):=tO;have j1:(t:Int)<(rem:Int):=tO;have j2:(t:Int)+1<(rem:Int):=tO;have j3:(0:Int)<=(t:Int)+1:=tO;have j4:((t:Int)+1).toNat=t+1:=tO;have j5:IntKind.i64.wrap ((t:Int)+1-1)=(t:Int):=by rw[IntKind.wrap_i64];omega
       have DL:Wi (R.drop (k+(t+1)+1)=es.drop (k+(t+1)+1)):=qA (by have h9:=congrArg (List.drop 1) zr;rw[zbe,zbe] at h9;rw[show k+(t+1)+1=k+t+1+1 by omega];exact h9);have ce:=qA (kH.o.2 _ (List.getElem_mem (show k+t+2<R.length by omega)));rw[mR (k+t+2) aN tO] at ce;by_cases zK:es[k+t+2]=es[k+t+1]
       ·have vI:=qA (qHF (es:=es) (j:=k+t+2) tO aN zK);rw[decide_eq_true zK,Bool.not_true] at xT;generalize es[k+t+1]=y2 at*;generalize es[k+t+2]=x2 at*;clear rh Fz Bo zr EZ aC mR;go_wp2;go_quiet (fail)
        go_wp2;go_roundw;exact⟨kk,t+1,R,rfl,by go_num,tO,by rw[show k+(t+1)+2=k+t+2+1 by omega,vI.o];exact MA.o,JF.o,by rw[show k+(t+1)+2=k+t+2+1 by omega,vI.o];exact FX.o,DL.o,tO,kH.o.drew,aK.o.trans ⟨rfl,rfl,rfl,zab _,fun _ _ _=>rfl⟩⟩;exact tM
       ·have vI:Wi (ddU es (k+(t+1)+2)=ddU es (k+t+2)++ [es[k+t+2]]):=qA (by rw[show k+(t+1)+2=k+t+2+1 by omega];exact qEy (es:=es) (j:=k+t+2) aN (fun _ e=>zK e));rw[decide_eq_false zK,zbc] at xT;have JY:kk<R.length:=tO;have eO:=qA (qKm R kk es[k+t+2] JY);have Qy:=qA (qLM R kk (k+(t+1)+1) es[k+t+2] tO);obtain⟨b0,b1,b2⟩:=kH.o.cellAt kk JY;generalize R[kk]=o2 at b0 b1 b2;generalize es[k+t+1]=y2 at*;generalize es[k+t+2]=x2 at*;have cE:=qA (fun N=>(kH.o.drewN N).set kk JY (x:=x2.1) (y:=x2.2.1) (z:=x2.2.2) ce.o.1 ce.o.2.1 ce.o.2.2);have f0:=pU.o (kk*3);have f1:=pU.o (kk*3+1);have f2:=pU.o (kk*3+2);have j6:(kk:Int)<(es.length:Int):=tO;have j7:(0:Int)<=(kk:Int):=tO;clear rh Fz Bo zr EZ aC mR;go_wp2;go_quiet (fail)
        go_wp2;go_roundw;exact⟨kk+1,t+1,R.set kk x2,by go_num,by go_num,tO,by rw[vI.o,za1,<-MA.o];rfl,by rw[List.length_set];exact JF.o,by rw[eO.o,vI.o,FX.o],by rw[Qy.o];exact DL.o,tO,(cE nq).1,(aK.trans (show wi.grownBy (wi.drewN nq) (some g) from⟨rfl,rfl,rfl,zab _,fun _ _ _=>rfl⟩)).trans (cE nq).2⟩;exact tM
      ·obtain rfl:rem=t+1:=tO
       have hn:k+t+2=es.length:=tO;have KM:Wi (kk=(ddU es es.length).length/\R.take kk=ddU es es.length):=qA (by rw[<-hn];exact⟨rh,Bo⟩);have Pd:kk<es.length:=tO;have Uq:=qA (kH.o.head (k:=kk) tO);obtain⟨vs,aZ⟩:=qHO wi g (kk*3) (es.length-kk) (cap-kk) tO (fun j hj=>by
        have hq:kk+j/3<R.length:=tO;obtain⟨g0,g1,g2⟩:=kH.o.cellAt (kk+j/3) hq;have:j%3=0\/j%3=1\/j%3=2:=tO
        rcases this with e | e | e
        ·rw[show kk*3+j=(kk+j/3)*3 by omega,g0];rfl
        ·rw[show kk*3+j=(kk+j/3)*3+1 by omega,g1];rfl
        ·rw[show kk*3+j=(kk+j/3)*3+2 by omega,g2];rfl) (fun j _=>pU.o _)
       have yJ:=qA (qNe Uq (zab _) vs (kk*3) (zab _));have j6:(kk:Int)<=(es.length:Int):=tO;have j7:(0:Int)<=(kk:Int):=tO;have j8: ¬cap=kk:=tO;have j9:(kk:Int)<=(cap:Int):=tO;clear rh Fz Bo zr EZ aC mR;go_wp2;go_ret;refine⟨by rw[<-KM.o.1];rfl,?_,aK.o.trans yJ.o.2⟩;have h1:=yJ.o.1;rw[KM.o.2] at h1;have h2:=KM.o.1;rw[<-h2];exact h1
    ·have Iq:Wi (ddU es (k+1+1)=es.take (k+1+1)):=qA (by rw[qEy ac (fun _ e=>he e),Hc.o,zaj ac]);rw[decide_eq_false he] at eo;generalize es[k]=y at*;generalize es[k+1]=x at*;go_wp2;go_quiet (fail)
     go_wp2;go_roundw;exact⟨k+1,tO,by go_num,Iq.o,_,rfl⟩;exact tM
   ·have dw:k+1=es.length:=tO;have i2: ¬(k:Int)+1<(es.length:Int):=tO;have HD:Wi (ddU es es.length=es):=qA (by have:=Hc.o;rw[dw,zai] at this;exact this);clear dw;go_wp2;go_ret;rw[HD.o];exact⟨rfl,H.o.drewN q,⟨rfl,rfl,rfl,zab _,fun _ _ _=>rfl⟩⟩
theorem qDN (v:Wh) (es:List EdD) (w:Wg) (h:ArgE w v es) (hl:es.length<=1073741824):
  Wk Tryz.prog 173 #[v] w fun e w'=> ∃r,e= .returned r/\OwE w' w r (srt cmpE es)/\Wf w w w':=by
 have H:=qA h;obtain⟨A,cap,rfl⟩:=h.form;clear h;go_enter Tryz.func173,Tryz.ntmps173
 go_wp2_with (at_builtin;refine qFu rfl (.tmp 4) (.tmp 5) rfl w _ [] (qKH _ (zab _)) rfl _ es (H.alloc _) rfl (by simp;omega) tZ ?_;intro v1 w1 o1 g1 p1)
 have O1:Wi (OwE w1 w v1 es):=qA (by simpa using o1);have B1:Wi (Wf w w w1):=qA (((zal _ _).alloc (zab _) _).grown g1 tZ (fun k hk=>by simp[zaf] at hk;omega));obtain⟨g,ak,rfl⟩: ∃g ak,v1= .slice (some ⟨g,0,none⟩) es.length ak:=by
  obtain⟨A1,ak,rfl,_⟩:=O1.o.form;rcases O1.o.1.2 with ⟨hv,_⟩ | ⟨g',cap',cur,hv,_⟩
  ·rw[hv] at p1;simp[zaf] at p1
  ·injection hv with e1 e2 e3
   subst e1;exact⟨g',ak,rfl⟩
 clear g1 o1 p1;refine(qJI g es.length ak w es w1 O1 hl).mono ?_
 rintro e w2 ⟨rfl,es',o2,hp,DQ,g2⟩;have hE:ddU es' es'.length=srt cmpE es:=qQQ (DQ.imp fun h=>tO) fun x=>hp.mem_iff;have aM:es'.length=es.length:=hp.length_eq;have O2:=qA o2;have B2:=qA (B1.o.grown g2 B1.size (fun k hk=>by cases hk;exact(O1.o.1.lt g rfl).1));have d8:=qA (fun k (hk:some g=some k)=>show w.heap.size<=k by cases hk;exact(O1.o.1.lt g rfl).1);have HE:=qA hE;have ud:es'.length<=1073741824:=tO;clear o2 g2 hp DQ hE aM;go_wp2_with fail;refine(qJT g _ _ w es' w2 O2 ud).mono ?_
 rintro e w3 ⟨rfl,o3,g3⟩;rw[HE.o] at o3⊢;have O3:=qA o3;have B3:=qA (B2.o.grown g3 B2.size d8);clear o3 g3;go_wp2;go_ret;exact⟨_,rfl,O3,B3⟩
section
variable {P:Program} {ops:Array Oper} {Q:Exit->Act->Wg->Prop} {S:Wg->Prop} {n:Nat}
def qCb (P:Program) (ops:Array Oper) (Q:Exit->Act->Wg->Prop) (S:Wg->Prop) (n:Nat):Nat->Array Bool->Act->Wg->Prop
 | 0,listed,a,w=>Region.ready .any ops listed= []/\Q .normal a w
 | f+1,listed,a,w=>(Region.ready .any ops listed= []->Q .normal a w)/\
   ∀i,i∈Region.ready .any ops listed->wpOp P ops Q i (fun a' w'=>(i≠n->S w')/\qCb P ops Q S n f (listed.setIfInBounds i true) a' w') a w
theorem qLu: ∀(f:Nat) (listed:Array Bool) (a:Act) (w:Wg),qCb P ops Q S n f listed a w->wpAny P .any ops Q f listed a w:=by
 intro f;induction f with
 | zero=>intro listed a w h;exact h
 | succ f ih=>intro listed a w h;exact⟨h.1,fun i hi=>wpOp_mono (fun a' w' hk=>ih _ a' w' hk.2) (h.2 i hi)⟩
theorem qJv {st:Oper} (af:LastOk ops ops n st st) {i:Nat} {oi:Oper} {v:Wh} (hi:ops[i]? =some oi) (cY:i<n) (pu:Region.noSelect ops=true)
  (hQ: ∀c a w,Q (.panic c) (a.put oi.dst v) w->Q (.panic c) a w):
  ∀(f:Nat) (listed:Array Bool) (a:Act) (w:Wg),Cl ops listed->
   (∀j oj,ops[j]? =some oj->j≠i->listed.getD j true=false->(∀e∈oj.after,Region.binds .any e=true->e.on≠i)->oi.apart ops oj=true)->
   i∈Region.ready .any ops listed->YieldsIf P ops S oi v a->S w->
   qCb P ops Q S n f (listed.setIfInBounds i true) (a.put oi.dst v) w->qCb P ops Q S n (f+1) listed a w:=by
 have hs:=Region.noSelect_spec pu;intro f;induction f with
 | zero=>
   intro listed a w _ _ hr hy hS H;refine⟨fun h0=>(by rw[h0] at hr;cases hr),fun j hj=> ?_⟩;by_cases e:j=i
   ·subst e;exact hy.wpOp hi hS ⟨fun _=>hS,H⟩
   ·have:=ready_mono hj e
    rw[H.1] at this;cases this
 | succ f ih=>
   intro listed a w hc hfree hr hy hS H;refine⟨fun h0=>(by rw[h0] at hr;cases hr),fun j hj=> ?_⟩;by_cases e:j=i
   ·subst e;exact hy.wpOp hi hS ⟨fun _=>hS,H⟩
   ·have Ei:=(mem_ready.1 hr).1;have ar:listed.size=n+1:=hc.1.trans af.size;have pY:j≠n:=fun e'=>by
     subst e';have:=af.all hc hj _ i rfl cY
     rw[qAp tO,this] at Ei;cases Ei
    have h1:=H.2 j (ready_mono hj e);obtain⟨Oj,oj,vy,aG⟩:=mem_ready.1 hj;have dz: ∀e∈oj.after,Region.binds .any e=true->e.on≠i:=fun e he hb h=>by
     have h2:=aG e he hb;rw[h] at h2;rw[qAp tO,h2] at Ei;cases Ei
    have h2:=wpOp_putIf vy (hfree j oj vy e Oj dz) (fun cs b=>hs i oi cs b hi) (fun cs b=>hs j oj cs b vy) hQ hy h1;refine wpOp_mono (fun a' w' hk=> ?_) h2;obtain⟨Fa,Mb,hk⟩:=hk;refine⟨fun _=>Mb pY,ih _ a' w' (hc.set hj) (fun k ok zD tI cQ hno'=> ?_) (ready_mono hr (Ne.symm e)) Fa (Mb pY) ?_⟩
    ·refine hfree k ok zD tI ?_ hno';by_cases jy:j=k
     ·subst jy;exact Oj
     ·rwa [getD_set_ne true jy] at cQ
    ·rw[Array.setIfInBounds_comm _ _ e];exact hk
def clB (ops:Array Oper) (listed:Array Bool):Bool:=
 decide (listed.size=ops.size)&&(zav ops.size).all fun j=> !listed.getD j false||match ops[j]? with
  | some o=>o.after.all fun e=> !Region.binds .any e||listed.getD e.on false
  | none=>true
theorem qRM {listed:Array Bool} (h:clB ops listed=true):Cl ops listed:=by
 unfold clB at h;simp only[zah,decide_eq_true_eq,zak,zar,zaJ,zaH] at h;refine⟨h.1,fun j o ho hl e he hb=> ?_⟩;have hj:=(zaF.1 ho).1;rcases h.2 j hj with h1 | h1
 ·rw[hl] at h1;cases h1
 ·rw[ho] at h1;have:=Array.all_eq_true_iff_forall_mem.1 h1 e he
  rw[hb] at this;simpa using this
theorem qL {l:List Oper} {i f:Nat} {oi:Oper} {v:Wh} {listed:Array Bool} {a:Act} {w:Wg} (hl:l.length=n+1) (hL:qLl l.toArray n=true)
  (hi:l.toArray[i]? =some oi) (cY:i<n) (hs:Region.noSelect l.toArray=true) (hc:clB l.toArray listed=true) (hf:Region.free .any l.toArray listed i=true) (hr:(Region.ready .any l.toArray listed).contains i=true)
  (hQ: ∀c a w,Q (.panic c) (a.put oi.dst v) w->Q (.panic c) a w) (hy:YieldsIf P l.toArray S oi v a) (hS:S w)
  (h:qCb P l.toArray Q S n f (listed.setIfInBounds i true) (a.put oi.dst v) w):qCb P l.toArray Q S n (f+1) listed a w:=by
 obtain⟨st,_,af⟩:=qJB hl hL;have wh:LastOk l.toArray l.toArray n st st:=⟨af.size,af.size,fun _ _=>⟨rfl,rfl⟩,af.hst,af.hst,rfl,af.dst,af.dst,af.guard,af.guard,af.back,af.chain⟩;exact qJv wh hi cY hs hQ f listed a w (qRM hc) (Region.free_spec hi hf) (by simpa using hr) hy hS h
theorem qHi {i f:Nat} {listed:Array Bool} {a:Act} {w:Wg} (hr:Region.ready .any ops listed= [i])
  (h:wpOp P ops Q i (fun a' w'=>(i≠n->S w')/\qCb P ops Q S n f (listed.setIfInBounds i true) a' w') a w):qCb P ops Q S n (f+1) listed a w:=by
 refine⟨fun h0=>(by rw[hr] at h0;cases h0),fun j hj=> ?_⟩;rw[hr,zat] at hj;subst hj;exact h
theorem qKV {listed:Array Bool} {a:Act} {w:Wg} (hr:Region.ready .any ops listed= []) (h:Q .normal a w): ∀f,qCb P ops Q S n f listed a w
 | 0=>⟨hr,h⟩
 | _+1=>⟨fun _=>h,fun i hi=>by rw[hr] at hi;cases hi⟩
theorem qKR {id:Nat} {a:Act} {w:Wg} (hm:P.follows .mixedOrders=true) (h:qCb P ops Q S n ops.size (zap ops.size false) a w.drew):(Code.region id ops true).wp P Q a w:=
 wp_region_any hm (qLu _ _ _ _ h)
end
section
variable {P:Program} {ops:Array Oper} {Q:Exit->Act->Wg->Prop} {S:Wg->Prop} {n:Nat}
theorem qAU {i f:Nat} {o:Oper} {listed:Array Bool} {a:Act} {w:Wg} (hr:Region.ready .any ops listed= [i]) (ho:ops[i]? =some o)
  (h: ∀K':Act->Wg->Prop,Shut (∀a' w',S w'->(S w'->qCb P ops Q S n f (listed.setIfInBounds i true) a' w')->K' a' w')->if Region.wanted o (yielded ops a.tmps)=true then Oper.wp P o a w K' Q else K' (a.put o.dst undef) w):
  qCb P ops Q S n (f+1) listed a w:=
 qHi hr (wpOp_step ho fun K' hK=>h K' (fun a' w' hS hW=>hK a' w' ⟨fun _=>hS,hW hS⟩))
theorem qDL {f:Nat} {o:Oper} {listed:Array Bool} {a:Act} {w:Wg} (hr:Region.ready .any ops listed= [n]) (ho:ops[n]? =some o) (hd:Region.ready .any ops (listed.setIfInBounds n true)= [])
  (h: ∀K':Act->Wg->Prop,Shut (∀a' w',Q .normal a' w'->K' a' w')->if Region.wanted o (yielded ops a.tmps)=true then Oper.wp P o a w K' Q else K' (a.put o.dst undef) w):
  qCb P ops Q S n (f+1) listed a w:=
 qHi hr (wpOp_step ho fun K' hK=>h K' (fun a' w' hQ=>hK a' w' ⟨fun hn=>absurd rfl hn,qKV hd hQ f⟩))
theorem qCf {id m:Nat} {a:Act} {w:Wg} (hm:P.follows .mixedOrders=true) (hz:ops.size=m) (hS:S w.drew) (h:S w.drew->qCb P ops Q S n m (zap m false) a w.drew):(Code.region id ops true).wp P Q a w:=
 qKR hm (by rw[hz];exact h hS)
end
theorem qBs {w:Wg} {o:Oper} {a:Act} {K:Act->Wg->Prop} {Q:Exit->Act->Wg->Prop} (s x:Operand)
  (ho:o.op= .call {callee:= .builtin .append,args:= #[s,x],argTypes:= #[24,24]})
  (base:Nat) (v:Wh) (es:List EdD) (aa:OwE w base v es) (hs:a.eval s=v) (b:Nat) (e:EdD) (hx:a.eval x= .slice (some ⟨b,0,none⟩) 1 1)
  (hc: ∀j u,(edC e)[j]? =some u->w.cell? ⟨b,j,none⟩=some u) (he:E64 e) (hl:es.length<=1073741824) (au:base<=w.heap.size)
  (h: ∀v' w',OwE w' base v' (es++ [e])->w.grownBy w' v.ownBlock->(v'.ownBlock=v.ownBlock\/v'.ownBlock=some w)->K (a.put o.dst v') w'):
  o.wp Tryz.prog a w K Q:=by
 obtain⟨i0,ci,cB,bi,bQ⟩:=info_parts qFI;obtain⟨v',w',gV,h1,h2,_,h5⟩:=run_append_own_at (P:=Tryz.prog) w base 24 o.type 97 i0 _ 3 24 Tryz.underlying24 ci cB bi bQ rfl tD v es.length (edCs es) aa.1 ⟨b,0,none⟩ 1 1 (edC e) rfl
  (fun j u hj=>by rw[Addr.add_lit,zad];exact hc j u hj) (by intro u hu;simp[edC] at hu;rcases hu with rfl | rfl | rfl<;>rfl) (by unfold maxLen;omega) tO au
 unfold Oper.wp execOp;simp only[ho,resolve,invoke,builtin,Sem.run_bind,Sem.run_pure,Result.andThen_ok,za7,zbh,List.map_nil,hs,hx,gV];refine h v' w' ⟨?_,qEc aa.2 (qLT he)⟩ h2 h5;have e1:edCs (es++ [e])=edCs es++edC e:=by rw[qDM];simp[edCs]
 rw[e1,za1];exact h1
theorem qJt (N k:Nat) (h:k<N):((zas k (-1:Int))++zas (N-k) 0).set k (-1)=zas (k+1) (-1)++zas (N-(k+1)) 0:=by
 obtain⟨m,hm⟩: ∃m,N-k=m+1:=⟨N-k-1,tO⟩;rw[hm,show N-(k+1)=m by omega,List.set_append_right _ _ tZ,zaM,Nat.sub_self,List.replicate_succ,zaW,List.replicate_succ'];simp
end Go.Proofs.YtnjpoljbagfdnaaGreat
