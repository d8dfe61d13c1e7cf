/- Parts of the proof (10). -/
import Derived.Test.YtnjpoljbagfdnaaGreatM09
set_option maxRecDepth 100000
set_option maxHeartbeats 16000000
set_option linter.unusedVariables false
set_option linter.unusedSimpArgs false
namespace Go.Proofs.YtnjpoljbagfdnaaGreat
open Go.RowKit
open Go.RowKit renaming Below→Wf,Hid→Wi
open Go renaming Calls→Wk,Value→Wh,World→Wg,bodyPost_ret→Wj
open _root_.List renaming setIfInBounds_toArray->zaa,set_cons_zero->zab,set_cons_succ->zac,getElem?_eq_getElem->zaf,mem_append->zah,mem_range->zaj,range->zak,take_succ_eq_append_getElem->zal,getElem?_eq_some_iff->zao,getElem_mem->zap,getElem?_append_left->zat,length_append->zau,take_length->zaw,length_cons->zaz,mem_filter->zaC,length_map->zaD,mem_of_mem_take->zaE,length_pos_iff->zaF,length_reverse->zaG,replicate->zaH,getD_eq_getElem?_getD->zaI,foldl_append->zaJ,length_nil->zaM,length_pos_of_mem->zaN,length->zaP,mem_of_mem_drop->zaS,map_congr_left->zaT,mem_map->zaV,getElem?_take->zaX,append_assoc->zaY,Pairwise->za5
open Go.RowKit.Below renaming refl->zad,drew->zaQ
open Go.Act renaming put->zae
open _root_.Nat renaming le_refl->zag,mul_comm->zam,zero_le->zaq,lt_or_ge->zar,mul_le_mul->zav,div_eq_of_lt->zax,mod_eq_of_lt->zay,mul_add_div->zaA,mul_add_mod->zaB,zero_add->zaL,div_lt_of_lt_mul->zaR,div_le_self->za2,div_add_mod->za3
open Go.Value renaming ownBlock->zai,slice->za0
open _root_.Int renaming toNat_natCast->zan,neg_neg->zaO,toNat_of_nonneg->zaU,natCast_nonneg->zaW
open _root_.Bool renaming and_eq_true->zas
open _root_.Classical renaming byContradiction->zaK
open Go.World renaming ownsRow_lit->zaZ,grownBy->za4
open _root_.Option renaming getD_some->za1
theorem qDU (va vb:Wh) (a b:GrD) (w:Wg) (ha:ArgG w va a) (hb:ArgG w vb b):
  Wk Tryz.prog 116 #[va,vb] w fun e w'=> ∃s,e= .returned s/\OwI w' w s (qDD a b)/\Wf w w w':=by
 have cJ:=qA ha;have aS:=qA hb;have fY:Wi ((qS a&&qS b&&decide (a.1=b.1))=false->qDD a b= []):=qA fun h=>by unfold qDD;rw[h];rfl
 have jo:Wi (qS a=true->qS b=true->a.1=b.1->qDD a b=(qCZ a b a.2.1.toNat b.2.1.toNat a.1.toNat (a.2.1.toNat*b.2.1.toNat)).2):=qA fun h1 h2 h3=>by unfold qDD;rw[h1,h2,Wm (by simp[h3])]
 generalize qDD a b=CR at*;obtain⟨Aa,capa,rfl⟩: ∃A' cap,va= .agg #[.int .i64 a.1, .int .i64 a.2.1, .slice A' a.2.2.length cap]:=by
  obtain⟨s,hv,_,_,ha⟩:=cJ.o;obtain⟨A',cap,rfl⟩:=ha.form;exact⟨A',cap,hv⟩
 obtain⟨Ab,capb,rfl⟩: ∃A' cap,vb= .agg #[.int .i64 b.1, .int .i64 b.2.1, .slice A' b.2.2.length cap]:=by
  obtain⟨s,hv,_,_,ha⟩:=aS.o;obtain⟨A',cap,rfl⟩:=ha.form;exact⟨A',cap,hv⟩
 clear ha hb;go_enter Tryz.func116,Tryz.ntmps116
 go_wp2_with fail;have bx:Wf w w (((w.alloc (.cells #[.int .i64 a.1,.int .i64 a.2.1, .slice Aa a.2.2.length capa] 26)).alloc (.cells #[.int .i64 b.1,.int .i64 b.2.1, .slice Ab b.2.2.length capb] 26)).alloc (.cells #[] 3)):=ZZ;obtain⟨W0,ah⟩: ∃W,W=((w.alloc (.cells #[.int .i64 a.1,.int .i64 a.2.1, .slice Aa a.2.2.length capa] 26)).alloc (.cells #[.int .i64 b.1,.int .i64 b.2.1, .slice Ab b.2.2.length capb] 26)).alloc (.cells #[] 3):=⟨_,rfl⟩;have oE:OwI W0 (w.heap.size+1+1) (.slice (some ⟨w.heap.size+1+1,0,none⟩) 0 0) []:=by
  rw[ah];exact qAc _ [] (w.heap.size+1+1) tZ (fun _ h=>by cases h) tZ (zag _)
 rw[<-ah] at bx⊢;have aH:W0.heap.size=w.heap.size+1+1+1:=by rw[ah];simp
 have A0:Wi (W0.cell? ⟨w,0,none⟩=some (.int .i64 a.1)):=qA (by rw[ah];simp[go_sem]);have A1:Wi (W0.cell? ⟨w,1,none⟩=some (.int .i64 a.2.1)):=qA (by rw[ah];simp[go_sem]);have A2:Wi (W0.cell? ⟨w,2,none⟩=some (.slice Aa a.2.2.length capa)):=qA (by rw[ah];simp[go_sem]);have B0:Wi (W0.cell? ⟨w.heap.size+1,0,none⟩=some (.int .i64 b.1)):=qA (by rw[ah];simp[go_sem]);have B1:Wi (W0.cell? ⟨w.heap.size+1,1,none⟩=some (.int .i64 b.2.1)):=qA (by rw[ah];simp[go_sem]);have B2:Wi (W0.cell? ⟨w.heap.size+1,2,none⟩=some (.slice Ab b.2.2.length capb)):=qA (by rw[ah];simp[go_sem]);clear ah;have bh:w.heap.size<W0.heap.size:=tO;have bk:w.heap.size+1<W0.heap.size:=tO;have BX:=qA bx;have fj:=qA aH;have OE:=qA oE;have gn:Wi (∀W,Wf W0 W0 W->ArgG W (.agg #[.int .i64 a.1, .int .i64 a.2.1, .slice Aa a.2.2.length capa]) a):=qA fun W hb=>cJ.o.below (BX.trans (hb.mono tO));have kB:Wi (∀W,Wf W0 W0 W->ArgG W (.agg #[.int .i64 b.1, .int .i64 b.2.1, .slice Ab b.2.2.length capb]) b):=qA fun W hb=>aS.o.below (BX.trans (hb.mono tO));clear bx oE aH;refine(qY _ a W0 (gn _ (zad _ _))).mono ?_
 rintro e w1 ⟨rfl,b1⟩;have d8:=qA b1;have q3:=(b1.cell (p:=⟨w.heap.size+1,0,none⟩) bk).trans B0.o;have q4:=(b1.cell (p:=⟨w.heap.size+1,1,none⟩) bk).trans B1.o;have q5:=(b1.cell (p:=⟨w.heap.size+1,2,none⟩) bk).trans B2.o;have q0:=(b1.cell (p:=⟨w,0,none⟩) bh).trans A0.o;clear b1;rcases e1:qS a with _ | _
 ·have HR:Wi (CR= []):=qA (fY (by rw[e1];rfl));clear e1;go_wp2;exact Wj (v:= .slice (some ⟨w.heap.size+1+1,0,none⟩) 0 0) (by simp[results,Tryz.results116]) rfl ⟨_,rfl,by rw[HR.o];exact(OE.below d8).mono tO,BX.o.trans (d8.mono tO)⟩
 go_wp2_with fail;refine(qY _ b w1 (kB _ d8)).mono ?_
 rintro e w2 ⟨rfl,b2⟩;have al:=qA (d8.trans (b2.mono d8.size));clear b2 q0 q3 q4 q5;have q0:=(al.cell (p:=⟨w,0,none⟩) bh).trans A0.o;have q1:=(al.cell (p:=⟨w,1,none⟩) bh).trans A1.o;have q3:=(al.cell (p:=⟨w.heap.size+1,0,none⟩) bk).trans B0.o;have q4:=(al.cell (p:=⟨w.heap.size+1,1,none⟩) bk).trans B1.o;rcases e2:qS b with _ | _
 ·have HR:Wi (CR= []):=qA (fY (by rw[e1,e2];rfl));clear e1 e2;go_wp2;exact Wj (v:= .slice (some ⟨w.heap.size+1+1,0,none⟩) 0 0) (by simp[results,Tryz.results116]) rfl ⟨_,rfl,by rw[HR.o];exact(OE.below al).mono tO,BX.o.trans (al.mono tO)⟩
 rcases e3:(a.1 != b.1) with _ | _
 rotate_left
 ·have HR:Wi (CR= []):=qA (fY (by simp at e3;simp[e3]));clear e1 e2;go_wp2;exact Wj (v:= .slice (some ⟨w.heap.size+1+1,0,none⟩) 0 0) (by simp[results,Tryz.results116]) rfl ⟨_,rfl,by rw[HR.o];exact(OE.below al).mono tO,BX.o.trans (al.mono tO)⟩
 have gq:a.1=b.1:=by simpa using e3
 have h2:=qKw e1 e2;have HR:=qA (jo e1 e2 gq);have aF:=(qD h2.ga).1;obtain⟨A,hA⟩: ∃A,A=a.2.1.toNat:=⟨_,rfl⟩;obtain⟨B,hB⟩: ∃B,B=b.2.1.toNat:=⟨_,rfl⟩;obtain⟨r,hr⟩: ∃r,r=a.1.toNat:=⟨_,rfl⟩;rw[<-hA,<-hB,<-hr] at HR;rw[<-hA,<-hB] at h2;obtain⟨⟨pP,fk⟩,EA,rq⟩:=h2.bd;obtain⟨n,hn⟩: ∃n,n=A*B:=⟨_,rfl⟩;have eX:n<=1600:=by rw[hn];exact zav fk rq
 have eY:a.1=(r:Int):=tO;have fc:b.1=(r:Int):=tO;have bT:r<=3:=tO;have wY:=qA eY;have xm:=qA fc;have JE:=qA h2.sa;have Ln:=qA h2.sb;have BI:IntKind.i64.wrap ((A:Int)*(B:Int))=(n:Int):=by
  have e:(A:Int)*(B:Int)=(n:Int):=by rw[hn];simp
  rw[e,IntKind.wrap_i64];omega
 have H2:=qA h2;have HN:=qA hn;rw[h2.sa] at q1;rw[h2.sb] at q4;have lB:Wi (∀W,Wf (w.heap.size+1+1) W0 W->ArgG W (.agg #[.int .i64 r, .int .i64 A, .slice Aa a.2.2.length capa]) a):=qA fun W hb=>by
  rw[<-eY,<-h2.sa];exact cJ.o.below (BX.trans (hb.mono tO))
 have AO:Wi (∀W,Wf (w.heap.size+1+1) W0 W->ArgG W (.agg #[.int .i64 r, .int .i64 B, .slice Ab b.2.2.length capb]) b):=qA fun W hb=>by
  rw[<-fc,<-h2.sb];exact aS.o.below (BX.trans (hb.mono tO))
 have C0:Wi (W0.cell? ⟨w,0,none⟩=some (.int .i64 r)):=qA (by rw[<-eY];exact A0.o);have C1:Wi (W0.cell? ⟨w,1,none⟩=some (.int .i64 A)):=qA (by rw[<-h2.sa];exact A1.o);have D0:Wi (W0.cell? ⟨w.heap.size+1,0,none⟩=some (.int .i64 r)):=qA (by rw[<-fc];exact B0.o);have D1:Wi (W0.cell? ⟨w.heap.size+1,1,none⟩=some (.int .i64 B)):=qA (by rw[<-h2.sb];exact B1.o);clear e1 e2 h2 hA hB hr hn eY fc gq aF;obtain⟨i0,ci,cB,bi,bQ⟩:=info_parts qDl;go_wp2_with (at_make;refine wpList_make_full _ rfl _ _ 64 rfl w2 4 i0 (.bool false) 1 Tryz.underlying64 ci cB bi _ _ _ _ n rfl rfl rfl rfl (by rw[bQ];omega) (by unfold maxLen;omega) (zag _) ?_)
 intro w3 hown0 hgrow0;have bU:OwB w3 w2 (.slice (some ⟨w2,0,none⟩) n n) (qCY n []):=by
  unfold OwB;rw[qAk,qHP];have:qFR (zaH n false)=zaH n (Value.bool false):=by simp[qFR]
  rw[this];simpa[toList_madeCells_one] using hown0
 have rF:w2.heap.size<w3.heap.size:=(bU.lt w2 rfl).2;have nL:Wf w2 w2 w3:=(zad w2 w2).grown hgrow0 (zag _) (fun k h=>by cases h);have Be:=qA bU;have aB:=qA (al.trans (nL.mono al.size));have dQ:=al.o.size;have dI:=qA ((OE.below al).below nL);clear hown0 bU hgrow0 nL q0 q1 q3 q4;go_wp2;go_loopw [5,7] (fun out i wo=> ∃k:Nat,k<=n/\i= .int .i64 k/\OwI wo (w.heap.size+1+1) out (qCZ a b A B r k).2/\OwB wo w2 (.slice (some ⟨w2,0,none⟩) n n) (qCY n (qCZ a b A B r k).1)/\out.ownBlock≠some w2.heap.size/\Wf (w.heap.size+1+1) W0 wo/\w2.heap.size<wo.heap.size) (fun _ i _=>n-(intOf i).toNat)
 case atStart=>exact⟨0,zaq _,rfl,dI,Be,by have:=fj.o;simp[zai];omega,aB.o.mono (by have:=fj.o;omega),rF⟩
 case round=>
  obtain⟨k,hk,rfl,aa,dy,ai,ab,rb⟩:=hrel;obtain⟨wo,rfl⟩: ∃wo:Wg,wo=wr:=⟨_,rfl⟩;have HO:=qA aa;have gG:=qA dy;have a8:=qA ai;have aU:=qA ab;have aZ:=qIg a b A B r k;obtain⟨AJ,ak,rfl,_⟩:=aa.form;by_cases ac:k<n
  ·have am:=dy.cellAt k (by rw[qAk];exact ac);rw[qDa n _ k ac] at am;have tI:(k:Int)<(n:Int):=tO;have CS:=qA (qEA a b A B r k);have Da:=qGz H2.o bT (p:=k) (by rw[<-HN.o];exact ac);have ka:Wi (prk a b A B r k=(edgL a.2.2 b.2.2 B r (prsL a b A B (qB r) k):Int)-(prsL a b A B (qB r) k).length+1):=qA rfl;have iM:=qA (qHC H2 (ls:=qB r) (p:=k) (by rw[<-HN.o];exact ac));obtain⟨un,cQ⟩: ∃un,un=k/B:=⟨_,rfl⟩;obtain⟨vn,d6⟩: ∃vn,vn=k%B:=⟨_,rfl⟩;have rH:un<=1600:=by rw[cQ];exact Nat.le_trans (za2 _ _) tO
   have gd:wrap64 ((k:Int)/(B:Int))=(un:Int):=by
    have:(k:Int)/(B:Int)=(un:Int):=by rw[cQ];rfl
    rw[this];exact IntWalk.wrap64_in _ ⟨tO,tO⟩
   have D6:IntKind.i64.wrap ((k:Int)/(B:Int))=(un:Int):=by rw[qDI];exact gd
   have iA:(k:Int)%(B:Int)=(vn:Int):=by rw[d6];rfl
   have Cr:Int.tmod (k:Int) (B:Int)=(vn:Int):=by rw[remB,d6]
   have Hp: ¬B=0:=tO;have JA: ¬(B:Int)=0:=tO;have ra:=qA (fun W h h'=>qCd (.agg #[.int .i64 r, .int .i64 A, .slice Aa a.2.2.length capa]) (.agg #[.int .i64 r, .int .i64 B, .slice Ab b.2.2.length capb]) a b A B r k un vn W h h' H2 wY xm (by rw[<-HN.o];exact ac) (by rw[cQ,d6];exact qPk));have dX:=qA (fun (vo:Wh) W h h' ho=>qCk (.agg #[.int .i64 r, .int .i64 A, .slice Aa a.2.2.length capa]) (.agg #[.int .i64 r, .int .i64 B, .slice Ab b.2.2.length capb]) vo a b A B r (prsL a b A B (qB r) k) W h h' ho H2 wY xm iM Da.1);have oS:=qA (qCI (ls:=qB r) (p:=k) H2);rw[<-HN.o] at iM;obtain⟨KN,Ic⟩:=Da;generalize qCZ a b A B r k=ST at*;obtain⟨M,O⟩:=ST;simp only at HO gG aZ am⊢
   clear aa dy ai ab cQ d6;rcases il:decide (k∈M) with _ | _
   rotate_left
   ·have F:Wi (qCZ a b A B r (k+1)=(M,O)):=qA (by rw[CS.o];unfold cst;rw[Wm (by simpa using il)]);rw[il] at am;go_wp2;go_roundw;exact⟨k+1,tO,by go_num,by rw[F.o];exact HO.o,by rw[F.o];exact gG.o,a8.o,aU.o,rb⟩;exact tM
   have F:Wi (qCZ a b A B r (k+1)=(M++prsL a b A B (qB r) k,O++ [prk a b A B r k])):=qA (by rw[CS.o];unfold cst;rw[Wn (by simpa using il)]);rw[il] at am;clear il CS;rw[ka.o] at F;generalize prsL a b A B (qB r) k=PS at*;generalize edgL a.2.2 b.2.2 B r PS=EN at*;have di:w.heap.size<w.heap.size+1+1:=tO;have iu:w.heap.size+1<w.heap.size+1+1:=tO;have q0:=(aU.o.cell (p:=⟨w,0,none⟩) di).trans C0.o;have q1:=(aU.o.cell (p:=⟨w,1,none⟩) di).trans C1.o;have q2:=(aU.o.cell (p:=⟨w,2,none⟩) di).trans A2.o;have q3:=(aU.o.cell (p:=⟨w.heap.size+1,0,none⟩) iu).trans D0.o;have q4:=(aU.o.cell (p:=⟨w.heap.size+1,1,none⟩) iu).trans D1.o;have q5:=(aU.o.cell (p:=⟨w.heap.size+1,2,none⟩) iu).trans B2.o;go_wp2_with fail;refine wp_region_held_drew (S:=fun w'=>w'.cell? ⟨w,0,none⟩=some (.int .i64 r)/\w'.cell? ⟨w,1,none⟩=some (.int .i64 A)/\w'.cell? ⟨w,2,none⟩=some (.slice Aa a.2.2.length capa)/\w'.cell? ⟨w.heap.size+1,0,none⟩=some (.int .i64 r)/\w'.cell? ⟨w.heap.size+1,1,none⟩=some (.int .i64 B)/\w'.cell? ⟨w.heap.size+1,2,none⟩=some (.slice Ab b.2.2.length capb)) tK ⟨q0,q1,q2,q3,q4,q5⟩ (fun hHeld=> ?_);(refine wpAnyH_take (i:=0) (v:= ?_) rfl tK tK tK (fun _ _ _ h=>h) (Or.inl ⟨by rfl,?_⟩) (by assumption) ?_;rotate_left;focus (intro ww an;(try dsimp only at an);go_simp;try with_reducible rfl);(try simp only[zae,zaa,zab,zac]));(refine wpAnyH_take (i:=1) (v:= ?_) rfl tK tK tK (fun _ _ _ h=>h) (Or.inl ⟨by rfl,?_⟩) (by assumption) ?_;rotate_left;focus (intro ww an;(try dsimp only at an);go_simp;try with_reducible rfl);(try simp only[zae,zaa,zab,zac]));(refine wpAnyH_take (i:=2) (v:= ?_) rfl tK tK tK (fun _ _ _ h=>h) (Or.inl ⟨by rfl,?_⟩) (by assumption) ?_;rotate_left;focus (intro ww an;(try dsimp only at an);go_simp;try with_reducible rfl);(try simp only[zae,zaa,zab,zac]));(refine wpAnyH_take (i:=3) (v:= ?_) rfl tK tK tK (fun _ _ _ h=>h) (Or.inl ⟨by rfl,?_⟩) (by assumption) ?_;rotate_left;focus (intro ww an;(try dsimp only at an);go_simp;try with_reducible rfl);(try simp only[zae,zaa,zab,zac]));(refine wpAnyH_take (i:=4) (v:= ?_) rfl tK tK tK (fun _ _ _ h=>h) (Or.inl ⟨by rfl,?_⟩) (by assumption) ?_;rotate_left;focus (intro ww an;(try dsimp only at an);go_simp;try with_reducible rfl);(try simp only[zae,zaa,zab,zac]));(refine wpAnyH_take (i:=5) (v:= ?_) rfl tK tK tK (fun _ _ _ h=>h) (Or.inl ⟨by rfl,?_⟩) (by assumption) ?_;rotate_left;focus (intro ww an;(try dsimp only at an);go_simp;try with_reducible rfl);(try simp only[zae,zaa,zab,zac]));(refine wpAnyH_take (i:=6) (v:= ?_) rfl tK tK tK (fun _ _ _ h=>h) (Or.inl ⟨by rfl,?_⟩) (by assumption) ?_;rotate_left;focus (intro ww an;(try dsimp only at an);go_simp;try with_reducible rfl);(try simp only[zae,zaa,zab,zac]));(refine wpAnyH_take (i:=7) (v:= ?_) rfl tK tK tK (fun _ _ _ h=>h) (Or.inl ⟨by rfl,?_⟩) (by assumption) ?_;rotate_left;focus (intro ww an;(try dsimp only at an);go_simp;try with_reducible rfl);(try simp only[zae,zaa,zab,zac]));(refine wpAnyH_take (i:=8) (v:= ?_) rfl tK tK tK (fun _ _ _ h=>h) (Or.inl ⟨by rfl,?_⟩) (by assumption) ?_;rotate_left;focus (intro ww an;(try dsimp only at an);go_simp;try with_reducible rfl);(try simp only[zae,zaa,zab,zac]));(refine wpAnyH_take (i:=9) (v:= ?_) rfl tK tK tK (fun _ _ _ h=>h) (Or.inl ⟨by rfl,?_⟩) (by assumption) ?_;rotate_left;focus (intro ww an;(try dsimp only at an);go_simp;try with_reducible rfl);(try simp only[zae,zaa,zab,zac]))
   refine wpAnyH_ready (rs:= [10]) tK tZ ?_;refine AllReadyH.cons rfl (fun K hK=> ?_) AllReadyH.nil;go_simp;refine(ra _ (lB _ aU.o.drew) (AO _ aU.o.drew)).mono ?_
   rintro e' w5 ⟨s5,rfl,o5,b5⟩;have O5:=qA o5;have xw:=qA (HO.o.drew.below b5);have vp:=qA ((show OwB wo.drew w2 _ _ from gG.o).below b5);have fg:wo.heap.size<=w5.heap.size:=b5.size;have dP:=qA (aU.o.drew.trans (b5.mono (show w.heap.size+1+1<=wo.heap.size by have:=fj.o;omega)));have k0:=(dP.cell (p:=⟨w,0,none⟩) di).trans C0.o;have k1:=(dP.cell (p:=⟨w,1,none⟩) di).trans C1.o;have k2:=(dP.cell (p:=⟨w,2,none⟩) di).trans A2.o;have k3:=(dP.cell (p:=⟨w.heap.size+1,0,none⟩) iu).trans D0.o;have k4:=(dP.cell (p:=⟨w.heap.size+1,1,none⟩) iu).trans D1.o;have k5:=(dP.cell (p:=⟨w.heap.size+1,2,none⟩) iu).trans B2.o;clear b5 o5;refine hK.o _ _ ⟨k0,k1,k2,k3,k4,k5⟩ (fun eC=> ?_);clear hK hHeld;(try simp only[zae,zaa,zab,zac])
   (refine wpAnyH_take (i:=11) (v:= ?_) rfl tK tK tK (fun _ _ _ h=>h) (Or.inl ⟨by rfl,?_⟩) (by assumption) ?_;rotate_left;focus (intro ww an;(try dsimp only at an);go_simp;try with_reducible rfl);(try simp only[zae,zaa,zab,zac]))
   refine wpAnyH_done tK ?_ _;clear eC;simp only[zae,zaa,zab,zac];obtain⟨gp,capp,rfl,te,si,lD⟩: ∃gp capp,s5= .slice (some ⟨gp,0,none⟩) PS.length capp/\wo.heap.size<=gp/\gp<w5.heap.size/\PS.length<=capp:=by
    obtain⟨Ap,capp,e,h1,_,_,hf⟩:=O5.o.form;rw[qBg] at e h1 hf;obtain⟨gp,hg,h2,h3⟩:=hf (zaN oS);exact⟨gp,capp,by rw[e,hg],h2,h3,h1⟩
   have Dh:=qA O5.o.rd;have Nd:gp≠w2.heap.size:=tO;clear O5 k0 k1 k2 k3 k4 k5 q0 q1 q2 q3 q4 q5 am;go_wp2;go_loopw [9] (fun j wr=> ∃m:Nat,m<=PS.length/\j= .int .i64 m/\OwB wr w2 (.slice (some ⟨w2,0,none⟩) n n) (qCY n (M++PS.take m))/\w5.grownBy wr (some w2)) (fun j _=>PS.length-(intOf j).toNat)
   case atStart=>exact⟨0,zaq _,rfl,by simpa using vp.o,za4.refl _ _⟩
   case round=>
    obtain⟨m,hm,rfl,dy,aC⟩:=hrel;have HG:=qA aC;have jm:=qA dy;have tH:=aC.size;by_cases aj:m<PS.length
    ·obtain⟨q,hq⟩: ∃q,PS[m]=q:=⟨_,rfl⟩;have jE:q<n:=by rw[<-hq];exact iM.o _ tZ
     have aP:=Dh.o.grown aC (fun x hx gw=>by simp[zai] at hx gw;omega);obtain⟨bq',offq,z8,xN,Bs⟩:=aP.at (by rw[qBg];omega);obtain⟨rfl,rfl⟩:gp=bq'/\0=offq:=by simpa using z8
     have c0:=Bs m (by rw[qBg];exact aj);rw[qJk PS m aj,hq,zaL] at c0;have FB:(q:Int)<(n:Int):=tO;have cq:=dy.cellAt q (by rw[qAk];exact jE);have fq:=dy.free q;generalize (qCY n (M++PS.take m))[q]'(by rw[qAk];exact jE)=z0 at cq;have bK:=dy.set q true;rw[qFC,zaY] at bK;have iG:Wi (PS.take m++ [q]=PS.take (m+1)):=qA (by rw[zal aj,hq]);rw[iG.o] at bK;have cE:=qA bK;clear aP Bs z8 hq dy aC bK iG;go_wp2;go_roundw;exact⟨m+1,tO,by go_num,cE.o.1,HG.o.trans cE.o.2⟩;exact tM
    ·obtain rfl:m=PS.length:=tO
     rw[zaw] at dy jm;have wZ:w.heap.size+1+1<=w2.heap.size:=by have:=fj.o;omega
     have cC:Wi (Wf (w.heap.size+1+1) W0 wr):=qA (dP.o.grown aC tO (fun x hx=>by cases hx;omega));have k0:=(cC.cell (p:=⟨w,0,none⟩) di).trans C0.o;have k1:=(cC.cell (p:=⟨w,1,none⟩) di).trans C1.o;have k2:=(cC.cell (p:=⟨w,2,none⟩) di).trans A2.o;have k3:=(cC.cell (p:=⟨w.heap.size+1,0,none⟩) iu).trans D0.o;have k4:=(cC.cell (p:=⟨w.heap.size+1,1,none⟩) iu).trans D1.o;have k5:=(cC.cell (p:=⟨w.heap.size+1,2,none⟩) iu).trans B2.o;have aP:=Dh.o.grown aC (fun x hx gw=>by simp[zai] at hx gw;omega);have dC:=qA aP;have xZ:=qA (xw.o.kept aC (.inr a8));clear dy aC aP;go_wp2_with fail;refine(dX _ wr (lB _ cC) (AO _ cC) dC).mono ?_
     rintro e w7 ⟨rfl,b7⟩;have s7:=b7.size;have bZ:w.heap.size+1+1<=wr.heap.size:=tO;have ik:=qA (cC.trans (b7.mono bZ));have Ak:=qA (xZ.below b7);have uT:=qA (jm.below b7);clear b7 k0 k1 k2 k3 k4 k5;have dh:IntKind.i64.wrap ((EN:Int)-(PS.length:Int))=(EN:Int)-(PS.length:Int):=by rw[IntKind.wrap_i64];omega
     have je:IntKind.i64.wrap ((EN:Int)-(PS.length:Int)+1)=(EN:Int)-(PS.length:Int)+1:=by rw[IntKind.wrap_i64];omega
     have HY:Wi (I64 ((EN:Int)-(PS.length:Int)+1)):=qA ⟨tO,tO⟩;have Kn:w2.heap.size<w7.heap.size:=tO;go_wp2_with (at_builtin;refine qW rfl (.tmp 66) (.tmp 75) rfl _ _ _ (OwI.alloc Ak _) rfl _ _ rfl (qU _ _ _) HY.o tB tB ?_;intro v9 wv9 o9 g9 p9)
     have gh:=g9.size;simp at gh
     go_roundw
     case rel=>
      refine⟨k+1,tO,by go_num,by rw[F.o];exact o9,by rw[F.o];exact(uT.below ((zad _ _).alloc (zag _) _)).kept g9 (.inr fun e=>a8.o e.symm),fun e=> ?_,qh ik.o tO Ak.o.1 (zag _) g9,tO⟩;rcases p9 with p9 | p9
      ·rw[p9] at e;exact a8.o e
      ·rw[p9] at e;simp at e;omega
     case measure=>exact tM
  ·obtain rfl:k=n:=tO
   have F:Wi (CR=(qCZ a b A B r k).2):=qA (by rw[HR.o,<-HN.o]);have cA:Wi (Wf w w wo):=qA (BX.trans (aU.mono tO));clear aa dy ai ab;generalize qCZ a b A B r k=ST at*;obtain⟨M,O⟩:=ST;go_wp2;exact Wj (v:= .slice AJ O.length ak) (by simp[results,Tryz.results116]) rfl ⟨_,rfl,by rw[F.o];exact HO.o.mono tO,cA.o⟩
def ost (a:GrD) (B r:Nat) (s:List Nat×List Int) (i:Nat):List Nat×List Int:=
 if i∈s.1\/i/B=i%B then s else(s.1++prsL a a B B (qB r) i,s.2++ [prk a a B B r i])
def offS (a:GrD) (B r k:Nat):List Nat×List Int:=(zak k).foldl (ost a B r) ([],[])
theorem qEk (a:GrD) (B r k:Nat):offS a B r (k+1)=ost a B r (offS a B r k) k:=by
 unfold offS;rw[List.range_succ,zaJ];rfl
theorem qLA (a:GrD) (B r k:Nat):(offS a B r k).2.length<=k:=by
 induction k with
 | zero=>simp[offS]
 | succ k ih=>
   rw[qEk];unfold ost;split
   ·omega
   ·simp;omega
def offR (a:GrD):List Int:=if qS a then(offS a a.2.1.toNat a.1.toNat (a.2.1.toNat*a.2.1.toNat)).2 else []
theorem qCN (va:Wh) (a:GrD) (w:Wg) (ha:ArgG w va a):
  Wk Tryz.prog 25 #[va] w fun e w'=> ∃s,e= .returned s/\OwI w' w s (offR a)/\Wf w w w':=by
 have cJ:=qA ha;have fY:Wi (qS a=false->offR a= []):=qA fun h=>by unfold offR;rw[h];rfl
 have jo:Wi (qS a=true->offR a=(offS a a.2.1.toNat a.1.toNat (a.2.1.toNat*a.2.1.toNat)).2):=qA fun h1=>by unfold offR;rw[h1,Wm rfl]
 generalize offR a=CR at*;obtain⟨Aa,capa,rfl⟩: ∃A' cap,va= .agg #[.int .i64 a.1, .int .i64 a.2.1, .slice A' a.2.2.length cap]:=by
  obtain⟨s,hv,_,_,ha⟩:=cJ.o;obtain⟨A',cap,rfl⟩:=ha.form;exact⟨A',cap,hv⟩
 clear ha;go_enter Tryz.func25,Tryz.ntmps25
 go_wp2_with fail;have bx:Wf w w ((w.alloc (.cells #[.int .i64 a.1,.int .i64 a.2.1, .slice Aa a.2.2.length capa] 26)).alloc (.cells #[] 3)):=ZZ;obtain⟨W0,ah⟩: ∃W,W=(w.alloc (.cells #[.int .i64 a.1,.int .i64 a.2.1, .slice Aa a.2.2.length capa] 26)).alloc (.cells #[] 3):=⟨_,rfl⟩;have oE:OwI W0 (w.heap.size+1) (.slice (some ⟨w.heap.size+1,0,none⟩) 0 0) []:=by
  rw[ah];exact qAc _ [] (w.heap.size+1) tZ (fun _ h=>by cases h) tZ (zag _)
 rw[<-ah] at bx⊢;have aH:W0.heap.size=w.heap.size+1+1:=by rw[ah];simp
 have A0:Wi (W0.cell? ⟨w,0,none⟩=some (.int .i64 a.1)):=qA (by rw[ah];simp[go_sem]);have A1:Wi (W0.cell? ⟨w,1,none⟩=some (.int .i64 a.2.1)):=qA (by rw[ah];simp[go_sem]);have A2:Wi (W0.cell? ⟨w,2,none⟩=some (.slice Aa a.2.2.length capa)):=qA (by rw[ah];simp[go_sem]);clear ah;have bh:w.heap.size<W0.heap.size:=tO;have BX:=qA bx;have fj:=qA aH;have OE:=qA oE;have gn:Wi (∀W,Wf W0 W0 W->ArgG W (.agg #[.int .i64 a.1, .int .i64 a.2.1, .slice Aa a.2.2.length capa]) a):=qA fun W hb=>cJ.o.below (BX.trans (hb.mono tO));clear bx oE aH;refine(qY _ a W0 (gn _ (zad _ _))).mono ?_
 rintro e w2 ⟨rfl,b1⟩;have al:=qA b1;have q1:=(b1.cell (p:=⟨w,1,none⟩) bh).trans A1.o;clear b1;rcases e1:qS a with _ | _
 ·have HR:Wi (CR= []):=qA (fY e1);clear e1;go_wp2;exact Wj (v:= .slice (some ⟨w.heap.size+1,0,none⟩) 0 0) (by simp[results,Tryz.results25]) rfl ⟨_,rfl,by rw[HR.o];exact(OE.below al).mono tO,BX.o.trans (al.mono tO)⟩
 have h2:=qKw e1 e1;have HR:=qA (jo e1);have aF:=(qD h2.ga).1;obtain⟨B,hB⟩: ∃B,B=a.2.1.toNat:=⟨_,rfl⟩;obtain⟨r,hr⟩: ∃r,r=a.1.toNat:=⟨_,rfl⟩;rw[<-hB,<-hr] at HR;rw[<-hB] at h2;obtain⟨⟨EA,rq⟩,_⟩:=h2.bd;obtain⟨n,hn⟩: ∃n,n=B*B:=⟨_,rfl⟩;have eX:n<=1600:=by rw[hn];exact zav rq rq
 have eY:a.1=(r:Int):=tO;have bT:r<=3:=tO;have wY:=qA eY;have JE:=qA h2.sa;have BI:IntKind.i64.wrap ((B:Int)*(B:Int))=(n:Int):=by
  have e:(B:Int)*(B:Int)=(n:Int):=by rw[hn];simp
  rw[e,IntKind.wrap_i64];omega
 have H2:=qA h2;have HN:=qA hn;rw[h2.sa] at q1;have lB:Wi (∀W,Wf (w.heap.size+1) W0 W->ArgG W (.agg #[.int .i64 r, .int .i64 B, .slice Aa a.2.2.length capa]) a):=qA fun W hb=>by
  rw[<-eY,<-h2.sa];exact cJ.o.below (BX.trans (hb.mono tO))
 have C0:Wi (W0.cell? ⟨w,0,none⟩=some (.int .i64 r)):=qA (by rw[<-eY];exact A0.o);have C1:Wi (W0.cell? ⟨w,1,none⟩=some (.int .i64 B)):=qA (by rw[<-h2.sa];exact A1.o);clear e1 h2 hB hr hn eY aF;obtain⟨i0,ci,cB,bi,bQ⟩:=info_parts qDl;go_wp2_with (at_make;refine wpList_make_full _ rfl _ _ 64 rfl w2 4 i0 (.bool false) 1 Tryz.underlying64 ci cB bi _ _ _ _ n rfl rfl rfl rfl (by rw[bQ];omega) (by unfold maxLen;omega) (zag _) ?_)
 intro w3 hown0 hgrow0;have bU:OwB w3 w2 (.slice (some ⟨w2,0,none⟩) n n) (qCY n []):=by
  unfold OwB;rw[qAk,qHP];have:qFR (zaH n false)=zaH n (Value.bool false):=by simp[qFR]
  rw[this];simpa[toList_madeCells_one] using hown0
 have rF:w2.heap.size<w3.heap.size:=(bU.lt w2 rfl).2;have nL:Wf w2 w2 w3:=(zad w2 w2).grown hgrow0 (zag _) (fun k h=>by cases h);have Be:=qA bU;have aB:=qA (al.trans (nL.mono al.size));have dQ:=al.o.size;have dI:=qA ((OE.below al).below nL);clear hown0 bU hgrow0 nL q1;go_wp2;go_loopw [3,5] (fun out i wo=> ∃k:Nat,k<=n/\i= .int .i64 k/\OwI wo (w.heap.size+1) out (offS a B r k).2/\OwB wo w2 (.slice (some ⟨w2,0,none⟩) n n) (qCY n (offS a B r k).1)/\out.ownBlock≠some w2.heap.size/\Wf (w.heap.size+1) W0 wo/\w2.heap.size<wo.heap.size) (fun _ i _=>n-(intOf i).toNat)
 case atStart=>exact⟨0,zaq _,rfl,dI,Be,by have:=fj.o;simp[zai];omega,aB.o.mono (by have:=fj.o;omega),rF⟩
 case round=>
  obtain⟨k,hk,rfl,aa,dy,ai,ab,rb⟩:=hrel;obtain⟨wo,rfl⟩: ∃wo:Wg,wo=wr:=⟨_,rfl⟩;have HO:=qA aa;have gG:=qA dy;have a8:=qA ai;have aU:=qA ab;have aZ:=qLA a B r k;obtain⟨AJ,ak,rfl,_⟩:=aa.form;by_cases ac:k<n
  ·have am:=dy.cellAt k (by rw[qAk];exact ac);rw[qDa n _ k ac] at am;have tI:(k:Int)<(n:Int):=tO;have CS:=qA (qEk a B r k);have Da:=qGz H2.o bT (p:=k) (by rw[<-HN.o];exact ac);have ka:Wi (prk a a B B r k=(edgL a.2.2 a.2.2 B r (prsL a a B B (qB r) k):Int)-(prsL a a B B (qB r) k).length+1):=qA rfl;have iM:=qA (qHC H2 (ls:=qB r) (p:=k) (by rw[<-HN.o];exact ac));obtain⟨un,cQ⟩: ∃un,un=k/B:=⟨_,rfl⟩;obtain⟨vn,d6⟩: ∃vn,vn=k%B:=⟨_,rfl⟩;have rH:un<=1600:=by rw[cQ];exact Nat.le_trans (za2 _ _) tO
   have gd:wrap64 ((k:Int)/(B:Int))=(un:Int):=by
    have:(k:Int)/(B:Int)=(un:Int):=by rw[cQ];rfl
    rw[this];exact IntWalk.wrap64_in _ ⟨tO,tO⟩
   have D6:IntKind.i64.wrap ((k:Int)/(B:Int))=(un:Int):=by rw[qDI];exact gd
   have iA:(k:Int)%(B:Int)=(vn:Int):=by rw[d6];rfl
   have Cr:Int.tmod (k:Int) (B:Int)=(vn:Int):=by rw[remB,d6]
   have Hp: ¬B=0:=tO;have JA: ¬(B:Int)=0:=tO;have ra:=qA (fun W h h'=>qCd (.agg #[.int .i64 r, .int .i64 B, .slice Aa a.2.2.length capa]) (.agg #[.int .i64 r, .int .i64 B, .slice Aa a.2.2.length capa]) a a B B r k un vn W h h' H2 wY wY (by rw[<-HN.o];exact ac) (by rw[cQ,d6];exact qPk));have dX:=qA (fun (vo:Wh) W h h' ho=>qCk (.agg #[.int .i64 r, .int .i64 B, .slice Aa a.2.2.length capa]) (.agg #[.int .i64 r, .int .i64 B, .slice Aa a.2.2.length capa]) vo a a B B r (prsL a a B B (qB r) k) W h h' ho H2 wY wY iM Da.1);have oS:=qA (qCI (ls:=qB r) (p:=k) H2);rw[<-HN.o] at iM;obtain⟨KN,Ic⟩:=Da;generalize offS a B r k=ST at*;obtain⟨M,O⟩:=ST;simp only at HO gG aZ am⊢
   have LP:Wi (k/B=k%B↔un=vn):=qA (by rw[cQ,d6]);clear aa dy ai ab cQ d6;have di:w.heap.size<w.heap.size+1:=tO;have KB:w2.heap.size<wo.heap.size:=rb;have Dp:w.heap.size<wo.heap.size:=by have:=fj.o;have:=al.o.size;omega
   have q1:=(aU.cell (p:=⟨w,1,none⟩) di).trans C1.o;rcases il:decide (k∈M) with _ | _
   rotate_left
   ·have F:Wi (offS a B r (k+1)=(M,O)):=qA (by rw[CS.o];unfold ost;rw[Wm (.inl (by simpa using il))]);rw[il] at am;go_wp2_with fail;have f0:=BelW.cell am KB;have f1:=BelW.cell q1 Dp;(refine qG tK tK ?_;(repeat(go_big_quiet_step (fail)));refine wpQuiet_nil ?_;intro wv hw';obtain⟨pq,ae⟩:=hw';have bv:=pq.h;rw[<-ae] at bv;clear ae pq)
    have Kg:=qA (HO.below bv);have wP:=qA (gG.below bv);have Gn:=qA (aU.trans (bv.mono tO));have sv:=bv.size;clear bv f0 f1 am q1;go_wp2;go_roundw;exact⟨k+1,tO,by go_num,by rw[F.o];exact Kg.o,by rw[F.o];exact wP.o,a8.o,Gn.o,tO⟩;exact tM
   rw[il] at am;rcases pr:((un:Int)==(vn:Int)) with _ | _
   rotate_left
   ·have F:Wi (offS a B r (k+1)=(M,O)):=qA (by rw[CS.o];unfold ost;rw[Wm (.inr (LP.o.2 (Int.ofNat_inj.mp (eq_of_beq pr))))]);go_wp2_with fail;have f0:=BelW.cell am KB;have f1:=BelW.cell q1 Dp;(refine qG tK tK ?_;(repeat(go_big_quiet_step (fail)));refine wpQuiet_nil ?_;intro wv hw';obtain⟨pq,ae⟩:=hw';have bv:=pq.h;rw[<-ae] at bv;clear ae pq)
    have Kg:=qA (HO.below bv);have wP:=qA (gG.below bv);have Gn:=qA (aU.trans (bv.mono tO));have sv:=bv.size;clear bv f0 f1 am q1;go_wp2;go_roundw;exact⟨k+1,tO,by go_num,by rw[F.o];exact Kg.o,by rw[F.o];exact wP.o,a8.o,Gn.o,tO⟩;exact tM
   have F:Wi (offS a B r (k+1)=(M++prsL a a B B (qB r) k,O++ [prk a a B B r k])):=qA (by
    rw[CS.o];unfold ost;rw[Wn (fun h=>h.elim (by simpa using il) (fun h=>by have:=LP.o.1 h;simp[this] at pr))])
   go_wp2_with fail;have f0:=BelW.cell am KB;have f1:=BelW.cell q1 Dp;(refine qG tK tK ?_;(repeat(go_big_quiet_step (fail)));refine wpQuiet_nil ?_;intro wv hw';obtain⟨pq,ae⟩:=hw';have bv:=pq.h;rw[<-ae] at bv;clear ae pq)
   replace HO:=qA (HO.o.below bv);replace gG:=qA (gG.o.below bv);replace aU:=qA (aU.o.trans (bv.mono tO));have sv:=bv.size;clear bv f0 f1 am q1;replace rb:w2.heap.size<wv.heap.size:=tO;clear il CS pr;rw[ka.o] at F;generalize prsL a a B B (qB r) k=PS at*;generalize edgL a.2.2 a.2.2 B r PS=EN at*;have q0:=(aU.o.cell (p:=⟨w,0,none⟩) di).trans C0.o;have q1:=(aU.o.cell (p:=⟨w,1,none⟩) di).trans C1.o;have q2:=(aU.o.cell (p:=⟨w,2,none⟩) di).trans A2.o;go_wp2_with fail;refine wp_region_held_drew (S:=fun w'=>w'.cell? ⟨w,0,none⟩=some (.int .i64 r)/\w'.cell? ⟨w,1,none⟩=some (.int .i64 B)/\w'.cell? ⟨w,2,none⟩=some (.slice Aa a.2.2.length capa)) tK ⟨q0,q1,q2⟩ (fun hHeld=> ?_);(refine wpAnyH_take (i:=0) (v:= ?_) rfl tK tK tK (fun _ _ _ h=>h) (Or.inl ⟨by rfl,?_⟩) (by assumption) ?_;rotate_left;focus (intro ww an;(try dsimp only at an);go_simp;try with_reducible rfl);(try simp only[zae,zaa,zab,zac]));(refine wpAnyH_take (i:=1) (v:= ?_) rfl tK tK tK (fun _ _ _ h=>h) (Or.inl ⟨by rfl,?_⟩) (by assumption) ?_;rotate_left;focus (intro ww an;(try dsimp only at an);go_simp;try with_reducible rfl);(try simp only[zae,zaa,zab,zac]));(refine wpAnyH_take (i:=2) (v:= ?_) rfl tK tK tK (fun _ _ _ h=>h) (Or.inl ⟨by rfl,?_⟩) (by assumption) ?_;rotate_left;focus (intro ww an;(try dsimp only at an);go_simp;try with_reducible rfl);(try simp only[zae,zaa,zab,zac]));(refine wpAnyH_take (i:=3) (v:= ?_) rfl tK tK tK (fun _ _ _ h=>h) (Or.inl ⟨by rfl,?_⟩) (by assumption) ?_;rotate_left;focus (intro ww an;(try dsimp only at an);go_simp;try with_reducible rfl);(try simp only[zae,zaa,zab,zac]));(refine wpAnyH_take (i:=4) (v:= ?_) rfl tK tK tK (fun _ _ _ h=>h) (Or.inl ⟨by rfl,?_⟩) (by assumption) ?_;rotate_left;focus (intro ww an;(try dsimp only at an);go_simp;try with_reducible rfl);(try simp only[zae,zaa,zab,zac]));(refine wpAnyH_take (i:=5) (v:= ?_) rfl tK tK tK (fun _ _ _ h=>h) (Or.inl ⟨by rfl,?_⟩) (by assumption) ?_;rotate_left;focus (intro ww an;(try dsimp only at an);go_simp;try with_reducible rfl);(try simp only[zae,zaa,zab,zac]));(refine wpAnyH_take (i:=6) (v:= ?_) rfl tK tK tK (fun _ _ _ h=>h) (Or.inl ⟨by rfl,?_⟩) (by assumption) ?_;rotate_left;focus (intro ww an;(try dsimp only at an);go_simp;try with_reducible rfl);(try simp only[zae,zaa,zab,zac]));(refine wpAnyH_take (i:=7) (v:= ?_) rfl tK tK tK (fun _ _ _ h=>h) (Or.inl ⟨by rfl,?_⟩) (by assumption) ?_;rotate_left;focus (intro ww an;(try dsimp only at an);go_simp;try with_reducible rfl);(try simp only[zae,zaa,zab,zac]));(refine wpAnyH_take (i:=8) (v:= ?_) rfl tK tK tK (fun _ _ _ h=>h) (Or.inl ⟨by rfl,?_⟩) (by assumption) ?_;rotate_left;focus (intro ww an;(try dsimp only at an);go_simp;try with_reducible rfl);(try simp only[zae,zaa,zab,zac]));(refine wpAnyH_take (i:=9) (v:= ?_) rfl tK tK tK (fun _ _ _ h=>h) (Or.inl ⟨by rfl,?_⟩) (by assumption) ?_;rotate_left;focus (intro ww an;(try dsimp only at an);go_simp;try with_reducible rfl);(try simp only[zae,zaa,zab,zac]))
   refine wpAnyH_ready (rs:= [10]) tK tZ ?_;refine AllReadyH.cons rfl (fun K hK=> ?_) AllReadyH.nil;go_simp;refine(ra _ (lB _ aU.o.drew) (lB _ aU.o.drew)).mono ?_
   rintro e' w5 ⟨s5,rfl,o5,b5⟩;have O5:=qA o5;have xw:=qA (HO.o.drew.below b5);have vp:=qA ((show OwB wv.drew w2 _ _ from gG.o).below b5);have fg:wv.heap.size<=w5.heap.size:=b5.size;have dP:=qA (aU.o.drew.trans (b5.mono (show w.heap.size+1<=wv.heap.size by have:=fj.o;omega)));have k0:=(dP.cell (p:=⟨w,0,none⟩) di).trans C0.o;have k1:=(dP.cell (p:=⟨w,1,none⟩) di).trans C1.o;have k2:=(dP.cell (p:=⟨w,2,none⟩) di).trans A2.o;clear b5 o5;refine hK.o _ _ ⟨k0,k1,k2⟩ (fun eC=> ?_);clear hK hHeld;(try simp only[zae,zaa,zab,zac])
   (refine wpAnyH_take (i:=11) (v:= ?_) rfl tK tK tK (fun _ _ _ h=>h) (Or.inl ⟨by rfl,?_⟩) (by assumption) ?_;rotate_left;focus (intro ww an;(try dsimp only at an);go_simp;try with_reducible rfl);(try simp only[zae,zaa,zab,zac]))
   refine wpAnyH_done tK ?_ _;clear eC;simp only[zae,zaa,zab,zac];obtain⟨gp,capp,rfl,te,si,lD⟩: ∃gp capp,s5= .slice (some ⟨gp,0,none⟩) PS.length capp/\wv.heap.size<=gp/\gp<w5.heap.size/\PS.length<=capp:=by
    obtain⟨Ap,capp,e,h1,_,_,hf⟩:=O5.o.form;rw[qBg] at e h1 hf;obtain⟨gp,hg,h2,h3⟩:=hf (zaN oS);exact⟨gp,capp,by rw[e,hg],h2,h3,h1⟩
   have Dh:=qA O5.o.rd;have Nd:gp≠w2.heap.size:=tO;clear O5 k0 k1 k2 q0 q1 q2;go_wp2;go_loopw [7] (fun j wr=> ∃m:Nat,m<=PS.length/\j= .int .i64 m/\OwB wr w2 (.slice (some ⟨w2,0,none⟩) n n) (qCY n (M++PS.take m))/\w5.grownBy wr (some w2)) (fun j _=>PS.length-(intOf j).toNat)
   case atStart=>exact⟨0,zaq _,rfl,by simpa using vp.o,za4.refl _ _⟩
   case round=>
    obtain⟨m,hm,rfl,dy,aC⟩:=hrel;have HG:=qA aC;have jm:=qA dy;have tH:=aC.size;by_cases aj:m<PS.length
    ·obtain⟨q,hq⟩: ∃q,PS[m]=q:=⟨_,rfl⟩;have jE:q<n:=by rw[<-hq];exact iM.o _ tZ
     have aP:=Dh.o.grown aC (fun x hx gw=>by simp[zai] at hx gw;omega);obtain⟨bq',offq,z8,xN,Bs⟩:=aP.at (by rw[qBg];omega);obtain⟨rfl,rfl⟩:gp=bq'/\0=offq:=by simpa using z8
     have c0:=Bs m (by rw[qBg];exact aj);rw[qJk PS m aj,hq,zaL] at c0;have FB:(q:Int)<(n:Int):=tO;have cq:=dy.cellAt q (by rw[qAk];exact jE);have fq:=dy.free q;generalize (qCY n (M++PS.take m))[q]'(by rw[qAk];exact jE)=z0 at cq;have bK:=dy.set q true;rw[qFC,zaY] at bK;have iG:Wi (PS.take m++ [q]=PS.take (m+1)):=qA (by rw[zal aj,hq]);rw[iG.o] at bK;have cE:=qA bK;clear aP Bs z8 hq dy aC bK iG;go_wp2;go_roundw;exact⟨m+1,tO,by go_num,cE.o.1,HG.o.trans cE.o.2⟩;exact tM
    ·obtain rfl:m=PS.length:=tO
     rw[zaw] at dy jm;have wZ:w.heap.size+1<=w2.heap.size:=by have:=fj.o;omega
     have cC:Wi (Wf (w.heap.size+1) W0 wr):=qA (dP.o.grown aC tO (fun x hx=>by cases hx;omega));have k0:=(cC.cell (p:=⟨w,0,none⟩) di).trans C0.o;have k1:=(cC.cell (p:=⟨w,1,none⟩) di).trans C1.o;have k2:=(cC.cell (p:=⟨w,2,none⟩) di).trans A2.o;have aP:=Dh.o.grown aC (fun x hx gw=>by simp[zai] at hx gw;omega);have dC:=qA aP;have xZ:=qA (xw.o.kept aC (.inr a8));clear dy aC aP;go_wp2_with fail;refine(dX _ wr (lB _ cC) (lB _ cC) dC).mono ?_
     rintro e w7 ⟨rfl,b7⟩;have s7:=b7.size;have bZ:w.heap.size+1<=wr.heap.size:=tO;have ik:=qA (cC.trans (b7.mono bZ));have Ak:=qA (xZ.below b7);have uT:=qA (jm.below b7);clear b7 k0 k1 k2;have dh:IntKind.i64.wrap ((EN:Int)-(PS.length:Int))=(EN:Int)-(PS.length:Int):=by rw[IntKind.wrap_i64];omega
     have je:IntKind.i64.wrap ((EN:Int)-(PS.length:Int)+1)=(EN:Int)-(PS.length:Int)+1:=by rw[IntKind.wrap_i64];omega
     have HY:Wi (I64 ((EN:Int)-(PS.length:Int)+1)):=qA ⟨tO,tO⟩;have Kn:w2.heap.size<w7.heap.size:=tO;go_wp2_with (at_builtin;refine qW rfl (.tmp 63) (.tmp 72) rfl _ _ _ (OwI.alloc Ak _) rfl _ _ rfl (qU _ _ _) HY.o tB tB ?_;intro v9 wv9 o9 g9 p9)
     have gh:=g9.size;simp at gh
     go_roundw
     case rel=>
      refine⟨k+1,tO,by go_num,by rw[F.o];exact o9,by rw[F.o];exact(uT.below ((zad _ _).alloc (zag _) _)).kept g9 (.inr fun e=>a8.o e.symm),fun e=> ?_,qh ik.o tO Ak.o.1 (zag _) g9,tO⟩;rcases p9 with p9 | p9
      ·rw[p9] at e;exact a8.o e
      ·rw[p9] at e;simp at e;omega
     case measure=>exact tM
  ·obtain rfl:k=n:=tO
   have F:Wi (CR=(offS a B r k).2):=qA (by rw[HR.o,<-HN.o]);have cA:Wi (Wf w w wo):=qA (BX.trans (aU.mono tO));clear aa dy ai ab;generalize offS a B r k=ST at*;obtain⟨M,O⟩:=ST;go_wp2;exact Wj (v:= .slice AJ O.length ak) (by simp[results,Tryz.results25]) rfl ⟨_,rfl,by rw[F.o];exact HO.o.mono tO,cA.o⟩
def allN (l:List Int):Bool:=l.all fun x=>decide (x<=0)
theorem qFE {l:List Int} {k:Nat} (h:k<l.length) (h1:allN (l.take k)=true) (h2: ¬0<l[k]):allN (l.take (k+1))=true:=by
 unfold allN at*;rw[zal h,List.all_append,h1];simp
 omega
theorem qFB {l:List Int} {k:Nat} (h:k<l.length) (h2:0<l[k]):allN l=false:=by
 unfold allN;rw[List.all_eq_false];exact⟨l[k],tZ,by simp;omega⟩
def malB (g:GrD):Bool:=allN (offR g)&&qS g
def indB (a b:GrD):Bool:=allN (qDD a b)&&(qS a&&qS b&&decide (a.1=b.1))
theorem qLC {g:GrD}:(offR g).length<=1073741824:=by
 unfold offR;split
 ·rename_i h
  have h1:=(qD (qE (qCM h)).1).2.1;have h2:=qLA g g.2.1.toNat g.1.toNat (g.2.1.toNat*g.2.1.toNat);have h3:g.2.1.toNat*g.2.1.toNat<=40*40:=zav tO tO;omega
 ·simp
theorem qIf {a b:GrD}:(qDD a b).length<=1073741824:=by
 unfold qDD;split
 ·rename_i h
  simp only[zas,decide_eq_true_eq] at h;have h1:=(qD (qE (qCM h.1.1)).1).2.1;have kE:=(qD (qE (qCM h.1.2)).1).2.1;have h2:=qIg a b a.2.1.toNat b.2.1.toNat a.1.toNat (a.2.1.toNat*b.2.1.toNat);have h3:a.2.1.toNat*b.2.1.toNat<=40*40:=zav tO tO;omega
 ·simp
theorem qEa (va:Wh) (a:GrD) (w:Wg) (ha:ArgG w va a):
  Wk Tryz.prog 23 #[va] w fun e w'=>e= .returned (.bool (malB a))/\Wf w w w':=by
 have cJ:=qA ha;obtain⟨Aa,capa,rfl⟩: ∃A' cap,va= .agg #[.int .i64 a.1, .int .i64 a.2.1, .slice A' a.2.2.length cap]:=by
  obtain⟨s,hv,_,_,ha⟩:=cJ.o;obtain⟨A',cap,rfl⟩:=ha.form;exact⟨A',cap,hv⟩
 have HM:Wi (malB a=(allN (offR a)&&qS a)):=qA rfl;have dH:=qLC (g:=a);have wC:=qA (fun W h=>qCN (.agg #[.int .i64 a.1, .int .i64 a.2.1, .slice Aa a.2.2.length capa]) a W h);generalize malB a=mb at*;generalize offR a=L at*;clear ha;go_enter Tryz.func23,Tryz.ntmps23
 go_wp2_with fail;have bx:Wf w w (w.alloc (.cells #[.int .i64 a.1,.int .i64 a.2.1, .slice Aa a.2.2.length capa] 26)):=ZZ;have l0:(w.alloc (.cells #[.int .i64 a.1,.int .i64 a.2.1, .slice Aa a.2.2.length capa] 26)).cell? ⟨w,0,none⟩=some (.int .i64 a.1):=by simp[go_sem]
 have l1:(w.alloc (.cells #[.int .i64 a.1,.int .i64 a.2.1, .slice Aa a.2.2.length capa] 26)).cell? ⟨w,1,none⟩=some (.int .i64 a.2.1):=by simp[go_sem]
 have l2:(w.alloc (.cells #[.int .i64 a.1,.int .i64 a.2.1, .slice Aa a.2.2.length capa] 26)).cell? ⟨w,2,none⟩=some (.slice Aa a.2.2.length capa):=by simp[go_sem]
 have sA:w.heap.size<(w.alloc (.cells #[.int .i64 a.1,.int .i64 a.2.1, .slice Aa a.2.2.length capa] 26)).heap.size:=tZ;generalize w.alloc (.cells #[.int .i64 a.1,.int .i64 a.2.1, .slice Aa a.2.2.length capa] 26)=W at bx l0 l1 l2 sA⊢;have BX:=qA bx;have HA:Wi (∀w',Wf W W w'->ArgG w' (.agg #[.int .i64 a.1, .int .i64 a.2.1, .slice Aa a.2.2.length capa]) a):=qA fun w' hb=>cJ.o.below (BX.trans (hb.mono tO));refine(wC W (HA _ (zad _ _))).mono ?_
 rintro e w1 ⟨s1,rfl,o1,b1⟩;obtain⟨Al,capl,rfl,aZ,dK,_⟩:=OwI.form o1;have O1:=qA o1.rd;have B1:=qA b1;have L0:=qA l0;have L1:=qA l1;have L2:=qA l2;clear bx o1 b1 l0 l1 l2;go_wp2;go_loopw [4] (fun i wr=> ∃k:Nat,k<=L.length/\i= .int .i64 k/\allN (L.take k)=true/\Wf w1 w1 wr) (fun i _=>L.length-(intOf i).toNat)
 case atStart=>exact⟨0,zaq _,rfl,rfl,zad _ _⟩
 case round=>
  obtain⟨k,hk,rfl,fy,ab⟩:=hrel;have jb:=qA fy;have HB:=qA (B1.trans (ab.mono B1.size));clear fy;by_cases ac:k<L.length
  ·obtain⟨bl,offl,rfl,cX,gr⟩:=(O1.below ab).at tO;have c0:=gr k ac;have ST:=qA (qFE ac jb);have wF:=qA (qFB ac);generalize L[k]=x at*;clear gr;by_cases hx:0<x
   ·have F:Wi (mb=false):=qA (by rw[HM.o,wF.o hx];rfl);go_wp2;exact Wj (v:= .bool false) (by simp[results,Tryz.results23]) rfl ⟨by rw[F.o],BX.o.trans (HB.mono tO)⟩
   ·have F:=qA (ST hx);go_wp2;go_roundw;exact⟨k+1,tO,by go_num,F.o,ab⟩;exact tM
  ·obtain rfl:k=L.length:=tO
   rw[zaw] at jb;have q0:=(HB.cell (p:=⟨w,0,none⟩) sA).trans L0.o;have q1:=(HB.cell (p:=⟨w,1,none⟩) sA).trans L1.o;have q2:=(HB.cell (p:=⟨w,2,none⟩) sA).trans L2.o;clear ab;go_wp2_with fail;refine(qY _ a wr (HA _ HB)).mono ?_
   rintro e w9 ⟨rfl,b9⟩;have B9:=qA (HB.trans (b9.mono HB.size));have F:Wi (mb=qS a):=qA (by rw[HM.o,jb.o];rfl);clear b9 q0 q1 q2;generalize qS a=cb at*;go_wp2;exact Wj (v:= .bool cb) (by simp[results,Tryz.results23]) rfl ⟨by rw[F.o],BX.o.trans (B9.mono tO)⟩
theorem qDc (va vb:Wh) (a b:GrD) (w:Wg) (ha:ArgG w va a) (hb:ArgG w vb b):
  Wk Tryz.prog 35 #[va,vb] w fun e w'=>e= .returned (.bool (indB a b))/\Wf w w w':=by
 have cJ:=qA ha;obtain⟨Aa,capa,rfl⟩: ∃A' cap,va= .agg #[.int .i64 a.1, .int .i64 a.2.1, .slice A' a.2.2.length cap]:=by
  obtain⟨s,hv,_,_,ha⟩:=cJ.o;obtain⟨A',cap,rfl⟩:=ha.form;exact⟨A',cap,hv⟩
 have aS:=qA hb;obtain⟨Ab,capb,rfl⟩: ∃A' cap,vb= .agg #[.int .i64 b.1, .int .i64 b.2.1, .slice A' b.2.2.length cap]:=by
  obtain⟨s,hv,_,_,ha⟩:=aS.o;obtain⟨A',cap,rfl⟩:=ha.form;exact⟨A',cap,hv⟩
 have HM:Wi (indB a b=(allN (qDD a b)&&(qS a&&qS b&&decide (a.1=b.1)))):=qA rfl;have dH:=qIf (a:=a) (b:=b);have wC:=qA (fun W h h'=>qDU (.agg #[.int .i64 a.1, .int .i64 a.2.1, .slice Aa a.2.2.length capa]) (.agg #[.int .i64 b.1, .int .i64 b.2.1, .slice Ab b.2.2.length capb]) a b W h h');generalize indB a b=mb at*;generalize qDD a b=L at*;clear ha hb;go_enter Tryz.func35,Tryz.ntmps35
 go_wp2_with fail;have bx:Wf w w ((w.alloc (.cells #[.int .i64 a.1,.int .i64 a.2.1, .slice Aa a.2.2.length capa] 26)).alloc (.cells #[.int .i64 b.1,.int .i64 b.2.1, .slice Ab b.2.2.length capb] 26)):=ZZ;obtain⟨W,hW⟩: ∃W,W=(w.alloc (.cells #[.int .i64 a.1,.int .i64 a.2.1, .slice Aa a.2.2.length capa] 26)).alloc (.cells #[.int .i64 b.1,.int .i64 b.2.1, .slice Ab b.2.2.length capb] 26):=⟨_,rfl⟩;rw[<-hW] at bx⊢;have sB:w.heap.size+1<W.heap.size:=by rw[hW];simp
 have sA:w.heap.size<W.heap.size:=tO;have l0:W.cell? ⟨w,0,none⟩=some (.int .i64 a.1):=by rw[hW];simp[go_sem]
 have l1:W.cell? ⟨w,1,none⟩=some (.int .i64 a.2.1):=by rw[hW];simp[go_sem]
 have l2:W.cell? ⟨w,2,none⟩=some (.slice Aa a.2.2.length capa):=by rw[hW];simp[go_sem]
 have M0:Wi (W.cell? ⟨w.heap.size+1,0,none⟩=some (.int .i64 b.1)):=qA (by rw[hW];simp[go_sem]);have M1:Wi (W.cell? ⟨w.heap.size+1,1,none⟩=some (.int .i64 b.2.1)):=qA (by rw[hW];simp[go_sem]);have M2:Wi (W.cell? ⟨w.heap.size+1,2,none⟩=some (.slice Ab b.2.2.length capb)):=qA (by rw[hW];simp[go_sem]);clear hW;have BX:=qA bx;have HA:Wi (∀w',Wf W W w'->ArgG w' (.agg #[.int .i64 a.1, .int .i64 a.2.1, .slice Aa a.2.2.length capa]) a):=qA fun w' hb=>cJ.o.below (BX.trans (hb.mono tO));have Ev:Wi (∀w',Wf W W w'->ArgG w' (.agg #[.int .i64 b.1, .int .i64 b.2.1, .slice Ab b.2.2.length capb]) b):=qA fun w' hb=>aS.o.below (BX.trans (hb.mono tO));refine(wC W (HA _ (zad _ _)) (Ev _ (zad _ _))).mono ?_
 rintro e w1 ⟨s1,rfl,o1,b1⟩;obtain⟨Al,capl,rfl,aZ,dK,_⟩:=OwI.form o1;have O1:=qA o1.rd;have B1:=qA b1;have L0:=qA l0;have L1:=qA l1;have L2:=qA l2;clear bx o1 b1 l0 l1 l2;go_wp2;go_loopw [6] (fun i wr=> ∃k:Nat,k<=L.length/\i= .int .i64 k/\allN (L.take k)=true/\Wf w1 w1 wr) (fun i _=>L.length-(intOf i).toNat)
 case atStart=>exact⟨0,zaq _,rfl,rfl,zad _ _⟩
 case round=>
  obtain⟨k,hk,rfl,fy,ab⟩:=hrel;have jb:=qA fy;have HB:=qA (B1.trans (ab.mono B1.size));clear fy;by_cases ac:k<L.length
  ·obtain⟨bl,offl,rfl,cX,gr⟩:=(O1.below ab).at tO;have c0:=gr k ac;have ST:=qA (qFE ac jb);have wF:=qA (qFB ac);generalize L[k]=x at*;clear gr;by_cases hx:0<x
   ·have F:Wi (mb=false):=qA (by rw[HM.o,wF.o hx];rfl);go_wp2;exact Wj (v:= .bool false) (by simp[results,Tryz.results35]) rfl ⟨by rw[F.o],BX.o.trans (HB.mono tO)⟩
   ·have F:=qA (ST hx);go_wp2;go_roundw;exact⟨k+1,tO,by go_num,F.o,ab⟩;exact tM
  ·obtain rfl:k=L.length:=tO
   rw[zaw] at jb;have q0:=(HB.cell (p:=⟨w,0,none⟩) sA).trans L0.o;have q1:=(HB.cell (p:=⟨w,1,none⟩) sA).trans L1.o;have q2:=(HB.cell (p:=⟨w,2,none⟩) sA).trans L2.o;clear ab;go_wp2_with fail;refine(qY _ a wr (HA _ HB)).mono ?_
   rintro e w9 ⟨rfl,b9⟩;have B9:=qA (HB.trans (b9.mono HB.size));have F:Wi (mb=(qS a&&qS b&&decide (a.1=b.1))):=qA (by rw[HM.o,jb.o];rfl);clear b9 q0 q1 q2;have q0:=(B9.cell (p:=⟨w,0,none⟩) sA).trans L0.o;have q3:=(B9.cell (p:=⟨w.heap.size+1,0,none⟩) sB).trans M0.o;have q4:=(B9.cell (p:=⟨w.heap.size+1,1,none⟩) sB).trans M1.o;have q5:=(B9.cell (p:=⟨w.heap.size+1,2,none⟩) sB).trans M2.o;rcases e1:qS a with _ | _
   ·have F2:Wi (mb=false):=qA (by rw[F.o,e1];rfl);clear e1;go_wp2;exact Wj (v:= .bool false) (by simp[results,Tryz.results35]) rfl ⟨by rw[F2.o],BX.o.trans (B9.mono tO)⟩
   have zu:=qA e1;clear e1;go_wp2_with fail;refine(qY _ b w9 (Ev _ B9)).mono ?_
   rintro e cG ⟨rfl,ec⟩;have ia:=qA (B9.trans (ec.mono B9.size));clear ec q0 q3 q4 q5;have q0:=(ia.cell (p:=⟨w,0,none⟩) sA).trans L0.o;have q3:=(ia.cell (p:=⟨w.heap.size+1,0,none⟩) sB).trans M0.o;rcases e2:qS b with _ | _
   ·have F2:Wi (mb=false):=qA (by rw[F.o,zu.o,e2];rfl);clear e2;go_wp2;exact Wj (v:= .bool false) (by simp[results,Tryz.results35]) rfl ⟨by rw[F2.o],BX.o.trans (ia.mono tO)⟩
   have zS:=qA e2;clear e2;have F2:Wi (mb=(a.1==b.1)):=qA (by rw[F.o,zu.o,zS.o];rfl);generalize hq:(a.1==b.1)=qq at*;go_wp2;exact Wj (v:= .bool qq) (by simp[results,Tryz.results35,hq]) rfl ⟨by rw[F2.o],BX.o.trans (ia.mono tO)⟩
def fwI (g:GrD):Int×Int:=match fstW g with
 | some p=>(((p/g.2.1.toNat:Nat):Int),((p%g.2.1.toNat:Nat):Int))
 | none=>(-1,-1)
theorem qKB {g:GrD} {p:Nat} (hp:p<g.2.1.toNat*g.2.1.toNat) (h:okMw g g.2.1.toNat g.1.toNat p=true) (hn: ∀q,q<p->okMw g g.2.1.toNat g.1.toNat q=false):fstW g=some p:=by
 unfold fstW;rw[List.find?_range_eq_some];exact⟨h,zaj.2 hp,fun j hj=>by rw[hn j hj];rfl⟩
theorem qJf {g:GrD} (hn: ∀q,q<g.2.1.toNat*g.2.1.toNat->okMw g g.2.1.toNat g.1.toNat q=false):fstW g=none:=by
 unfold fstW;rw[List.find?_eq_none];exact fun q hq=>by rw[hn q (zaj.1 hq)];decide
theorem qIG {g:GrD} {p:Nat} (h:fstW g=some p):p<g.2.1.toNat*g.2.1.toNat/\okMw g g.2.1.toNat g.1.toNat p=true:=by
 unfold fstW at h;exact⟨zaj.1 (List.mem_of_find?_eq_some h),List.find?_some h⟩
theorem qIw (v:Wh) (g:GrD) (w:Wg) (h:ArgG w v g) (hf:qO g=true):
  Wk Tryz.prog 101 #[v] w fun e w'=>e= .returned (.tuple #[.int .i64 (fwI g).1, .int .i64 (fwI g).2])/\Wf w w w':=by
 have HG:=qA h;have aC:=(qE hf).1;obtain⟨jB,bn,a7,_⟩:=qD aC;have H2:=qA (qBP hf hf);have HS:=qA (fun p h1 h2 h3=>qKB (g:=g) (p:=p) h1 h2 h3);have HN:=qA (fun h=>qJf (g:=g) h);have Ir:Wi (fwI g=match fstW g with | some p=>(((p/g.2.1.toNat:Nat):Int),((p%g.2.1.toNat:Nat):Int)) | none=>(-1,-1)):=qA rfl;generalize fstW g=FW at*;generalize fwI g=R at*;obtain⟨s,rfl,aN,aQ,cj⟩:=h;obtain⟨A,cap,rfl⟩:=cj.form;obtain⟨g1,N,es⟩:=g;simp only at*
 clear cj hf aC;obtain⟨n,rfl⟩: ∃n:Nat,N=(n:Int):=⟨N.toNat,tO⟩;obtain⟨rr,rfl⟩: ∃r:Nat,g1=(r:Int):=⟨g1.toNat,tO⟩;simp only[zan] at H2 HS HN Ir;go_enter Tryz.func101,Tryz.ntmps101
 go_wp2_with fail;obtain⟨W,hW⟩: ∃W,W=w.alloc (.cells #[.int .i64 (rr:Int), .int .i64 (n:Int), .slice A es.length cap] 26):=⟨_,rfl⟩;rw[<-hW];obtain⟨xG,bG,sG⟩:=CBx.new hW;clear hW;have XG:=qA xG;have BX:=qA bG;have aH:w.heap.size+1<=W.heap.size:=tO;clear xG bG sG;have HA:Wi (∀w',Wf W.heap.size W w'->ArgG w' (.agg #[.int .i64 (rr:Int), .int .i64 (n:Int), .slice A es.length cap]) ((rr:Int),(n:Int),es)):=qA fun w' hb=>HG.o.below (BX.trans (hb.mono tO));go_loopw [4] (fun i wr=> ∃k:Nat,k<=n/\i= .int .i64 k/\Wi (∀q,q<k*n->okMw ((rr:Int),(n:Int),es) n rr q=false)/\Wf W.heap.size W wr) (fun i _=>n-(intOf i).toNat)
 case atStart=>exact⟨0,zaq _,rfl,qA fun q hq=>tO,zad _ _⟩
 case round=>
  obtain⟨k,hk,rfl,dz,hb⟩:=hrel;obtain⟨wk,rfl⟩: ∃wk:Wg,wk=wr:=⟨_,rfl⟩;have B1:=qA hb;have aE:=hb.size;clear hb;obtain⟨az,aw,ay⟩:=(XG.below B1).cs;rcases zar k n with ac | uy
  ·have mG:(k:Int)<(n:Int):=tO;go_wp2;go_loopw [5] (fun j wr=> ∃m:Nat,m<=n/\j= .int .i64 m/\Wi (∀q,q<k*n+m->okMw ((rr:Int),(n:Int),es) n rr q=false)/\Wf W W wr) (fun j _=>n-(intOf j).toNat)
   case atStart=>exact⟨0,zaq _,rfl,dz,B1⟩
   case round=>
    clear az aw ay;clear B1 aE dz;obtain⟨m,hm,rfl,dz,hb⟩:=hrel;obtain⟨wm,rfl⟩: ∃wk:Wg,wk=wr:=⟨_,rfl⟩;have B1:=qA hb;have aE:=hb.size;clear hb;obtain⟨az,aw,ay⟩:=(XG.below B1).cs;rcases zar m n with aj | CK
    ·have DU:(m:Int)<(n:Int):=tO;have hp:k*n+m<n*n:=qDO ac aj;have HP:=qA hp;clear hp;go_wp2_with fail;clear az aw ay;refine(qCd _ _ _ _ n n rr (k*n+m) k m wm (HA wm B1) (HA wm B1) H2 rfl rfl HP rfl).mono ?_
     rintro e w3 ⟨sP,rfl,oP,b3⟩;have B3:=qA (B1.trans (b3.mono aE));have d5:=b3.size;clear b3;have a8:Wi ((k*n+m)/n=k/\(k*n+m)%n=m):=qA ⟨by rw[zam,zaA tO,zax aj,Nat.add_zero],by rw[zam,zaB,zay aj]⟩;have bH:Wi (okMw ((rr:Int),(n:Int),es) n rr (k*n+m)=(decide (k≠m)&&decide ((prsL ((rr:Int),(n:Int),es) ((rr:Int),(n:Int),es) n n (qB rr) (k*n+m)).length<=edgL es es n rr (prsL ((rr:Int),(n:Int),es) ((rr:Int),(n:Int),es) n n (qB rr) (k*n+m))))):=qA (by unfold okMw;rw[a8.o.1,a8.o.2]);have iM:=qA (qHC (ls:=qB rr) H2 HP);have Ji:(prsL ((rr:Int),(n:Int),es) ((rr:Int),(n:Int),es) n n (qB rr) (k*n+m)).length<=1600:=by
      have h1:=qBr (qCL (a:=((rr:Int),(n:Int),es)) (b:=((rr:Int),(n:Int),es)) (A:=n) (B:=n) (p:=k*n+m) (qB rr)) (iM);have h2:n*n<=40*40:=zav tO tO;omega
     generalize prsL ((rr:Int),(n:Int),es) ((rr:Int),(n:Int),es) n n (qB rr) (k*n+m)=PS at*;have kG:=qA oP;obtain⟨AP,cP,rfl,_⟩:=oP.form;have rz:(ns PS).length=PS.length:=qBg PS;have gR:=qA (qCk (.agg #[.int .i64 (rr:Int), .int .i64 (n:Int), .slice A es.length cap]) (.agg #[.int .i64 (rr:Int), .int .i64 (n:Int), .slice A es.length cap]) (.slice AP (ns PS).length cP) ((rr:Int),(n:Int),es) ((rr:Int),(n:Int),es) n n rr PS w3 (HA w3 B3) (HA w3 B3) kG.rd H2 rfl rfl iM Ji);have iQ:=qGn es es n rr tO PS;obtain⟨E,hE⟩: ∃E,E=edgL es es n rr PS:=⟨_,rfl⟩;rw[<-hE] at bH iQ;simp only at gR
     rw[<-hE] at gR;rw[rz] at gR⊢;clear oP rz hE;have jX: ∀(hf:okMw ((rr:Int),(n:Int),es) n rr (k*n+m)=false),∀q,q<k*n+(m+1)->okMw ((rr:Int),(n:Int),es) n rr q=false:=fun hf q hq=>by
      rcases zar q (k*n+m) with h1 | h1
      ·exact dz.o q h1
      ·rwa [show q=k*n+m by omega]
     have eO:=qA jX;clear jX;rcases zar k m with eV | eV
     rotate_left
     rcases zar m k with il | il
     rotate_left
     ·have yd:k=m:=tO;have F:=qA (eO (by rw[bH.o,decide_eq_false tO];rfl));subst yd;have xN:((k:Int) != (k:Int))=false:=tZ;go_wp2;go_roundw;exact⟨k+1,tO,by go_num,F,B3.o⟩;exact tM
     all_goals
      have xN:((k:Int) != (m:Int))=true:=by simp;omega
      have oL:decide (k≠m)=true:=decide_eq_true tO;rw[oL,Bool.true_and] at bH;clear oL;obtain⟨az,aw,ay⟩:=(XG.below B3).cs;go_wp2_with fail;clear az aw ay;refine gR.o.mono ?_;rintro e w4 ⟨rfl,b4⟩;have B4:=qA (B3.trans (b4.mono tO));clear b4 gR;rcases zar E PS.length with hlE | hgE
      ·have F:=qA (eO (by rw[bH.o,decide_eq_false tO]));have PK: ¬(PS.length:Int)<=(E:Int):=tO;go_wp2;go_roundw;exact⟨m+1,tO,by go_num,F,B4.o⟩;exact tM
      ·have F:=qA (HS _ HP (by rw[bH.o,decide_eq_true tO]) dz.o);have PK:(PS.length:Int)<=(E:Int):=tO;have HR:Wi (R=((k:Int),(m:Int))):=qA (by rw[Ir.o,F.o];simp only;rw[a8.o.1,a8.o.2]);go_wp2;exact Wj (v:= .tuple #[.int .i64 (k:Int), .int .i64 (m:Int)]) (by simp[results,Tryz.results101]) rfl ⟨by rw[HR.o],BX.o.trans (B4.mono tO)⟩
    ·have H9:m=n:=tO;subst H9;have F:Wi (∀q,q<(k+1)*m->okMw ((rr:Int),(m:Int),es) m rr q=false):=qA fun q hq=>dz.o q (by rw[Nat.add_mul,Nat.one_mul] at hq;exact hq);go_wp2;go_roundw;exact⟨k+1,tO,by go_num,F,B1.o⟩;exact tM
  ·have H5:k=n:=tO;subst H5;have F:=qA (HN dz);have HR:Wi (R=(-1,-1)):=qA (by rw[Ir.o,F.o]);go_wp2;exact Wj (v:= .tuple #[.int .i64 (-1), .int .i64 (-1)]) (by simp[results,Tryz.results101]) rfl ⟨by rw[HR.o],BX.o.trans (B1.mono tO)⟩
theorem qOO (x y:List Int):redL [] (redL [] x++y)=redL [] (x++y):=by
 have h1:redL [] (redL [] x++y)=redL (redL [] (redL [] x)) y:=by unfold redL;rw[zaJ]
 rw[h1,show redL [] (redL [] x)=redL [] x from by simpa using qNg (acc:= []) (xs:=redL [] x) (by simpa using qGQ qGU)];unfold redL;rw[zaJ]
def lp0 (P:GrD):List Int:=match extL P with
 | []=> []
 | e::_=>redL [] ((wdO P e.1++ [e.2.1])++invL (wdO P e.2.2))
def malF (g:GrD):List Int×List Int×Bool:=
 if qS g=true then(match fstW g with
  | none=>([],[],false)
  | some p=>if(qAW g g (p/g.2.1.toNat) (p%g.2.1.toNat)).2=true then
    (redL [] (wdO g ((p/g.2.1.toNat:Nat):Int)++invL (wdO g ((p%g.2.1.toNat:Nat):Int))),redL [] ((wdO g ((p%g.2.1.toNat:Nat):Int)++lp0 (qAW g g (p/g.2.1.toNat) (p%g.2.1.toNat)).1)++invL (wdO g ((p%g.2.1.toNat:Nat):Int))),true)
    else([],[],false))
 else([],[],false)
structure MalH (g:GrD) (R:List Int×List Int×Bool):Prop where
 c0:qS g=false->R=([],[],false)
 c1:fstW g=none->R=([],[],false)
 c2: ∀p,fstW g=some p->(qAW g g (p/g.2.1.toNat) (p%g.2.1.toNat)).2=false->R=([],[],false)
 c3:qS g=true-> ∀p,fstW g=some p->(qAW g g (p/g.2.1.toNat) (p%g.2.1.toNat)).2=true->R=(redL [] (wdO g ((p/g.2.1.toNat:Nat):Int)++invL (wdO g ((p%g.2.1.toNat:Nat):Int))),redL [] ((wdO g ((p%g.2.1.toNat:Nat):Int)++lp0 (qAW g g (p/g.2.1.toNat) (p%g.2.1.toNat)).1)++invL (wdO g ((p%g.2.1.toNat:Nat):Int))),true)
theorem qNP (g:GrD):MalH g (malF g):=by
 refine⟨fun h=> ?_,fun h=> ?_,fun p h1 h2=> ?_,fun h0 p h1 h2=> ?_⟩<;>unfold malF
 ·rw[Wn (by rw[h];decide)]
 ·rw[h];split<;>rfl
 ·rw[h1];simp only[h2];split<;>rfl
 ·rw[Wm h0,h1];simp only[h2,if_true]
theorem qNJ {g:GrD} {p:Nat} (hc:qS g=true) (h:fstW g=some p) (af:(qAW g g (p/g.2.1.toNat) (p%g.2.1.toNat)).2=true):
  ((p/g.2.1.toNat:Nat):Int)<g.2.1/\((p%g.2.1.toNat:Nat):Int)<g.2.1/\qO (qAW g g (p/g.2.1.toNat) (p%g.2.1.toNat)).1=true/\ ∃e l,extL (qAW g g (p/g.2.1.toNat) (p%g.2.1.toNat)).1=e::l/\e∈(qAW g g (p/g.2.1.toNat) (p%g.2.1.toNat)).1.2.2/\e.1∈canO (qAW g g (p/g.2.1.toNat) (p%g.2.1.toNat)).1/\e.2.2∈canO (qAW g g (p/g.2.1.toNat) (p%g.2.1.toNat)).1:=by
 have hf:=qAQ hc;have hN:=(qD (qE hf).1).2.1;obtain⟨h1,h2⟩:=qIG h;have hn:0<g.2.1.toNat:=tO;have hu:((p/g.2.1.toNat:Nat):Int)<g.2.1:=by have:=zaR h1;omega
 have hv:((p%g.2.1.toNat:Nat):Int)<g.2.1:=by have:=Nat.mod_lt p hn;omega
 obtain⟨hR,aX⟩:=qIJ hf hf hu hv af;refine⟨hu,hv,aX,?_⟩;have xU:pbOk g g (p/g.2.1.toNat) (p%g.2.1.toNat)=true:=by
  unfold qAW at af;split at af
  ·rename_i q;exact q.2
  ·cases af
 unfold okMw at h2;simp only[zas,decide_eq_true_eq] at h2;have zE:p/g.2.1.toNat*g.2.1.toNat+p%g.2.1.toNat=p:=by rw[zam];exact za3 p _
 have hE:(pbP g g (p/g.2.1.toNat) (p%g.2.1.toNat)).length<=edgL g.2.2 g.2.2 g.2.1.toNat g.1.toNat (pbP g g (p/g.2.1.toNat) (p%g.2.1.toNat)):=by
  unfold pbP;rw[zE];exact h2.2
 obtain⟨hx,aG⟩:=qRH hf hf hu hv xU hE;rw[hR];simp only
 rw[hR] at aX;cases he:extL (pbG g g (p/g.2.1.toNat) (p%g.2.1.toNat)) with
 | nil=>exact absurd he hx
 | cons e l=>
   have mq:e∈extL (pbG g g (p/g.2.1.toNat) (p%g.2.1.toNat)):=by rw[he];simp
   have hm:=(zaC.1 mq).1;have hr:=qM (qE aX).1 hm;exact⟨e,l,rfl,hm,aG _ hr.1,aG _ hr.2.2⟩
theorem qCs (v:Wh) (g:GrD) (w:Wg) (h:ArgG w v g):
  Wk Tryz.prog 20 #[v] w fun e w'=> ∃r s,e= .returned (.tuple #[r,s, .bool (malF g).2.2])/\OwI w' w r (malF g).1/\OwI w' w s (malF g).2.1/\(∀b,r.ownBlock=some b->s.ownBlock≠some b)/\Wf w w w':=by
 have HG:=qA h;have HC:=qA (qNP g);have ic:=qA (fun p h1 h2 h3=>qNJ (g:=g) (p:=p) h1 h2 h3);have jz:=qA (fun p h=>qIG (g:=g) (p:=p) h);have pU:Wi (fwI g=match fstW g with | some p=>(((p/g.2.1.toNat:Nat):Int),((p%g.2.1.toNat:Nat):Int)) | none=>(-1,-1)):=qA rfl;generalize malF g=RES at*;obtain⟨s,rfl,aN,aQ,cj⟩:=h;obtain⟨A,cap,rfl⟩:=cj.form;obtain⟨g1,N,es⟩:=g;simp only at*
 clear cj;go_enter Tryz.func20,Tryz.ntmps20
 go_wp2_with fail;obtain⟨W,hW⟩: ∃W,W=w.alloc (.cells #[.int .i64 g1, .int .i64 N, .slice A es.length cap] 26):=⟨_,rfl⟩;rw[<-hW];obtain⟨xG,bG,sG⟩:=CBx.new hW;clear hW;have XG:=qA xG;have BX:=qA bG;have aH:w.heap.size+1<=W.heap.size:=tO;clear xG bG sG;have HA:Wi (∀w',Wf W.heap.size W w'->ArgG w' (.agg #[.int .i64 g1, .int .i64 N, .slice A es.length cap]) (g1,N,es)):=qA fun w' hb=>HG.o.below (BX.trans (hb.mono tO));have ZERO:Wi (∀w':Wg,w.heap.size<=w'.heap.size->OwI ((w'.alloc (.cells #[] 3)).alloc (.cells #[] 3)) w (.slice (some ⟨w'.heap.size,0,none⟩) 0 0) []/\OwI ((w'.alloc (.cells #[] 3)).alloc (.cells #[] 3)) w (.slice (some ⟨w'.heap.size+1,0,none⟩) 0 0) []):=qA fun w' hw=>⟨(qp w' [] qt tZ hw).alloc _,qAc (w'.alloc (.cells #[] 3)) [] _ tZ qt tZ tO⟩;refine(qY _ (g1,N,es) W (HA W (zad _ _))).mono ?_
 rintro e w1 ⟨rfl,b1⟩;have B1:=qA b1;have dh:=b1.size;clear b1;rcases e1:qS (g1,N,es) with _ | _
 ·have F:=qA (HC.c0 e1);clear e1;go_wp2;obtain⟨z1,z2⟩:=ZERO.o w1 tO;exact Wj (v:= .tuple #[.slice (some ⟨w1,0,none⟩) 0 0, .slice (some ⟨w1.heap.size+1,0,none⟩) 0 0, .bool false]) (by simp[results,Tryz.results20,go_sem]) rfl ⟨_,_,by rw[F.o],by rw[F.o];exact z1,by rw[F.o];exact z2,by simp[zai],((BX.trans (B1.mono tO)).alloc tO _).alloc (by simp;omega) _⟩
 have hf:=qAQ e1;have HF:=qA hf;obtain⟨jB,bn,a7,_⟩:=qD (qE hf).1;simp only at jB bn a7
 have fG:=qA e1;clear e1 hf;obtain⟨az,aw,ay⟩:=(XG.below B1).cs;go_wp2_with fail;clear az aw ay;refine(qIw _ (g1,N,es) w1 (HA w1 B1) HF).mono ?_
 rintro e w2 ⟨rfl,b2⟩;have B2:=qA (B1.trans (b2.mono dh));have je:=b2.size;clear b2;have oG:=qA (fun p h=>jz.o p h);rcases e2:fstW (g1,N,es) with _ | p
 ·have F:=qA (HC.c1 e2);have E:=pU.o;rw[e2] at E;simp only at E
  rw[E];clear e2 E HC pU jz oG ic;go_wp2;obtain⟨z1,z2⟩:=ZERO.o w2 tO;exact Wj (v:= .tuple #[.slice (some ⟨w2,0,none⟩) 0 0, .slice (some ⟨w2.heap.size+1,0,none⟩) 0 0, .bool false]) (by simp[results,Tryz.results20,go_sem]) rfl ⟨_,_,by rw[F.o],by rw[F.o];exact z1,by rw[F.o];exact z2,by simp[zai],((BX.trans (B2.mono tO)).alloc tO _).alloc (by simp;omega) _⟩
 have eQ:=qA (HC.c2 p e2);have eI:=qA (HC.o.c3 fG p e2);have ic:=qA (ic p fG e2);have mV:=(jz p e2).1;have E:=pU.o;rw[e2] at E;simp only at E eQ eI ic mV
 rw[E];simp only
 clear E e2 HC pU jz oG;obtain⟨n,rfl⟩: ∃n:Nat,N=(n:Int):=⟨N.toNat,tO⟩;simp only[zan] at eQ eI ic mV⊢;have cQ:p/n<n:=zaR mV;have d6:p%n<n:=Nat.mod_lt p tO;generalize p/n=u at*;generalize p%n=v at*;clear mV;have eW: ¬(u:Int)<0:=tO;go_wp2_with fail;have lS:(u:Int)∈canO (g1,(n:Int),es):=qBS fG.o ⟨tO,by show(u:Int)<(n:Int);omega⟩;have jr:(v:Int)∈canO (g1,(n:Int),es):=qBS fG.o ⟨tO,by show(v:Int)<(n:Int);omega⟩;have Gc:=qA lS;have J5:=qA jr;have TV:=qBh (qE HF).1 lS;have EB:=qBh (qE HF).1 jr;clear lS jr;have lm:=qA (fun W' h=>qBR (.agg #[.int .i64 g1, .int .i64 (n:Int), .slice A es.length cap]) (g1,(n:Int),es) u W' h HF Gc);have nJ:=qA (fun W' h=>qBR (.agg #[.int .i64 g1, .int .i64 (n:Int), .slice A es.length cap]) (g1,(n:Int),es) v W' h HF J5);generalize wdO (g1,(n:Int),es) (u:Int)=wu at*;generalize wdO (g1,(n:Int),es) (v:Int)=wv at*;refine qAe [.val (.agg #[.int .i64 g1, .int .i64 (n:Int), .slice A es.length cap]), .val (.int .i64 (u:Int)), .own (fun W x=>RdI W x wu) (fun _ _ _ h b=>h.below b), .val (.agg #[.int .i64 g1, .int .i64 (n:Int), .slice A es.length cap]), .val (.int .i64 (v:Int)), .own (fun W x=>RdI W x wv) (fun _ _ _ h b=>h.below b), .own (fun W x=>RdI W x (invL wv)) (fun _ _ _ h b=>h.below b), .own (fun W x=>OwI W w x (redL [] (wu++invL wv))) (fun _ _ _ h b=>h.below b), .cp 7] tK tK (by rfl) (by rfl) (fun vs=> ?_);refine⟨fun W' K' Q0 hB hD hK=> ?_,?_⟩
 ·obtain⟨q0,q1,q2,_,_⟩:=XG.o.below (B2.trans (hB.mono tO));go_simp;exact hK.o _ _ (zad _ _) rfl
 simp only[zae,zaa,zab,zac,Sp.pick,Nat.reduceAdd];refine⟨fun W' K' Q0 hB hD hK=> ?_,?_⟩
 ·skip;go_simp;exact hK.o _ _ (zad _ _) rfl
 simp only[zae,zaa,zab,zac,Sp.pick,Nat.reduceAdd];refine⟨fun W' K' Q0 hB hD hK=> ?_,?_⟩
 ·go_simp;(refine(lm W' (HA W' (B2.trans (hB.mono tO)))).mono ?_;rintro e w' ⟨r,rfl,o,b⟩;exact hK.o _ _ b o.rd)
 simp only[zae,zaa,zab,zac,Sp.pick,Nat.reduceAdd];refine⟨fun W' K' Q0 hB hD hK=> ?_,?_⟩
 ·obtain⟨q0,q1,q2,_,_⟩:=XG.o.below (B2.trans (hB.mono tO));go_simp;exact hK.o _ _ (zad _ _) rfl
 simp only[zae,zaa,zab,zac,Sp.pick,Nat.reduceAdd];refine⟨fun W' K' Q0 hB hD hK=> ?_,?_⟩
 ·skip;go_simp;exact hK.o _ _ (zad _ _) rfl
 simp only[zae,zaa,zab,zac,Sp.pick,Nat.reduceAdd];refine⟨fun W' K' Q0 hB hD hK=> ?_,?_⟩
 ·go_simp;(refine(nJ W' (HA W' (B2.trans (hB.mono tO)))).mono ?_;rintro e w' ⟨r,rfl,o,b⟩;exact hK.o _ _ b o.rd)
 simp only[zae,zaa,zab,zac,Sp.pick,Nat.reduceAdd];refine⟨fun W' K' Q0 hB hD hK=> ?_,?_⟩
 ·go_simp;(refine(qAa _ _ _ (show RdI W' (vs 5) _ from hD.o 5 tK) tO).mono ?_;rintro e w' ⟨r,rfl,o,b⟩;exact hK.o _ _ b o.rd)
 simp only[zae,zaa,zab,zac,Sp.pick,Nat.reduceAdd];refine⟨fun W' K' Q0 hB hD hK=> ?_,?_⟩
 ·go_simp;(refine(qAF _ _ _ _ _ (show RdI W' (vs 2) _ from hD.o 2 tK) (show RdI W' (vs 6) _ from hD.o 6 tK) tO (by rw[qAt];omega)).mono ?_;rintro e w' ⟨r,rfl,o,b⟩;exact hK.o _ _ b (o.mono (by have:=hB.o.size;omega)))
 simp only[zae,zaa,zab,zac,Sp.pick,Nat.reduceAdd];refine⟨fun W' K' Q0 hB hD hK=> ?_,?_⟩
 ·go_simp;exact hK.o _ _ (zad _ _) rfl
 simp only[zae,zaa,zab,zac,Sp.pick,Nat.reduceAdd];intro w4 hB hD _;have O1:Wi (OwI w4 w (vs 7) (redL [] (wu++invL wv))):=qA (hD 7 tD);have Lq:vs 8=vs 7:=hD.o 8 tD;rw[Lq];have B4:=qA (B2.trans (hB.mono tO));have jY:=hB.o.size;clear hB hD Lq lm;generalize vs 7=r1 at*;generalize vs 2=j2 at*;generalize vs 5=j5 at*;generalize vs 6=j6 at*;obtain⟨az,aw,ay⟩:=(XG.below B4).cs;go_wp2_with fail;clear az aw ay;refine(qCe _ _ (g1,(n:Int),es) (g1,(n:Int),es) u v w4 (HA w4 B4) (HA w4 B4) HF HF (by simp only;omega) (by simp only;omega)).mono ?_
 rintro e w5 ⟨r5,rfl,o5,b5⟩;have B5:=qA (B4.trans (b5.mono tO));have Pw:=qA (O1.below b5);have fg:=b5.size;clear b5;generalize qAW (g1,(n:Int),es) (g1,(n:Int),es) u v=M at*;obtain⟨⟨m1,m2,ms⟩,ok⟩:=M;simp only at eQ eI ic
 obtain⟨s5,rfl,ch,bV,bF⟩:=o5;obtain⟨A5,c5,rfl,_⟩:=bF.form;simp only at ch bV bF⊢
 obtain⟨W6,cH⟩: ∃W,W=w5.alloc (.cells #[.int .i64 m1,.int .i64 m2, .slice A5 ms.length c5] 26):=⟨_,rfl⟩;have iU:=qA (GBx.new (m:=(m1,m2,ms)) bF ch bV cH);obtain⟨eU,b6,_,_⟩:=gbox cH;have B6:Wi (Wf W.heap.size W W6):=qA (B5.trans (b6.mono tO));have QI:=qA (Pw.below b6);have sw:w5.heap.size+1<=W6.heap.size:=tO;clear b6 bF;cases ok
 ·have F:=qA (eQ rfl);go_wp2;obtain⟨z1,z2⟩:=ZERO.o W6 tO;rw[eU] at z1 z2;have Iu:W6.heap.size=w5.heap.size+1:=eU;clear eU sw;subst cH;exact Wj (v:= .tuple #[.slice (some ⟨w5.heap.size+1,0,none⟩) 0 0, .slice (some ⟨w5.heap.size+1+1,0,none⟩) 0 0, .bool false]) (by simp[results,Tryz.results20,go_sem]) rfl ⟨_,_,by rw[F.o],by rw[F.o];exact z1,by rw[F.o];exact z2,by simp[zai],((BX.trans (B6.mono tO)).alloc tO _).alloc (by simp;omega) _⟩
 clear eU;have F:=qA (eI rfl);obtain⟨_,_,ld,e0,le,re,mq,pL,wJ⟩:=ic.o rfl;have y5:=qA ld;have nz:=qA re;have ra:Wi (lp0 (m1,m2,ms)=redL [] ((wdO (m1,m2,ms) e0.1++ [e0.2.1])++invL (wdO (m1,m2,ms) e0.2.2))):=qA (by unfold lp0;rw[re]);have fB:=qA (fun W' h=>qHR (.agg #[.int .i64 m1, .int .i64 m2, .slice A5 ms.length c5]) (m1,m2,ms) e0 W' h ld mq pL wJ);have zW:(lp0 (m1,m2,ms)).length<=200:=by
  have h1:=qBh (qE ld).1 pL;have h3:=qBh (qE ld).1 wJ;have h4:=qBQ [] ((wdO (m1,m2,ms) e0.1++ [e0.2.1])++invL (wdO (m1,m2,ms) e0.2.2));rw[ra.o];simp[qAt] at h4⊢
  omega
 rw[<-ra.o] at fB;clear eQ eI ic mq pL wJ ld re;generalize lp0 (m1,m2,ms)=lp at*;obtain⟨z0,z1,z2⟩:=iU.o.cbx;simp only at z0 z1 z2
 rw[cH] at z0 z1 z2;go_wp2_with fail;rw[<-cH];clear z0 z1 z2 cH;refine(qEn _ (m1,m2,ms) W6 iU.arg y5).mono ?_
 rw[nz.o];rintro e w7 ⟨r7,rfl,o7,b7⟩;have B7:=qA (B6.trans (b7.mono tO));have Rb:=qA (QI.below b7);have fD:=qA (iU.below b7);have pe:=b7.size;clear b7;obtain⟨A7,c7,rfl,_,_,_,Nr⟩:=o7.form;obtain⟨q7,rfl,Su,vX⟩:=Nr tZ;have OX:=qA o7;have Du:=o7.cellAt 0 tZ;simp only[List.getElem_cons_zero,Nat.zero_mul,zaL] at Du;have yU:=qA Du;clear o7 Nr Du;have IX:Wi (∀W',Wf w7 w7 W'->CBx W' w5 (.int .i64 m1) (.int .i64 m2) (.slice A5 ms.length c5)/\W'.cell? ⟨q7,0,none⟩=some (.int .i64 e0.1)/\W'.cell? ⟨q7,1,none⟩=some (.int .i64 e0.2.1)/\W'.cell? ⟨q7,2,none⟩=some (.int .i64 e0.2.2)):=qA fun W' hb=>⟨fD.o.cbx.below hb,(hb.cell (p:=⟨q7,0,none⟩) vX).trans yU.o.1,(hb.cell (p:=⟨q7,1,none⟩) vX).trans yU.o.2.1,(hb.cell (p:=⟨q7,2,none⟩) vX).trans yU.o.2.2⟩;have dH:((e0::le).length:Int)=(le.length:Int)+1:=tZ;have ci:(0:Int)<((e0::le).length:Int):=tO;go_wp2_with fail;refine qAe [.val (.agg #[.int .i64 m1, .int .i64 m2, .slice A5 ms.length c5]), .val (.slice (some ⟨q7,0,none⟩) (e0::le).length c7), .val (.pointer (some ⟨q7,0,none⟩)), .val (edV e0), .own (fun W x=>RdI W x lp) (fun _ _ _ h b=>h.below b), .cp 4] tK tK (by rfl) (by rfl) (fun vs=> ?_);refine⟨fun W' K' Q0 hB hD hK=> ?_,?_⟩
 ·obtain⟨⟨q0,q1,q2,_,_⟩,_⟩:=IX.o W' hB.o;go_simp;exact hK.o _ _ (zad _ _) rfl
 simp only[zae,zaa,zab,zac,Sp.pick,Nat.reduceAdd]
 iterate 2
  refine⟨fun W' K' Q0 hB hD hK=> ?_,?_⟩
  ·skip;go_simp;exact hK.o _ _ (zad _ _) rfl
  simp only[zae,zaa,zab,zac,Sp.pick,Nat.reduceAdd]
 refine⟨fun W' K' Q0 hB hD hK=> ?_,?_⟩
 ·obtain⟨_,q0,q1,q2⟩:=IX.o W' hB.o;go_simp;exact hK.o _ _ (zad _ _) rfl
 simp only[zae,zaa,zab,zac,Sp.pick,Nat.reduceAdd];refine⟨fun W' K' Q0 hB hD hK=> ?_,?_⟩
 ·go_simp;(refine(show Wk Tryz.prog 105 #[.agg #[.int .i64 m1, .int .i64 m2, .slice A5 ms.length c5],edV e0] W' _ from ?_);refine(fB W' (fD.arg.below hB)).mono ?_;rintro e w' ⟨r,rfl,o,b⟩;exact hK.o _ _ b o.rd)
 simp only[zae,zaa,zab,zac,Sp.pick,Nat.reduceAdd];refine⟨fun W' K' Q0 hB hD hK=> ?_,?_⟩
 ·go_simp;exact hK.o _ _ (zad _ _) rfl
 simp only[zae,zaa,zab,zac,Sp.pick,Nat.reduceAdd];intro w8 hB hD _;have R8:Wi (RdI w8 (vs 4) lp):=qA (hD 4 tD);have LZ:vs 5=vs 4:=hD.o 5 tD;rw[LZ];have B8:=qA (B7.trans (hB.mono tO));have OG:=qA (Rb.below hB);have pV:=hB.o.size;clear hB hD LZ fB IX yU;generalize vs 4=r4 at*;go_wp2_with fail;refine qAe [.val r1, .val (.agg #[.int .i64 g1, .int .i64 (n:Int), .slice A es.length cap]), .val (.int .i64 (v:Int)), .own (fun W x=>RdI W x wv) (fun _ _ _ h b=>h.below b), .val r4, .own (fun W x=>RdI W x (redL [] (wv++lp))) (fun _ _ _ h b=>h.below b), .val (.agg #[.int .i64 g1, .int .i64 (n:Int), .slice A es.length cap]), .val (.int .i64 (v:Int)), .own (fun W x=>RdI W x wv) (fun _ _ _ h b=>h.below b), .own (fun W x=>RdI W x (invL wv)) (fun _ _ _ h b=>h.below b), .own (fun W x=>OwI W w8 x (redL [] ((wv++lp)++invL wv))) (fun _ _ _ h b=>h.below b), .val r1, .cp 10, .val (.bool true)] tK tK (by rfl) (by rfl) (fun vs=> ?_);refine⟨fun W' K' Q0 hB hD hK=> ?_,?_⟩
 ·skip;go_simp;exact hK.o _ _ (zad _ _) rfl
 simp only[zae,zaa,zab,zac,Sp.pick,Nat.reduceAdd];refine⟨fun W' K' Q0 hB hD hK=> ?_,?_⟩
 ·obtain⟨q0,q1,q2,_,_⟩:=XG.o.below (B8.trans (hB.mono tO));go_simp;exact hK.o _ _ (zad _ _) rfl
 simp only[zae,zaa,zab,zac,Sp.pick,Nat.reduceAdd];refine⟨fun W' K' Q0 hB hD hK=> ?_,?_⟩
 ·skip;go_simp;exact hK.o _ _ (zad _ _) rfl
 simp only[zae,zaa,zab,zac,Sp.pick,Nat.reduceAdd];refine⟨fun W' K' Q0 hB hD hK=> ?_,?_⟩
 ·go_simp;(refine(nJ W' (HA W' (B8.trans (hB.mono tO)))).mono ?_;rintro e w' ⟨r,rfl,o,b⟩;exact hK.o _ _ b o.rd)
 simp only[zae,zaa,zab,zac,Sp.pick,Nat.reduceAdd];refine⟨fun W' K' Q0 hB hD hK=> ?_,?_⟩
 ·skip;go_simp;exact hK.o _ _ (zad _ _) rfl
 simp only[zae,zaa,zab,zac,Sp.pick,Nat.reduceAdd];refine⟨fun W' K' Q0 hB hD hK=> ?_,?_⟩
 ·go_simp;(refine(qAF _ _ _ _ _ (show RdI W' (vs 3) _ from hD.o 3 tK) (R8.below hB) tO tO).mono ?_;rintro e w' ⟨r,rfl,o,b⟩;exact hK.o _ _ b o.rd)
 simp only[zae,zaa,zab,zac,Sp.pick,Nat.reduceAdd];refine⟨fun W' K' Q0 hB hD hK=> ?_,?_⟩
 ·obtain⟨q0,q1,q2,_,_⟩:=XG.o.below (B8.trans (hB.mono tO));go_simp;exact hK.o _ _ (zad _ _) rfl
 simp only[zae,zaa,zab,zac,Sp.pick,Nat.reduceAdd];refine⟨fun W' K' Q0 hB hD hK=> ?_,?_⟩
 ·skip;go_simp;exact hK.o _ _ (zad _ _) rfl
 simp only[zae,zaa,zab,zac,Sp.pick,Nat.reduceAdd];refine⟨fun W' K' Q0 hB hD hK=> ?_,?_⟩
 ·go_simp;(refine(nJ W' (HA W' (B8.trans (hB.mono tO)))).mono ?_;rintro e w' ⟨r,rfl,o,b⟩;exact hK.o _ _ b o.rd)
 simp only[zae,zaa,zab,zac,Sp.pick,Nat.reduceAdd];refine⟨fun W' K' Q0 hB hD hK=> ?_,?_⟩
 ·go_simp;(refine(qAa _ _ _ (show RdI W' (vs 8) _ from hD.o 8 tK) tO).mono ?_;rintro e w' ⟨r,rfl,o,b⟩;exact hK.o _ _ b o.rd)
 simp only[zae,zaa,zab,zac,Sp.pick,Nat.reduceAdd];refine⟨fun W' K' Q0 hB hD hK=> ?_,?_⟩
 ·go_simp;(refine(qAF _ _ _ _ _ (show RdI W' (vs 5) _ from hD.o 5 tK) (show RdI W' (vs 9) _ from hD.o 9 tK) (by have:=qBQ [] (wv++lp);simp at this;omega) (by rw[qAt];omega)).mono ?_;rintro e w' ⟨r,rfl,o,b⟩;rw[qOO] at o;exact hK.o _ _ b (o.mono (by have:=hB.o.size;omega)))
 simp only[zae,zaa,zab,zac,Sp.pick,Nat.reduceAdd];refine⟨fun W' K' Q0 hB hD hK=> ?_,?_⟩
 ·skip;go_simp;exact hK.o _ _ (zad _ _) rfl
 simp only[zae,zaa,zab,zac,Sp.pick,Nat.reduceAdd];refine⟨fun W' K' Q0 hB hD hK=> ?_,?_⟩
 ·go_simp;exact hK.o _ _ (zad _ _) rfl
 simp only[zae,zaa,zab,zac,Sp.pick,Nat.reduceAdd];refine⟨fun W' K' Q0 hB hD hK=> ?_,?_⟩
 ·skip;go_simp;exact hK.o _ _ (zad _ _) rfl
 simp only[zae,zaa,zab,zac,Sp.pick,Nat.reduceAdd];intro w9 hB hD _;have O2:Wi (OwI w9 w8 (vs 10) (redL [] ((wv++lp)++invL wv))):=qA (hD 10 tD);have Fg:vs 12=vs 10:=hD.o 12 tD;rw[Fg];have B9:=qA (B8.trans (hB.mono tO));have Un:=qA (OG.below hB);have eG:Wi (∀b,r1.ownBlock=some b->b<w8.heap.size):=qA fun b hb=>(OG.o.1.lt b hb).2;clear hB hD Fg;generalize vs 10=r2 at*;go_wp2;exact Wj (v:= .tuple #[r1,r2, .bool true]) (by simp[results,Tryz.results20,go_sem]) rfl ⟨_,_,by rw[F.o],by rw[F.o];exact Un.o,by rw[F.o];exact O2.o.mono tO,fun b h1 h2=>by have h3:=eG.o b h1;have h4:=(O2.o.1.lt b h2).1;omega,BX.o.trans (B9.mono tO)⟩
structure ExH (g:GrD) (t:List Int) (R:GrD×Int×Bool):Prop where
 c2:(qX g.2.2 0 t).2=t.length->R=(g,(qX g.2.2 0 t).1,true)
 c3:(qX g.2.2 0 t).2<t.length->40<=g.2.1->R=((0,0,[]),0,false)
 c4:(qX g.2.2 0 t).2<t.length->qBF (qAz g) (t.drop (qX g.2.2 0 t).2)=false->R=((0,0,[]),0,false)
 c5:(qX g.2.2 0 t).2<t.length->g.2.1<40->qBF (qAz g) (t.drop (qX g.2.2 0 t).2)=true->R=(cjY g t,g.2.1,true)
def extF (g:GrD) (t:List Int):GrD×Int×Bool:=
 if(qX g.2.2 0 t).2=t.length then(g,(qX g.2.2 0 t).1,true) else if g.2.1<40/\qBF (qAz g) (t.drop (qX g.2.2 0 t).2)=true then(cjY g t,g.2.1,true) else((0,0,[]),0,false)
theorem qQV (g:GrD) (t:List Int):ExH g t (extF g t):=by
 refine⟨fun h=> ?_,fun h1 h2=> ?_,fun h1 h2=> ?_,fun h3 h4 h5=> ?_⟩<;>unfold extF
 ·rw[Wm h]
 ·rw[Wn tO,Wn tO]
 ·rw[Wn tO,Wn fun q=>by rw[h2] at q;exact absurd q.2 tD]
 ·rw[Wn tO,Wm ⟨h4,h5⟩]
theorem qME (v y:Wh) (g:GrD) (t:List Int) (w:Wg) (h:ArgG w v g) (ht:RdI w y t) (hl:t.length<=1073741824) (hf:qO g=true) (hw:qAG g.1 t=true):
  Wk Tryz.prog 226 #[v,y] w fun e w'=> ∃r,e= .returned (.tuple #[r, .int .i64 (extF g t).2.1, .bool (extF g t).2.2])/\ArgG w' r (extF g t).1/\Wf w w w':=by
 have HG:=qA h;have HY:=qA ht;have HC:=qA (qQV g t);generalize extF g t=RES at*;have aC:=(qE hf).1;obtain⟨jB,bn,a7,_⟩:=qD aC;have HF:=qA hf;have aK:=qA aC;have ng:=qA hw;obtain⟨s,rfl,aN,aQ,cj⟩:=h;obtain⟨A,cap,rfl⟩:=cj.form;obtain⟨T,tc,rfl,Fx,xS,_⟩:=ht.arg;unfold maxLen at xS;obtain⟨g1,N,es⟩:=g;simp only at*
 clear cj ht hf aC hw;go_enter Tryz.func226,Tryz.ntmps226
 go_wp2_with fail;obtain⟨W1,aq⟩: ∃W,W=w.alloc (.cells #[.int .i64 g1, .int .i64 N, .slice A es.length cap] 26):=⟨_,rfl⟩;rw[<-aq];obtain⟨xG,bG,sG⟩:=CBx.new aq;clear aq;obtain⟨W,hW⟩: ∃W,W=W1.alloc (.cells #[.int .i64 0, .int .i64 0, .slice none 0 0] 26):=⟨_,rfl⟩;rw[<-hW];obtain⟨xR,bR,sR⟩:=CBx.new hW;clear hW;have XG:=qA (xG.below bR);have XR:=qA xR;rw[sG] at XR;have BX:Wi (Wf w w W):=qA (bG.trans (bR.mono tO));have aH:w.heap.size+2<=W.heap.size:=tO;clear xG bG sG xR bR sR;have HA:Wi (∀w',Wf W.heap.size W w'->ArgG w' (.agg #[.int .i64 g1, .int .i64 N, .slice A es.length cap]) (g1,N,es)):=qA fun w' hb=>HG.o.below (BX.trans (hb.mono tO));have HT:Wi (∀w',Wf W.heap.size W w'->RdI w' (.slice T t.length tc) t):=qA fun w' hb=>HY.o.below (BX.trans (hb.mono tO));refine(qKn _ _ (g1,N,es) 0 t W (HA W (zad _ _)) (HT W (zad _ _)) HF (by simp only;omega)).mono ?_
 rintro e w3 ⟨rfl,b3⟩;have B3:=qA b3;have d5:=b3.size;clear b3;have fN:=qEv es t 0;have zl:=qBj aK.o t 0 (by simp only;omega);have yw:Wi (∀(_:(qX es 0 t).2<t.length) (_:N<40) (_:qBF (qAz (g1,N,es)) (t.drop (qX es 0 t).2)=true),qO (cjY (g1,N,es) t)=true):=qA (qFM HF ng);have dC:Wi (cjY (g1,N,es) t=addG (qAz (g1,N,es)) (qX es 0 t).1 N (t.drop (qX es 0 t).2)):=qA rfl;have eQ:=qA HC.o.c2;have eI:=qA HC.o.c3;have nF:=qA HC.o.c4;have jt:=qA HC.o.c5;simp only at fN zl eQ eI nF jt
 clear HC;generalize (qX es 0 t).2=n at*;generalize (qX es 0 t).1=u at*;generalize cjY (g1,N,es) t=Y at*;have rz:(n:Int)<(t.length:Int)\/n=t.length:=tO;rcases rz with ac | lG
 rotate_left
 ·subst lG;have F:=qA (eQ rfl);clear eQ eI nF jt yw dC;obtain⟨az,aw,ay⟩:=(XG.below B3).cs;obtain⟨dS,dT,dO⟩:=(XR.below B3).cs;have eD:=(XR.below B3).fz 0;have eA:=(XR.below B3).fz 1;have eB:=(XR.below B3).fz 2;have VT:w.heap.size≠w.heap.size+1:=tO;go_wp2;obtain⟨e0,e1,e2⟩:=qo (.int .i64 g1) (.int .i64 N) (.slice A es.length cap) dS dT dO;have bw:=qH (.int .i64 g1) (.int .i64 N) (.slice A es.length cap) (BX.trans (B3.mono tO)) (show w.heap.size<=w.heap.size+1 by omega);exact Wj (v:= .tuple #[.agg #[.int .i64 g1, .int .i64 N, .slice A es.length cap], .int .i64 u, .bool true]) (by simp[results,Tryz.results226,go_sem,e0,e1,e2]) rfl ⟨_,by rw[F.o],by rw[F.o];exact HG.o.below bw,bw⟩
 have iV:n<t.length:=tO;have ai:((n:Int)==(t.length:Int))=false:=beq_eq_false_iff_ne.2 tO;have eI:=qA (eI iV);have nF:=qA (nF iV);have jt:=qA (jt iV);clear eQ;obtain⟨az,aw,ay⟩:=(XG.below B3).cs;go_wp2_with fail;clear az aw ay;refine(xP5 _ (.inr ⟨rfl,xPb⟩) _ (g1,N,es) w3 (HA w3 B3) aK).mono ?_
 rintro e w7 ⟨r7,rfl,o7,b7⟩;have B7:=qA (B3.trans (b7.mono d5));have pe:=b7.size;clear b7;by_cases hN:N<40
 rotate_left
 ·have F:=qA (eI tO);rw[Wn hN] at o7;simp only[decide_eq_false hN];obtain⟨s7,rfl,ch,bV,iC⟩:=o7;obtain⟨A7,c7,rfl,_⟩:=iC.form;have b8:Wf w7 w7 (w7.alloc (.cells #[.int .i64 g1,.int .i64 N, .slice A7 es.length c7] 26)):=(zad _ _).alloc (zag _) _;have B8:=qA (B7.trans (b8.mono tO));clear b8 hN;obtain⟨dS,dT,dO⟩:=(XR.below B8).cs;have eD:=(XR.below B8).fz 0;have eA:=(XR.below B8).fz 1;have eB:=(XR.below B8).fz 2;go_wp2;obtain⟨e0,e1,e2,bw,ow⟩:=(XR.below B8).fin (a:= .int .i64 0) (b:= .int .i64 0) (BX.trans (B8.mono tO)) tO (OwE.nil (base:=w.heap.size)) (fun b hb=>by cases hb);exact Wj (v:= .tuple #[.agg #[.int .i64 0, .int .i64 0, .slice none 0 0], .int .i64 0, .bool false]) (by simp[results,Tryz.results226,go_sem,e0,e1,e2]) rfl ⟨_,by rw[F.o],by rw[F.o];exact⟨_,rfl,⟨by decide,by decide⟩,⟨by decide,by decide⟩,ow.arg⟩,bw⟩
 rw[Wm hN] at o7;simp only[decide_eq_true hN];obtain⟨s7,rfl,ch,bV,iC⟩:=o7;obtain⟨A7,c7,rfl,_⟩:=iC.form;simp only at ch bV iC⊢
 obtain⟨W8,jU⟩: ∃W,W=w7.alloc (.cells #[.int .i64 g1,.int .i64 (N+1), .slice A7 es.length c7] 26):=⟨_,rfl⟩;have dN:=qA (GBx.new (m:=(g1,N+1,es)) iC ch bV jU);obtain⟨pV,b8,_,_⟩:=gbox jU;have B8:Wi (Wf W.heap.size W W8):=qA (B7.trans (b8.mono tO));have F8:w7.heap.size+1<=W8.heap.size:=tO;clear b8 iC pV;obtain⟨az,aw,ay⟩:=(XG.below B8).cs;rw[jU] at az aw ay;go_wp2_with fail;rw[<-jU];clear az aw ay;clear jU;have sL:=qA (fun h=>yw.o iV hN h);have HN:=qA hN;have jt:=qA (jt hN);clear hN eI yw ai;obtain⟨bt,off,rfl,_,_⟩:=HY.o.at tO;have lD: ¬tc=n:=tO;have Ix:Wi (∀w',Wf W.heap.size W w'->RdI w' (.slice (some ⟨bt,off+n,none⟩) (t.length-n) (tc-n)) (t.drop n)):=qA fun w' hb=>by
  have:=(HT w' hb).cut (k:=n) rfl fN
  rw[Wn lD] at this;simpa[Addr.add_lit] using this
 have mZ:Wi ((t.drop n).length=t.length-n):=qA tZ;have su:Wi (qAG g1 (t.drop n)=true):=qA (qFX ng n);have yZ:=qA (qE (qFV HF HN)).1;generalize t.drop n=d at*;have uA:=qA (fun W' (hb:Wf W8 W8 W')=>qGh (.agg #[.int .i64 g1, .int .i64 (N+1), .slice A7 es.length c7]) (.slice (some ⟨bt,off+n,none⟩) (t.length-n) (tc-n)) (qAz (g1,N,es)) u N d W' (dN.arg.below hb) (Ix W' (B8.trans (hb.mono B8.size))) yZ (by show _/\_<N+1;omega) (by show _/\_<N+1;omega) su.o (by have:=mZ.o;omega) (by have:=mZ.o;omega));obtain⟨R9,xu⟩: ∃R,R=(if qBF (qAz (g1,N,es)) d=true then addG (qAz (g1,N,es)) u N d else qAz (g1,N,es)):=⟨_,rfl⟩;rw[<-xu] at uA;have gO:=qA xu;clear xu;obtain⟨K9,yt⟩: ∃K,K=qBF (qAz (g1,N,es)) d:=⟨_,rfl⟩;rw[<-yt] at uA;have lQ:=qA yt;clear yt;obtain⟨n1,n2,ns⟩:=R9;have DD:Wi (Wf W8 W8 W8.drew):=qA (zad _ _).drew;obtain⟨z0,z1,z2⟩:=dN.o.cs;simp only at z0 z1 z2
 have iS:(0:Int)<=(n:Int):=tO;have VR:(n:Int)<=(t.length:Int):=tO;have Kd:(n:Int)<=(tc:Int):=tO;refine wp_region_held_drew (S:=fun _=>True) tK trivial (fun hHeld=> ?_);(refine wpAnyH_take (i:=1) (v:= ?_) rfl tK tK tK (fun _ _ _ h=>h) (Or.inl ⟨by rfl,?_⟩) (by assumption) ?_;rotate_left;focus (intro ww an;(try dsimp only at an);go_simp;try with_reducible rfl);(try simp only[zae,zaa,zab,zac]));(refine wpAnyH_take (i:=2) (v:= ?_) rfl tK tK tK (fun _ _ _ h=>h) (Or.inl ⟨by rfl,?_⟩) (by assumption) ?_;rotate_left;focus (intro ww an;(try dsimp only at an);go_simp;try with_reducible rfl);(try simp only[zae,zaa,zab,zac]));(refine wpAnyH_take (i:=3) (v:= ?_) rfl tK tK tK (fun _ _ _ h=>h) (Or.inl ⟨by rfl,?_⟩) (by assumption) ?_;rotate_left;focus (intro ww an;(try dsimp only at an);go_simp;try with_reducible rfl);(try simp only[zae,zaa,zab,zac]));(refine wpAnyH_take (i:=4) (v:= ?_) rfl tK tK tK (fun _ _ _ h=>h) (Or.inl ⟨by rfl,?_⟩) (by assumption) ?_;rotate_left;focus (intro ww an;(try dsimp only at an);go_simp;try with_reducible rfl);(try simp only[zae,zaa,zab,zac]));(refine wpAnyH_take (i:=5) (v:= ?_) rfl tK tK tK (fun _ _ _ h=>h) (Or.inl ⟨by rfl,?_⟩) (by assumption) ?_;rotate_left;focus (intro ww an;(try dsimp only at an);go_simp;try with_reducible rfl);(try simp only[zae,zaa,zab,zac]))
 (refine wpAnyH_ready (rs:= [0]) tK tZ ?_;refine AllReadyH.cons rfl (fun K' hK=> ?_) AllReadyH.nil)
 go_simp;refine hK.o _ _ trivial (fun _=> ?_);clear hK;(refine wpAnyH_ready (rs:= [6]) tK tZ ?_;refine AllReadyH.cons rfl (fun K' hK=> ?_) AllReadyH.nil)
 go_simp;refine(uA _ DD).mono ?_
 rintro e w9 ⟨r9,rfl,o9,b9⟩;have B9:Wi (Wf W8 W8 w9):=qA (DD.trans (b9.mono (zag _)));have lJ:=B9.o.size;clear b9 z0 z1 z2;obtain⟨s9,rfl,js,fo,iB⟩:=o9;obtain⟨A9,c9,rfl,_⟩:=iB.form;simp only at js fo
 have l6:=qA iB;clear iB;have iH:=qA (dN.below B9);have XP:=qA iH.o.cbx;simp only at XP
 refine hK.o _ _ trivial (fun _=> ?_);clear hK;(try simp only[zae,zaa,zab,zac])
 (refine wpAnyH_take (i:=7) (v:= ?_) rfl tK tK tK (fun _ _ _ h=>h) (Or.inl ⟨by rfl,?_⟩) (by assumption) ?_;rotate_left;focus (intro ww an;(try dsimp only at an);go_simp;try with_reducible rfl);(try simp only[zae,zaa,zab,zac]));(refine wpAnyH_take (i:=8) (v:= ?_) rfl tK tK tK (fun _ _ _ h=>h) (Or.inl ⟨by rfl,?_⟩) (by assumption) ?_;rotate_left;focus (intro ww an;(try dsimp only at an);go_simp;try with_reducible rfl);(try simp only[zae,zaa,zab,zac]));(refine wpAnyH_take (i:=9) (v:= ?_) rfl tK tK tK (fun _ _ _ h=>h) (Or.inl ⟨by rfl,?_⟩) (by assumption) ?_;rotate_left;focus (intro ww an;(try dsimp only at an);go_simp;try with_reducible rfl);(try simp only[zae,zaa,zab,zac]))
 obtain⟨ve,yy,wB⟩:=XP.o.cs;have uU:=XP.o.fz 0;have wM:=XP.o.fz 1;have wK:=XP.o.fz 2;(refine wpAnyH_ready (rs:= [10]) tK tZ ?_;refine AllReadyH.cons rfl (fun K' hK=> ?_) AllReadyH.nil)
 go_simp;refine hK.o _ _ trivial (fun _=> ?_);clear hK;(refine wpAnyH_take (i:=11) (v:= ?_) rfl tK tK tK (fun _ _ _ h=>h) (Or.inl ⟨by rfl,?_⟩) (by assumption) ?_;rotate_left;focus (intro ww an;(try dsimp only at an);go_simp;try with_reducible rfl);(try simp only[zae,zaa,zab,zac]))
 refine wpAnyH_done tK ?_ _;have GS:=qA (XP.o.set (m:=(n1,n2,ns)) l6 (fun b hb=>by have:=(l6.o.1.lt b hb).1;(try simp[go_sem] at this);omega) js fo);simp only at GS
 have BS:Wi (Wf W W (((w9.setCell ⟨w7,0,none⟩ (.int .i64 n1)).setCell ⟨w7,1,none⟩ (.int .i64 n2)).setCell ⟨w7,2,none⟩ (.slice A9 ns.length c9))):=qA (qH _ _ _ (B8.trans (B9.mono B8.size)) tO);generalize (((w9.setCell ⟨w7,0,none⟩ (.int .i64 n1)).setCell ⟨w7,1,none⟩ (.int .i64 n2)).setCell ⟨w7,2,none⟩ (.slice A9 ns.length c9))=W11 at GS BS⊢;clear uU wM wK ve yy wB;cases K9
 ·have F:=qA (nF lQ.o.symm);obtain⟨dS,dT,dO⟩:=(XR.below BS).cs;have eD:=(XR.below BS).fz 0;have eA:=(XR.below BS).fz 1;have eB:=(XR.below BS).fz 2;go_wp2;obtain⟨e0,e1,e2,bw,ow⟩:=(XR.below BS).fin (a:= .int .i64 0) (b:= .int .i64 0) (BX.trans (BS.mono tO)) tO (OwE.nil (base:=w.heap.size)) (fun b hb=>by cases hb);exact Wj (v:= .tuple #[.agg #[.int .i64 0, .int .i64 0, .slice none 0 0], .int .i64 0, .bool false]) (by simp[results,Tryz.results226,go_sem,e0,e1,e2]) rfl ⟨_,by rw[F.o],by rw[F.o];exact⟨_,rfl,⟨by decide,by decide⟩,⟨by decide,by decide⟩,ow.arg⟩,bw⟩
 have F:=qA (jt lQ.o.symm);have hY:=gO.o;rw[<-lQ.o,Wm rfl] at hY;obtain rfl:Y=(n1,n2,ns):=dC.o.trans hY.symm
 clear hY;have XT:=qA GS.o.cbx;simp only at XT
 have Vl:w.heap.size+1≠w7.heap.size:=tO;obtain⟨CI,Ec,C8⟩:=XT.o.cs;obtain⟨dS,dT,dO⟩:=(XR.below BS).cs;have eD:=(XR.below BS).fz 0;have eA:=(XR.below BS).fz 1;have eB:=(XR.below BS).fz 2;go_wp2;obtain⟨e0,e1,e2,bw,ow⟩:=(XR.below BS).fin (a:= .int .i64 n1) (b:= .int .i64 n2) (BX.trans (BS.mono tO)) tO GS.o.ow (fun b hb=>by have h1:=(GS.o.ow.1.lt b hb).1;(try simp[go_sem] at h1);omega);exact Wj (v:= .tuple #[.agg #[.int .i64 n1, .int .i64 n2, .slice A9 ns.length c9], .int .i64 N, .bool true]) (by simp[results,Tryz.results226,go_sem,e0,e1,e2]) rfl ⟨_,by rw[F.o],by rw[F.o];exact⟨_,rfl,js,fo,ow.arg⟩,bw⟩
theorem qMW {g:GrD} {t:List Int} (h1:qS g=true) (h2:qAG g.1 t=true):qBE g t=if(extF g t).2.2=true then(movG (extF g t).1 (extF g t).2.1.toNat,true) else((0,0,[]),false):=by
 unfold qBE extF;rw[Wm ⟨h1,h2⟩];split
 ·rfl
 ·split<;>rfl
theorem qQx {g:GrD} {t:List Int} (hf:qO g=true) (hw:qAG g.1 t=true) (h:(extF g t).2.2=true):qO (extF g t).1=true/\0<=(extF g t).2.1/\(extF g t).2.1<(extF g t).1.2.1:=by
 have hg:=(qE hf).1;have hN:=(qD hg).2.1;have hr:=qBj hg t 0 tO;have fN:=qEv g.2.2 t 0;unfold extF at h⊢;split
 ·exact⟨hf,hr⟩
 ·rename_i q
  rw[Wn q] at h;split
  ·rename_i q2
   exact⟨qFM hf hw tO q2.1 q2.2,by show 0<=g.2.1;omega,qGW tO⟩
  ·rename_i q2
   rw[Wn q2] at h;cases h
theorem qCm (v y:Wh) (g:GrD) (t:List Int) (w:Wg) (h:ArgG w v g) (ht:RdI w y t) (hl:t.length<=1073741824):
  Wk Tryz.prog 186 #[v,y] w fun e w'=> ∃r,e= .returned (.tuple #[r, .bool (qBE g t).2])/\OwG w' w r (qBE g t).1/\Wf w w w':=by
 have HG:=qA h;have HY:=qA ht;have HC:=qA (qLF g t);have HE:=qA (fun h1 h2=>qMW (g:=g) (t:=t) h1 h2);generalize qBE g t=RES at*;obtain⟨s,rfl,aN,aQ,cj⟩:=h;obtain⟨A,cap,rfl⟩:=cj.form;obtain⟨T,tc,rfl,Fx,xS,_⟩:=ht.arg;unfold maxLen at xS;obtain⟨g1,N,es⟩:=g;simp only at*
 clear cj ht;go_enter Tryz.func186,Tryz.ntmps186
 go_wp2_with fail;obtain⟨W1,aq⟩: ∃W,W=w.alloc (.cells #[.int .i64 g1, .int .i64 N, .slice A es.length cap] 26):=⟨_,rfl⟩;rw[<-aq];obtain⟨xG,bG,sG⟩:=CBx.new aq;clear aq;obtain⟨W,hW⟩: ∃W,W=W1.alloc (.cells #[.int .i64 0, .int .i64 0, .slice none 0 0] 26):=⟨_,rfl⟩;rw[<-hW];obtain⟨xR,bR,sR⟩:=CBx.new hW;clear hW;have XG:=qA (xG.below bR);have XR:=qA xR;rw[sG] at XR;have BX:Wi (Wf w w W):=qA (bG.trans (bR.mono tO));have aH:w.heap.size+2<=W.heap.size:=tO;clear xG bG sG xR bR sR;have HA:Wi (∀w',Wf W.heap.size W w'->ArgG w' (.agg #[.int .i64 g1, .int .i64 N, .slice A es.length cap]) (g1,N,es)):=qA fun w' hb=>HG.o.below (BX.trans (hb.mono tO));have HT:Wi (∀w',Wf W.heap.size W w'->RdI w' (.slice T t.length tc) t):=qA fun w' hb=>HY.o.below (BX.trans (hb.mono tO));refine(qr _ (g1,N,es) W (HA W (zad _ _))).mono ?_
 rintro e w1 ⟨rfl,b1⟩;have B1:=qA b1;have dh:=b1.size;clear b1;rcases e1:qS (g1,N,es) with _ | _
 ·have F:=qA (HC.c0 e1);clear e1;obtain⟨dS,dT,dO⟩:=(XR.below B1).cs;have eD:=(XR.below B1).fz 0;have eA:=(XR.below B1).fz 1;have eB:=(XR.below B1).fz 2;go_wp2;obtain⟨e0,e1,e2,bw,ow⟩:=(XR.below B1).fin (a:= .int .i64 0) (b:= .int .i64 0) (BX.trans (B1.mono tO)) tO (OwE.nil (base:=w.heap.size)) (fun b hb=>by cases hb);exact Wj (v:= .tuple #[.agg #[.int .i64 0, .int .i64 0, .slice none 0 0], .bool false]) (by simp[results,Tryz.results186,go_sem,e0,e1,e2]) rfl ⟨_,by rw[F.o],by rw[F.o];exact⟨.slice none 0 0,rfl,⟨by decide,by decide⟩,⟨by decide,by decide⟩,ow⟩,bw⟩
 have hf:=qAQ e1;have HF:=qA hf;clear hf;have fG:=qA e1;clear e1;obtain⟨az,aw,ay⟩:=(XG.below B1).cs;go_wp2_with fail;refine(qEP g1 _ t w1 (HT w1 B1).arg tO).mono ?_
 rintro e w2 ⟨rfl,rfl⟩;clear az aw ay;rcases e2:qAG g1 t with _ | _
 ·have F:=qA (HC.c1 e2);clear e2;obtain⟨dS,dT,dO⟩:=(XR.below B1).cs;have eD:=(XR.below B1).fz 0;have eA:=(XR.below B1).fz 1;have eB:=(XR.below B1).fz 2;go_wp2;obtain⟨e0,e1,e2,bw,ow⟩:=(XR.below B1).fin (a:= .int .i64 0) (b:= .int .i64 0) (BX.trans (B1.mono tO)) tO (OwE.nil (base:=w.heap.size)) (fun b hb=>by cases hb);exact Wj (v:= .tuple #[.agg #[.int .i64 0, .int .i64 0, .slice none 0 0], .bool false]) (by simp[results,Tryz.results186,go_sem,e0,e1,e2]) rfl ⟨_,by rw[F.o],by rw[F.o];exact⟨.slice none 0 0,rfl,⟨by decide,by decide⟩,⟨by decide,by decide⟩,ow⟩,bw⟩
 have ng:=qA e2;clear e2;have HE:=qA (HE fG ng);have bH:=qA (fun h=>qQx (g:=(g1,N,es)) HF ng h);clear HC;obtain⟨az,aw,ay⟩:=(XG.below B1).cs;go_wp2_with fail;clear az aw ay;refine(qME _ _ (g1,N,es) t w1 (HA w1 B1) (HT w1 B1) hl HF ng).mono ?_
 rintro e w3 ⟨r3,rfl,o3,b3⟩;have B3:=qA (B1.trans (b3.mono dh));have d5:=b3.size;clear b3;generalize extF (g1,N,es) t=C at*;obtain⟨⟨c1,c2,cs⟩,u,ok⟩:=C;simp only at o3 HE bH⊢
 obtain⟨s1,rfl,aJ,dp,aY⟩:=o3;obtain⟨A3,k3,rfl⟩:=aY.form;simp only at aJ dp aY⊢
 have iI:Wf w3 w3 (w3.alloc (.cells #[.int .i64 c1,.int .i64 c2, .slice A3 cs.length k3] 26)):=(zad _ _).alloc (zag _) _;have B4:=qA (B3.trans (iI.mono tO));have AE:=qA (aY.below iI);clear iI aY;cases ok
 ·have F:Wi (RES=((0,0,[]),false)):=qA (by rw[HE.o,Wn tD]);obtain⟨dS,dT,dO⟩:=(XR.below B4).cs;have eD:=(XR.below B4).fz 0;have eA:=(XR.below B4).fz 1;have eB:=(XR.below B4).fz 2;go_wp2;obtain⟨e0,e1,e2,bw,ow⟩:=(XR.below B4).fin (a:= .int .i64 0) (b:= .int .i64 0) (BX.trans (B4.mono tO)) tO (OwE.nil (base:=w.heap.size)) (fun b hb=>by cases hb);exact Wj (v:= .tuple #[.agg #[.int .i64 0, .int .i64 0, .slice none 0 0], .bool false]) (by simp[results,Tryz.results186,go_sem,e0,e1,e2]) rfl ⟨_,by rw[F.o],by rw[F.o];exact⟨.slice none 0 0,rfl,⟨by decide,by decide⟩,⟨by decide,by decide⟩,ow⟩,bw⟩
 obtain⟨Cd,eW,kL⟩:=bH.o rfl;obtain⟨u,rfl⟩: ∃u':Nat,u=(u':Int):=⟨u.toNat,tO⟩;have F:Wi (RES=(movG (c1,c2,cs) u,true)):=qA (by rw[HE.o,Wm rfl];rfl);have Qh:=qA Cd;clear Cd HE bH;go_wp2_with fail;refine(xP3 _ (.inr ⟨rfl,xPb⟩) _ (c1,c2,cs) u _ ⟨_,rfl,aJ,dp,AE⟩ Qh kL).mono ?_
 have jY:=B4.o.size;generalize w3.alloc (.cells #[.int .i64 c1,.int .i64 c2, .slice A3 cs.length k3] 26)=w4 at*;rintro e w5 ⟨r5,rfl,o5,b5⟩;have B5:=qA (B4.trans (b5.mono jY));have fg:=b5.size;clear b5;generalize movG (c1,c2,cs) u=M at*;obtain⟨m1,m2,ms⟩:=M;obtain⟨s5,rfl,ch,bV,bF⟩:=o5;obtain⟨A5,k5,rfl,_⟩:=bF.form;simp only at ch bV bF F⊢
 have O5:=qA bF;clear bF;obtain⟨dS,dT,dO⟩:=(XR.below B5).cs;have eD:=(XR.below B5).fz 0;have eA:=(XR.below B5).fz 1;have eB:=(XR.below B5).fz 2;go_wp2;obtain⟨e0,e1,e2,bw,ow⟩:=(XR.below B5).fin (a:= .int .i64 m1) (b:= .int .i64 m2) (BX.trans (B5.mono tO)) tO O5.o (fun b hb=>by have h1:=(O5.o.1.lt b hb).1;(try simp[go_sem] at h1);omega);exact Wj (v:= .tuple #[.agg #[.int .i64 m1, .int .i64 m2, .slice A5 ms.length k5], .bool true]) (by simp[results,Tryz.results186,go_sem,e0,e1,e2]) rfl ⟨_,by rw[F.o],by rw[F.o];exact⟨_,rfl,ch,bV,ow.mono (by(try simp[go_sem]);omega)⟩,bw⟩
def metF (a b:GrD) (t:List Int):GrD×Bool:=if(qBE b t).2=true then intF a (qBE b t).1 else((0,0,[]),false)
theorem qQY (a b:GrD) (t:List Int):dclF a b t=if(metF a b t).2=true then qHw (metF a b t).1 else-1:=by
 unfold dclF metF;by_cases h:(qBE b t).2=true
 ·rw[Wm h];by_cases h2:(intF a (qBE b t).1).2=true
  ·rw[Wm ⟨h,h2⟩,Wm h2]
  ·rw[Wn fun q=>h2 q.2,Wn h2]
 ·rw[Wn h,Wn fun q=>h q.1,Wn tD]
theorem xP7 (n:Nat) (hn:n=30/\xPA\/n=117/\xPB) (va vb y:Wh) (a b:GrD) (t:List Int) (w:Wg) (ha:ArgG w va a) (hb:ArgG w vb b) (ht:RdI w y t) (hl:t.length<=1073741824):
  Wk Tryz.prog n #[va,vb,y] w fun e w'=> ∃r,e= .returned (.tuple #[r, .bool (metF a b t).2])/\OwG w' w r (metF a b t).1/\Wf w w w':=by
 rcases hn with ⟨rfl,hD⟩ | ⟨rfl,hD⟩
 all_goals
  have cJ:=qA ha;have aS:=qA hb;have HY:=qA ht;have tq:Wi ((qBE b t).2=false->metF a b t=((0,0,[]),false)):=qA fun h=>by unfold metF;rw[Wn (by rw[h];decide)]
  have nc:Wi ((qBE b t).2=true->metF a b t=intF a (qBE b t).1):=qA fun h=>by unfold metF;rw[Wm h]
  generalize metF a b t=RES at*;obtain⟨sa,rfl,rG,sg,lU⟩:=ha;obtain⟨A,ca,rfl⟩:=lU.form;obtain⟨sb,rfl,ta,rM,gC⟩:=hb;obtain⟨B,cb,rfl⟩:=gC.form;obtain⟨T,tc,rfl,Fx,xS,_⟩:=ht.arg;obtain⟨a1,a2,as'⟩:=a;obtain⟨b1,b2,bs⟩:=b;simp only at*
  clear lU gC ht;first | go_enter Tryz.func30,Tryz.ntmps30 | go_enter Tryz.func117,Tryz.ntmps117
  go_wp2_with fail;obtain⟨W1,aq⟩: ∃W,W=w.alloc (.cells #[.int .i64 a1, .int .i64 a2, .slice A as'.length ca] 26):=⟨_,rfl⟩;rw[<-aq];obtain⟨xA,bA,sA⟩:=CBx.new aq;clear aq;obtain⟨W2,aT⟩: ∃W,W=W1.alloc (.cells #[.int .i64 b1, .int .i64 b2, .slice B bs.length cb] 26):=⟨_,rfl⟩;rw[<-aT];obtain⟨xB,bB,sB⟩:=CBx.new aT;clear aT;obtain⟨W,hW⟩: ∃W,W=W2.alloc (.cells #[.int .i64 0, .int .i64 0, .slice none 0 0] 26):=⟨_,rfl⟩;rw[<-hW];obtain⟨xR,bR,sR⟩:=CBx.new hW;clear hW;have XA:=qA ((xA.below bB).below bR);have XB:=qA (xB.below bR);have XR:=qA xR;rw[sA] at XB;rw[sB,sA] at XR;have BX:Wi (Wf w w W):=qA (bA.trans ((bB.trans (bR.mono tO)).mono tO));have aH:w.heap.size+3<=W.heap.size:=tO;clear xA xB xR bA bB bR sA sB sR;have HA:Wi (∀w',Wf W.heap.size W w'->ArgG w' (.agg #[.int .i64 a1, .int .i64 a2, .slice A as'.length ca]) (a1,a2,as')):=qA fun w' hb=>cJ.o.below (BX.trans (hb.mono tO));have HB:Wi (∀w',Wf W.heap.size W w'->ArgG w' (.agg #[.int .i64 b1, .int .i64 b2, .slice B bs.length cb]) (b1,b2,bs)):=qA fun w' hb=>aS.o.below (BX.trans (hb.mono tO));have HT:Wi (∀w',Wf W.heap.size W w'->RdI w' (.slice T t.length tc) t):=qA fun w' hb=>HY.o.below (BX.trans (hb.mono tO));first | refine(qCo _ _ (b1,b2,bs) t W (HB W (zad _ _)) (HT W (zad _ _)) hl).mono ?_ | refine(qCm _ _ (b1,b2,bs) t W (HB W (zad _ _)) (HT W (zad _ _)) hl).mono ?_
  rintro e w1 ⟨r1,rfl,o1,iK⟩;have B1:=qA iK;have dh:=iK.size;clear iK;generalize qBE (b1,b2,bs) t=C at*;obtain⟨⟨c1,c2,cs⟩,ok⟩:=C;simp only at o1 tq nc⊢
  obtain⟨s1,rfl,aJ,dp,dM⟩:=o1;obtain⟨A1,k1,rfl,_⟩:=dM.form;simp only at aJ dp dM⊢
  have lL:Wf w1 w1 (w1.alloc (.cells #[.int .i64 c1,.int .i64 c2, .slice A1 cs.length k1] 26)):=(zad _ _).alloc (zag _) _;have B2:=qA (B1.trans (lL.mono dh));have OE:=qA (dM.below lL);clear lL dM;cases ok
  ·have F:=qA (tq rfl);obtain⟨dS,dT,dO⟩:=(XR.below B2).cs;have eD:=(XR.below B2).fz 0;have eA:=(XR.below B2).fz 1;have eB:=(XR.below B2).fz 2;go_wp2;obtain⟨e0,e1,e2,bw,ow⟩:=(XR.below B2).fin (a:= .int .i64 0) (b:= .int .i64 0) (BX.trans (B2.mono tO)) tO (OwE.nil (base:=w.heap.size)) (fun b hb=>by cases hb);exact Wj (v:= .tuple #[.agg #[.int .i64 0, .int .i64 0, .slice none 0 0], .bool false]) (by simp[results,Tryz.results30,Tryz.results117,go_sem,e0,e1,e2]) rfl ⟨_,by rw[F.o],by rw[F.o];exact⟨.slice none 0 0,rfl,⟨by decide,by decide⟩,⟨by decide,by decide⟩,ow⟩,bw⟩
  have F:=qA (nc rfl);clear tq nc;obtain⟨GQ,Gj,Gu⟩:=(XA.below B2).cs;go_wp2_with fail;clear GQ Gj Gu;first | refine(xP2 _ (.inl ⟨rfl,xPa⟩) _ _ (a1,a2,as') (c1,c2,cs) _ (HA _ B2) ⟨_,rfl,aJ,dp,OE.arg⟩).mono ?_ | refine(xP2 _ (.inr ⟨rfl,xPb⟩) _ _ (a1,a2,as') (c1,c2,cs) _ (HA _ B2) ⟨_,rfl,aJ,dp,OE.arg⟩).mono ?_
  have dQ:=B2.o.size;generalize w1.alloc (.cells #[.int .i64 c1,.int .i64 c2, .slice A1 cs.length k1] 26)=w2 at*;rintro e w3 ⟨r3,rfl,o3,b3⟩;have B3:=qA (B2.trans (b3.mono dQ));have d5:=b3.size;clear b3;generalize intF (a1,a2,as') (c1,c2,cs)=M at*;obtain⟨⟨m1,m2,ms⟩,ok⟩:=M;obtain⟨s3,rfl,ch,bV,aY⟩:=o3;obtain⟨A3,k3,rfl,_⟩:=aY.form;simp only at ch bV aY F⊢
  first | (have hE:xPA:=hD;have b4:Wf w3 w3 (w3.alloc (.cells #[.int .i64 m1,.int .i64 m2, .slice A3 ms.length k3] 26)):=(zad _ _).alloc (zag _) _) | have B4:=qA B3.o
  first | (have hE:xPA:=hD;have B4:=qA (B3.trans (b4.mono tO))) | have O4:=qA aY
  first | (have hE:xPA:=hD;have O4:=qA (aY.below b4)) | (skip)
  first | (have hE:xPA:=hD;clear b4 aY) | clear aY
  obtain⟨dS,dT,dO⟩:=(XR.below B4).cs;have eD:=(XR.below B4).fz 0;have eA:=(XR.below B4).fz 1;have eB:=(XR.below B4).fz 2;go_wp2;obtain⟨e0,e1,e2,bw,ow⟩:=(XR.below B4).fin (a:= .int .i64 m1) (b:= .int .i64 m2) (BX.trans (B4.mono tO)) tO O4.o (fun b hb=>by have h1:=(O4.o.1.lt b hb).1;(try simp[go_sem] at h1);omega);exact Wj (v:= .tuple #[.agg #[.int .i64 m1, .int .i64 m2, .slice A3 ms.length k3], .bool ok]) (by simp[results,Tryz.results30,Tryz.results117,go_sem,e0,e1,e2]) rfl ⟨_,by rw[F.o],by rw[F.o];exact⟨_,rfl,ch,bV,ow.mono (by(try simp[go_sem]);omega)⟩,bw⟩
theorem xP8 (n:Nat) (hn:n=37/\xPA\/n=36/\xPB) (va vb y:Wh) (a b:GrD) (t:List Int) (w:Wg) (ha:ArgG w va a) (hb:ArgG w vb b) (ht:RdI w y t) (hl:t.length<=1073741824):
  Wk Tryz.prog n #[va,vb,y] w fun e w'=>e= .returned (.int .i64 (dclF a b t))/\Wf w w w':=by
 rcases hn with ⟨rfl,hD⟩ | ⟨rfl,hD⟩
 all_goals
  have cJ:=qA ha;have aS:=qA hb;have HY:=qA ht;have HD:=qA (qQY a b t);generalize dclF a b t=D at*;obtain⟨sa,rfl,rG,sg,lU⟩:=ha;obtain⟨A,ca,rfl⟩:=lU.form;obtain⟨sb,rfl,ta,rM,gC⟩:=hb;obtain⟨B,cb,rfl⟩:=gC.form;obtain⟨T,tc,rfl,Fx,xS,_⟩:=ht.arg;obtain⟨a1,a2,as'⟩:=a;obtain⟨b1,b2,bs⟩:=b;simp only at*
  clear lU gC ht;first | go_enter Tryz.func37,Tryz.ntmps37 | go_enter Tryz.func36,Tryz.ntmps36
  go_wp2_with fail;obtain⟨W1,aq⟩: ∃W,W=w.alloc (.cells #[.int .i64 a1, .int .i64 a2, .slice A as'.length ca] 26):=⟨_,rfl⟩;rw[<-aq];obtain⟨xA,bA,sA⟩:=CBx.new aq;clear aq;obtain⟨W,hW⟩: ∃W,W=W1.alloc (.cells #[.int .i64 b1, .int .i64 b2, .slice B bs.length cb] 26):=⟨_,rfl⟩;rw[<-hW];obtain⟨xB,bB,sB⟩:=CBx.new hW;clear hW;have XA:=qA (xA.below bB);have XB:=qA xB;rw[sA] at XB;have BX:Wi (Wf w w W):=qA (bA.trans (bB.mono tO));have aH:w.heap.size+2<=W.heap.size:=tO;clear xA xB bA bB sA sB;have HA:Wi (∀w',Wf W.heap.size W w'->ArgG w' (.agg #[.int .i64 a1, .int .i64 a2, .slice A as'.length ca]) (a1,a2,as')):=qA fun w' hb=>cJ.o.below (BX.trans (hb.mono tO));have HB:Wi (∀w',Wf W.heap.size W w'->ArgG w' (.agg #[.int .i64 b1, .int .i64 b2, .slice B bs.length cb]) (b1,b2,bs)):=qA fun w' hb=>aS.o.below (BX.trans (hb.mono tO));have HT:Wi (∀w',Wf W.heap.size W w'->RdI w' (.slice T t.length tc) t):=qA fun w' hb=>HY.o.below (BX.trans (hb.mono tO));first | refine(xP7 _ (.inl ⟨rfl,xPa⟩) _ _ _ (a1,a2,as') (b1,b2,bs) t W (HA W (zad _ _)) (HB W (zad _ _)) (HT W (zad _ _)) hl).mono ?_ | refine(xP7 _ (.inr ⟨rfl,xPb⟩) _ _ _ (a1,a2,as') (b1,b2,bs) t W (HA W (zad _ _)) (HB W (zad _ _)) (HT W (zad _ _)) hl).mono ?_
  rintro e w3 ⟨r3,rfl,o3,b3⟩;have B3:=qA b3;have d5:=b3.size;clear b3;generalize metF (a1,a2,as') (b1,b2,bs) t=M at*;obtain⟨⟨m1,m2,ms⟩,ok⟩:=M;obtain⟨s3,rfl,ch,bV,aY⟩:=o3;obtain⟨A3,k3,rfl,_⟩:=aY.form;simp only at ch bV aY HD⊢
  have b4:Wf w3 w3 (w3.alloc (.cells #[.int .i64 m1,.int .i64 m2, .slice A3 ms.length k3] 26)):=(zad _ _).alloc (zag _) _;have B4:=qA (B3.trans (b4.mono tO));have O4:=qA (aY.below b4);clear b4 aY;cases ok
  ·have F:Wi (D= -1):=qA (by rw[HD.o,Wn tD]);go_wp2;go_ret;exact⟨qAP F.o.symm,BX.trans (B4.mono tO)⟩
  have F:Wi (D=qHw (m1,m2,ms)):=qA (by rw[HD.o,Wm rfl]);go_wp2_with fail;first | refine(xP9 _ (.inl ⟨rfl,xPa⟩) _ (m1,m2,ms) _ ⟨_,rfl,ch,bV,O4.arg⟩).mono ?_ | refine(xP9 _ (.inr ⟨rfl,xPb⟩) _ (m1,m2,ms) _ ⟨_,rfl,ch,bV,O4.arg⟩).mono ?_
  have jY:=B4.o.size;generalize w3.alloc (.cells #[.int .i64 m1,.int .i64 m2, .slice A3 ms.length k3] 26)=w4 at*;rintro e w5 ⟨rfl,b5⟩;have B5:=qA (B4.trans (b5.mono jY));clear b5;go_wp2;go_ret;exact⟨qAP F.o.symm,BX.trans (B5.mono tO)⟩
section
variable {a b:GrD} {A B:Nat}
def ParL (a b:GrD) (B:Nat) (ls:List Int) (o:List Nat):Prop:= ∀k y,1<=k->o[k]? =some y-> ∃j z x,j<k/\o[j]? =some z/\x∈ls/\pnx a.2.2 b.2.2 B z x=some y
theorem qQI {ls:List Int} {o:List Nat} (h:ParL a b B ls o) {i q:Nat} (hi:o[i]? =some q) {x:Int} (hx:x∈ls):ParL a b B ls (pst a.2.2 b.2.2 B q o x):=by
 unfold pst;cases e:pnx a.2.2 b.2.2 B q x with
 | none=>exact h
 | some z=>
   simp only
   split
   ·exact h
   ·intro k y hk hy;have kJ:=(zao.1 hi).1;by_cases ac:k<o.length
    ·rw[zat ac] at hy;obtain⟨j,z',x',hj,hz,gw,hp⟩:=h k y hk hy;exact⟨j,z',x',hj,by rw[zat tO];exact hz,gw,hp⟩
    ·have gN:=(zao.1 hy).1;rw[zau,List.length_singleton] at gN;have rh:k=o.length:=tO;subst rh;rw[List.getElem?_append_right (zag _),Nat.sub_self] at hy;have:z=y:=by simpa using hy
     subst this;exact⟨i,q,x,kJ,by rw[zat kJ];exact hi,hx,e⟩
theorem qKq {ls:List Int} {i q:Nat}: ∀(l2:List Int) (o:List Nat),(∀x∈l2,x∈ls)->ParL a b B ls o->o[i]? =some q->ParL a b B ls (l2.foldl (pst a.2.2 b.2.2 B q) o)
 | [],_,_,h,_=>h
 | x::l2,o,hl,h,hi=>qKq l2 _ (fun y hy=>hl y (by simp[hy])) (qQI h hi (hl x tZ)) (qHb hi q x)
theorem qNG {ls:List Int}: ∀(f i:Nat) (o:List Nat),ParL a b B ls o->ParL a b B ls (bfsF a.2.2 b.2.2 B ls f i o)
 | 0,_,_,h=>h
 | f+1,i,o,h=>by
   unfold bfsF;cases e:o[i]? with
   | none=>exact h
   | some q=>exact qNG f _ _ (qKq ls o (fun _ h=>h) h e)
theorem qPv (p:Nat) (ls:List Int):ParL a b B ls (prsL a b A B ls p):=qNG _ _ _ fun k y hk hy=>by
 have:=(zao.1 hy).1
 simp at this
 omega
end
section
variable {a b:GrD} {A B r p:Nat} (hT:Two a b A B) (hr:r<=3) (hp:p<A*B)
include hT hr hp
theorem qOS (hE:edgL a.2.2 b.2.2 B r (prsL a b A B (qB r) p)<(prsL a b A B (qB r) p).length):
  ∃f:Nat->Int,∀z l y,z∈prsL a b A B (qB r) p->l∈qB r->pnx a.2.2 b.2.2 B z l=some y->(prsL a b A B (qB r) p).idxOf y<=(prsL a b A B (qB r) p).idxOf z->l=f ((prsL a b A B (qB r) p).idxOf z):=by
 have IS:=qPv (a:=a) (b:=b) (A:=A) (B:=B) p (qB r);have eL:(prsL a b A B (qB r) p).Nodup:=qCL _;have iJ:=qAT hr;have aZ:=qBC hT (fun x hx=>(iJ x hx).1) hp;generalize prsL a b A B (qB r) p=P at*;have oW: ∀ {k y:Nat},P[k]? =some y->P.idxOf y=k:=fun {k y} hk=>by
  obtain⟨ac,e⟩:=zao.1 hk;have hm:y∈P:=e▸zap ac;have hj:=List.idxOf_lt_length_of_mem hm;exact qDp eL hj ac ((List.getElem_idxOf hj).trans e.symm)
 have TJ: ∀k:Nat,∃q:Nat×Int,1<=k->k<P.length-> ∃j,j<k/\P[j]? =some q.1/\q.2∈qB r/\pnx a.2.2 b.2.2 B q.1 q.2=P[k]? :=fun k=>by
  by_cases h:1<=k/\k<P.length
  ·obtain⟨j,z,x,h1,h2,h3,h4⟩:=IS k P[k] h.1 (zaf h.2);exact⟨(z,x),fun _ _=>⟨j,h1,h2,h3,h4.trans (zaf h.2).symm⟩⟩
  ·exact⟨(0,0),fun h1 h2=>absurd ⟨h1,h2⟩ h⟩
 obtain⟨c,hc⟩:=Classical.axiomOfChoice TJ;let e:Nat->Nat×Int:=fun k=>if 0<(c k).2 then((c k).1,(c k).2) else(P.getD k 0,-(c k).2)
 let mx:Nat×Int->Nat:=fun d=>Nat.max (P.idxOf d.1) (P.idxOf ((pnx a.2.2 b.2.2 B d.1 d.2).getD 0))
 have UO: ∀x∈qB r,x≠0:=fun x hx=>by have:=qw.1 hx;omega
 have F9: ∀k,1<=k->k<P.length->mx (e k)=k:=fun k h1 h2=>by
  obtain⟨j,hj,hz,hx,hn⟩:=hc k h1 h2;rw[zaf h2] at hn;have i1:=oW hz;have i2:=oW (zaf h2);simp only[e,mx];by_cases q:0<(c k).2
  ·rw[Wm q,hn];simp only[za1];rw[i1,i2];exact Nat.max_eq_right (Nat.le_of_lt hj)
  ·have hb:=qBT hT (iJ _ hx).1 hn;rw[Wn q,qDQ h2,hb];simp only[za1];rw[i1,i2];exact Nat.max_eq_left (Nat.le_of_lt hj)
 let El:List (Nat×Int):=P.flatMap fun z=>((zak r).filter fun (i:Nat)=>(pnx a.2.2 b.2.2 B z ((i:Int)+1)).isSome).map fun (i:Nat)=>(z,(i:Int)+1)
 have Ls:El.length=edgL a.2.2 b.2.2 B r P:=by
  simp only[El];rw[List.length_flatMap];unfold edgL;congr 1
  refine zaT fun z _=> ?_;rw[zaD];rfl
 have EQ: ∀z∈P,∀x:Int,1<=x->x<=(r:Int)->(pnx a.2.2 b.2.2 B z x).isSome=true->(z,x)∈El:=fun z hz x h1 h2 h3=>by
  refine List.mem_flatMap.2 ⟨z,hz,zaV.2 ⟨(x-1).toNat,zaC.2 ⟨zaj.2 tO,?_⟩,?_⟩⟩
  ·rw[show(((x-1).toNat:Nat):Int)+1=x by omega];exact h3
  ·rw[show(((x-1).toNat:Nat):Int)+1=x by omega]
 have SK: ∀k,1<=k->k<P.length->e k∈El:=fun k h1 h2=>by
  obtain⟨j,hj,hz,hx,hn⟩:=hc k h1 h2;have Tm:(c k).1∈P:=List.mem_of_getElem? hz;rw[zaf h2] at hn;have hl:=qw.1 hx;simp only[e];by_cases q:0<(c k).2
  ·rw[Wm q];exact EQ _ Tm _ tO tO (by rw[hn];rfl)
  ·rw[Wn q,qDQ h2];exact EQ _ (zap h2) _ tO tO (by rw[qBT hT (iJ _ hx).1 hn];rfl)
 have aG: ∀d∈El,∃k,1<=k/\k<P.length/\e k=d:=fun d hd=>zaK fun dz=>by
  have tz:(d::(zak (P.length-1)).map fun i=>e (i+1)).Nodup:=by
   refine List.nodup_cons.2 ⟨fun hm=> ?_,?_⟩
   ·obtain⟨i,hi,he⟩:=zaV.1 hm;rw[zaj] at hi;exact dz ⟨i+1,tO,tO,he⟩
   ·unfold List.Nodup;rw[List.pairwise_map];refine za5.imp_of_mem (fun {i j} hi hj dU he=>dU ?_) (List.nodup_range (n:=P.length-1));rw[zaj] at hi hj;have h1:=F9 (i+1) tO tO;have h2:=F9 (j+1) tO tO;rw[he] at h1;omega
  have bC:(d::(zak (P.length-1)).map fun i=>e (i+1)) ⊆ El:=fun y hy=>by
   rcases List.mem_cons.1 hy with rfl | hy
   ·exact hd
   ·obtain⟨i,hi,rfl⟩:=zaV.1 hy;rw[zaj] at hi;exact SK _ tO tO
  have:=tz.length_le_of_subset bC
  rw[zaz,zaD,List.length_range,Ls] at this;omega
 refine⟨fun k=> -(c k).2,fun z l y hz hl hn fN=> ?_⟩;have hy:=aZ z hz l y hl hn;have ud:=qw.1 hl;by_cases q:0<l
 ·obtain⟨k,h1,h2,he⟩:=aG _ (EQ z hz l tO tO (by rw[hn];rfl));obtain⟨j,hj,Ko,hx,jC⟩:=hc k h1 h2;rw[zaf h2] at jC;simp only[e] at he;by_cases q2:0<(c k).2
  ·rw[Wm q2] at he;injection he with e1 e2
   rw[e1,e2,hn] at jC;injection jC with jC
   have i1:=oW Ko;have i2:=oW (zaf h2);rw[e1] at i1;rw[<-jC] at i2;omega
  ·rw[Wn q2,qDQ h2] at he;injection he with e1 e2
   have i2:=oW (zaf h2);rw[e1] at i2;simp only
   rw[i2];exact e2.symm
 ·have hb:=qBT hT (iJ l hl).1 hn;obtain⟨k,h1,h2,he⟩:=aG _ (EQ y hy (-l) tO tO (by rw[hb];rfl));obtain⟨j,hj,Ko,hx,jC⟩:=hc k h1 h2;rw[zaf h2] at jC;simp only[e] at he;by_cases q2:0<(c k).2
  ·rw[Wm q2] at he;injection he with e1 e2
   rw[e1,e2,hb] at jC;injection jC with jC
   have i2:=oW (zaf h2);rw[<-jC] at i2;simp only
   rw[i2,e2,zaO]
  ·rw[Wn q2,qDQ h2] at he;injection he with e1 e2
   have i1:=oW Ko;have i2:=oW (zaf h2);have e3:(c k).2=l:=tO;rw[e3] at jC;have cF:=qBT hT (iJ l hl).1 jC;rw[e1,hb] at cF;injection cF with cF
   rw[<-cF] at i1;rw[e1] at i2;omega
theorem qLr {W:List Int} {n:Nat} (hn:NoB W) (hW: ∀x∈W,x∈qB r) (h1:1<=n) (h2:W.length=n+n) (st:Nat->Nat) (h0:st 0=p) (hs: ∀k (hk:k<W.length),pnx a.2.2 b.2.2 B (st k) W[k]=some (st (k+1))) (hm:st n=p) (he:st (n+n)=p):
  (prsL a b A B (qB r) p).length<=edgL a.2.2 b.2.2 B r (prsL a b A B (qB r) p):=by
 refine zaK fun hE=> ?_;obtain⟨f,hf⟩:=qOS hT hr hp (Nat.not_le.1 hE);have iJ:=qAT hr;have aZ:=qBC hT (fun x hx=>(iJ x hx).1) hp;have iT:p∈prsL a b A B (qB r) p:=qCI hT;generalize prsL a b A B (qB r) p=P at*;have cY: ∀k,k<=n+n->st k∈P:=by
  intro k;induction k with
  | zero=>intro _;rw[h0];exact iT
  | succ k ih=>
    intro hk;exact aZ _ (ih tO) _ _ (hW _ (zap (show k<W.length by omega))) (hs k tO)
 obtain⟨k,hk,KI⟩:=qPo (fun k=>P.idxOf (st k)) (zak (n+n+1)) tZ;rw[zaj] at hk;have fN: ∀j,j<=n+n->P.idxOf (st j)<=P.idxOf (st k):=fun j hj=>KI j (zaj.2 tO);obtain⟨m,m1,m2,vW⟩: ∃m,1<=m/\m<n+n/\ ∀j,j<=n+n->P.idxOf (st j)<=P.idxOf (st m):=by
  by_cases q:k=0\/k=n+n
  ·refine⟨n,h1,tO,fun j hj=> ?_⟩;have e:st n=st k:=by
    rcases q with q | q
    ·rw[q,hm,h0]
    ·rw[q,hm,he]
   rw[e];exact fN j hj
  ·exact⟨k,tO,tO,fN⟩
 have dK:m-1<W.length:=tO;have mP:m<W.length:=tO;have s1:=hs (m-1) dK;rw[show m-1+1=m by omega] at s1;have b1:=qBT hT (iJ _ (hW _ (zap dK))).1 s1;have f1:=hf _ _ _ (cY m tO) (iJ _ (hW _ (zap dK))).2 b1 (vW _ tO);have f2:=hf _ _ _ (cY m tO) (hW _ (zap mP)) (hs m mP) (vW _ tO);have Gt:W[m]= -W[m-1]:=f2.trans f1.symm;have key: ∀(l:List Int) (i:Nat) (hi:i+1<l.length),NoB l->l[i+1]≠ -l[i]:=by
  intro l;induction l with
  | nil=>intro i hi;simp at hi
  | cons x l ih=>
    intro i hi hb;cases l with
    | nil=>simp at hi
    | cons y l=>
      cases i with
      | zero=>exact hb.1
      | succ i=>exact ih i (by simpa using hi) hb.2
 have:=key W (m-1) tO hn
 simp only[show m-1+1=m by omega] at this;exact this Gt
end
theorem qIp {g:GrD} (hc:qS g=true) {p:Nat} (hp:p<g.2.1.toNat*g.2.1.toNat) (h:okMw g g.2.1.toNat g.1.toNat p=true):malB g=false:=by
 have hf:=qAQ hc;have hT:=qBP hf hf;have hr:g.1.toNat<=3:=by have:=(qD (qE hf).1).1;omega
 unfold okMw at h;simp only[zas,decide_eq_true_eq] at h;have key: ∀k,k<=g.2.1.toNat*g.2.1.toNat->(∀z∈(offS g g.2.1.toNat g.1.toNat k).1,∃q,q<g.2.1.toNat*g.2.1.toNat/\z∈prsL g g g.2.1.toNat g.2.1.toNat (qB g.1.toNat) q/\prk g g g.2.1.toNat g.2.1.toNat g.1.toNat q∈(offS g g.2.1.toNat g.1.toNat k).2)/\
   ∀z,z<k->z/g.2.1.toNat≠z%g.2.1.toNat->z∈(offS g g.2.1.toNat g.1.toNat k).1:=by
  intro k;induction k with
  | zero=>intro _;exact⟨fun z hz=>by simp[offS] at hz,fun z hz=>tO⟩
  | succ k ih=>
    intro hk;obtain⟨i1,i2⟩:=ih tO;rw[qEk];unfold ost;split
    ·rename_i hq
     refine⟨i1,fun z hz ai=> ?_⟩;by_cases e:z=k
     ·subst e;exact hq.elim id fun q=>absurd q ai
     ·exact i2 z tO ai
    ·refine⟨fun z hz=> ?_,fun z hz ai=> ?_⟩
     ·rcases zah.1 hz with q | q
      ·obtain⟨q',h1,h2,h3⟩:=i1 z q;exact⟨q',h1,h2,zah.2 (.inl h3)⟩
      ·exact⟨k,tO,q,zah.2 (.inr (List.mem_singleton.2 rfl))⟩
     ·by_cases e:z=k
      ·subst e;exact zah.2 (.inr (qCI hT))
      ·exact zah.2 (.inl (i2 z tO ai))
 obtain⟨k1,k2⟩:=key _ (zag _);obtain⟨q,hq,hz,hm⟩:=k1 p (k2 p hp h.1);have jV:=qIP hT hr hq hz;have BM:0<prk g g g.2.1.toNat g.2.1.toNat g.1.toNat q:=by
  have e1:=jV.length_eq;have e2:edgL g.2.2 g.2.2 g.2.1.toNat g.1.toNat (prsL g g g.2.1.toNat g.2.1.toNat (qB g.1.toNat) p)=edgL g.2.2 g.2.2 g.2.1.toNat g.1.toNat (prsL g g g.2.1.toNat g.2.1.toNat (qB g.1.toNat) q):=by
   unfold edgL;exact(jV.map _).sum_nat
  unfold prk;rw[<-e1,<-e2];omega
 have hR:offR g=(offS g g.2.1.toNat g.1.toNat (g.2.1.toNat*g.2.1.toNat)).2:=by unfold offR;rw[hc,Wm rfl]
 obtain⟨i,hi,e⟩:=List.getElem_of_mem hm;unfold malB;rw[hR,qFB hi (by rw[e];exact BM),Bool.false_and]
section
variable {g:GrD} (hg:grB g=true) (hf:Fol g.2.2)
include hg hf
theorem qJA {c:List Int} (hc:cycP c) (mu: ∀y∈c,Lt3 y) (h0:c≠ []) {s:Int×List Int} (hs:okS g s) (h:runS g.2.2 s c=s):s.2= []/\qQ g.2.2 s.1 c=s.1:=by
 have hn:NoB c:=qEH hc.1 mu;have NW: ∀y∈invN c,Lt3 y:=fun y hy=>by have:=(mu _ (qCj hy)).neg;rwa [zaO] at this
 have hi:runS g.2.2 s (invN c)=s:=by
  have:=qCW hg hf hs mu
  rwa [h] at this
 obtain⟨v,r⟩:=s;have hr:r= []:=by
  cases r with
  | nil=>rfl
  | cons y r=>
    exfalso
    have aZ:0<c.length:=zaF.2 h0;have grow: ∀w:List Int,w≠ []->NoB w->(∀x∈w.head?,x≠ -y)->runS g.2.2 (v,y::r) w≠(v,y::r):=fun w hw Fi hh e=>by
     have hb:NoB (y::w):=NoB.app (a:= [y]) trivial Fi fun x hx z hz ez=>by
      have ex:x=y:=by simpa using hx.symm
      subst ex;exact hh z hz ez
     rw[qIN hb] at e;injection e with _ e
     have:=congrArg zaP e
     simp only[zau,zaG,zaz] at this;have:0<w.length:=zaF.2 hw
     omega
    have hx:c.head? =some (-y):=by
     cases gr:c with
     | nil=>exact absurd gr h0
     | cons x l=>
       by_cases q:x= -y
       ·rw[q];rfl
       ·exact absurd h (by rw[gr] at hn⊢;exact grow _ tZ hn fun z hz=>fun ez=>q ((show x=z by simpa using hz).trans ez))
    have hy:(invN c).head? =some (-y):=by
     have cY:invN c≠ []:=fun e=>h0 (by have:=congrArg zaP e;simp[invN] at this;exact this);cases gr:invN c with
     | nil=>exact absurd gr cY
     | cons x l=>
       by_cases q:x= -y
       ·rw[q];rfl
       ·have vM:=hn.inv;exact absurd hi (by rw[gr] at vM⊢;exact grow _ tZ vM fun z hz=>fun ez=>q ((show x=z by simpa using hz).trans ez))
    have hl:c.getLast? =some y:=by
     unfold invN at hy;rw[List.head?_reverse,List.getLast?_map] at hy;cases e:c.getLast? with
     | none=>rw[e] at hy;cases hy
     | some z=>
       rw[e] at hy;have: -z= -y:=by simpa using hy
       congr 1
       omega
    have EU:Lt3 y:=mu y (List.mem_of_getLast? hl);have e1:c.getD 0 0= -y:=by rw[zaI,<-List.head?_eq_getElem?,hx];rfl
    have e2:c.getD (c.length-1) 0=y:=by rw[zaI,<-List.getLast?_eq_getElem?,hl];rfl
    rcases zar c.length 2 with z | z
    ·have:c.length-1=0:=tO
     rw[this,e1] at e2;have:=EU.2.2
     omega
    ·have:=hc.2 z
     rw[e1,e2] at this;have h2:invB (-y) y=true:=(Lt3.inv EU.neg).2 tO;rw[h2] at this;cases this
 subst hr;exact⟨rfl,(qKu hg hn hs.1 hs.1.1).2 h⟩
end
theorem qOU {g:GrD} (hc:qS g=true) {t w:List Int} (ht: ∀y∈t,Lt3 y) (hw: ∀y∈w,y∈qB g.1.toNat) (hn:NoB w) (h0:w≠ []) (h1:runS g.2.2 (0,[]) w=(0,[])) (h2:runS g.2.2 (0,[]) (t++w++invN t)=(0,[]))
  (ai:runS g.2.2 (0,[]) t≠(0,[])):malB g=false:=by
 obtain⟨hg,hf⟩:=qAd hc;have ar:=(qD hg).2.1;have bT:=(qD hg).1;have af:=ok0 hc;have dZ:=qEh hg hw;have hs:okS g (runS g.2.2 (0,[]) t):=qCQ hg af ht;have h3:runS g.2.2 (runS g.2.2 (0,[]) t) w=runS g.2.2 (0,[]) t:=by
  rw[qAV,qAV] at h2;have:=qDv hg hf (qCQ hg hs dZ) ht
  rw[h2] at this;exact this.symm
 generalize runS g.2.2 (0,[]) t=s at*;have zL:redP w:=hn.red;have et:=qLo (x:=w) dZ;have Eh:=qNT zL;have fL:=qMc zL dZ h0;have yK: ∀y∈w.take (qAK w),Lt3 y:=fun y hy=>dZ y (zaE hy);have aZ: ∀y∈qGC w,y∈qB g.1.toNat:=fun y hy=>hw y (zaE (zaS hy));have mu: ∀y∈qGC w,Lt3 y:=fun y hy=>dZ y (zaE (zaS hy));have f1:runS g.2.2 (runS g.2.2 (0,[]) (w.take (qAK w))) (qGC w)=runS g.2.2 (0,[]) (w.take (qAK w)):=by
  have:=qGc hg hf yK mu af 1
  rw[<-et] at this;exact this.1 h1
 have f2:runS g.2.2 (runS g.2.2 s (w.take (qAK w))) (qGC w)=runS g.2.2 s (w.take (qAK w)):=by
  have:=qGc hg hf yK mu hs 1
  rw[<-et] at this;exact this.1 h3
 have MS:=qCQ hg af yK;have M9:=qCQ hg hs yK;have zN:runS g.2.2 (0,[]) (w.take (qAK w))≠runS g.2.2 s (w.take (qAK w)):=fun e=>ai (qQS hg hf yK af hs e).symm;obtain⟨r1,l1⟩:=qJA hg hf Eh mu fL MS f1;obtain⟨r2,l2⟩:=qJA hg hf Eh mu fL M9 f2;generalize runS g.2.2 (0,[]) (w.take (qAK w))=s1 at*;generalize runS g.2.2 s (w.take (qAK w))=s2 at*;obtain⟨v1,q1⟩:=s1;obtain⟨v2,q2⟩:=s2;simp only at r1 r2 l1 l2
 subst r1;subst r2;have pW:=MS.1;have nr:=M9.1;simp only at pW nr
 have GU:v1≠v2:=fun e=>zN (by rw[e]);obtain⟨n1,rfl⟩: ∃n:Nat,v1=n:=⟨v1.toNat,tO⟩;obtain⟨n2,rfl⟩: ∃n:Nat,v2=n:=⟨v2.toNat,tO⟩;generalize qGC w=c at*;have hT:=qBP (qAQ hc) (qAQ hc);have hN:0<g.2.1.toNat:=tO;have hp:n1*g.2.1.toNat+n2<g.2.1.toNat*g.2.1.toNat:=qDO tO tO;have tX:(n1*g.2.1.toNat+n2)/g.2.1.toNat=n1:=by rw[zam,zaA hN,zax tO];omega
 have uk:(n1*g.2.1.toNat+n2)%g.2.1.toNat=n2:=by rw[zam,zaB,zay tO]
 have gr:NoB (c++c):=by
  have:=qNq Eh mu (qEH Eh.1 mu) fL 2
  have e:repW c 2=c++c:=by show(([]++c)++c:List Int)=_;rw[List.nil_append]
  rwa [e] at this
 have bh:0<c.length:=zaF.2 fL;have iq: ∀ {v:Int},0<=v->qQ g.2.2 v c=v-> ∀k,k<=c.length+c.length->0<=qQ g.2.2 v ((c++c).take k):=fun {v} h0v jr k hk=>by
  have Mu:qQ g.2.2 v (c++c)=v:=by rw[qAs _ _ _ _ tO,jr,jr]
  refine qJC g.2.2 _ v ((c++c).drop k) h0v ?_;rw[List.take_append_drop];omega
 have step: ∀ {v:Int},0<=v->qQ g.2.2 v c=v-> ∀k (hk:k<(c++c).length),qF g.2.2 (qQ g.2.2 v ((c++c).take k)) (c++c)[k]=qQ g.2.2 v ((c++c).take (k+1)):=fun {v} h0v jr k hk=>by
  have kE:=iq h0v jr k (by simp at hk;omega);have pT:=iq h0v jr (k+1) (by simp at hk;omega);rw[zal hk,qAs _ _ _ _ kE] at pT⊢;rw[qV] at pT⊢;split
  ·rename_i q;rw[Wm q] at pT;omega
  ·rfl
 have rng: ∀ {v:Int},0<=v/\v<g.2.1->qQ g.2.2 v c=v-> ∀k,k<=c.length+c.length->0<=qQ g.2.2 v ((c++c).take k)/\qQ g.2.2 v ((c++c).take k)<g.2.1:=fun {v} hv jr k hk=>by
  have:=iq hv.1 jr k hk
  rcases qGu hg ((c++c).take k) v hv with q | q
  ·omega
  ·exact q
 have wh:okMw g g.2.1.toNat g.1.toNat (n1*g.2.1.toNat+n2)=true:=by
  unfold okMw;rw[tX,uk,zas,decide_eq_true_eq,decide_eq_true_eq];refine⟨fun e=>GU (by rw[e]),?_⟩;refine qLr hT tO hp (W:=c++c) (n:=c.length) gr (fun x hx=>(zah.1 hx).elim (aZ x) (aZ x)) bh tZ
   (fun k=>(qQ g.2.2 (n1:Int) ((c++c).take k)).toNat*g.2.1.toNat+(qQ g.2.2 (n2:Int) ((c++c).take k)).toNat) (by simp[qQ]) (fun k hk=> ?_) ?_ ?_
  ·have fo:k+1<=c.length+c.length:=by simp at hk;omega
   have a1:=rng pW l1 k tO;have a2:=rng nr l2 k tO;have a3:=rng pW l1 (k+1) fo;have a4:=rng nr l2 (k+1) fo;have s1:=step pW.1 l1 k hk;have s2:=step nr.1 l2 k hk;unfold pnx;have e1:((qQ g.2.2 (n1:Int) ((c++c).take k)).toNat*g.2.1.toNat+(qQ g.2.2 (n2:Int) ((c++c).take k)).toNat)/g.2.1.toNat=(qQ g.2.2 (n1:Int) ((c++c).take k)).toNat:=by rw[zam,zaA hN,zax tO];omega
   have e2:((qQ g.2.2 (n1:Int) ((c++c).take k)).toNat*g.2.1.toNat+(qQ g.2.2 (n2:Int) ((c++c).take k)).toNat)%g.2.1.toNat=(qQ g.2.2 (n2:Int) ((c++c).take k)).toNat:=by rw[zam,zaB,zay tO]
   rw[e1,e2,zaU a1.1,zaU a2.1,s1,s2,Wm ⟨a3.1,a4.1⟩]
  ·have:(c++c).take c.length=c:=tZ
   rw[this,l1,l2,zan,zan]
  ·have:(c++c).take (c.length+c.length)=c++c:=List.take_of_length_le tZ
   rw[this,qAs _ _ _ _ tO,l1,l1,qAs _ _ _ _ tO,l2,l2,zan,zan]
 exact qIp hc hp wh
theorem qOi {a b:GrD} (ca:qS a=true) (cb:qS b=true) (af:pbOk a b 0 0=true):qS (qCU (pbG a b 0 0))=true/\
  ∀w,(∀x∈w,Lt3 x)->qQ (qCU (pbG a b 0 0)).2.2 0 w=0->qQ a.2.2 0 w=0/\qQ b.2.2 0 w=0:=by
 have f1:=qAQ ca;have f2:=qAQ cb;have Ja:=(qD (qAd ca).1).2.1;have CO:=(qD (qAd cb).1).2.1;have eW:((0:Nat):Int)<a.2.1:=tO;have mJ:((0:Nat):Int)<b.2.1:=tO;have xd:=qGY f1 f2 eW mJ af;have gr:=qCV (qE xd).1;have hz:(pbP a b 0 0).getD (0:Int).toNat 0=0:=by
  have:=qLO (a:=a) (b:=b) (u:=0) (v:=0)
  simp[List.getD,this]
 refine⟨gr,fun w hw h0=> ?_⟩;obtain⟨s,hs,cZ⟩:=Sub.core xd;have hg:=(qAd gr).1;have ar:=(qD hg).2.1;have h1:=hs.walk hg w 0 tO tO (fun x hx=>(hw x hx).b3) tO;rw[h0,cZ] at h1;obtain⟨p1,p2⟩:=qKL f1 f2 eW mJ af w 0 (fun x hx=>(hw x hx).b3) tO;rw[h1,hz] at p1 p2;exact⟨by simpa using p1,by simpa using p2⟩
theorem qNm {a b:GrD} {t:List Int} (h:(metF a b t).2=true):(qBE b t).2=true/\qS a=true/\qS (qBE b t).1=true/\pbOk a (qBE b t).1 0 0=true/\(metF a b t).1=qCU (pbG a (qBE b t).1 0 0):=by
 unfold metF at h⊢;split at h
 ·rename_i hc
  rw[Wm hc];unfold intF at h⊢;split at h
  ·rename_i hk
   rw[Wm hk];unfold qAW at h⊢;by_cases q:a.1=(qBE b t).1.1/\pbOk a (qBE b t).1 0 0=true
   ·rw[Wm q] at h⊢;exact⟨hc,hk.1,hk.2,q.2,rfl⟩
   ·rw[Wn q] at h;simp at h
  ·cases h
 ·cases h
theorem qQm {g:GrD} {t:List Int} (hm:malB g=true) (hs:(metF g g t).2=true) (dz:qQ g.2.2 0 (redL [] t)≠0): ¬0<qHw (metF g g t).1:=fun hr=>by
 obtain⟨EO,hc,kK,af,he⟩:=qNm hs;obtain⟨ke,hL⟩:=qOi hc kK af;obtain⟨_,Dt,_,_,IR⟩:=qOh EO;obtain⟨hg,hf⟩:=qAd hc;have ar:=(qD hg).2.1;have Nn:=qDw Dt;rw[he] at hr;generalize qCU (pbG g (qBE g t).1 0 0)=m at*;obtain⟨gm,fm⟩:=qAd ke;have hE:m.2.1<=(m.2.2.length:Int):=by
  unfold qHw at hr;rw[Wm ke] at hr;omega
 have hx:=qMO (qAQ ke) (fun y hy=>qBS ke hy) hE;obtain⟨e,mh⟩:=List.exists_mem_of_ne_nil _ hx;obtain⟨e1,e2⟩:=zaC.1 mh;have tT:=qM gm e1;have c1:=qBS ke tT.1;have c2:=qBS ke tT.2.2;have iq:=qLJ gm fm e1 c1 c2;have ul:=qIi gm fm e1 e2 c1 c2;have me:=qEh gm (qCg (v:=0) gm (qLK gm e1 c1 c2) tO);have Dp:basW m e≠ []:=fun q=>by
  have:=congrArg zaP q
  unfold basW at this;simp at this
 generalize basW m e=w at*;obtain⟨w1,w2⟩:=hL w me iq;have h2:=(IR w me ul).1 w2;have za:=qCg (v:=0) hg (fun x hx=>(me x hx).b3) (by omega:0<=qQ g.2.2 0 w);have h1:runS g.2.2 (0,[]) w=(0,[]):=by
  have:=qBd (g:=g) (w:=w) (v:=0) tO
  rwa [w1] at this
 have ai:runS g.2.2 (0,[]) t≠(0,[]):=fun q=>dz ((qKr hg hf Nn ⟨tO,tO⟩ (Int.le_refl 0)).2 q);have:=qOU hc Nn za ul Dp h1 h2 ai
 rw[hm] at this;cases this
theorem qRE {r:Int} (h:1<=r/\r<=3):grB (r,1,[])=true:=by
 unfold grB;simp[qm.2 h]
 decide
theorem qPt {g:GrD} {w x:List Int} (h:malF g=(w,x,true)):malB g=false/\qS g=true/\qQ g.2.2 0 (redL [] w)≠0/\x≠ []/\qQ g.2.2 0 (redL [] x)=0/\
  qQ g.2.2 0 (redL [] (redL [] (redL [] (w++x)++invL w)))=0/\(w.length<=100/\x.length<=400)/\(∀y∈w,Lt3 y)/\ ∀y∈x,Lt3 y:=by
 have H:=qNP g;have hc:qS g=true:=by
  rcases e:qS g with _ | _
  ·have:=H.c0 e;rw[h] at this;cases this
  ·rfl
 obtain⟨p,hp⟩: ∃p,fstW g=some p:=by
  cases e:fstW g with
  | none=>have:=H.c1 e;rw[h] at this;cases this
  | some p=>exact⟨p,rfl⟩
 have af:(qAW g g (p/g.2.1.toNat) (p%g.2.1.toNat)).2=true:=by
  rcases e:(qAW g g (p/g.2.1.toNat) (p%g.2.1.toNat)).2 with _ | _
  ·have:=H.c2 p hp e;rw[h] at this;cases this
  ·rfl
 have hR:=H.c3 hc p hp af;rw[h] at hR;injection hR with ew ex
 injection ex with ex _
 obtain⟨hu,hv,aX,e,l,iQ,mq,k1,k2⟩:=qNJ hc hp af;obtain⟨mV,rI⟩:=qIG hp;have Gl:=qIp hc mV rI;unfold okMw at rI;simp only[zas,decide_eq_true_eq] at rI;have ai:=rI.1;obtain⟨hg,hf⟩:=qAd hc;have lW:=qAQ hc;have ar:=(qD hg).2.1;have bT:=(qD hg).1;have AG:=(qIJ lW lW hu hv af).1;have xU:pbOk g g (p/g.2.1.toNat) (p%g.2.1.toNat)=true:=by
  unfold qAW at af;split at af
  ·rename_i q;exact q.2
  ·cases af
 rw[AG] at aX iQ mq k1 k2 ex;simp only at aX iQ mq k1 k2 ex
 obtain⟨gP,fP⟩:=qE aX;have ue:exB (pbG g g (p/g.2.1.toNat) (p%g.2.1.toNat)) e=true:=by
  have:e∈extL (pbG g g (p/g.2.1.toNat) (p%g.2.1.toNat)):=by rw[iQ];simp
  exact(zaC.1 this).2
 have iq:=qLJ gP fP mq k1 k2;have ul:=qIi gP fP mq ue k1 k2;have rK:=qLK gP mq k1 k2;have zW:lp0 (pbG g g (p/g.2.1.toNat) (p%g.2.1.toNat))=basW (pbG g g (p/g.2.1.toNat) (p%g.2.1.toNat)) e:=by
  unfold lp0;rw[iQ];simp only
  have hi:invL (wdO (pbG g g (p/g.2.1.toNat) (p%g.2.1.toNat)) e.2.2)=invN (wdO (pbG g g (p/g.2.1.toNat) (p%g.2.1.toNat)) e.2.2):=qGe (qFi gP k2);rw[hi];exact qMn ul.red
 have cX:(basW (pbG g g (p/g.2.1.toNat) (p%g.2.1.toNat)) e).length<=81:=by
  have h1:=qBh gP k1;have h2:=qBh gP k2;unfold basW;simp only[zau,zaz,zaM,invN,zaG,zaD];omega
 have tY:basW (pbG g g (p/g.2.1.toNat) (p%g.2.1.toNat)) e≠ []:=fun q=>by
  have:=congrArg zaP q
  unfold basW at this;simp at this
 rw[zW] at ex;obtain⟨NI,LE⟩:=qKL lW lW hu hv xU (basW (pbG g g (p/g.2.1.toNat) (p%g.2.1.toNat)) e) 0 rK tO;have hz:(pbP g g (p/g.2.1.toNat) (p%g.2.1.toNat)).getD (0:Int).toNat 0=p:=by
  have:=qLO (a:=g) (b:=g) (u:=p/g.2.1.toNat) (v:=p%g.2.1.toNat)
  rw[zam,za3] at this;simp[List.getD,this]
 rw[iq,hz] at NI LE;have fX:=qCg (v:=0) gP rK tO;have me:=qEh (g:=pbG g g (p/g.2.1.toNat) (p%g.2.1.toNat)) gP fX;generalize basW (pbG g g (p/g.2.1.toNat) (p%g.2.1.toNat)) e=L at*;have pr:((p/g.2.1.toNat:Nat):Int)≠((p%g.2.1.toNat:Nat):Int):=fun q=>ai (Int.ofNat.inj q);have eW:0<=((p/g.2.1.toNat:Nat):Int):=zaW _;have mJ:0<=((p%g.2.1.toNat:Nat):Int):=zaW _;generalize ((p/g.2.1.toNat:Nat):Int)=u at*;generalize ((p%g.2.1.toNat:Nat):Int)=v at*;have cu:=qBS hc ⟨eW,hu⟩;have cv:=qBS hc ⟨mJ,hv⟩;have hi:invL (wdO g v)=invN (wdO g v):=qGe (qFi hg cv);rw[hi] at ew ex;have Fp:=wdL3 hc ⟨eW,hu⟩;have pR:=wdL3 hc ⟨mJ,hv⟩;have rQ: ∀y∈invN (wdO g v),Lt3 y:=fun y hy=>by have:=(pR _ (qCj hy)).neg;rwa [zaO] at this
 have ru:=qPs hc ⟨eW,hu⟩;have rv:=qPs hc ⟨mJ,hv⟩;have lu:=qBh hg cu;have lv:=qBh hg cv;have kU:=ok0 hc;have okv:okS g (v,[]):=⟨⟨mJ,hv⟩,trivial⟩;have oku:okS g (u,[]):=⟨⟨eW,hu⟩,trivial⟩;have lpu:runS g.2.2 (u,[]) L=(u,[]):=by have:=qBd (g:=g) (w:=L) (v:=u) tO;rwa [NI] at this
 have lpv:runS g.2.2 (v,[]) L=(v,[]):=by have:=qBd (g:=g) (w:=L) (v:=v) tO;rwa [LE] at this
 generalize wdO g u=a at*;generalize wdO g v=b at*;have Dm: ∀y∈a++invN b,Lt3 y:=fun y hy=>(zah.1 hy).elim (Fp y) (rQ y);have xV: ∀y∈(b++L)++invN b,Lt3 y:=fun y hy=>(zah.1 hy).elim (fun q=>(zah.1 q).elim (pR y) (me y)) (rQ y);have dZ: ∀y∈w,Lt3 y:=by rw[ew];exact qHN Dm
 have oQ: ∀y∈x,Lt3 y:=by rw[ex];exact qHN xV
 have actw: ∀s,okS g s->runS g.2.2 s w=runS g.2.2 (runS g.2.2 s a) (invN b):=fun s hs=>by rw[ew,qFk hg hf hs Dm,qAV]
 have actx: ∀s,okS g s->runS g.2.2 s x=runS g.2.2 (runS g.2.2 (runS g.2.2 s b) L) (invN b):=fun s hs=>by rw[ex,qFk hg hf hs xV,qAV,qAV]
 have base: ∀ {y:List Int},(∀z∈y,Lt3 z)->(qQ g.2.2 0 (redL [] y)=0↔runS g.2.2 (0,[]) y=(0,[])):=fun hy=>qKr hg hf hy ⟨tO,tO⟩ (Int.le_refl 0);refine⟨Gl,hc,?_,?_,?_,?_,?_,dZ,oQ⟩
 ·rw[Ne,base dZ,actw _ kU,ru];intro q;have:=qDv hg hf oku pR
  rw[q,rv] at this;injection this with this
  exact pr this.symm
 ·intro q;rw[q] at ex;have gT:=qRE bT;have fT:Fol (([]:List EdD)):=za5.nil;have okT:okS (g.1,1,[]) ((0:Int),([]:List Int)):=⟨⟨tZ,tZ⟩,trivial⟩;have hs:=qCQ gT okT rQ;have e1:=qFk (g:=(g.1,1,[])) gT fT hs xV;rw[<-ex,qAV,qAV,qDv gT fT okT pR] at e1;have e2:=qDv gT fT (qCQ gT okT me) pR;rw[<-e1] at e2;have e3:runS ([]:List EdD) (runS ([]:List EdD) (0,[]) (invN b)) b=(0,[]):=qDv gT fT okT pR;have e4:runS ([]:List EdD) (0,[]) L=(0,[]):=by
   rw[<-e2];exact e3
  have Ku:qQ ([]:List EdD) 0 L<0:=by
   cases L with
   | nil=>exact absurd rfl tY
   | cons y L=>rw[qV,qNX,Wm tD];decide
  have:=qEt (g:=(g.1,1,[])) gT ul (v:=0) ⟨tZ,tZ⟩ Ku
  simp only at this
  rw[e4] at this;exact this rfl
 ·rw[base oQ,actx _ kU,rv,lpv];have:=qCW hg hf kU pR
  rwa [rv] at this
 ·have AW: ∀y∈w++x,Lt3 y:=fun y hy=>(zah.1 hy).elim (dZ y) (oQ y);have Qb:invL w=invN w:=qGe fun y hy=>(dZ y hy).b3;have JG: ∀y∈invN w,Lt3 y:=fun y hy=>by have:=(dZ _ (qCj hy)).neg;rwa [zaO] at this
  have uc: ∀y∈redL [] (w++x)++invN w,Lt3 y:=fun y hy=>(zah.1 hy).elim (qHN AW y) (JG y);rw[Qb,base (qHN uc),qFk hg hf kU uc,qAV,qFk hg hf kU AW,qAV];have s1:=actw _ kU;rw[ru] at s1;have Bi:okS g (runS g.2.2 (u,[]) (invN b)):=qCQ hg oku rQ;have s2:=actx _ Bi;rw[qDv hg hf oku pR,lpu] at s2;rw[s1,s2];have:=qCW hg hf kU dZ
  rwa [s1] at this
 ·have h1:=qBQ [] (a++invN b);have h2:=qBQ [] ((b++L)++invN b);rw[<-ew] at h1;rw[<-ex] at h2;simp only[zau,zaM,invN,zaG,zaD] at h1 h2;omega
structure MatK (bb P A B k:Nat) (w:Wg) (Q:Nat->Nat):Prop where
 outer:w.ownsRow bb 37 1 (.slice (some ⟨P,0,none⟩) A A) A ((zak A).map fun i=>if i<k then .slice (some ⟨Q i,0,none⟩) B B else .slice none 0 0)
 rows: ∀i,i<k->OwI w bb (.slice (some ⟨Q i,0,none⟩) B B) ((zak B).map fun _=> -1)
 inj: ∀i j,i<k->j<k->Q i=Q j->i=j
 lt: ∀i,i<k->P<Q i/\Q i<w.heap.size
theorem MatK.next {bb P A B k Qk:Nat} {w w':Wg} {Q:Nat->Nat} (h:MatK bb P A B k w Q) (xz:P<w.heap.size) (hQk:w.heap.size<=Qk) (hs:w.heap.size<=w'.heap.size) (hQ2:Qk<w'.heap.size)
  (hr:OwI w' bb (.slice (some ⟨Qk,0,none⟩) B B) ((zak B).map fun _=> -1))
  (ho:w'.ownsRow bb 37 1 (.slice (some ⟨P,0,none⟩) A A) A (((zak A).map fun i=>if i<k then(za0 (some ⟨Q i,0,none⟩) B B) else .slice none 0 0).set k (.slice (some ⟨Qk,0,none⟩) B B)))
  (hq: ∀i,i<k->w'.heap[Q i]? =w.heap[Q i]?):MatK bb P A B (k+1) w' (fun i=>if i=k then Qk else Q i):=by
 refine⟨?_,fun i hi=> ?_,fun i j hi hj e=> ?_,fun i hi=> ?_⟩
 ·have e:(((zak A).map fun i=>if i<k then(za0 (some ⟨Q i,0,none⟩) B B) else .slice none 0 0).set k (.slice (some ⟨Qk,0,none⟩) B B))=(zak A).map fun i=>if i<k+1 then .slice (some ⟨if i=k then Qk else Q i,0,none⟩) B B else .slice none 0 0:=by
   refine List.ext_getElem tZ fun i h1 h2=> ?_;rw[List.getElem_set];simp only[List.getElem_map,List.getElem_range];by_cases hik:k=i
   ·subst hik;simp
   ·rw[Wn hik];by_cases h3:i<k
    ·rw[Wm h3,Wm tO,Wn (Ne.symm hik)]
    ·rw[Wn h3,Wn tO]
  rw[<-e];exact ho
 ·by_cases hik:i=k
  ·rw[Wm hik];exact hr
  ·rw[Wn hik];have dB:i<k:=tO;exact⟨qAA (h.rows i dB).1 fun b e=>by simp only[zai,Option.some.injEq] at e;subst e;exact hq i dB,(h.rows i dB).2⟩
 ·by_cases hik:i=k<;>by_cases jy:j=k
  ·omega
  ·rw[Wm hik,Wn jy] at e;have:=(h.lt j tO).2
   omega
  ·rw[Wn hik,Wm jy] at e;have:=(h.lt i tO).2
   omega
  ·rw[Wn hik,Wn jy] at e;exact h.inj i j tO tO e
 ·by_cases hik:i=k
  ·rw[Wm hik];exact⟨tO,hQ2⟩
  ·rw[Wn hik];have:=h.lt i tO
   exact⟨this.1,tO⟩
theorem MatK.full {bb P A B:Nat} {w:Wg} {Q:Nat->Nat} (h:MatK bb P A B A w Q) (hP:P<w.heap.size):MatI w bb P A B w Q (fun _ _=> -1):=by
 refine⟨?_,fun i hi=>by simpa using h.rows i hi,h.inj,fun i hi=>by have:=(h.lt i hi).1;omega,hP,fun i hi=>(h.lt i hi).2⟩;have e:((zak A).map fun i=>if i<A then(za0 (some ⟨Q i,0,none⟩) B B) else .slice none 0 0)=(zak A).map fun i=> .slice (some ⟨Q i,0,none⟩) B B:=
  zaT fun i hi=>by rw[Wm (zaj.1 hi)]
 rw[<-e];exact h.outer
theorem MatI.base {X bb bb' P A B:Nat} {w:Wg} {Q:Nat->Nat} {f:Nat->Nat->Int} (h:MatI X bb P A B w Q f) (hb:bb'<=bb):MatI X bb' P A B w Q f:=by
 refine⟨?_,fun i hi=>(h.rows i hi).mono hb,h.inj,h.neP,h.ltP,h.ltQ⟩;obtain⟨h1,h2⟩:=h.outer;refine⟨h1,?_⟩;rcases h2 with h0 | ⟨g,cap,cur,hv,hg,rr⟩
 ·exact .inl h0
 ·exact .inr ⟨g,cap,cur,hv,tO,rr⟩
theorem qPJ (w:Wg) {base:Nat} (hb:base<=w.heap.size):OwPc (w.alloc (.cells #[] 92)) base (.slice (some ⟨w,0,none⟩) 0 0) []:=by
 have:=zaZ (e:=92) (size:=5) w #[] 0 hb (by unfold maxLen;omega) tZ
 simpa[OwPc,pcCs] using this
theorem qKg {k B m:Nat} (hm:m<B):prC B (k*B+m)= [.int .i64 k, .int .i64 m]:=by
 unfold prC;rw[zam,zaA tO,zax hm,zaB,zay hm,Nat.add_zero]
theorem qOz (w:Wg) {base k m B:Nat} (hb:base<=w.heap.size) (hm:m<B) (N:Nat) (hN:w.heap.size=N):OwPr (w.alloc (.cells #[.int .i64 k, .int .i64 m] 131)) base (.slice (some ⟨N,0,none⟩) 1 1) B [k*B+m]:=by
 subst hN;have:=zaZ (e:=131) (size:=2) w #[.int .i64 k, .int .i64 m] 1 hb (by unfold maxLen;omega) tZ
 unfold OwPr prCs;simp only[List.map_cons,List.map_nil,List.flatten_cons,List.flatten_nil,List.append_nil,qKg hm,zaz,zaM,zaL];simpa using this
theorem qMC {a b:GrD} {B:Nat} (ls:List Int) (q:Nat) (o:List Nat) {j:Nat} (hj:j<=o.length):(ls.foldl (pst a.2.2 b.2.2 B q) o).take j=o.take j:=by
 refine List.ext_getElem? fun i=> ?_;rw[zaX,zaX];split
 ·rename_i hi
  have h1:o[i]? =some (o[i]'tO):=zaf tO;rw[qAO (a:=a) (b:=b) (B:=B) ls q o h1,h1]
 ·rfl
end Go.Proofs.YtnjpoljbagfdnaaGreat
