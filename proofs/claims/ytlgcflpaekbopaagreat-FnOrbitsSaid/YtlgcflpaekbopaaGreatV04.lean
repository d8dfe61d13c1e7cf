/- Parts of the proof: Ren, RenQ, Srt, Dup, Part, TakW, RelS, Fre, Rgn. -/
import Derived.Test.YtlgcflpaekbopaaGreatV02
import Derived.Test.YtlgcflpaekbopaaGreatV01
import Derived.Test.YtlgcflpaekbopaaGreatV03
import Derived.Shelf.SlSortCmp.WholeK
import Derived.Ground.SlsfProg
import Derived.OrdersHeld
import Derived.Deep.RegionHeld3
set_option maxRecDepth 100000
set_option maxHeartbeats 16000000
set_option linter.unusedVariables false
set_option linter.unusedSimpArgs false
namespace Go.Proofs.YtlgcflpaekbopaaGreat
open Go.RowKit
open _root_.List renaming setIfInBounds_toArray→zaa,set_cons_zero→zab,set_cons_succ→zac,take_succ_eq_append_getElem→zaf,pairwise_iff_getElem→zag,replicate→zai,length_take→zaj,range→zaq,take_length→zar,length_append→zas,mem_range→zau,getElem?_eq_some_iff→zaw,all_eq_true→zax,getElem?_eq_getElem→zaD,mem_singleton→zaE,getElem_mem→zaH,length_map→zaI,filter_append→zaJ,getElem_take→zaK,mem_cons→zaM,length_replicate→zaO,map_append→zaP,mem_filterMap→zaT,getD_eq_getElem?_getD→zaV,ext_getElem?→zaW,nil_append→zaY,append_nil→zaZ,mem_append→za0,getElem?_eq_none→za3,take_zero→za4,length_singleton→za7,mem_iff_getElem→za9,mem_of_getElem?→zbb,getElem_of_mem→zbe,replicate_zero→zbf,mem_replicate→zbg,mem_map→zbi,getElem?_drop→zbk,getElem?_map→zbo,length_cons→zbp,cons_append→zbq,map_toArray→zbr,any_eq_true→zbt,filter_cons→zbv,length_nil→zbx,range_succ→zbz,filter_nil→zbA,drop_drop→zbB,getD→zbC,map_cons→zbD
open _root_.Nat renaming le_refl→zad,zero_add→zal,zero_le→zap,add_zero→zaG,mul_le_mul_right→zaQ,sub_zero→zbj,le_trans→zbl,lt_of_lt_of_le→zbm,le_of_not_lt→zbu
open Go.World renaming cell?_setCell_other→zae,cell?_setCell_same→zak,cell?_of_block→zan,frozen?_of_block→zaF,cell?_alloc_past→za2,frozen?_setCell→za5,grownBy→zbc
open Go.Act renaming put→zah
open _root_.Bool renaming and_eq_true→zam,or_eq_true→zaz,not_eq_true'→zaL,not_false→za6,or_false→zbd,false_eq_true→zbn,true_and→zbE,not_true→zbF
open _root_.Array renaming getElem?_setIfInBounds_self_of_lt→zao,getD_eq_getD_getElem?→zat,getElem?_eq_none→zay,replicate→zaA,all_eq_true_iff_forall_mem→zaN,getElem?_eq_some_iff→zaU,size_setIfInBounds→zaX,getElem_toList→za8,mem_toList_iff→zba
open Go.Value renaming ownBlock→zav,slice→zaR,int→zaS,agg→za1
open Go.RowKit.Below renaming drew→zaB,refl→zaC,heap_alloc→zbs
open _root_.Int renaming sub_zero→zbh
open _root_.Option renaming getD_some→zbw,map_some→zby
def plv:List Int→Int→Int
 | [],_=>0
 | u::o,v=>if u=v then 1 else if plv o v=0 then 0 else plv o v+1
theorem qBu (o:List Int) (v:Int):0≤plv o v∧plv o v≤o.length:=by
 induction o with
 | nil=>simp[plv]
 | cons u o ih=>
   unfold plv;simp only[zbp];split
   ·omega
   ·split<;>omega
theorem qOg {o:List Int} {v:Int}:plv o v=0↔v∉o:=by
 induction o with
 | nil=>simp[plv]
 | cons u o ih=>
   unfold plv;have:=qBu o v
   split
   ·rename_i h
    simp[h]
   ·rename_i h
    rw[zaM];split
    ·rename_i h0
     constructor
     ·intro _;rintro(e | e)
      ·exact h e.symm
      ·exact ih.1 h0 e
     ·intro _;rfl
    ·rename_i h0
     constructor
     ·intro e;omega
     ·intro hn;exact absurd (ih.2 fun e=>hn (.inr e)) h0
theorem qOz {o:List Int} {u:Int} (hu:u∉o) (v:Int):plv (o++ [u]) v=if v=u then(o.length:Int)+1 else plv o v:=by
 induction o with
 | nil=>
   simp only[zaY,plv,zbx];by_cases h:u=v
   ·simp[h]
   ·have h': ¬v=u:=fun e=>h e.symm;simp[h,h']
 | cons a o ih=>
   have Fp:u∉o:=fun e=>hu (by simp[e]);have IN:a≠u:=fun e=>hu (by simp[e]);have ih:=ih Fp;simp only[zbq,plv,zbp];by_cases h:a=v
   ·rw[if_pos h,if_pos h,if_neg (fun e=>IN (h.trans e))]
   ·rw[if_neg h,if_neg h,ih];by_cases h2:v=u
    ·rw[if_pos h2,if_pos h2,if_neg tO];omega
    ·rw[if_neg h2,if_neg h2]
theorem qHm {o:List Int} {v v':Int} (h:plv o v=plv o v') (h0:plv o v≠0):v=v':=by
 induction o with
 | nil=>exact absurd rfl h0
 | cons a o ih=>
   have r1:=qBu o v;have r2:=qBu o v';unfold plv at h h0;by_cases e1:a=v
   ·by_cases e2:a=v'
    ·rw[←e1,←e2]
    ·rw[if_pos e1,if_neg e2] at h;split at h<;>omega
   ·by_cases e2:a=v'
    ·rw[if_neg e1,if_pos e2] at h;split at h<;>omega
    ·rw[if_neg e1,if_neg e2] at h;rw[if_neg e1] at h0;by_cases z1:plv o v=0
     ·rw[if_pos z1] at h0;exact absurd rfl h0
     ·by_cases z2:plv o v'=0
      ·rw[if_neg z1,if_pos z2] at h;omega
      ·rw[if_neg z1,if_neg z2] at h;exact ih tO z1
def plc (n:Nat) (o:List Int) (d:Int):List Int:=(zaq n).map fun v=>plv o (v:Nat)-d
theorem qDt (n:Nat) (o:List Int) (d:Int):(plc n o d).length=n:=by simp[plc]
theorem qKJ (n:Nat) (o:List Int) (d:Int) (v:Nat) (h:v<n):(plc n o d)[v]'(by rw[qDt];exact h)=plv o v-d:=by simp[plc]
theorem qKI (n:Nat) (d:Int):plc n [] d=zai n (-d):=by
 apply zaW
 intro i;simp only[plc,plv,zbo,List.getElem?_replicate];by_cases h:i<n
 ·simp[h]
 ·simp[h]
theorem qLZ (n:Nat) (o:List Int) (d:Int) (k:Nat) (hk:k<o.length) (hd:o.Nodup) (u:Nat) (hu:o[k]=(u:Int)):
  (plc n (o.take k) d).set u ((k:Int)+1-d)=plc n (o.take (k+1)) d:=by
 have hn:(u:Int)∉o.take k:=by
  rw[←hu];intro hm;obtain⟨j,hj,e⟩:=zbe hm;rw[zaK] at e;have gJ:j<k:=by rw[zaj] at hj;omega
  have:=(zag.1 hd) j k tO hk gJ
  exact this e
 rw[zaf hk,hu];have hl:(o.take k).length=k:=by rw[zaj];omega
 apply zaW
 intro i;rw[List.getElem?_set];simp only[plc,zbo,zaI,List.length_range];by_cases hi:i<n
 ·simp only[List.getElem?_range hi,zby];rw[qOz hn,hl];by_cases e:u=i
  ·subst e;simp[hi]
  ·rw[if_neg e,if_neg tO]
 ·simp only[za3 (show(zaq n).length≤i by simp;omega),Option.map_none];split
  ·rename_i e
   rw[if_neg tO]
  ·rfl
def rnE (o:List Int) (e:EdD):Option EdD:=if 0<plv o e.1∧0<plv o e.2.2 then some (plv o e.1-1,e.2.1,plv o e.2.2-1) else none
def rnL (es:List EdD) (o:List Int):List EdD:=es.filterMap (rnE o)
def rnG (g:GrD) (o:List Int):GrD:=(g.1,o.length,srt cmpE (rnL g.2.2 o))
theorem qLH (es:List EdD) (o:List Int) (k:Nat) (h:k<es.length):rnL (es.take (k+1)) o=rnL (es.take k) o++(rnE o es[k]).toList:=by
 unfold rnL;rw[zaf h,List.filterMap_append];congr 1
theorem qII (es:List EdD) (o:List Int):(rnL es o).length≤es.length:=List.length_filterMap_le _ _
theorem qNZ {es:List EdD} (o:List Int) (h:es.Nodup):(rnL es o).Nodup:=by
 unfold rnL;unfold List.Nodup at*;rw[List.pairwise_filterMap];refine h.imp fun {a b} hab x hx y hy e=>hab ?_;subst e;unfold rnE at hx hy;split at hx
 ·rename_i ha
  split at hy
  ·rename_i hb
   injection hx with hx
   injection hy with hy
   rw[←hy] at hx;injection hx with e1 hx
   injection hx with e2 e3
   have i1:=qHm (o:=o) (v:=a.1) (v':=b.1) tO tO;have i3:=qHm (o:=o) (v:=a.2.2) (v':=b.2.2) tO tO;obtain⟨_,_,_⟩:=a;obtain⟨_,_,_⟩:=b;simp only at i1 e2 i3
   rw[i1,e2,i3]
  ·cases hy
 ·cases hx
theorem qKa {g:GrD} (h:grB g=true):Srt cmpE g.2.2∧g.2.2.Nodup:=by
 obtain⟨_,_,_,h4⟩:=qR h;have adj: ∀k (hk:k+1<g.2.2.length),cmpE g.2.2[k] g.2.2[k+1]<0:=fun k hk=>by
  have:=h4 (k+1) hk
  rw[qGr tO hk,zam] at this;have h2:=this.2;simp only[zaL,decide_eq_false_iff_not,Nat.add_sub_cancel] at h2;omega
 have all: ∀d k (hk:k+d+1<g.2.2.length),cmpE (g.2.2[k]'tO) g.2.2[k+d+1]<0:=by
  intro d;induction d with
  | zero=>intro k hk;exact adj k hk
  | succ d ih=>intro k hk;exact qAf.trans (ih k tO) (adj (k+d+1) hk)
 have hs:Srt cmpE g.2.2:=by
  unfold Srt;rw[zag];intro i j hi hj dh;have:=all (j-i-1) i tO
  have e:i+(j-i-1)+1=j:=tO;simpa only[e] using this
 refine⟨hs,hs.imp fun {a b} hab e=> ?_⟩;rw[e] at hab;exact qAf.irrefl b hab
theorem qAy {w w':World} {row:Option Nat} (h:Below w.heap.size w w'):w.grownBy w' row:=⟨h.os,h.tape,h.output,h.size,fun b hb _=>h.block b hb⟩
theorem qAa {w w':World} {x b o:Nat} (h:w.grownBy w' (some x)) (hb:b<w.heap.size) (ai:b≠x):w'.cell? ⟨b,o,none⟩=w.cell? ⟨b,o,none⟩:=
 zan (w:=w) (h.block b hb fun e=>ai (by injection e))
theorem qFT {w w':World} {x b o:Nat} (h:w.grownBy w' (some x)) (hb:b<w.heap.size) (ai:b≠x):w'.frozen? ⟨b,o,none⟩=w.frozen? ⟨b,o,none⟩:=
 zaF (w:=w) (h.block b hb fun e=>ai (by injection e))
theorem qCK (w:World) (b o b' o':Nat) (u:Value) (h:b≠b'):(w.setCell ⟨b',o',none⟩ u).cell? ⟨b,o,none⟩=w.cell? ⟨b,o,none⟩:=
 zan (w:=w) (Below.heap_setCell w _ u b h)
theorem qFK (v vo:Value) (g:GrD) (o:List Int) (w:World) (h:ArgG w v g) (ho:RdI w vo o) (hg:grB g=true) (ar:OrdN g.2.1 o):
  Calls Tryz.prog 185 #[v,vo] w fun e w'=> ∃r,e= .returned (.tuple #[r, .bool true])∧OwG w' w.heap.size r (rnG g o)∧Below w.heap.size w w':=by
 have HG:=qA h;have aD:=qA hg;have bG:=qA ar;have ff:=qA ho;obtain⟨cR,aJ,aO,_⟩:=qR hg;have jA:=qA (fun e he=>qAM hg (e:=e) he);obtain⟨N,hN⟩: ∃N:Nat,g.2.1=(N:Int):=⟨g.2.1.toNat,tO⟩;have jb:o.length≤N:=qBc N o ar.1 fun y hy=>by have:=ar.2.1 y hy;omega
 have tz:1≤o.length:=ar.2.2;have gX:Hid (∀k (hk:k<o.length),∃u:Nat,o[k]=(u:Int)∧u<N):=qA fun k hk=>by
  have:=ar.2.1 o[k] (by simp)
  exact⟨o[k].toNat,tO,tO⟩
 have rH:=qA ar.1;clear hg ar h;obtain⟨r,n,es⟩:=g;simp only at hN cR aJ aO
 subst hN;have mU:1≤N:=tO;have ly:N≤40:=tO;have Fr:(N:Int)≤40:=tO;clear aJ;obtain⟨A,cap,rfl,HE⟩: ∃A cap,v= .agg #[.int .i64 r, .int .i64 N, .slice A es.length cap]∧Hid (ArgE w (.slice A es.length cap) es):=by
  obtain⟨s,hv,_,_,ha⟩:=HG.out;obtain⟨A,cap,rfl⟩:=ha.form;exact⟨A,cap,hv,qA ha⟩
 obtain⟨Ao,capo,rfl,m6,oT,_⟩:=ho.arg;have fM:es.length≤cap∧cap≤maxLen:=by
  obtain⟨_,_,hv,h1,h2,_⟩:=HE.out;injection hv with _ _ e3
  subst e3;exact⟨h1,h2⟩
 obtain⟨aj,hm⟩:=fM;unfold maxLen at oT hm;clear ho;have bx:Below w.heap.size w (((w.alloc (.cells #[.int .i64 r,.int .i64 N, .slice A es.length cap] 82)).alloc (.cells #[.int .i64 0,.int .i64 0, .slice none 0 0] 82)).alloc (.cells #[.int .i64 r,.int .i64 o.length, .slice none 0 0] 82)):=(by repeat(first | exact .refl _ _ | (refine BxS ?_ _) | (refine qB ?_ _) | (refine zaB ?_) | (refine BxA ?_ _)));go_enter Tryz.func185,Tryz.ntmps185
 go_wp2_with fail;obtain⟨W0,aF⟩: ∃W,W=((w.alloc (.cells #[.int .i64 r,.int .i64 N, .slice A es.length cap] 82)).alloc (.cells #[.int .i64 0,.int .i64 0, .slice none 0 0] 82)).alloc (.cells #[.int .i64 r,.int .i64 o.length, .slice none 0 0] 82):=⟨_,rfl⟩;rw[←aF] at bx⊢;have cI:W0.heap.size=w.heap.size+3:=by rw[aF];simp
 have b0:W0.cell? ⟨w.heap.size,0,none⟩=some (.int .i64 r):=by rw[aF];simp[go_sem]
 have b1:W0.cell? ⟨w.heap.size,1,none⟩=some (.int .i64 N):=by rw[aF];simp[go_sem]
 have b2:W0.cell? ⟨w.heap.size,2,none⟩=some (.slice A es.length cap):=by rw[aF];simp[go_sem]
 have r0: ∃u,W0.cell? ⟨w.heap.size+1,0,none⟩=some u:=⟨.int .i64 0,by rw[aF];simp[go_sem]⟩;have r1: ∃u,W0.cell? ⟨w.heap.size+1,1,none⟩=some u:=⟨.int .i64 0,by rw[aF];simp[go_sem]⟩;have r2: ∃u,W0.cell? ⟨w.heap.size+1,2,none⟩=some u:=⟨.slice none 0 0,by rw[aF];simp[go_sem]⟩;have rf: ∀j,W0.frozen? ⟨w.heap.size+1,j,none⟩=false:=fun j=>by rw[aF];simp[go_sem]
 have x0:W0.cell? ⟨w.heap.size+1+1,0,none⟩=some (.int .i64 r):=by rw[aF];simp[go_sem]
 have x1:W0.cell? ⟨w.heap.size+1+1,1,none⟩=some (.int .i64 o.length):=by rw[aF];simp[go_sem]
 have x2:W0.cell? ⟨w.heap.size+1+1,2,none⟩=some (.slice none 0 0):=by rw[aF];simp[go_sem]
 have xf: ∀j,W0.frozen? ⟨w.heap.size+1+1,j,none⟩=false:=fun j=>by rw[aF];simp[go_sem]
 clear aF;have BX:=qA bx;have B0:=qA b0;have B1:=qA b1;have B2:=qA b2;have R0:=qA r0;have R1:=qA r1;have R2:=qA r2;have RF:=qA rf;have X0:=qA x0;have X1:=qA x1;have X2:=qA x2;have XF:=qA xf;have bF:=qt _ (r,(N:Int),es) W0 (HG.out.below bx);rw[aD.out] at bF;have uL:=qA bF;clear bF b0 b1 b2 r0 r1 r2 rf x0 x1 x2 xf;refine uL.out.mono ?_;rintro e w1 ⟨rfl,bW⟩;clear uL;have q1:=(bW.cell (p:=⟨w.heap.size,1,none⟩) (show w.heap.size<W0.heap.size by omega)).trans B1.out;have s1:=bW.size;have eh:=qA bW;clear bW bx;have g0:((o.length:Int)==0)=false:=by rw[beq_eq_false_iff_ne];omega
 have g1: ¬(N:Int)<(o.length:Int):=tO;obtain⟨i0,a7,aS,ao,aP⟩:=info_parts qEa;go_wp2_with (at_make;refine wpList_make_full _ rfl _ _ 24 rfl w1.heap.size 3 i0 (.int .i64 0) 1 Tryz.underlying24 a7 aS ao _ _ _ _ N rfl rfl rfl rfl (by rw[aP];omega) (by unfold maxLen;omega) (zad _) ?_)
 intro w2 hown0 hgrow0;have eA:OwI w2 w1.heap.size (.slice (some ⟨w1.heap.size,0,none⟩) N N) (plc N (o.take 0) 0):=by
  refine⟨?_,fun y hy=> ?_⟩
  ·rw[za4,qKI,zaO];have:ints (zai N (-0))=zai N (zaS .i64 0):=by simp[ints]
   rw[this];simpa[toList_madeCells_one] using hown0
  ·rw[za4,qKI] at hy;obtain⟨_,rfl⟩:=zbg.1 hy;exact⟨by decide,by decide⟩
 have ge:=qA eA;have au:=qA (eh.out.grown hgrow0 s1 (fun k h=>by cases h));clear eA hown0 hgrow0 q1 g0 g1;go_wp2;go_loopw [8] (fun i wr=> ∃k:Nat,k≤o.length∧i= .int .i64 k∧OwI wr w1.heap.size (.slice (some ⟨w1.heap.size,0,none⟩) N N) (plc N (o.take k) 0)∧Below W0.heap.size W0 wr) (fun i _=>o.length-(intOf i).toNat)
 case atStart=>exact⟨0,zap _,rfl,ge.out,au.out⟩
 case round=>
  obtain⟨k,hk,rfl,ab,aa⟩:=hrel;have ax:=qA aa;have vv:=qA (BX.out.trans (aa.mono tO));have ak:=aa.size;have hP:=(ab.1.lt w1.heap.size rfl).2;have dN:=(aa.cell (p:=⟨w.heap.size,1,none⟩) (show w.heap.size<W0.heap.size by omega)).trans B1.out;have HO:=qA ab;clear aa;by_cases ac:k<o.length
  ·obtain⟨bo,offo,rfl,jG,kt⟩:=(ff.out.below vv.out).at tO;have c0:=kt k ac;obtain⟨u,hu,ra⟩:=gX.out k ac;rw[hu] at c0;have gD:=ab.cellAt u (by rw[qDt];exact ra);have hz:(plc N (o.take k) 0)[u]'(by rw[qDt];exact ra)=0:=by
    rw[qKJ _ _ _ _ ra,qOg.2,zbh];intro hm;rw[←hu] at hm;obtain⟨j,hj,e⟩:=zbe hm;rw[zaK] at e;have gJ:j<k:=by rw[zaj] at hj;omega
    exact(zag.1 rH.out) j k tO ac gJ e
   rw[hz] at gD;have dE:=ab.free u;have eK:=qA (ab.set u ((k:Int)+1) ⟨tO,tO⟩);have oS:Hid ((plc N (o.take k) 0).set u ((k:Int)+1)=plc N (o.take (k+1)) 0):=qA (by
    have:=qLZ N o 0 k ac rH.out u hu
    rwa [zbh] at this)
   have j0:(0:Int)≤(u:Int):=tO;have j1:(u:Int)<(N:Int):=tO;have bQ:=fun w=>qI (u:Int) 0 ((N:Int)-1) w;have wy:inB (u:Int) 0 ((N:Int)-1)=true:=qP.2 ⟨tO,tO⟩;simp only[wy] at bQ;have cM:=qA bQ;have iI:w.heap.size<wr.heap.size:=tO;clear kt hu hz ab bQ wy;go_wp2_with fail;have f0:=BelW.cell dN iI;have f1:=BelW.cell c0 jG;have f2:=BelW.cell gD hP;(refine qK tK tK ?_;(repeat(go_big_quiet_step (first | (go_at_call 64;exact Calls.bel_same (cM.out _)))));refine wpQuiet_nil ?_;intro wq hw';obtain⟨pq,al⟩:=hw';have bq:=pq.h;rw[←al] at bq;clear al pq)
   replace c0:=f1 ⟨wq,bq⟩;replace gD:=f2 ⟨wq,bq⟩;simp only at c0 gD
   clear f0 f1 f2;have Jt:=(bq.frozen (p:=⟨w1.heap.size,u,none⟩) hP).trans dE;have sq:=bq.size;have iW:=qA ((HO.out.below bq).set u ((k:Int)+1) ⟨tO,tO⟩);have ku:=qA (ax.out.trans (bq.mono tO));clear bq dE dN;go_wp2;go_roundw
   case rel=>exact⟨k+1,tO,by go_num,by rw[←oS.out];exact iW.out.1,ku.out.grown iW.out.2 tO (fun j hj=>by cases hj;omega)⟩
   case measure=>simp[intOf];omega
  ·obtain rfl:k=o.length:=tO
   rw[zar] at HO;clear ab;have HP:=qA HO.out;obtain⟨w5,rfl⟩: ∃w5:World,w5=wr:=⟨_,rfl⟩;have hX:w.heap.size+1+1<w5.heap.size:=tO;have Gd:=qA ((ax.out.cell (p:=⟨w.heap.size+1+1,2,none⟩) (show w.heap.size+1+1<W0.heap.size by omega)).trans X2.out);have F8:=qA ((ax.out.cell (p:=⟨w.heap.size+1+1,0,none⟩) (show w.heap.size+1+1<W0.heap.size by omega)).trans X0.out);have ER:=qA ((ax.out.cell (p:=⟨w.heap.size+1+1,1,none⟩) (show w.heap.size+1+1<W0.heap.size by omega)).trans X1.out);have PXF:Hid (∀j,w5.frozen? ⟨w.heap.size+1+1,j,none⟩=false):=qA fun j=>(ax.out.frozen (p:=⟨w.heap.size+1+1,j,none⟩) (show w.heap.size+1+1<W0.heap.size by omega)).trans (XF.out j);clear dN;have mk:Hid (∀(wr:World),w5.grownBy wr (some (w.heap.size+1+1))→ ∀u:Nat,u<N→wr.cell? ⟨w1.heap.size,u,none⟩=some (.int .i64 (plv o u))):=qA fun wr hg u hu=>by
    rw[qAa hg hP tO,HP.out.cellAt u (by rw[qDt];exact hu),qKJ _ _ _ _ hu,zbh]
   have PLR:Hid (∀v:Int,0≤plv o v∧plv o v≤40):=qA fun v=>by have:=qBu o v;omega
   go_wp2;go_loopw [9] (fun i wr=> ∃(k:Nat) (A2:Option Addr) (am:Nat),k≤es.length∧i= .int .i64 k∧wr.cell? ⟨w.heap.size+1+1,2,none⟩=some (.slice A2 (srt cmpE (rnL (es.take k) o)).length am)∧OwE wr (w.heap.size+1+1+1) (.slice A2 (srt cmpE (rnL (es.take k) o)).length am) (srt cmpE (rnL (es.take k) o))∧w5.grownBy wr (some (w.heap.size+1+1))∧wr.cell? ⟨w.heap.size+1+1,0,none⟩=some (.int .i64 r)∧wr.cell? ⟨w.heap.size+1+1,1,none⟩=some (.int .i64 o.length)∧ ∀j,wr.frozen? ⟨w.heap.size+1+1,j,none⟩=false) (fun i _=>es.length-(intOf i).toNat)
   case atStart=>exact⟨0,none,0,zap _,rfl,Gd.out,OwE.nil,zbc.refl _ _,F8.out,ER.out,PXF.out⟩
   case round=>
    obtain⟨k,A2,am,rV,rfl,bU,bh,bF,dA,aQ,gv⟩:=hrel;have dZ:=qA bF;have dM:=bF.size;have kU:=qA (vv.out.grown bF tO (fun j hj=>by cases hj;omega));have b2:=(qAa (o:=2) bF (show w.heap.size<w5.heap.size by omega) tO).trans ((ax.out.cell (p:=⟨w.heap.size,2,none⟩) (show w.heap.size<W0.heap.size by omega)).trans B2.out);have fI:=qA bU;have fu:=qA dA;have ei:=qA aQ;have jf:=qA gv;clear dA aQ gv;have cO:=qA bh;clear bF bh;by_cases aK:k<es.length
    ·obtain⟨be,offe,rfl,jC,c0,c1,c2,eW⟩:=(HE.out.below kU.out).at aK;obtain⟨e1,e2,e3⟩:=jA.out es[k] (by simp);have HS:=qA (qLH es o k aK);have lF:Hid (∀x,rnE o es[k]=some x→srt cmpE (rnL (es.take (k+1)) o)=insF cmpE (srt cmpE (rnL (es.take k) o)) x):=qA fun x hx=>by
      rw[HS.out,hx];unfold srt;rw[List.foldl_append];rfl
     have uR:Hid (rnE o es[k]=none→rnL (es.take (k+1)) o=rnL (es.take k) o):=qA fun hx=>by rw[HS.out,hx];simp
     have jX:(srt cmpE (rnL (es.take k) o)).length≤120:=by
      have h1:=qDT (c:=cmpE) (rnL (es.take k) o);have h2:=qII (es.take k) o;rw[zaj] at h2;omega
     have eC:=qA eW;generalize es[k]=e at*;obtain⟨f,l,t⟩:=e;simp only at e1 e2 e3 c0 c1 c2
     obtain⟨a,rfl⟩: ∃a:Nat,f=(a:Int):=⟨f.toNat,tO⟩;obtain⟨c,rfl⟩: ∃c:Nat,t=(c:Int):=⟨t.toNat,tO⟩;have pa:=mk.out wr dZ.out a tO;have pc:=mk.out wr dZ.out c tO;obtain⟨GG,Ih⟩:=PLR.out a;obtain⟨Gb,GP⟩:=PLR.out c;have RN:Hid (rnE o ((a:Int),l,(c:Int))=if 0<plv o a∧0<plv o c then some (plv o a-1,l,plv o c-1) else none):=qA rfl;have ja:(a:Int)<(N:Int):=tO;have jc:(c:Int)<(N:Int):=tO;have DY:(0:Int)≤(a:Int):=tO;have Cr:(0:Int)≤(c:Int):=tO;have tC:w1.heap.size<wr.heap.size:=tO;have dz:w.heap.size+1+1<wr.heap.size:=tO;have kV:I64 l:=by unfold I64;omega
     have n5:=qA kV;generalize plv o a=pav at*;generalize plv o c=pcv at*;generalize hL:srt cmpE (rnL (es.take k) o)=L at*;clear kV HS eC eW;have bA:Below wr.heap.size wr (wr.alloc (.cells #[.int .i64 a,.int .i64 l,.int .i64 c] 154)):=(zaC _ _).alloc (zad _) _;by_cases t1:0<pav
     ·by_cases t2:0<pcv
      ·have F:=qA (lF.out _ (by rw[RN.out,if_pos ⟨t1,t2⟩]));go_wp2_with fail;have sA:wr.heap.size<(wr.alloc (.cells #[.int .i64 a,.int .i64 l,.int .i64 c] 154)).heap.size:=by simp
       have l0:(wr.alloc (.cells #[.int .i64 a,.int .i64 l,.int .i64 c] 154)).cell? ⟨wr.heap.size,0,none⟩=some (.int .i64 a):=by simp[go_sem]
       have l1:(wr.alloc (.cells #[.int .i64 a,.int .i64 l,.int .i64 c] 154)).cell? ⟨wr.heap.size,1,none⟩=some (.int .i64 l):=by simp[go_sem]
       have l2:(wr.alloc (.cells #[.int .i64 a,.int .i64 l,.int .i64 c] 154)).cell? ⟨wr.heap.size,2,none⟩=some (.int .i64 c):=by simp[go_sem]
       generalize wr.alloc (.cells #[.int .i64 a,.int .i64 l,.int .i64 c] 154)=W at bA sA l0 l1 l2⊢;have la:=(bA.cell (p:=⟨w1.heap.size,a,none⟩) tC).trans pa;have lc:=(bA.cell (p:=⟨w1.heap.size,c,none⟩) tC).trans pc;have lx:=(bA.cell (p:=⟨w.heap.size+1+1,2,none⟩) dz).trans fI.out;have uJ:=qA ((bA.cell (p:=⟨w.heap.size+1+1,0,none⟩) dz).trans fu.out);have sH:=qA ((bA.cell (p:=⟨w.heap.size+1+1,1,none⟩) dz).trans ei.out);have LXF:Hid (∀j,W.frozen? ⟨w.heap.size+1+1,j,none⟩=false):=qA fun j=>(bA.frozen (p:=⟨w.heap.size+1+1,j,none⟩) dz).trans (jf.out j);have OW:=qA (cO.out.below bA);have GW:=qA (dZ.out.trans (qAy bA));have fp:w.heap.size+1+1<W.heap.size:=tO;have mT:w1.heap.size<W.heap.size:=tO;have FD:w1.heap.size≠w.heap.size+1+1:=tO;have EG:wr.heap.size≠w.heap.size+1+1:=tO;clear bA pa pc bU;have FK:IntKind.i64.wrap (pav-1)=pav-1:=by rw[IntKind.wrap_i64];omega
       have IR:IntKind.i64.wrap (pcv-1)=pcv-1:=by rw[IntKind.wrap_i64];omega
       have f0:=BelW.cell l0 sA;have f1:=BelW.cell l1 sA;have f2:=BelW.cell l2 sA;have f3:=BelW.cell la mT;have f4:=BelW.cell lc mT;have f5:=BelW.cell lx fp;(refine qBI 17 tK tK tK tK (by rfl) (by rfl) ?_;dsimp only[dum3,dumO];(repeat(go_big_quiet_step (fail)));refine wpQuiet_nil ?_;refine⟨⟨_,fun _=>by rfl⟩,?_⟩;intro wq hw';obtain⟨pq,al⟩:=hw';have bq:=pq.h;rw[←al] at bq;clear al pq;refine⟨_,_,by rfl,?_⟩)
       clear f0 f1 f2 f3 f4 f5;simp only[FK,IR,zbr,zbD,List.map_nil,Array.empty_append,Array.append_empty];refine(show Calls Tryz.prog 194 #[.slice A2 L.length am, .agg #[.int .i64 (pav-1), .int .i64 l, .int .i64 (pcv-1)]] wq _ from ?_)
       refine(qGn _ L (pav-1,l,pcv-1) wq (OW.out.below bq).arg ⟨⟨by simp only;omega,by simp only;omega⟩,n5.out,⟨by simp only;omega,by simp only;omega⟩⟩ tO).mono ?_
       rintro e' w9 ⟨r9,rfl,o9,b9⟩;have B9:=qA (bq.trans (b9.mono bq.size));have qx:=(B9.out.cell (p:=⟨w.heap.size+1+1,2,none⟩) fp).trans lx;have qf:=(B9.out.frozen (p:=⟨w.heap.size+1+1,2,none⟩) fp).trans (LXF.out 2);have s9:W.heap.size≤w9.heap.size:=B9.out.size;have O9:=qA o9;obtain⟨A9,aT,rfl,_⟩:=o9.form;clear o9 b9;refine⟨_,rfl,?_⟩;simp only[zah,zaa,zab,zac];go_wp2;go_roundw
       case rel=>
        have g9:w5.grownBy w9 (some (w.heap.size+1+1)):=GW.out.trans (qAy B9.out);refine⟨k+1,A9,aT,tO,by go_num,by rw[F.out];exact zak _ _ _ qx,?_,g9.trans (qDC _ _ _ _),?_,?_,fun j=>by rw[za5];exact(B9.out.frozen (p:=⟨w.heap.size+1+1,j,none⟩) fp).trans (LXF.out j)⟩
        ·rw[F.out];exact(O9.out.mono (by show _≤wq.heap.size;have:=bq.size;omega)).far (show w.heap.size+1+1<w.heap.size+1+1+1 by omega) _
        ·rw[zae _ _ _ _ (by simp)];exact(B9.out.cell (p:=⟨w.heap.size+1+1,0,none⟩) fp).trans uJ.out
        ·rw[zae _ _ _ _ (by simp)];exact(B9.out.cell (p:=⟨w.heap.size+1+1,1,none⟩) fp).trans sH.out
       case measure=>simp[intOf];omega
      ·have F:=qA (uR.out (by rw[RN.out,if_neg (fun h=>t2 h.2)]));go_wp2;go_roundw
       case rel=>exact⟨k+1,A2,am,tO,by go_num,by rw[F.out,hL];exact(bA.cell (p:=⟨w.heap.size+1+1,2,none⟩) dz).trans fI.out,by rw[F.out,hL];exact cO.out.below bA,dZ.out.trans (qAy bA),(bA.cell (p:=⟨w.heap.size+1+1,0,none⟩) dz).trans fu.out,(bA.cell (p:=⟨w.heap.size+1+1,1,none⟩) dz).trans ei.out,fun j=>(bA.frozen (p:=⟨w.heap.size+1+1,j,none⟩) dz).trans (jf.out j)⟩
       case measure=>simp[intOf];omega
     ·have F:=qA (uR.out (by rw[RN.out,if_neg (fun h=>t1 h.1)]));go_wp2;go_roundw
      case rel=>exact⟨k+1,A2,am,tO,by go_num,by rw[F.out,hL];exact(bA.cell (p:=⟨w.heap.size+1+1,2,none⟩) dz).trans fI.out,by rw[F.out,hL];exact cO.out.below bA,dZ.out.trans (qAy bA),(bA.cell (p:=⟨w.heap.size+1+1,0,none⟩) dz).trans fu.out,(bA.cell (p:=⟨w.heap.size+1+1,1,none⟩) dz).trans ei.out,fun j=>(bA.frozen (p:=⟨w.heap.size+1+1,j,none⟩) dz).trans (jf.out j)⟩
      case measure=>simp[intOf];omega
    ·obtain rfl:k=es.length:=tO
     rw[zar] at bU cO;have wH:=(qAa (o:=0) dZ.out (show w.heap.size+1<w5.heap.size by omega) tO).trans (ax.out.cell (p:=⟨w.heap.size+1,0,none⟩) (show w.heap.size+1<W0.heap.size by omega));have wN:=(qAa (o:=1) dZ.out (show w.heap.size+1<w5.heap.size by omega) tO).trans (ax.out.cell (p:=⟨w.heap.size+1,1,none⟩) (show w.heap.size+1<W0.heap.size by omega));have wI:=(qAa (o:=2) dZ.out (show w.heap.size+1<w5.heap.size by omega) tO).trans (ax.out.cell (p:=⟨w.heap.size+1,2,none⟩) (show w.heap.size+1<W0.heap.size by omega));have rrf: ∀j,wr.frozen? ⟨w.heap.size+1,j,none⟩=false:=fun j=>((qFT (o:=j) dZ.out (show w.heap.size+1<w5.heap.size by omega) tO).trans (ax.out.frozen (p:=⟨w.heap.size+1,j,none⟩) (show w.heap.size+1<W0.heap.size by omega))).trans (RF.out j);obtain⟨u0,rE⟩:=R0.out;obtain⟨u1,pw⟩:=R1.out;obtain⟨u2,Ee⟩:=R2.out;have vc:=wH.trans rE;have tt:=wN.trans pw;have t8:=wI.trans Ee;have dA:=fu.out;have aQ:=ei.out;have dR:=rrf 0;have dP:=rrf 1;have dI:=rrf 2;have G8:w.heap.size+1<wr.heap.size:=tO;clear wH wN wI rE pw Ee rrf;generalize hL:srt cmpE (rnL es o)=L at*;have cd:=qA hL;clear hL;go_wp2;have c0:(((wr.setCell ⟨w.heap.size+1,0,none⟩ (.int .i64 r)).setCell ⟨w.heap.size+1,1,none⟩ (.int .i64 o.length)).setCell ⟨w.heap.size+1,2,none⟩ (.slice A2 L.length am)).cell? ⟨w.heap.size+1,0,none⟩=some (.int .i64 r):=by
      rw[zae _ _ _ _ (by simp),zae _ _ _ _ (by simp),zak _ _ _ vc]
     have c1:(((wr.setCell ⟨w.heap.size+1,0,none⟩ (.int .i64 r)).setCell ⟨w.heap.size+1,1,none⟩ (.int .i64 o.length)).setCell ⟨w.heap.size+1,2,none⟩ (.slice A2 L.length am)).cell? ⟨w.heap.size+1,1,none⟩=some (.int .i64 o.length):=by
      rw[zae _ _ _ _ (by simp)];exact zak _ _ _ ((zae _ _ _ _ (by simp)).trans tt)
     have c2:(((wr.setCell ⟨w.heap.size+1,0,none⟩ (.int .i64 r)).setCell ⟨w.heap.size+1,1,none⟩ (.int .i64 o.length)).setCell ⟨w.heap.size+1,2,none⟩ (.slice A2 L.length am)).cell? ⟨w.heap.size+1,2,none⟩=some (.slice A2 L.length am):=
      zak _ _ _ ((zae _ _ _ _ (by simp)).trans ((zae _ _ _ _ (by simp)).trans t8))
     have bw:Below w.heap.size w (((wr.setCell ⟨w.heap.size+1,0,none⟩ (.int .i64 r)).setCell ⟨w.heap.size+1,1,none⟩ (.int .i64 o.length)).setCell ⟨w.heap.size+1,2,none⟩ (.slice A2 L.length am)):=(by repeat(first | exact .refl _ _ | (refine BxS ?_ _) | (refine qB ?_ _) | (refine zaB ?_) | (refine BxA ?_ _) | (refine BxT ?_ (Hid.out kU))));have ow:OwE (((wr.setCell ⟨w.heap.size+1,0,none⟩ (.int .i64 r)).setCell ⟨w.heap.size+1,1,none⟩ (.int .i64 o.length)).setCell ⟨w.heap.size+1,2,none⟩ (.slice A2 L.length am)) (w.heap.size+1+1+1) (.slice A2 L.length am) L:=
      ((cO.out.far (by show w.heap.size+1<_;omega) _).far (by show w.heap.size+1<_;omega) _).far (by show w.heap.size+1<_;omega) _
     generalize ((wr.setCell ⟨w.heap.size+1,0,none⟩ (.int .i64 r)).setCell ⟨w.heap.size+1,1,none⟩ (.int .i64 o.length)).setCell ⟨w.heap.size+1,2,none⟩ (.slice A2 L.length am)=wf at*;refine bodyPost_ret (v:= .tuple #[.agg #[.int .i64 r, .int .i64 o.length, .slice A2 L.length am], .bool true]) (by simp[results,Tryz.results185,go_sem,c0,c1,c2]) rfl ⟨_,rfl,⟨.slice A2 L.length am,?_,?_,?_,?_⟩,bw⟩
     ·rfl
     ·show I64 r
      unfold I64;omega
     ·show I64 (o.length:Int)
      unfold I64;omega
     ·show OwE wf w.heap.size (.slice A2 L.length am) (srt cmpE (rnL es o))
      rw[cd.out];exact ow.mono tO
theorem qCp (v vo:Value) (g:GrD) (o:List Int) (w:World) (h:ArgG w v g) (ho:RdI w vo o) (hg:grB g=true) (ar:qAd g.2.1 o):
  Calls Tryz.prog 185 #[v,vo] w fun e w'=> ∃r,e= .returned (.tuple #[r, .bool true])∧OwG w' w.heap.size r (rnG g o)∧Below w.heap.size w w':=qFK v vo g o w h ho hg ar.toN
theorem qLP {g:GrD} (h1:1≤g.1∧g.1≤3) (h2:1≤g.2.1∧g.2.1≤40) (h3:g.2.2.length≤120) (hs:Srt cmpE g.2.2)
  (he: ∀e∈g.2.2,(0≤e.1∧e.1<g.2.1)∧(1≤e.2.1∧e.2.1≤g.1)∧(0≤e.2.2∧e.2.2<g.2.1)):grB g=true:=by
 have hw:wrap64 (g.2.1-1)=g.2.1-1:=by unfold wrap64;omega
 have ho: ∀k (hk:k<g.2.2.length),qAq g.1 g.2.1 g.2.2[k]=true:=fun k hk=>by
  obtain⟨⟨a1,a2⟩,⟨b1,b2⟩,c1,c2⟩:=he g.2.2[k] (by simp);unfold qAq;rw[hw];simp only[zam];exact⟨⟨qP.2 ⟨tO,tO⟩,qP.2 ⟨tO,tO⟩⟩,qP.2 ⟨tO,tO⟩⟩
 unfold grB;simp only[zam,decide_eq_true_eq,zax,zau];refine⟨⟨⟨qP.2 h1,qP.2 h2⟩,h3⟩,fun k hk=> ?_⟩;rcases Nat.eq_zero_or_pos k with rfl | h0
 ·rw[qFx hk];exact ho 0 hk
 ·rw[qGr h0 hk,ho k hk];have:=(zag.1 hs) (k-1) k tO hk tO
  simp only[zbE,zaL,decide_eq_false_iff_not];omega
theorem qQV {o:List Int} {r n:Int} {e x:EdD} (he:(0≤e.1∧e.1<n)∧(1≤e.2.1∧e.2.1≤r)∧(0≤e.2.2∧e.2.2<n)) (h:rnE o e=some x):
  (0≤x.1∧x.1<o.length)∧(1≤x.2.1∧x.2.1≤r)∧(0≤x.2.2∧x.2.2<o.length):=by
 unfold rnE at h;split at h
 ·rename_i hp
  injection h with h
  subst h;have h1:=qBu o e.1;have h2:=qBu o e.2.2;simp only
  omega
 ·cases h
theorem qKn {g:GrD} {o:List Int} (hg:grB g=true) (ho:OrdN g.2.1 o):grB (rnG g o)=true:=by
 obtain⟨h1,h2,h3,_⟩:=qR hg;have jb:o.length≤g.2.1.toNat:=qBc g.2.1.toNat o ho.1 fun y hy=>by have:=ho.2.1 y hy;omega
 have tz:1≤o.length:=ho.2.2;have iN:=qCG qAf (rnL g.2.2 o);refine qLP h1 ⟨by show(1:Int)≤(o.length:Int);omega,by show(o.length:Int)≤40;omega⟩ ?_ iN.1 fun e he=> ?_
 ·have a:=qDT (c:=cmpE) (rnL g.2.2 o);have b:=qII g.2.2 o;show(srt cmpE (rnL g.2.2 o)).length≤120
  omega
 ·have hm:=(iN.2 e).1 he;unfold rnL at hm;obtain⟨d,hd,hx⟩:=zaT.1 hm;exact qQV (qAM hg hd) hx
theorem qHh {g:GrD} {o:List Int} (hg:grB g=true) (ho:qAd g.2.1 o):grB (rnG g o)=true:=qKn hg ho.toN
def delO (n:Nat) (x:Int):List Int:=((zaq n).map fun v=>((v:Nat):Int)).filter fun y=>decide (y≠x)
theorem qBx (n:Nat) (x:Int):delO (n+1) x=if(n:Int)≠x then delO n x++ [(n:Int)] else delO n x:=by
 unfold delO;rw[zbz,zaP,zaJ];by_cases h:(n:Int)=x<;>simp[h]
theorem qEf {n:Nat} {x y:Int}:y∈delO n x↔(0≤y∧y<n)∧y≠x:=by
 unfold delO;simp only[List.mem_filter,zbi,zau,decide_eq_true_eq];constructor
 ·rintro⟨⟨v,hv,rfl⟩,h⟩
  exact⟨⟨tO,tO⟩,h⟩
 ·rintro⟨⟨h0,h1⟩,h⟩
  exact⟨⟨y.toNat,tO,tO⟩,h⟩
theorem qHX (n:Nat) (x:Int):(delO n x).Nodup:=by
 induction n with
 | zero=>exact List.nodup_nil
 | succ n ih=>
   rw[qBx];split
   ·rw[List.nodup_append];refine⟨ih,by simp,fun a ha b hb e=> ?_⟩;have:=(qEf.1 ha).1.2
    simp only[zaE] at hb;omega
   ·exact ih
theorem qMk {n:Nat} {x:Int} (hn:1≤n) (hx:1≤x):(delO n x)[0]? =some 0:=by
 obtain⟨m,rfl⟩: ∃m,n=m+1:=⟨n-1,tO⟩;induction m with
 | zero=>
   rw[qBx,if_pos tO];rfl
 | succ m ih=>
   rw[qBx];have:=ih tO
   split
   ·rw[List.getElem?_append_left (by
     cases h:delO (m+1) x with
     | nil=>rw[h] at this;cases this
     | cons _ _=>simp)]
    exact this
   ·exact this
theorem qGx {n:Nat} {x:Int} (hn:1≤n) (hx:1≤x):qAd (n:Int) (delO n x):=
 ⟨qHX n x,fun y hy=>(qEf.1 hy).1,qMk hn hx⟩
theorem qOK {n:Nat} {x:Int} (hx:0≤x) (ye:x<n):(delO n x).length+1≤n:=by
 have h1:(delO n x).length≤n-1:=by
  have hn:=qHX n x;have key:=qBc (n-1) ((delO n x).map fun y=>if y<x then y else y-1) ?_ ?_
  ·rwa [zaI] at key
  ·unfold List.Nodup at*;rw[List.pairwise_map];refine hn.imp_of_mem fun {a b} ha hb hab e=>hab ?_;have h1:=(qEf.1 ha).2;have h2:=(qEf.1 hb).2;split at e<;>split at e<;>omega
  ·intro y hy;obtain⟨z,hz,rfl⟩:=zbi.1 hy;obtain⟨⟨a,b⟩,c⟩:=qEf.1 hz;split<;>omega
 omega
theorem qDn (es:List EdD) (n:Nat): ∀f v:Nat,qAU es n f v= -1∨((v:Int)≤qAU es n f v∧qAU es n f v<n)
 | 0,v=> .inl rfl
 | f+1,v=>by
   unfold qAU;split
   ·split
    ·right;omega
    ·rcases qDn es n f (v+1) with h | h
     ·exact .inl h
     ·right;omega
   ·exact .inl rfl
theorem qCm (es:List EdD) (n:Nat):qAG es n= -1∨(1≤qAG es n∧qAG es n<n):=by
 have:=qDn es n (n-1) 1
 unfold qAG;omega
section
open Go.RowKit Go.Shelf Go.Lib Go.Sort
def Tryz.sortE_ren:Go.Shelf.Ren:=⟨fun | 6=>189 | 15=>120 | 14=>202 | 28=>143 | 29=>144 | 20=>208 | 21=>209 | 22=>210 | 23=>211 | 24=>212 | 25=>213 | 26=>214 | 27=>215 | 46=>218 | 47=>159 | 48=>160 | 49=>219 | 50=>220 | 57=>222 | n=>n,fun | 22=>80 | 24=>154 | 25=>168 | 3=>3 | 39=>119 | 0=>0 | 53=>139 | 55=>141 | 4=>4 | 46=>132 | 45=>131 | 50=>136 | 5=>5 | 9=>9 | 66=>156 | 70=>160 | 76=>171 | 77=>172 | n=>n,fun | n=>n⟩
theorem Tryz.sortE:Go.Proofs.SlLaysF0.n6 Tryz.prog Tryz.sortE_ren:= {
 mixed:=by kernel_rfl,
 f6:=⟨Tryz.f189.name,by decide,Tryz.func189.trans (congrArg some tK)⟩,
 f14:=⟨Tryz.f202.name,by decide,Tryz.func202.trans (congrArg some tK)⟩,
 f15:=Tryz.func120.trans (congrArg some tK),
 f20:=⟨Tryz.f208.name,by decide,Tryz.func208.trans (congrArg some tK)⟩,
 f21:=⟨Tryz.f209.name,by decide,Tryz.func209.trans (congrArg some tK)⟩,
 f22:=⟨Tryz.f210.name,by decide,Tryz.func210.trans (congrArg some tK)⟩,
 f23:=⟨Tryz.f211.name,by decide,Tryz.func211.trans (congrArg some tK)⟩,
 f24:=⟨Tryz.f212.name,by decide,Tryz.func212.trans (congrArg some tK)⟩,
 f25:=⟨Tryz.f213.name,by decide,Tryz.func213.trans (congrArg some tK)⟩,
 f26:=⟨Tryz.f214.name,by decide,Tryz.func214.trans (congrArg some tK)⟩,
 f27:=⟨Tryz.f215.name,by decide,Tryz.func215.trans (congrArg some tK)⟩,
 f28:=Tryz.func143.trans (congrArg some tK),
 f29:=Tryz.func144.trans (congrArg some tK),
 f46:=⟨Tryz.f218.name,by decide,Tryz.func218.trans (congrArg some tK)⟩,
 f47:=Tryz.func159.trans (congrArg some tK),
 f48:=Tryz.func160.trans (congrArg some tK),
 f49:=⟨Tryz.f219.name,by decide,Tryz.func219.trans (congrArg some tK)⟩,
 f50:=⟨Tryz.f220.name,by decide,Tryz.func220.trans (congrArg some tK)⟩,
 f57:=⟨Tryz.f222.name,by decide,Tryz.func222.trans (congrArg some tK)⟩,
 t0:=Tryz.underlying0,
 a0:=Tryz.isAgg0,
 z0:=Tryz.sizeOf0,
 v0:=Tryz.zeroValue0,
 t3:=Tryz.underlying3,
 a3:=Tryz.isAgg3,
 z3:=Tryz.sizeOf3,
 v3:=Tryz.zeroValue3,
 t4:=Tryz.underlying4,
 a4:=Tryz.isAgg4,
 z4:=Tryz.sizeOf4,
 v4:=Tryz.zeroValue4,
 t5:=Tryz.underlying5,
 a5:=Tryz.isAgg5,
 z5:=Tryz.sizeOf5,
 v5:=Tryz.zeroValue5,
 t9:=Tryz.underlying9,
 a9:=Tryz.isAgg9,
 z9:=Tryz.sizeOf9,
 v9:=Tryz.zeroValue9,
 t22:=Tryz.underlying80,
 a22:=Tryz.isAgg80,
 z22:=Tryz.sizeOf80,
 v22:=Tryz.zeroValue80,
 t25:=Tryz.underlying168,
 a25:=Tryz.isAgg168,
 z25:=Tryz.sizeOf168,
 v25:=Tryz.zeroValue168,
 t39:=Tryz.underlying119,
 a39:=Tryz.isAgg119,
 z39:=Tryz.sizeOf119,
 v39:=Tryz.zeroValue119,
 t45:=Tryz.underlying131,
 a45:=Tryz.isAgg131,
 z45:=Tryz.sizeOf131,
 v45:=Tryz.zeroValue131,
 t46:=Tryz.underlying132,
 a46:=Tryz.isAgg132,
 z46:=Tryz.sizeOf132,
 v46:=Tryz.zeroValue132,
 t50:=Tryz.underlying136,
 a50:=Tryz.isAgg136,
 z50:=Tryz.sizeOf136,
 v50:=Tryz.zeroValue136,
 t53:=Tryz.underlying139,
 a53:=Tryz.isAgg139,
 z53:=Tryz.sizeOf139,
 v53:=Tryz.zeroValue139,
 t55:=Tryz.underlying141,
 a55:=Tryz.isAgg141,
 z55:=Tryz.sizeOf141,
 v55:=Tryz.zeroValue141,
 t66:=Tryz.underlying156,
 a66:=Tryz.isAgg156,
 z66:=Tryz.sizeOf156,
 v66:=Tryz.zeroValue156,
 t70:=Tryz.underlying160,
 a70:=Tryz.isAgg160,
 z70:=Tryz.sizeOf160,
 v70:=Tryz.zeroValue160,
 t76:=Tryz.underlying171,
 a76:=Tryz.isAgg171,
 z76:=Tryz.sizeOf171,
 v76:=Tryz.zeroValue171,
 t77:=Tryz.underlying172,
 a77:=Tryz.isAgg172,
 z77:=Tryz.sizeOf172,
 v77:=Tryz.zeroValue172}
theorem qOJ:SWO (ltOf cmpE) where
 irrefl x:=by
  unfold ltOf;simpa using qAf.irrefl x
 trans x y z h1 h2:=by
  unfold ltOf at*;simp only[decide_eq_true_eq] at*;exact qAf.trans h1 h2
 ntrans x y z h1 h2:=by
  unfold ltOf at*;simp only[decide_eq_false_iff_not] at*;rw[qFj] at*;omega
theorem qDI (a b:EdD) (w:World):
  Calls Tryz.prog 176 #[edV a,edV b] w fun e w'=>e= .returned (.int .i64 (cmpE a b))∧ ∃q os',w'=grow (w.drewN q) os':=by
 obtain⟨x,y,z⟩:=a;obtain⟨x',y',z'⟩:=b;unfold edV;rcases e1:(cmpI x x' != 0) with _ | _
 ·rcases e2:(cmpI y y' != 0) with _ | _
  ·have F:Hid (cmpE (x,y,z) (x',y',z')=cmpI z z'):=qA (by simp at e1 e2;simp[cmpE,e1,e2]);go_enter Tryz.func176,Tryz.ntmps176
   go_wp2_with (go_at_call 101;refine(qV _ _ _).mono ?_;rintro e w' ⟨rfl,rfl⟩)
   go_ret;exact⟨qU F.out.symm,0,_,by rw[alloc_eq_grow,alloc_eq_grow,grow_grow];rfl⟩
  ·have F:Hid (cmpE (x,y,z) (x',y',z')=cmpI y y'):=qA (by simp at e1 e2;simp[cmpE,e1,e2]);go_enter Tryz.func176,Tryz.ntmps176
   go_wp2_with (go_at_call 101;refine(qV _ _ _).mono ?_;rintro e w' ⟨rfl,rfl⟩)
   go_ret;exact⟨qU F.out.symm,0,_,by rw[alloc_eq_grow,alloc_eq_grow,grow_grow];rfl⟩
 ·have F:Hid (cmpE (x,y,z) (x',y',z')=cmpI x x'):=qA (by simp at e1;simp[cmpE,e1]);go_enter Tryz.func176,Tryz.ntmps176
  go_wp2_with (go_at_call 101;refine(qV _ _ _).mono ?_;rintro e w' ⟨rfl,rfl⟩)
  go_ret;exact⟨qU F.out.symm,0,_,by rw[alloc_eq_grow,alloc_eq_grow,grow_grow];rfl⟩
theorem qGV (e:EdD):(edC e).length=3:=rfl
theorem qPd (e:EdD) (v:Value) (h:v∈edC e):v.oneCell'=true:=by
 simp[edC] at h
 rcases h with rfl | rfl | rfl<;>rfl
theorem qIo (d:Array EdD) (j:Nat) (h:j<d.size*3):(flatK edC 3 d)[j]! =(edC d[j/3]!)[j%3]! :=by
 unfold flatK;rw[getElem!_pos _ _ (by simpa using h)];simp
theorem qMh (es:List EdD) (j:Nat) (h:j<es.length*3):(edCs es)[j]? =some ((edC (es.toArray)[j/3]!)[j%3]!):=by
 have hk:j/3<es.length:=tO;have:=qHl es (j/3) (j%3) hk tO
 rw[show j/3*3+j%3=j by omega] at this;rw[this,zaD (show j%3<(edC es[j/3]).length by rw[qGV];omega)];rw[getElem!_pos (es.toArray) _ (by simpa using hk),getElem!_pos _ _ (by rw[qGV];omega)];simp
theorem OwE.holdsK {w:World} {base g n cap:Nat} {es:List EdD} (h:OwE w base (.slice (some ⟨g,0,none⟩) n cap) es):HoldsK edC 3 w g 0 es.toArray:=by
 have hn:n=es.length:=by
  rcases h.1.2 with ⟨hv,_⟩ | ⟨g',cap',cur,hv,_⟩
  ·cases hv
  ·injection hv
 subst hn;intro j hj;have eP:j<es.length*3:=by simpa[flatK] using hj
 refine⟨?_,h.free _⟩;rw[zal,h.1.cellAt j eP,qIo _ _ (by simpa using eP)];exact qMh es j eP
theorem qHp {w:World} {base g n cap:Nat} {es:List EdD} (h:OwE w base (.slice (some ⟨g,0,none⟩) n cap) es) (d:Array EdD) (hd:d.size=es.length) (hE:E64s d.toList) (q:Nat) (os:Array Obj):
  OwE (sortWorldK edC 3 w g 0 q d os) base (.slice (some ⟨g,0,none⟩) n cap) d.toList∧w.grownBy (sortWorldK edC 3 w g 0 q d os) (some g):=by
 have ac:=(h.1.lt g rfl).2;have nB: ∀b,b<w.heap.size→(sortWorldK edC 3 w g 0 q d os).heap[b]? =if g=b then(w.heap[b]?).map (onCells (putCells id 0 (flatK edC 3 d))) else w.heap[b]? :=by
  intro b hb;show((w.heap.modify g (onCells (putCells id 0 (flatK edC 3 d))))++os)[b]? =_
  rw[Array.getElem?_append_left (by simpa using hb),Array.getElem?_modify]
 refine⟨⟨⟨by rw[qBr],?_⟩,hE⟩,rfl,rfl,rfl,?_,fun b hb ai=> ?_⟩
 ·rcases h.1.2 with ⟨hv,_⟩ | ⟨g',cap',cur,hv,hg,hh,hnc,fB,eR,htake⟩
  ·cases hv
  ·injection hv with e1 e2 e3
   injection e1 with e1
   injection e1 with e1
   subst e1 e2 e3;refine .inr ⟨g,cap,putCells id 0 (flatK edC 3 d) cur,by simp[hd],hg,?_,by simp[hd];exact hnc,fB,by simp[putCells,eR],?_⟩
   ·rw[nB g ac,if_pos rfl,hh];rfl
   ·apply zaW
    intro j;rw[List.getElem?_take];split
    ·rename_i hj
     rw[Array.length_toList] at hj;have pd:j<cur.size:=by rw[eR];have:d.size*3≤cap*3:=zaQ 3 tO;omega
     rw[qMh _ _ (by simpa using hj),Array.getElem?_toList];simp only[putCells,Array.getElem?_mapIdx];rw[Array.getElem?_eq_getElem pd];simp only[zby,zap,true_and,zal,zbj,id];rw[if_pos (by simpa[flatK] using hj),qIo _ _ hj]
    ·rename_i hj
     rw[za3 (by rw[qBr];omega)]
 ·show w.heap.size≤((w.heap.modify g (onCells (putCells id 0 (flatK edC 3 d))))++os).size
  simp
 ·rw[nB b hb,if_neg (fun e=>ai (by rw[e]))]
theorem qIk (g n cap base:Nat) (es:List EdD) (w:World) (h:OwE w base (.slice (some ⟨g,0,none⟩) n cap) es) (hl:es.length≤1073741824):
  Calls Tryz.prog 189 #[.slice (some ⟨g,0,none⟩) n cap, .func (.func 176) #[] #[]] w fun e w'=>
   e= .returned (.tuple #[])∧ ∃es',OwE w' base (.slice (some ⟨g,0,none⟩) n cap) es'∧es'.Perm es∧(es'.Pairwise fun a b=> ¬0<cmpE a b)∧w.grownBy w' (some g):=by
 have hn:n=es.length:=by
  rcases h.1.2 with ⟨hv,_⟩ | ⟨g',cap',cur,hv,_⟩
  ·cases hv
  ·injection hv
 subst hn;have eg: ∀args w,(callFunc 176 args).run Tryz.prog w= .ok (.enter 176 args) w:=enters_of Tryz.func176 tK rfl;have iV:=AnyQ.slices_SortFunc Tryz.sortE 3 Tryz.isAgg154 Tryz.sizeOf154 edC qGV qPd cmpE qOJ 176 #[] g 0 cap es.toArray w eg (fun _ _ _ _ x y=>qDI x y _) h.holdsK (h.1.lt g rfl).2 (by simp;omega);change Calls Tryz.prog 189 _ _ _ at iV;refine iV.mono ?_;rintro e w' ⟨rfl,d,q,os,hp,hs,rfl⟩;obtain⟨p1,_,p3⟩:=hp;have da:d.toList.Perm es:=by
  have e1:d.extract 0 es.toArray.size=d:=by rw[←p1];simp
  have e2:es.toArray.extract 0 es.toArray.size=es.toArray:=by simp
  rw[e1,e2] at p3;simpa using p3
 have hE:E64s d.toList:=fun x hx=>h.2 x (da.mem_iff.1 hx);obtain⟨o1,g1⟩:=qHp h d (by simpa using p1) hE q os;refine⟨rfl,d.toList,o1,da,?_,g1⟩;rw[zag];intro i j hi hj dh;have db:i<d.size:=by simpa using hi
 have eP:j<d.size:=by simpa using hj
 have:=hs i j (zap _) dh (by rw[←p1];exact eP)
 unfold ltOf at this;rw[decide_eq_false_iff_not,getElem!_pos d j eP,getElem!_pos d i db] at this;rw[za8,za8];intro h0;exact this (qAf.anti.2 h0)
end
theorem qIn (A:Option Addr) (n cap:Nat) (es:List EdD) (w:World) (h:ArgE w (.slice A n cap) es) (hs:Srt cmpE es):
  Calls Tryz.prog 190 #[.slice A n cap] w fun e w'=>e= .returned (.slice A n cap)∧ ∃q,w'=w.drewN q:=by
 have H:=qA h;obtain⟨A',cap',hv,aj,hm,_⟩:=h;injection hv with e1 e2 e3
 subst e1 e2 e3;unfold maxLen at hm;have HS:=qA hs;clear hs;by_cases aK:es.length<2
 ·have h1:(es.length:Int)<2:=tO;go_enter Tryz.func190,Tryz.ntmps190
  go_wp2;go_ret;exact⟨rfl,0,rfl⟩
 ·have h1: ¬(es.length:Int)<2:=tO;go_enter Tryz.func190,Tryz.ntmps190
  go_wp2;go_loopw [3] (fun i wr=> ∃k:Nat,k+1≤es.length∧i= .int .i64 ((k:Int)+1)∧ ∃q,wr=w.drewN q) (fun i _=>es.length-(intOf i).toNat)
  case atStart=>exact⟨0,tO,rfl,0,rfl⟩
  case round=>
   obtain⟨k,hk,rfl,q,rfl⟩:=hrel;by_cases ac:k+1<es.length
   ·obtain⟨b,off,rfl,aM,c0,c1,c2,_⟩:=H.out.at ac;obtain⟨b2,dL,fo,_,d0,d1,d2,_⟩:=H.out.at (k:=k) tO;obtain⟨rfl,rfl⟩:b=b2∧off=dL:=by simpa using fo
    have ai:decide (es[k+1]=es[k])=false:=by
     rw[decide_eq_false_iff_not];intro e;have:=(zag.1 HS.out) k (k+1) tO ac tO
     rw[e] at this;exact qAf.irrefl _ this
    have i0:(0:Int)≤(k:Int):=tO;have i1:(k:Int)<(es.length:Int):=tO;have i2:(k:Int)+1<(es.length:Int):=tO;have i3:(0:Int)≤(k:Int)+1:=tO;have i4:((k:Int)+1).toNat=k+1:=tO;have i5:IntKind.i64.wrap ((k:Int)+1-1)=(k:Int):=by rw[IntKind.wrap_i64];omega
    clear fo;have jd:=fun w=>qLR es[k+1] es[k] w;rw[ai] at jd;unfold edV at jd;have bO:=qDd;generalize es[k]=y at*;generalize es[k+1]=x at*;go_wp2;go_quiet (fail)
    go_wp2;go_roundw
    case rel=>exact⟨k+1,tO,by go_num,_,rfl⟩
    case measure=>simp[intOf];omega
   ·have bV:k+1=es.length:=tO;have i2: ¬(k:Int)+1<(es.length:Int):=tO;go_wp2;go_ret;exact⟨rfl,q,rfl⟩
theorem qMD (v:Value) (es:List EdD) (w:World) (h:ArgE w v es) (fJ:es.Nodup) (hl:es.length≤1073741824):
  Calls Tryz.prog 172 #[v] w fun e w'=> ∃r,e= .returned r∧OwE w' w.heap.size r (srt cmpE es)∧Below w.heap.size w w':=by
 have H:=qA h;obtain⟨A,cap,rfl⟩:=h.form;clear h;go_enter Tryz.func172,Tryz.ntmps172
 go_wp2_with (at_builtin;refine qFR rfl (.tmp 4) (.tmp 5) rfl w.heap.size _ [] (qKE _ (zad _)) rfl _ es (H.out.alloc _) rfl (by simp;omega) (by simp) ?_;intro v1 w1 o1 g1 p1)
 have O1:Hid (OwE w1 w.heap.size v1 es):=qA (by simpa using o1);have B1:Hid (Below w.heap.size w w1):=qA (((zaC _ _).alloc (zad _) _).grown g1 (by simp) (fun k hk=>by simp[zav] at hk;omega));obtain⟨g,ah,rfl⟩: ∃g ah,v1= .slice (some ⟨g,0,none⟩) es.length ah:=by
  obtain⟨A1,ah,rfl,_⟩:=O1.out.form;rcases O1.out.1.2 with ⟨hv,_⟩ | ⟨g',cap',cur,hv,_⟩
  ·rw[hv] at p1;simp[zav] at p1
  ·injection hv with e1 e2 e3
   subst e1;exact⟨g',ah,rfl⟩
 clear g1 o1 p1;refine(qIk g es.length ah w.heap.size es w1 O1.out hl).mono ?_
 rintro e w2 ⟨rfl,es',o2,hp,sP,g2⟩;have iY:es'.Nodup:=hp.nodup_iff.2 fJ;have hS:Srt cmpE es':=(sP.and iY).imp fun {a b} ⟨h1,h2⟩=>by
  have:cmpE a b≠0:=fun e=>h2 (qCY.1 e)
  omega
 have hE:es'=srt cmpE es:=qKV qAf hS fun x=>hp.mem_iff;have O2:=qA o2;have B2:=qA (B1.out.grown g2 B1.out.size (fun k hk=>by cases hk;exact(O1.out.1.lt g rfl).1));have HE:=qA hE;have HS:=qA hS;clear o2 g2 hp sP iY hE hS;go_wp2_with fail;refine(qIn _ _ _ es' w2 O2.out.arg HS.out).mono ?_
 rintro e w3 ⟨rfl,q,rfl⟩;go_wp2;go_ret;exact⟨_,rfl,by rw[←HE.out];exact O2.out.drewN q,qB B2.out q⟩
def ddAt (es:List EdD) (j:Nat):List EdD:=if 0<j∧es.getD j (0,0,0)=es.getD (j-1) (0,0,0) then [] else [es.getD j (0,0,0)]
def ddU (es:List EdD):Nat→List EdD
 | 0=> []
 | j+1=>ddU es j++ddAt es j
theorem qGN {es:List EdD} {j:Nat} (h0:0<j) (hj:j<es.length) (h:es[j]=es[j-1]):ddU es (j+1)=ddU es j:=by
 show ddU es j++ddAt es j=_
 unfold ddAt;rw[if_pos ⟨h0,by simp[zbC,hj,show j-1<es.length by omega,h]⟩,zaZ]
theorem qEY {es:List EdD} {j:Nat} (hj:j<es.length) (h: ∀_:0<j,es[j]≠es[j-1]):ddU es (j+1)=ddU es j++ [es[j]]:=by
 show ddU es j++ddAt es j=_
 unfold ddAt;rw[if_neg]
 ·simp[zbC,hj]
 ·rintro⟨h0,e⟩
  exact h h0 (by simpa[zbC,hj,show j-1<es.length by omega] using e)
theorem qLB {es:List EdD} (hs:es.Pairwise fun a b=>cmpE a b≤0): ∀j,j≤es.length→Srt cmpE (ddU es j)∧ ∀x,x∈ddU es j↔x∈es.take j
 | 0,_=>⟨List.Pairwise.nil,fun x=>by simp[ddU]⟩
 | j+1,hj=>by
   obtain⟨h1,h2⟩:=qLB hs j tO;have dW:j<es.length:=tO;have ht:es.take (j+1)=es.take j++ [es[j]]:=zaf dW;by_cases hd: ∃h0:0<j,es[j]=es[j-1]
   ·obtain⟨h0,e⟩:=hd;rw[qGN h0 dW e];refine⟨h1,fun x=> ?_⟩;rw[h2,ht,za0,zaE];refine⟨.inl,fun h=> ?_⟩;rcases h with h | h
    ·exact h
    ·rw[h,e];exact za9.2 ⟨j-1,by rw[zaj];omega,by rw[zaK]⟩
   ·rw[qEY dW fun h0 e=>hd ⟨h0,e⟩];refine⟨List.pairwise_append.2 ⟨h1,List.pairwise_singleton _ _,fun x hx y hy=> ?_⟩,fun x=> ?_⟩
    ·rw[zaE.1 hy];obtain⟨i,hi,rfl⟩:=za9.1 ((h2 x).1 hx);rw[zaj] at hi;rw[zaK];have fe:=(zag.1 hs) i j tO dW tO;have h0:0<j:=tO;have ai:cmpE es[j-1] es[j]≠0:=fun e=>hd ⟨h0,(qCY.1 e).symm⟩;have wS:=(zag.1 hs) (j-1) j tO dW tO;by_cases dh:i=j-1
     ·subst dh;omega
     ·have Fl:=(zag.1 hs) i (j-1) tO tO tO;by_cases h3:cmpE es[i] es[j-1]=0
      ·rw[qCY.1 h3];omega
      ·exact qAf.trans tO (show cmpE es[j-1] es[j]<0 by omega)
    ·rw[za0,h2,ht,za0]
theorem qPm {es:List EdD} (hs:es.Pairwise fun a b=>cmpE a b≤0) {L:List EdD} (hm: ∀x,x∈es↔x∈L):ddU es es.length=srt cmpE L:=by
 obtain⟨h1,h2⟩:=qLB hs es.length (zad _);exact qKV qAf h1 fun x=>by rw[h2,zar,hm]
theorem qNg {w:World} {base g cap k o:Nat} {es:List EdD} (h:OwE w base (.slice (some ⟨g,0,none⟩) k cap) es) (ho:k*3≤o): ∀(vs:List Value) (o':Nat),o≤o'→OwE (w.setCells g o' vs) base (.slice (some ⟨g,0,none⟩) k cap) es∧w.grownBy (w.setCells g o' vs) (some g):=by
 intro vs;induction vs generalizing w with
 | nil=>intro o' _;exact⟨h,zbc.refl _ _⟩
 | cons v vs ih=>
   intro o' bi;have hk:k=es.length:=by
    obtain⟨_,_,hv,_⟩:=OwE.form h;injection hv
   subst hk;have hst:=World.ownsRow.stored h.1 o' v;have hl:=h.1.1;rw[List.set_eq_of_length_le tO] at hst;obtain⟨i1,i2⟩:=ih (w:=w.setCell ⟨g,o',none⟩ v) ⟨hst.1,h.2⟩ (o'+1) tO;exact⟨i1,hst.2.trans i2⟩
theorem OwE.head {w:World} {base g n cap k:Nat} {es:List EdD} (h:OwE w base (.slice (some ⟨g,0,none⟩) n cap) es) (hk:k≤es.length):OwE w base (.slice (some ⟨g,0,none⟩) k cap) (es.take k):=by
 have hn:n=es.length:=by
  obtain⟨_,_,hv,_⟩:=OwE.form h;injection hv
 subst hn;have h1:=qJL h.1 rfl hk;refine⟨?_,fun e he=>h.2 e (List.mem_of_mem_take he)⟩;have hl:(es.take k).length=k:=by rw[zaj];omega
 rw[hl];have e:edCs (es.take k)=(edCs es).take (k*3):=by
  have h2:edCs es=edCs (es.take k)++edCs (es.drop k):=by rw[←qCg,List.take_append_drop]
  rw[h2,List.take_left' (by rw[qBr,hl])]
 rw[e];exact h1
theorem qLk (n:Nat):(Builtin.zeroCells (za1 #[.int .i64 0, .int .i64 0, .int .i64 0]).cells n).toList.length=n*3∧ ∀v∈(Builtin.zeroCells (za1 #[.int .i64 0, .int .i64 0, .int .i64 0]).cells n).toList,v.oneCell'=true:=by
 have hc:(za1 #[.int .i64 0, .int .i64 0, .int .i64 0]).cells= #[.int .i64 0, .int .i64 0, .int .i64 0]:=by simp[Value.cells]
 rw[hc];refine⟨by simp[Builtin.zeroCells],fun v hv=> ?_⟩;simp only[Builtin.zeroCells,Array.toList_map,zbi] at hv;obtain⟨i,_,rfl⟩:=hv;have h3: #[zaS IntKind.i64 0,zaS IntKind.i64 0,zaS IntKind.i64 0].size=3:=rfl;rw[h3];have:i%3=0∨i%3=1∨i%3=2:=tO
 rcases this with e | e | e<;>rw[e]<;>rfl
theorem qGW (w:World) (g o n c:Nat) (hn:0<n) (hc: ∀j,j<n*3→(w.cell? ⟨g,o+j,none⟩).isSome=true) (hf: ∀j,j<n*3→w.frozen? ⟨g,o+j,none⟩=false):
  ∃vs,∀ty,(Builtin.clear_ #[80] ty #[.slice (some ⟨g,o,none⟩) n c]).run Tryz.prog w= .ok (.tuple #[]) (w.setCells g o vs):=by
 obtain⟨h1,h2⟩:=qLk n;obtain⟨i0,a7,aS,_,_⟩:=info_parts qEG;refine⟨(Builtin.zeroCells (za1 #[.int .i64 0, .int .i64 0, .int .i64 0]).cells n).toList,fun ty=> ?_⟩;have hst:=run_storeCells_cells (P:=Tryz.prog) g o (Builtin.zeroCells (za1 #[.int .i64 0, .int .i64 0, .int .i64 0]).cells n).toList 0 w (by rw[h1];simpa using hc) (by rw[h1];simpa using hf) h2;simp only[zaG] at hst;have hv: ∀w,(zeroValue 154).run Tryz.prog w= .ok (.agg #[.int .i64 0, .int .i64 0, .int .i64 0]) w:=fun w=>by rfl
 obtain⟨m,rfl⟩: ∃m,n=m+1:=⟨n-1,tO⟩;simp[Builtin.clear_,run_underlying Tryz.underlying80,hv,hst]
theorem qKU: ∀(R:List EdD) (k:Nat) (x:EdD),k<R.length→(R.set k x).take (k+1)=R.take k++ [x]
 | [],k,x,h=>by cases h
 | a::R,0,x,_=>by simp
 | a::R,k+1,x,h=>by
   have:=qKU R k x (by simpa using h)
   simp only[zac,List.take_succ_cons,zbq];rw[this]
theorem qKW: ∀(R:List EdD) (k m:Nat) (x:EdD),k<m→(R.set k x).drop m=R.drop m
 | [],k,m,x,h=>by simp
 | a::R,0,m+1,x,_=>by simp
 | a::R,k+1,m+1,x,h=>by
   have:=qKW R k m x tO
   simpa using this
theorem qIp (g n cap base:Nat) (es:List EdD) (w:World) (h:OwE w base (.slice (some ⟨g,0,none⟩) n cap) es) (hl:es.length≤1073741824):
  Calls Tryz.prog 190 #[.slice (some ⟨g,0,none⟩) n cap] w fun e w'=>e= .returned (.slice (some ⟨g,0,none⟩) (ddU es es.length).length cap)∧OwE w' base (.slice (some ⟨g,0,none⟩) (ddU es es.length).length cap) (ddU es es.length)∧w.grownBy w' (some g):=by
 obtain⟨_,_,hv,aj,hm,_,hg⟩:=h.form;injection hv with e1 e2 e3
 subst e1 e2 e3;unfold maxLen at hm;have H:=qA h;clear h hg;by_cases aK:es.length<2
 ·have h1:(es.length:Int)<2:=tO;have hd:ddU es es.length=es:=by
   match es,aK with
   | [],_=>rfl
   | [a],_=>simp[ddU,ddAt]
  rw[hd];go_enter Tryz.func190,Tryz.ntmps190
  go_wp2;go_ret;exact⟨rfl,H.out,zbc.refl _ _⟩
 ·have h1: ¬(es.length:Int)<2:=tO;go_enter Tryz.func190,Tryz.ntmps190
  go_wp2;go_loopw [3] (fun i wr=> ∃k:Nat,k+1≤es.length∧i= .int .i64 ((k:Int)+1)∧ddU es (k+1)=es.take (k+1)∧ ∃q,wr=w.drewN q) (fun i _=>es.length-(intOf i).toNat)
  case atStart=>exact⟨0,tO,rfl,by rw[qEY tO (fun h=>absurd h tO)];rw[zaf tO];rfl,0,rfl⟩
  case round=>
   obtain⟨k,hk,rfl,vC,q,rfl⟩:=hrel;have xn:=qA vC;clear vC;by_cases ac:k+1<es.length
   ·obtain⟨c0,c1,c2⟩:=H.out.cellAt (k+1) ac;obtain⟨d0,d1,d2⟩:=H.out.cellAt k tO;have i0:(0:Int)≤(k:Int):=tO;have i1:(k:Int)<(es.length:Int):=tO;have i2:(k:Int)+1<(es.length:Int):=tO;have i3:(0:Int)≤(k:Int)+1:=tO;have i4:((k:Int)+1).toNat=k+1:=tO;have i5:IntKind.i64.wrap ((k:Int)+1-1)=(k:Int):=by rw[IntKind.wrap_i64];omega
    have jd:=fun w=>qLR es[k+1] es[k] w;unfold edV at jd;have bO:=qDd;by_cases he:es[k+1]=es[k]
    ·have yf:=qA (qGN (es:=es) (j:=k+1) tO ac he);rw[decide_eq_true he] at jd;generalize es[k]=y at*;generalize es[k+1]=x at*;go_wp2;go_quiet (fail)
     have lT: ¬cap=k+1:=tO;have i6:(k:Int)+1≤(es.length:Int):=tO;have i7:(es.length:Int)≤(cap:Int):=tO;have BV:=qA H.out.free;have og:Hid ((ddU es (k+2)).length=k+1∧es.take (k+1)=ddU es (k+2)):=qA (by
      have h1:=yf.out;rw[xn.out] at h1;exact⟨by rw[show k+2=k+1+1 from rfl,h1,zaj];omega,h1.symm⟩)
     clear c0 c1 c2 d0 d1 d2;go_wp2;obtain⟨rem,gG⟩: ∃r,r=es.length-(k+1):=⟨_,rfl⟩;have tW:rem+(k+1)=es.length:=tO;have gF:=qA gG;clear gG;rw[←gF.out];go_loopw [3,5] (fun s3 s5 wr=> ∃(kk t:Nat) (R:List EdD),s3= .int .i64 kk∧s5= .int .i64 ((t:Int)+1)∧t+1≤rem∧kk=(ddU es (k+t+2)).length∧R.length=es.length∧R.take kk=ddU es (k+t+2)∧R.drop (k+t+1)=es.drop (k+t+1)∧kk≤k+t+1∧OwE wr base (.slice (some ⟨g,0,none⟩) es.length cap) R∧w.grownBy wr (some g)) (fun _ i _=>rem-(intOf i).toNat)
     case atStart=>exact⟨k+1,0,es,by go_num,rfl,tO,og.out.1.symm,rfl,og.out.2,rfl,tO,H.out.drewN _,⟨rfl,rfl,rfl,zad _,fun _ _ _=>rfl⟩⟩
     case round=>
      obtain⟨kk,t,R,rfl,rfl,ht,mw,vD,uW,rQ,Kt,vL,bF⟩:=hrel;have ff:=qA vL;have aD:=qA bF;have Bi:=qA uW;have gR:=qA rQ;have CX:=qA mw;have uV:=qA vD;obtain⟨wi,rfl⟩: ∃wi:World,wi=wr:=⟨_,rfl⟩;have iR: ∀j (hj:j<es.length),k+t+1≤j→R[j]'tO=es[j]:=fun j hj fe=>by
       have e1:(R.drop (k+t+1))[j-(k+t+1)]? =(es.drop (k+t+1))[j-(k+t+1)]? :=by rw[rQ]
       rw[zbk,zbk,show k+t+1+(j-(k+t+1))=j by omega,zaD tO,zaD hj] at e1;injection e1
      have vM:=qA ff.out.free;by_cases gV:t+1<rem
      ·have bg:k+t+2<es.length:=tO;obtain⟨c0,c1,c2⟩:=ff.out.cellAt (k+t+2) tO;obtain⟨d0,d1,d2⟩:=ff.out.cellAt (k+t+1) tO;rw[iR (k+t+2) bg tO,show(k+t+2)*3=(k+1)*3+(t+1)*3 by omega] at c0 c1 c2;rw[iR (k+t+1) tO tO,show(k+t+1)*3=(k+1)*3+t*3 by omega] at d0 d1 d2;have oK:=fun w=>qID es[k+t+2] es[k+t+1] w;unfold edV at oK;have j0:(0:Int)≤(t:Int):=tO;have j1:(t:Int)<(rem:Int):=tO;have j2:(t:Int)+1<(rem:Int):=tO;have j3:(0:Int)≤(t:Int)+1:=tO;have j4:((t:Int)+1).toNat=t+1:=tO;have j5:IntKind.i64.wrap ((t:Int)+1-1)=(t:Int):=by rw[IntKind.wrap_i64];omega
       have tY:Hid (R.drop (k+(t+1)+1)=es.drop (k+(t+1)+1)):=qA (by have h9:=congrArg (List.drop 1) rQ;rw[zbB,zbB] at h9;rw[show k+(t+1)+1=k+t+1+1 by omega];exact h9);have eC:=qA (ff.out.2 _ (zaH (show k+t+2<R.length by omega)));rw[iR (k+t+2) bg tO] at eC;by_cases he2:es[k+t+2]=es[k+t+1]
       ·have uH:=qA (qGN (es:=es) (j:=k+t+2) tO bg he2);rw[decide_eq_true he2,zbF] at oK;generalize es[k+t+1]=y2 at*;generalize es[k+t+2]=x2 at*;clear mw vD uW rQ vL bF iR;go_wp2;go_quiet (fail)
        go_wp2;go_roundw
        case rel=>exact⟨kk,t+1,R,rfl,by go_num,tO,by rw[show k+(t+1)+2=k+t+2+1 by omega,uH.out];exact CX.out,uV.out,by rw[show k+(t+1)+2=k+t+2+1 by omega,uH.out];exact Bi.out,tY.out,tO,ff.out.drew,aD.out.trans ⟨rfl,rfl,rfl,zad _,fun _ _ _=>rfl⟩⟩
        case measure=>simp[intOf];omega
       ·have uH:Hid (ddU es (k+(t+1)+2)=ddU es (k+t+2)++ [es[k+t+2]]):=qA (by rw[show k+(t+1)+2=k+t+2+1 by omega];exact qEY (es:=es) (j:=k+t+2) bg (fun _ e=>he2 e));rw[decide_eq_false he2,za6] at oK;have yq:kk<R.length:=tO;have a6:=qA (qKU R kk es[k+t+2] yq);have Hh:=qA (qKW R kk (k+(t+1)+1) es[k+t+2] tO);obtain⟨b0,b1,b2⟩:=ff.out.cellAt kk yq;generalize R[kk]=o2 at b0 b1 b2;generalize es[k+t+1]=y2 at*;generalize es[k+t+2]=x2 at*;have eK:=qA (fun N=>(ff.out.drewN N).set kk yq (x:=x2.1) (y:=x2.2.1) (z:=x2.2.2) eC.out.1 eC.out.2.1 eC.out.2.2);have f0:=vM.out (kk*3);have f1:=vM.out (kk*3+1);have f2:=vM.out (kk*3+2);have j6:(kk:Int)<(es.length:Int):=tO;have j7:(0:Int)≤(kk:Int):=tO;clear mw vD uW rQ vL bF iR;go_wp2;go_quiet (fail)
        go_wp2;go_roundw
        case rel=>exact⟨kk+1,t+1,R.set kk x2,by go_num,by go_num,tO,by rw[uH.out,zas,←CX.out];rfl,by rw[List.length_set];exact uV.out,by rw[a6.out,uH.out,Bi.out],by rw[Hh.out];exact tY.out,tO,(eK.out nq).1,(aD.out.trans (show wi.grownBy (wi.drewN nq) (some g) from⟨rfl,rfl,rfl,zad _,fun _ _ _=>rfl⟩)).trans (eK.out nq).2⟩
        case measure=>simp[intOf];omega
      ·obtain rfl:rem=t+1:=tO
       have hn:k+t+2=es.length:=tO;have yA:Hid (kk=(ddU es es.length).length∧R.take kk=ddU es es.length):=qA (by rw[←hn];exact⟨mw,uW⟩);have Jl:kk<es.length:=tO;have Gk:=qA (ff.out.head (k:=kk) tO);obtain⟨vs,aZ⟩:=qGW wi g (kk*3) (es.length-kk) (cap-kk) tO (fun j hj=>by
        have hq:kk+j/3<R.length:=tO;obtain⟨g0,g1,g2⟩:=ff.out.cellAt (kk+j/3) hq;have:j%3=0∨j%3=1∨j%3=2:=tO
        rcases this with e | e | e
        ·rw[show kk*3+j=(kk+j/3)*3 by omega,g0];rfl
        ·rw[show kk*3+j=(kk+j/3)*3+1 by omega,g1];rfl
        ·rw[show kk*3+j=(kk+j/3)*3+2 by omega,g2];rfl) (fun j _=>vM.out _)
       have vj:=qA (qNg Gk.out (zad _) vs (kk*3) (zad _));have j6:(kk:Int)≤(es.length:Int):=tO;have j7:(0:Int)≤(kk:Int):=tO;have j8: ¬cap=kk:=tO;have j9:(kk:Int)≤(cap:Int):=tO;clear mw vD uW rQ vL bF iR;go_wp2;go_ret;refine⟨by rw[←yA.out.1];rfl,?_,aD.out.trans vj.out.2⟩;have h1:=vj.out.1;rw[yA.out.2] at h1;have h2:=yA.out.1;rw[←h2];exact h1
    ·have yf:Hid (ddU es (k+1+1)=es.take (k+1+1)):=qA (by rw[qEY ac (fun _ e=>he e),xn.out,zaf ac]);rw[decide_eq_false he] at jd;generalize es[k]=y at*;generalize es[k+1]=x at*;go_wp2;go_quiet (fail)
     go_wp2;go_roundw
     case rel=>exact⟨k+1,tO,by go_num,yf.out,_,rfl⟩
     case measure=>simp[intOf];omega
   ·have bV:k+1=es.length:=tO;have i2: ¬(k:Int)+1<(es.length:Int):=tO;have HD:Hid (ddU es es.length=es):=qA (by have:=xn.out;rw[bV,zar] at this;exact this);clear bV;go_wp2;go_ret;rw[HD.out];exact⟨rfl,H.out.drewN q,⟨rfl,rfl,rfl,zad _,fun _ _ _=>rfl⟩⟩
theorem qGl (v:Value) (es:List EdD) (w:World) (h:ArgE w v es) (hl:es.length≤1073741824):
  Calls Tryz.prog 172 #[v] w fun e w'=> ∃r,e= .returned r∧OwE w' w.heap.size r (srt cmpE es)∧Below w.heap.size w w':=by
 have H:=qA h;obtain⟨A,cap,rfl⟩:=h.form;clear h;go_enter Tryz.func172,Tryz.ntmps172
 go_wp2_with (at_builtin;refine qFR rfl (.tmp 4) (.tmp 5) rfl w.heap.size _ [] (qKE _ (zad _)) rfl _ es (H.out.alloc _) rfl (by simp;omega) (by simp) ?_;intro v1 w1 o1 g1 p1)
 have O1:Hid (OwE w1 w.heap.size v1 es):=qA (by simpa using o1);have B1:Hid (Below w.heap.size w w1):=qA (((zaC _ _).alloc (zad _) _).grown g1 (by simp) (fun k hk=>by simp[zav] at hk;omega));obtain⟨g,ah,rfl⟩: ∃g ah,v1= .slice (some ⟨g,0,none⟩) es.length ah:=by
  obtain⟨A1,ah,rfl,_⟩:=O1.out.form;rcases O1.out.1.2 with ⟨hv,_⟩ | ⟨g',cap',cur,hv,_⟩
  ·rw[hv] at p1;simp[zav] at p1
  ·injection hv with e1 e2 e3
   subst e1;exact⟨g',ah,rfl⟩
 clear g1 o1 p1;refine(qIk g es.length ah w.heap.size es w1 O1.out hl).mono ?_
 rintro e w2 ⟨rfl,es',o2,hp,sP,g2⟩;have hE:ddU es' es'.length=srt cmpE es:=qPm (sP.imp fun h=>tO) fun x=>hp.mem_iff;have aH:es'.length=es.length:=hp.length_eq;have O2:=qA o2;have B2:=qA (B1.out.grown g2 B1.out.size (fun k hk=>by cases hk;exact(O1.out.1.lt g rfl).1));have eh:=qA (fun k (hk:some g=some k)=>show w.heap.size≤k by cases hk;exact(O1.out.1.lt g rfl).1);have HE:=qA hE;have wS:es'.length≤1073741824:=tO;clear o2 g2 hp sP hE aH;go_wp2_with fail;refine(qIp g _ _ w.heap.size es' w2 O2.out wS).mono ?_
 rintro e w3 ⟨rfl,o3,g3⟩;rw[HE.out] at o3⊢;have O3:=qA o3;have B3:=qA (B2.out.grown g3 B2.out.size eh.out);clear o3 g3;go_wp2;go_ret;exact⟨_,rfl,O3.out,B3.out⟩
section
variable {P:Program} {ops:Array Oper} {Q:Exit→Act→World→Prop} {S:World→Prop} {n:Nat}
def qCC (P:Program) (ops:Array Oper) (Q:Exit→Act→World→Prop) (S:World→Prop) (n:Nat):Nat→Array Bool→Act→World→Prop
 | 0,listed,a,w=>Region.ready .any ops listed= []∧Q .normal a w
 | f+1,listed,a,w=>(Region.ready .any ops listed= []→Q .normal a w)∧
   ∀i,i∈Region.ready .any ops listed→wpOp P ops Q i (fun a' w'=>(i≠n→S w')∧qCC P ops Q S n f (listed.setIfInBounds i true) a' w') a w
theorem qLl: ∀(f:Nat) (listed:Array Bool) (a:Act) (w:World),qCC P ops Q S n f listed a w→wpAny P .any ops Q f listed a w:=by
 intro f;induction f with
 | zero=>intro listed a w h;exact h
 | succ f ih=>intro listed a w h;exact⟨h.1,fun i hi=>wpOp_mono (fun a' w' hk=>ih _ a' w' hk.2) (h.2 i hi)⟩
theorem qIh {st:Oper} (ar:LastOk ops ops n st st) {i:Nat} {oi:Oper} {v:Value} (hi:ops[i]? =some oi) (bQ:i<n) (lh:Region.noSelect ops=true)
  (hQ: ∀c a w,Q (.panic c) (a.put oi.dst v) w→Q (.panic c) a w):
  ∀(f:Nat) (listed:Array Bool) (a:Act) (w:World),Cl ops listed→
   (∀j oj,ops[j]? =some oj→j≠i→listed.getD j true=false→(∀e∈oj.after,Region.binds .any e=true→e.on≠i)→oi.apart ops oj=true)→
   i∈Region.ready .any ops listed→YieldsIf P ops S oi v a→S w→
   qCC P ops Q S n f (listed.setIfInBounds i true) (a.put oi.dst v) w→qCC P ops Q S n (f+1) listed a w:=by
 have hs:=Region.noSelect_spec lh;intro f;induction f with
 | zero=>
   intro listed a w _ _ hr hy hS H;refine⟨fun h0=>(by rw[h0] at hr;cases hr),fun j hj=> ?_⟩;by_cases e:j=i
   ·subst e;exact hy.wpOp hi hS ⟨fun _=>hS,H⟩
   ·have:=ready_mono hj e
    rw[H.1] at this;cases this
 | succ f ih=>
   intro listed a w hc hfree hr hy hS H;refine⟨fun h0=>(by rw[h0] at hr;cases hr),fun j hj=> ?_⟩;by_cases e:j=i
   ·subst e;exact hy.wpOp hi hS ⟨fun _=>hS,H⟩
   ·have vZ:=(mem_ready.1 hr).1;have ak:listed.size=n+1:=hc.1.trans ar.size;have jV:j≠n:=fun e'=>by
     subst e';have:=ar.all hc hj _ i rfl bQ
     rw[qAc tO,this] at vZ;cases vZ
    have h1:=H.2 j (ready_mono hj e);obtain⟨CV,oj,sM,az⟩:=mem_ready.1 hj;have dy: ∀e∈oj.after,Region.binds .any e=true→e.on≠i:=fun e he hb h=>by
     have h2:=az e he hb;rw[h] at h2;rw[qAc tO,h2] at vZ;cases vZ
    have h2:=wpOp_putIf sM (hfree j oj sM e CV dy) (fun cs b=>hs i oi cs b hi) (fun cs b=>hs j oj cs b sM) hQ hy h1;refine wpOp_mono (fun a' w' hk=> ?_) h2;obtain⟨iL,Dk,hk⟩:=hk;refine⟨fun _=>Dk jV,ih _ a' w' (hc.set hj) (fun k ok hk' vK wT hno'=> ?_) (ready_mono hr (Ne.symm e)) iL (Dk jV) ?_⟩
    ·refine hfree k ok hk' vK ?_ hno';by_cases gJ:j=k
     ·subst gJ;exact CV
     ·rwa [getD_set_ne true gJ] at wT
    ·rw[Array.setIfInBounds_comm _ _ e];exact hk
def clB (ops:Array Oper) (listed:Array Bool):Bool:=
 decide (listed.size=ops.size)&&(zaq ops.size).all fun j=> !listed.getD j false||match ops[j]? with
  | some o=>o.after.all fun e=> !Region.binds .any e||listed.getD e.on false
  | none=>true
theorem qQp {listed:Array Bool} (h:clB ops listed=true):Cl ops listed:=by
 unfold clB at h;simp only[zam,decide_eq_true_eq,zax,zau,zaz,zaL] at h;refine⟨h.1,fun j o ho hl e he hb=> ?_⟩;have hj:=(zaU.1 ho).1;rcases h.2 j hj with h1 | h1
 ·rw[hl] at h1;cases h1
 ·rw[ho] at h1;have:=zaN.1 h1 e he
  rw[hb] at this;simpa using this
theorem qO {l:List Oper} {i f:Nat} {oi:Oper} {v:Value} {listed:Array Bool} {a:Act} {w:World} (hl:l.length=n+1) (hL:qLi l.toArray n=true)
  (hi:l.toArray[i]? =some oi) (bQ:i<n) (hs:Region.noSelect l.toArray=true) (hc:clB l.toArray listed=true) (hf:Region.free .any l.toArray listed i=true) (hr:(Region.ready .any l.toArray listed).contains i=true)
  (hQ: ∀c a w,Q (.panic c) (a.put oi.dst v) w→Q (.panic c) a w) (hy:YieldsIf P l.toArray S oi v a) (hS:S w)
  (h:qCC P l.toArray Q S n f (listed.setIfInBounds i true) (a.put oi.dst v) w):qCC P l.toArray Q S n (f+1) listed a w:=by
 obtain⟨st,_,ar⟩:=qJE hl hL;have xN:LastOk l.toArray l.toArray n st st:=⟨ar.size,ar.size,fun _ _=>⟨rfl,rfl⟩,ar.hst,ar.hst,rfl,ar.dst,ar.dst,ar.guard,ar.guard,ar.back,ar.chain⟩;exact qIh xN hi bQ hs hQ f listed a w (qQp hc) (Region.free_spec hi hf) (by simpa using hr) hy hS h
theorem qHb {i f:Nat} {listed:Array Bool} {a:Act} {w:World} (hr:Region.ready .any ops listed= [i])
  (h:wpOp P ops Q i (fun a' w'=>(i≠n→S w')∧qCC P ops Q S n f (listed.setIfInBounds i true) a' w') a w):qCC P ops Q S n (f+1) listed a w:=by
 refine⟨fun h0=>(by rw[hr] at h0;cases h0),fun j hj=> ?_⟩;rw[hr,zaE] at hj;subst hj;exact h
theorem qJm {listed:Array Bool} {a:Act} {w:World} (hr:Region.ready .any ops listed= []) (h:Q .normal a w): ∀f,qCC P ops Q S n f listed a w
 | 0=>⟨hr,h⟩
 | _+1=>⟨fun _=>h,fun i hi=>by rw[hr] at hi;cases hi⟩
theorem qJw {id:Nat} {a:Act} {w:World} (hm:P.follows .mixedOrders=true) (h:qCC P ops Q S n ops.size (zaA ops.size false) a w.drew):(Code.region id ops true).wp P Q a w:=
 wp_region_any hm (qLl _ _ _ _ h)
end
section
variable {P:Program} {ops:Array Oper} {Q:Exit→Act→World→Prop} {S:World→Prop} {n:Nat}
theorem qAl {i f:Nat} {o:Oper} {listed:Array Bool} {a:Act} {w:World} (hr:Region.ready .any ops listed= [i]) (ho:ops[i]? =some o)
  (h: ∀K':Act→World→Prop,Shut (∀a' w',S w'→(S w'→qCC P ops Q S n f (listed.setIfInBounds i true) a' w')→K' a' w')→if Region.wanted o (yielded ops a.tmps)=true then Oper.wp P o a w K' Q else K' (a.put o.dst undef) w):
  qCC P ops Q S n (f+1) listed a w:=
 qHb hr (wpOp_step ho fun K' hK=>h K' (fun a' w' hS hW=>hK a' w' ⟨fun _=>hS,hW hS⟩))
theorem qDy {f:Nat} {o:Oper} {listed:Array Bool} {a:Act} {w:World} (hr:Region.ready .any ops listed= [n]) (ho:ops[n]? =some o) (hd:Region.ready .any ops (listed.setIfInBounds n true)= [])
  (h: ∀K':Act→World→Prop,Shut (∀a' w',Q .normal a' w'→K' a' w')→if Region.wanted o (yielded ops a.tmps)=true then Oper.wp P o a w K' Q else K' (a.put o.dst undef) w):
  qCC P ops Q S n (f+1) listed a w:=
 qHb hr (wpOp_step ho fun K' hK=>h K' (fun a' w' hQ=>hK a' w' ⟨fun hn=>absurd rfl hn,qJm hd hQ f⟩))
theorem qDO {id m:Nat} {a:Act} {w:World} (hm:P.follows .mixedOrders=true) (hz:ops.size=m) (hS:S w.drew) (h:S w.drew→qCC P ops Q S n m (zaA m false) a w.drew):(Code.region id ops true).wp P Q a w:=
 qJw hm (by rw[hz];exact h hS)
end
theorem qFP {w:World} {o:Oper} {a:Act} {K:Act→World→Prop} {Q:Exit→Act→World→Prop} (s x:Operand)
  (ho:o.op= .call {callee:= .builtin .append,args:= #[s,x],argTypes:= #[80,80]})
  (base:Nat) (v:Value) (es:List EdD) (ab:OwE w base v es) (hs:a.eval s=v) (b:Nat) (e:EdD) (hx:a.eval x= .slice (some ⟨b,0,none⟩) 1 1)
  (hc: ∀j u,(edC e)[j]? =some u→w.cell? ⟨b,j,none⟩=some u) (he:E64 e) (hl:es.length≤1073741824) (aq:base≤w.heap.size)
  (h: ∀v' w',OwE w' base v' (es++ [e])→w.grownBy w' v.ownBlock→(v'.ownBlock=v.ownBlock∨v'.ownBlock=some w.heap.size)→K (a.put o.dst v') w'):
  o.wp Tryz.prog a w K Q:=by
 obtain⟨i0,a7,aS,ao,aP⟩:=info_parts qEG;obtain⟨v',w',ce,h1,h2,_,h5⟩:=run_append_own_at (P:=Tryz.prog) w base 80 o.type 154 i0 _ 3 24 Tryz.underlying80 a7 aS ao aP rfl (by decide) v es.length (edCs es) ab.1 ⟨b,0,none⟩ 1 1 (edC e) rfl
  (fun j u hj=>by rw[Addr.add_lit,zal];exact hc j u hj) (by intro u hu;simp[edC] at hu;rcases hu with rfl | rfl | rfl<;>rfl) (by unfold maxLen;omega) tO aq
 unfold Oper.wp execOp;simp only[ho,resolve,invoke,builtin,Sem.run_bind,Sem.run_pure,Result.andThen_ok,zbr,zbD,List.map_nil,hs,hx,ce];refine h v' w' ⟨?_,qEB ab.2 (qKw he)⟩ h2 h5;have e1:edCs (es++ [e])=edCs es++edC e:=by rw[qCg];simp[edCs]
 rw[e1,zas];exact h1
theorem qNV (N k:Nat) (h:k<N):((zai k (-1:Int))++zai (N-k) 0).set k (-1)=zai (k+1) (-1)++zai (N-(k+1)) 0:=by
 obtain⟨m,hm⟩: ∃m,N-k=m+1:=⟨N-k-1,tO⟩;rw[hm,show N-(k+1)=m by omega,List.set_append_right _ _ (by simp),zaO,Nat.sub_self,List.replicate_succ,zab,List.replicate_succ'];simp
theorem qMl (v vo:Value) (g:GrD) (o:List Int) (w:World) (h:ArgG w v g) (ho:RdI w vo o) (hg:grB g=true) (ar:OrdN g.2.1 o):
  Calls Tryz.prog 155 #[v,vo] w fun e w'=> ∃r,e= .returned r∧OwG w' w.heap.size r (rnG g o)∧Below w.heap.size w w':=by
 have HG:=qA h;have bG:=qA ar;have ff:=qA ho;obtain⟨cR,aJ,aO,_⟩:=qR hg;have jA:=qA (fun e he=>qAM hg (e:=e) he);have rH:=qA ar.1;have tu:=qA (qKa hg).2;obtain⟨r,n,es⟩:=g;simp only at cR aJ aO HG jA ar bG tu
 obtain⟨N,rfl⟩: ∃N:Nat,n=(N:Int):=⟨n.toNat,tO⟩;have mU:1≤N:=tO;have ly:N≤40:=tO;have jb:o.length≤N:=qBc N o ar.1 fun y hy=>by have:=ar.2.1 y hy;omega
 have gX:Hid (∀k (hk:k<o.length),∃u:Nat,o[k]=(u:Int)∧u<N):=qA fun k hk=>by
  have:=ar.2.1 o[k] (by simp)
  exact⟨o[k].toNat,tO,tO⟩
 clear aJ hg ar h;obtain⟨A,cap,rfl,HE⟩: ∃A cap,v= .agg #[.int .i64 r, .int .i64 N, .slice A es.length cap]∧Hid (ArgE w (.slice A es.length cap) es):=by
  obtain⟨s,hv,_,_,ha⟩:=HG.out;obtain⟨A,cap,rfl⟩:=ha.form;exact⟨A,cap,hv,qA ha⟩
 obtain⟨Ao,capo,rfl,m6,oT,_⟩:=ho.arg;have fM:es.length≤cap∧cap≤maxLen:=by
  obtain⟨_,_,hv,h1,h2,_⟩:=HE.out;injection hv with _ _ e3
  subst e3;exact⟨h1,h2⟩
 obtain⟨aj,hm⟩:=fM;unfold maxLen at oT hm;clear ho;have bx:Below w.heap.size w ((w.alloc (.cells #[.int .i64 r,.int .i64 N, .slice A es.length cap] 82)).alloc (.cells #[.int .i64 0,.int .i64 0, .slice none 0 0] 82)):=(by repeat(first | exact .refl _ _ | (refine BxS ?_ _) | (refine qB ?_ _) | (refine zaB ?_) | (refine BxA ?_ _)));go_enter Tryz.func155,Tryz.ntmps155
 obtain⟨i0,a7,aS,ao,aP⟩:=info_parts qEa;go_wp2_with (at_make;refine wpList_make_full _ rfl _ _ 24 rfl (w.heap.size+1+1) 3 i0 (.int .i64 0) 1 Tryz.underlying24 a7 aS ao _ _ _ _ N rfl rfl rfl rfl (by rw[aP];omega) (by unfold maxLen;omega) (by simp) ?_)
 obtain⟨W0,aF⟩: ∃W,W=(w.alloc (.cells #[.int .i64 r,.int .i64 N, .slice A es.length cap] 82)).alloc (.cells #[.int .i64 0,.int .i64 0, .slice none 0 0] 82):=⟨_,rfl⟩;rw[←aF] at bx⊢;have cI:W0.heap.size=w.heap.size+1+1:=by rw[aF];simp
 have B0:Hid (W0.cell? ⟨w.heap.size,0,none⟩=some (.int .i64 r)):=qA (by rw[aF];simp[go_sem]);have B2:Hid (W0.cell? ⟨w.heap.size,2,none⟩=some (.slice A es.length cap)):=qA (by rw[aF];simp[go_sem]);have R0:Hid (W0.cell? ⟨w.heap.size+1,0,none⟩=some (.int .i64 0)):=qA (by rw[aF];simp[go_sem]);have R1:Hid (W0.cell? ⟨w.heap.size+1,1,none⟩=some (.int .i64 0)):=qA (by rw[aF];simp[go_sem]);have R2:Hid (W0.cell? ⟨w.heap.size+1,2,none⟩=some (.slice none 0 0)):=qA (by rw[aF];simp[go_sem]);have RF:Hid (∀j,W0.frozen? ⟨w.heap.size+1,j,none⟩=false):=qA fun j=>by rw[aF];simp[go_sem]
 clear aF;rw[←cI];have BX:=qA bx;have xC:=qA cI;have jr:w.heap.size<W0.heap.size:=tO;have dv:w.heap.size+1<W0.heap.size:=tO;clear bx cI;intro w2 hown0 hgrow0;have eA:OwI w2 W0.heap.size (.slice (some ⟨W0.heap.size,0,none⟩) N N) (zai 0 (-1)++zai (N-0) 0):=by
  refine⟨?_,fun y hy=> ?_⟩
  ·simp only[zbf,zaY,zbj,zaO];have:ints (zai N 0)=zai N (zaS .i64 0):=by simp[ints]
   rw[this];simpa[toList_madeCells_one] using hown0
  ·simp only[zbf,zaY,zbj] at hy;obtain⟨_,rfl⟩:=zbg.1 hy;exact⟨by decide,by decide⟩
 have ge:=qA eA;have cQ:=qA ((zaC W0.heap.size W0).grown hgrow0 (zad _) (fun k h=>by cases h));clear eA hown0 hgrow0;go_wp2;go_loopw [17] (fun i wr=> ∃k:Nat,k≤N∧i= .int .i64 k∧OwI wr W0.heap.size (.slice (some ⟨W0.heap.size,0,none⟩) N N) (zai k (-1)++zai (N-k) 0)∧Below W0.heap.size W0 wr) (fun i _=>N-(intOf i).toNat)
 case atStart=>exact⟨0,zap _,rfl,ge.out,cQ.out⟩
 case round=>
  obtain⟨k,hk,rfl,ab,aa⟩:=hrel;have HB:=qA aa;have hs:=aa.size;have HO:=qA ab;by_cases ac:k<N
  ·have ae:=ab.cellAt k (by simp;omega);have dE:=ab.free k;have HS:=qA (ab.set k (-1) ⟨by decide,by decide⟩);have eK:=qA (qNV N k ac);clear ab aa;generalize (zai k (-1:Int)++zai (N-k) 0)[k]'(by simp;omega)=z0 at ae;go_wp2;go_roundw
   case rel=>exact⟨k+1,tO,by go_num,by rw[←eK.out];exact HS.out.1,HB.out.grown HS.out.2 tO (fun j hj=>by cases hj;exact zad _)⟩
   case measure=>simp[intOf];omega
  ·obtain rfl:k=N:=tO
   have iQ:Hid (OwI wr W0.heap.size (.slice (some ⟨W0.heap.size,0,none⟩) k k) (plc k (o.take 0) 1)):=qA (by
    rw[za4,qKI];simpa using HO.out)
   clear ab aa;go_wp2;go_loopw [26] (fun i wr=> ∃j:Nat,j≤o.length∧i= .int .i64 j∧OwI wr W0.heap.size (.slice (some ⟨W0.heap.size,0,none⟩) k k) (plc k (o.take j) 1)∧Below W0.heap.size W0 wr) (fun i _=>o.length-(intOf i).toNat)
   case atStart=>exact⟨0,zap _,rfl,iQ.out,HB.out⟩
   case round=>
    obtain⟨j,hj,rfl,ab,aa⟩:=hrel;have eh:=qA aa;have aA:=aa.size;have aw:=qA ab;by_cases aK:j<o.length
    ·obtain⟨bo,offo,rfl,jG,kt⟩:=(ff.out.below (BX.out.trans (aa.mono tO))).at tO;have c0:=kt j aK;obtain⟨u,hu,ra⟩:=gX.out j aK;rw[hu] at c0;have gD:=ab.cellAt u (by rw[qDt];exact ra);have dE:=ab.free u;have eK:=qA (ab.set u (j:Int) ⟨tO,tO⟩);have oS:Hid ((plc k (o.take j) 1).set u (j:Int)=plc k (o.take (j+1)) 1):=qA (by
      have:=qLZ k o 1 j aK rH.out u hu
      rwa [Int.add_sub_cancel] at this)
     generalize (plc k (o.take j) 1)[u]'(by rw[qDt];exact ra)=z0 at gD;have j0:(0:Int)≤(u:Int):=tO;have j1:(u:Int)<(k:Int):=tO;clear kt hu ab aa;go_wp2;go_roundw
     case rel=>exact⟨j+1,tO,by go_num,by rw[←oS.out];exact eK.out.1,eh.out.grown eK.out.2 tO (fun j hj=>by cases hj;exact zad _)⟩
     case measure=>simp[intOf];omega
    ·obtain rfl:j=o.length:=tO
     rw[zar] at aw;have hP:=(aw.out.1.lt W0.heap.size rfl).2;have q0:=(aa.cell (p:=⟨w.heap.size,0,none⟩) jr).trans B0.out;have q2:=(aa.cell (p:=⟨w.heap.size,2,none⟩) jr).trans B2.out;have gV:w.heap.size<wr.heap.size:=tO;have i9:w.heap.size+1<wr.heap.size:=tO;have hA: ∀ob o',(wr.alloc ob).cell? ⟨w.heap.size,o',none⟩=wr.cell? ⟨w.heap.size,o',none⟩:=fun ob o'=>zan (zbs wr ob (w.heap.size) gV);clear ab aa;go_wp2;generalize l8:wr=w5 at*;clear l8;have mk:Hid (∀(wl:World),w5.grownBy wl (some w5.heap.size)→ ∀u:Nat,u<k→wl.cell? ⟨W0.heap.size,u,none⟩=some (.int .i64 (plv o u-1))):=qA fun wl hg u hu=>by
      rw[qAa hg hP tO,aw.out.cellAt u (by rw[qDt];exact hu),qKJ _ _ _ _ hu]
     have PLR:Hid (∀v:Int,0≤plv o v∧plv o v≤40):=qA fun v=>by have:=qBu o v;omega
     go_loopw [44] (fun i wl=> ∃(j:Nat) (A2:Option Addr) (am:Nat),j≤es.length∧i= .int .i64 j∧wl.cell? ⟨w5.heap.size,2,none⟩=some (.slice A2 (rnL (es.take j) o).length am)∧OwE wl (w5.heap.size+1) (.slice A2 (rnL (es.take j) o).length am) (rnL (es.take j) o)∧w5.grownBy wl (some w5.heap.size)∧wl.cell? ⟨w5.heap.size,0,none⟩=some (.int .i64 r)∧wl.cell? ⟨w5.heap.size,1,none⟩=some (.int .i64 o.length)∧(∀j,wl.frozen? ⟨w5.heap.size,j,none⟩=false)∧w5.heap.size<wl.heap.size) (fun i _=>es.length-(intOf i).toNat)
     case atStart=>exact⟨0,none,0,zap _,rfl,by show _=some (zaR none 0 0);simp[go_sem],OwE.nil,qAy ((zaC _ _).alloc (zad _) _),by simp[go_sem],by simp[go_sem],fun j=>by simp[go_sem],by simp⟩
     case round=>
      obtain⟨j,A2,am,rV,rfl,bU,bh,bF,dA,aQ,gv,dz⟩:=hrel;have dZ:=qA bF;have dM:=bF.size;have vv:=qA (BX.out.trans (eh.out.mono (show w.heap.size≤W0.heap.size by omega)));have kU:=qA (vv.out.grown bF tO (fun j hj=>by cases hj;omega));have b2:=(qAa (o:=2) bF (show w.heap.size<w5.heap.size by omega) tO).trans q2;have fI:=qA bU;have fu:=qA dA;have ei:=qA aQ;have jf:=qA gv;clear dA aQ gv;have cO:=qA bh;clear bF bh;by_cases gV:j<es.length
      ·obtain⟨be,offe,rfl,jC,c0,c1,c2,eW⟩:=(HE.out.below kU.out).at gV;obtain⟨e1,e2,e3⟩:=jA.out es[j] (by simp);have HS:=qA (qLH es o j gV);have lF:Hid (∀x,rnE o es[j]=some x→rnL (es.take (j+1)) o=rnL (es.take j) o++ [x]):=qA fun x hx=>by
        rw[HS.out,hx];rfl
       have uR:Hid (rnE o es[j]=none→rnL (es.take (j+1)) o=rnL (es.take j) o):=qA fun hx=>by rw[HS.out,hx];simp
       have jX:(rnL (es.take j) o).length≤120:=by
        have h2:=qII (es.take j) o;rw[zaj] at h2;omega
       generalize es[j]=e at*;obtain⟨f,l,t⟩:=e;simp only at e1 e2 e3 c0 c1 c2
       obtain⟨a,rfl⟩: ∃a:Nat,f=(a:Int):=⟨f.toNat,tO⟩;obtain⟨c,rfl⟩: ∃c:Nat,t=(c:Int):=⟨t.toNat,tO⟩;have pa:=mk.out wr dZ.out a tO;have pc:=mk.out wr dZ.out c tO;obtain⟨GG,Ih⟩:=PLR.out a;obtain⟨Gb,GP⟩:=PLR.out c;have RN:Hid (rnE o ((a:Int),l,(c:Int))=if 0<plv o a∧0<plv o c then some (plv o a-1,l,plv o c-1) else none):=qA rfl;have ja:(a:Int)<(k:Int):=tO;have jc:(c:Int)<(k:Int):=tO;have DY:(0:Int)≤(a:Int):=tO;have Cr:(0:Int)≤(c:Int):=tO;have tC:W0.heap.size<wr.heap.size:=tO;have kV:I64 l:=by unfold I64;omega
       have n5:=qA kV;generalize plv o a=pav at*;generalize plv o c=pcv at*;generalize hL:rnL (es.take j) o=L at*;clear kV HS eW;have bA:Below wr.heap.size wr (wr.alloc (.cells #[.int .i64 a,.int .i64 l,.int .i64 c] 154)):=(zaC _ _).alloc (zad _) _;by_cases t1:0≤pav-1
       ·by_cases t2:0≤pcv-1
        ·have F:=qA (lF.out _ (by rw[RN.out,if_pos ⟨tO,tO⟩]));go_wp2_with fail;have sA:wr.heap.size<(wr.alloc (.cells #[.int .i64 a,.int .i64 l,.int .i64 c] 154)).heap.size:=by simp
         have l0:(wr.alloc (.cells #[.int .i64 a,.int .i64 l,.int .i64 c] 154)).cell? ⟨wr.heap.size,0,none⟩=some (.int .i64 a):=by simp[go_sem]
         have l1:(wr.alloc (.cells #[.int .i64 a,.int .i64 l,.int .i64 c] 154)).cell? ⟨wr.heap.size,1,none⟩=some (.int .i64 l):=by simp[go_sem]
         have l2:(wr.alloc (.cells #[.int .i64 a,.int .i64 l,.int .i64 c] 154)).cell? ⟨wr.heap.size,2,none⟩=some (.int .i64 c):=by simp[go_sem]
         generalize wr.alloc (.cells #[.int .i64 a,.int .i64 l,.int .i64 c] 154)=W at bA sA l0 l1 l2⊢;have la:=(bA.cell (p:=⟨W0.heap.size,a,none⟩) tC).trans pa;have lc:=(bA.cell (p:=⟨W0.heap.size,c,none⟩) tC).trans pc;have lx:=(bA.cell (p:=⟨w5.heap.size,2,none⟩) dz).trans fI.out;have uJ:=qA ((bA.cell (p:=⟨w5.heap.size,0,none⟩) dz).trans fu.out);have sH:=qA ((bA.cell (p:=⟨w5.heap.size,1,none⟩) dz).trans ei.out);have LXF:Hid (∀j,W.frozen? ⟨w5.heap.size,j,none⟩=false):=qA fun j=>(bA.frozen (p:=⟨w5.heap.size,j,none⟩) dz).trans (jf.out j);have OW:=qA (cO.out.below bA);have GW:=qA (dZ.out.trans (qAy bA));have fp:w5.heap.size<W.heap.size:=tO;have mT:W0.heap.size<W.heap.size:=tO;have FD:W0.heap.size≠w5.heap.size:=tO;clear bA pa pc bU;refine qDO (n:=18) (S:=fun w'=>w'.cell? ⟨w5.heap.size,2,none⟩=some (.slice A2 L.length am)∧w'.cell? ⟨W0.heap.size,a,none⟩=some (.int .i64 (pav-1))∧w'.cell? ⟨W0.heap.size,c,none⟩=some (.int .i64 (pcv-1))∧w'.cell? ⟨wr.heap.size,0,none⟩=some (.int .i64 a)∧w'.cell? ⟨wr.heap.size,1,none⟩=some (.int .i64 l)∧w'.cell? ⟨wr.heap.size,2,none⟩=some (.int .i64 c)) tK (by rfl) ⟨lx,la,lc,l0,l1,l2⟩ (fun hHeld=> ?_);(refine qO (n:=18) (i:=0) (v:= ?_) rfl tK rfl (by decide) tK tK tK tK (fun _ _ _ h=>h) (Or.inl ⟨by rfl,?_⟩) (by assumption) ?_;rotate_left;focus (intro ww hSw;(try dsimp only at hSw);go_simp;try with_reducible rfl);(try simp only[zah,zaa,zab,zac]));(refine qO (n:=18) (i:=1) (v:= ?_) rfl tK rfl (by decide) tK tK tK tK (fun _ _ _ h=>h) (Or.inl ⟨by rfl,?_⟩) (by assumption) ?_;rotate_left;focus (intro ww hSw;(try dsimp only at hSw);go_simp;try with_reducible rfl);(try simp only[zah,zaa,zab,zac]));(refine qO (n:=18) (i:=2) (v:= ?_) rfl tK rfl (by decide) tK tK tK tK (fun _ _ _ h=>h) (Or.inl ⟨by rfl,?_⟩) (by assumption) ?_;rotate_left;focus (intro ww hSw;(try dsimp only at hSw);go_simp;try with_reducible rfl);(try simp only[zah,zaa,zab,zac]));(refine qO (n:=18) (i:=3) (v:= ?_) rfl tK rfl (by decide) tK tK tK tK (fun _ _ _ h=>h) (Or.inl ⟨by rfl,?_⟩) (by assumption) ?_;rotate_left;focus (intro ww hSw;(try dsimp only at hSw);go_simp;try with_reducible rfl);(try simp only[zah,zaa,zab,zac]));(refine qO (n:=18) (i:=4) (v:= ?_) rfl tK rfl (by decide) tK tK tK tK (fun _ _ _ h=>h) (Or.inl ⟨by rfl,?_⟩) (by assumption) ?_;rotate_left;focus (intro ww hSw;(try dsimp only at hSw);go_simp;try with_reducible rfl);(try simp only[zah,zaa,zab,zac]));(refine qO (n:=18) (i:=5) (v:= ?_) rfl tK rfl (by decide) tK tK tK tK (fun _ _ _ h=>h) (Or.inl ⟨by rfl,?_⟩) (by assumption) ?_;rotate_left;focus (intro ww hSw;(try dsimp only at hSw);go_simp;try with_reducible rfl);(try simp only[zah,zaa,zab,zac]));(refine qO (n:=18) (i:=6) (v:= ?_) rfl tK rfl (by decide) tK tK tK tK (fun _ _ _ h=>h) (Or.inl ⟨by rfl,?_⟩) (by assumption) ?_;rotate_left;focus (intro ww hSw;(try dsimp only at hSw);go_simp;try with_reducible rfl);(try simp only[zah,zaa,zab,zac]));(refine qO (n:=18) (i:=7) (v:= ?_) rfl tK rfl (by decide) tK tK tK tK (fun _ _ _ h=>h) (Or.inl ⟨by rfl,?_⟩) (by assumption) ?_;rotate_left;focus (intro ww hSw;(try dsimp only at hSw);go_simp;try with_reducible rfl);(try simp only[zah,zaa,zab,zac]));(refine qO (n:=18) (i:=8) (v:= ?_) rfl tK rfl (by decide) tK tK tK tK (fun _ _ _ h=>h) (Or.inl ⟨by rfl,?_⟩) (by assumption) ?_;rotate_left;focus (intro ww hSw;(try dsimp only at hSw);go_simp;try with_reducible rfl);(try simp only[zah,zaa,zab,zac]));(refine qO (n:=18) (i:=9) (v:= ?_) rfl tK rfl (by decide) tK tK tK tK (fun _ _ _ h=>h) (Or.inl ⟨by rfl,?_⟩) (by assumption) ?_;rotate_left;focus (intro ww hSw;(try dsimp only at hSw);go_simp;try with_reducible rfl);(try simp only[zah,zaa,zab,zac]));(refine qO (n:=18) (i:=10) (v:= ?_) rfl tK rfl (by decide) tK tK tK tK (fun _ _ _ h=>h) (Or.inl ⟨by rfl,?_⟩) (by assumption) ?_;rotate_left;focus (intro ww hSw;(try dsimp only at hSw);go_simp;try with_reducible rfl);(try simp only[zah,zaa,zab,zac]));(refine qO (n:=18) (i:=11) (v:= ?_) rfl tK rfl (by decide) tK tK tK tK (fun _ _ _ h=>h) (Or.inl ⟨by rfl,?_⟩) (by assumption) ?_;rotate_left;focus (intro ww hSw;(try dsimp only at hSw);go_simp;try with_reducible rfl);(try simp only[zah,zaa,zab,zac]));(refine qO (n:=18) (i:=12) (v:= ?_) rfl tK rfl (by decide) tK tK tK tK (fun _ _ _ h=>h) (Or.inl ⟨by rfl,?_⟩) (by assumption) ?_;rotate_left;focus (intro ww hSw;(try dsimp only at hSw);go_simp;try with_reducible rfl);(try simp only[zah,zaa,zab,zac]));(refine qO (n:=18) (i:=13) (v:= ?_) rfl tK rfl (by decide) tK tK tK tK (fun _ _ _ h=>h) (Or.inl ⟨by rfl,?_⟩) (by assumption) ?_;rotate_left;focus (intro ww hSw;(try dsimp only at hSw);go_simp;try with_reducible rfl);(try simp only[zah,zaa,zab,zac]));(refine qO (n:=18) (i:=14) (v:= ?_) rfl tK rfl (by decide) tK tK tK tK (fun _ _ _ h=>h) (Or.inl ⟨by rfl,?_⟩) (by assumption) ?_;rotate_left;focus (intro ww hSw;(try dsimp only at hSw);go_simp;try with_reducible rfl);(try simp only[zah,zaa,zab,zac]))
         refine qAl (i:=15) tK rfl fun K' hK=> ?_;go_simp;have Kb:W0.heap.size≠W.heap.size:=tO;have Kd:w5.heap.size≠W.heap.size:=tO;have J8:wr.heap.size≠W.heap.size:=tO;have bB:Below W.heap.size W (W.alloc (.cells #[.int .i64 (pav-1),.int .i64 l,.int .i64 (pcv-1)] 154)).drew:=(by repeat(first | exact .refl _ _ | (refine BxS ?_ _) | (refine qB ?_ _) | (refine zaB ?_) | (refine BxA ?_ _)));have nE: ∀j u,(edC (pav-1,l,pcv-1))[j]? =some u→(W.alloc (.cells #[.int .i64 (pav-1),.int .i64 l,.int .i64 (pcv-1)] 154)).drew.cell? ⟨W.heap.size,j,none⟩=some u:=fun j u hj=>by
          rcases j with _ | _ | _ | j<;>simp[edC] at hj<;>subst hj<;>simp[go_sem]
         have sB:W.heap.size<(W.alloc (.cells #[.int .i64 (pav-1),.int .i64 l,.int .i64 (pcv-1)] 154)).drew.heap.size:=by simp
         have iu:(W.alloc (.cells #[.int .i64 (pav-1),.int .i64 l,.int .i64 (pcv-1)] 154)).drew.cell? ⟨w5.heap.size,2,none⟩=some (.slice A2 L.length am)∧(W.alloc (.cells #[.int .i64 (pav-1),.int .i64 l,.int .i64 (pcv-1)] 154)).drew.cell? ⟨W0.heap.size,a,none⟩=some (.int .i64 (pav-1))∧(W.alloc (.cells #[.int .i64 (pav-1),.int .i64 l,.int .i64 (pcv-1)] 154)).drew.cell? ⟨W0.heap.size,c,none⟩=some (.int .i64 (pcv-1))∧(W.alloc (.cells #[.int .i64 (pav-1),.int .i64 l,.int .i64 (pcv-1)] 154)).drew.cell? ⟨wr.heap.size,0,none⟩=some (.int .i64 a)∧(W.alloc (.cells #[.int .i64 (pav-1),.int .i64 l,.int .i64 (pcv-1)] 154)).drew.cell? ⟨wr.heap.size,1,none⟩=some (.int .i64 l)∧(W.alloc (.cells #[.int .i64 (pav-1),.int .i64 l,.int .i64 (pcv-1)] 154)).drew.cell? ⟨wr.heap.size,2,none⟩=some (.int .i64 c):=
          ⟨(bB.cell (p:=⟨w5.heap.size,2,none⟩) fp).trans lx,(bB.cell (p:=⟨W0.heap.size,a,none⟩) mT).trans la,(bB.cell (p:=⟨W0.heap.size,c,none⟩) mT).trans lc,(bB.cell (p:=⟨wr.heap.size,0,none⟩) sA).trans l0,(bB.cell (p:=⟨wr.heap.size,1,none⟩) sA).trans l1,(bB.cell (p:=⟨wr.heap.size,2,none⟩) sA).trans l2⟩
         clear hHeld;refine hK.out _ _ iu (fun _=> ?_);clear hK;generalize (W.alloc (.cells #[.int .i64 (pav-1),.int .i64 l,.int .i64 (pcv-1)] 154)).drew=V at bB nE sB iu⊢;have sV:W.heap.size<V.heap.size:=sB;refine qAl (i:=16) tK rfl fun K' hK=> ?_;rw[if_pos (by rfl)];refine qFP (.tmp 63) (.tmp 77) rfl (w5.heap.size+1) _ L (OW.out.below bB) rfl W.heap.size (pav-1,l,pcv-1) rfl nE ⟨⟨by simp only;omega,by simp only;omega⟩,n5.out,⟨by simp only;omega,by simp only;omega⟩⟩ tO tO ?_;intro v' w' o' g' p';obtain⟨A9,aT,rfl,_⟩:=OwE.form o';have O9:=qA o';clear o';have aG: ∀x,(zaR A2 L.length am).ownBlock=some x→w5.heap.size+1≤x∧x<wr.heap.size:=fun x hx=>cO.out.1.lt x hx;have vu: ∀y,y<V.heap.size→(y≤w5.heap.size∨y=wr.heap.size)→some y≠(zaR A2 L.length am).ownBlock:=fun y _ h he=>by
          have:=aG y he.symm
          omega
         have cW: ∀y o u,y<V.heap.size→(y≤w5.heap.size∨y=wr.heap.size)→V.cell? ⟨y,o,none⟩=some u→w'.cell? ⟨y,o,none⟩=some u:=fun y o u h1 h2 h3=>(zan (w:=V) (g'.block y h1 (vu y h1 h2))).trans h3;obtain⟨k1,k2,k3,k4,k5,k6⟩:=iu;have kp:w'.cell? ⟨w5.heap.size,2,none⟩=some (.slice A2 L.length am)∧w'.cell? ⟨W0.heap.size,a,none⟩=some (.int .i64 (pav-1))∧w'.cell? ⟨W0.heap.size,c,none⟩=some (.int .i64 (pcv-1))∧w'.cell? ⟨wr.heap.size,0,none⟩=some (.int .i64 a)∧w'.cell? ⟨wr.heap.size,1,none⟩=some (.int .i64 l)∧w'.cell? ⟨wr.heap.size,2,none⟩=some (.int .i64 c):=
          ⟨cW _ _ _ tO tO k1,cW _ _ _ tO tO k2,cW _ _ _ tO tO k3,cW _ _ _ tO tO k4,cW _ _ _ tO tO k5,cW _ _ _ tO tO k6⟩
         refine hK.out _ _ kp (fun _=> ?_);clear hK;simp only[zah,zaa,zab,zac];(refine qO (n:=18) (i:=17) (v:= ?_) rfl tK rfl (by decide) tK tK tK tK (fun _ _ _ h=>h) (Or.inl ⟨by rfl,?_⟩) (by assumption) ?_;rotate_left;focus (intro ww hSw;(try dsimp only at hSw);go_simp;try with_reducible rfl);(try simp only[zah,zaa,zab,zac]))
         have qf:w'.frozen? ⟨w5.heap.size,2,none⟩=false:=((zaF (w:=V) (g'.block w5.heap.size tO (vu _ tO tO))).trans (bB.frozen (p:=⟨w5.heap.size,2,none⟩) fp)).trans (LXF.out 2);have qx:=kp.1;refine qDy (n:=18) tK rfl tK fun K' hK=> ?_;go_simp;refine hK.out _ _ ?_;clear hK;go_wp2;go_roundw
         case rel=>
          have GV:w5.grownBy V (some w5.heap.size):=GW.out.trans (qAy bB);have J3:=g'.size;have G9:w5.grownBy w' (some w5.heap.size):=⟨g'.os.trans GV.os,g'.tape.trans GV.tape,g'.output.trans GV.output,tO,fun b hb ai=>(g'.block b tO (vu b tO tO)).trans (GV.block b hb ai)⟩;refine⟨j+1,A9,aT,tO,by go_num,by rw[F.out,zas];exact zak _ _ _ qx,?_,G9.trans (qDC _ _ _ _),?_,?_,fun j=> ?_,by simp;omega⟩
          ·rw[F.out];have:=O9.out.far (p:=⟨w5.heap.size,2,none⟩) (show w5.heap.size<w5.heap.size+1 by omega) (zaR A9 (L.length+1) aT)
           simpa[zas] using this
          ·rw[zae _ _ _ _ (by simp)];exact cW _ _ _ tO tO ((bB.cell (p:=⟨w5.heap.size,0,none⟩) fp).trans uJ.out)
          ·rw[zae _ _ _ _ (by simp)];exact cW _ _ _ tO tO ((bB.cell (p:=⟨w5.heap.size,1,none⟩) fp).trans sH.out)
          ·rw[za5];exact((zaF (w:=V) (g'.block w5.heap.size tO (vu _ tO tO))).trans (bB.frozen (p:=⟨w5.heap.size,j,none⟩) fp)).trans (LXF.out j)
         case measure=>simp[intOf];omega
        ·have F:=qA (uR.out (by rw[RN.out,if_neg (fun h=>t2 tO)]));go_wp2;go_roundw
         case rel=>exact⟨j+1,A2,am,tO,by go_num,by rw[F.out];exact(bA.cell (p:=⟨w5.heap.size,2,none⟩) dz).trans fI.out,by rw[F.out];exact cO.out.below bA,dZ.out.trans (qAy bA),(bA.cell (p:=⟨w5.heap.size,0,none⟩) dz).trans fu.out,(bA.cell (p:=⟨w5.heap.size,1,none⟩) dz).trans ei.out,fun j=>(bA.frozen (p:=⟨w5.heap.size,j,none⟩) dz).trans (jf.out j),by simp;omega⟩
         case measure=>simp[intOf];omega
       ·have F:=qA (uR.out (by rw[RN.out,if_neg (fun h=>t1 tO)]));go_wp2;go_roundw
        case rel=>exact⟨j+1,A2,am,tO,by go_num,by rw[F.out];exact(bA.cell (p:=⟨w5.heap.size,2,none⟩) dz).trans fI.out,by rw[F.out];exact cO.out.below bA,dZ.out.trans (qAy bA),(bA.cell (p:=⟨w5.heap.size,0,none⟩) dz).trans fu.out,(bA.cell (p:=⟨w5.heap.size,1,none⟩) dz).trans ei.out,fun j=>(bA.frozen (p:=⟨w5.heap.size,j,none⟩) dz).trans (jf.out j),by simp;omega⟩
        case measure=>simp[intOf];omega
      ·obtain rfl:j=es.length:=tO
       rw[zar] at bU cO;have zp:=qA (qNZ o tu.out);have jX:(rnL es o).length≤120:=by
        have h2:=qII es o;omega
       have ze:=jf.out 2;go_wp2_with fail;refine(qMD _ _ _ cO.out.arg zp.out tO).mono ?_
       rintro e' w9 ⟨r9,rfl,o9,b9⟩;have B9:=qA b9;have JR:=(b9.cell (p:=⟨w5.heap.size,0,none⟩) dz).trans fu.out;have Jv:=(b9.cell (p:=⟨w5.heap.size,1,none⟩) dz).trans ei.out;have Jm:=(b9.cell (p:=⟨w5.heap.size,2,none⟩) dz).trans bU;have JX:=(b9.frozen (p:=⟨w5.heap.size,2,none⟩) dz).trans ze;obtain⟨A9,aT,rfl,_⟩:=OwE.form o9;have O9:=qA o9;have wH:=(b9.cell (p:=⟨w.heap.size+1,0,none⟩) (by show w.heap.size+1<wr.heap.size;omega)).trans ((qAa (o:=0) dZ.out (show w.heap.size+1<w5.heap.size by omega) tO).trans ((eh.out.cell (p:=⟨w.heap.size+1,0,none⟩) dv).trans R0.out));have wN:=(b9.cell (p:=⟨w.heap.size+1,1,none⟩) (by show w.heap.size+1<wr.heap.size;omega)).trans ((qAa (o:=1) dZ.out (show w.heap.size+1<w5.heap.size by omega) tO).trans ((eh.out.cell (p:=⟨w.heap.size+1,1,none⟩) dv).trans R1.out));have wI:=(b9.cell (p:=⟨w.heap.size+1,2,none⟩) (by show w.heap.size+1<wr.heap.size;omega)).trans ((qAa (o:=2) dZ.out (show w.heap.size+1<w5.heap.size by omega) tO).trans ((eh.out.cell (p:=⟨w.heap.size+1,2,none⟩) dv).trans R2.out));have rrf: ∀j,w9.frozen? ⟨w.heap.size+1,j,none⟩=false:=fun j=>(b9.frozen (p:=⟨w.heap.size+1,j,none⟩) (by show w.heap.size+1<wr.heap.size;omega)).trans ((qFT (o:=j) dZ.out (show w.heap.size+1<w5.heap.size by omega) tO).trans ((eh.out.frozen (p:=⟨w.heap.size+1,j,none⟩) dv).trans (RF.out j)));have dR:=rrf 0;have dP:=rrf 1;have dI:=rrf 2;have s9:=b9.size;clear rrf b9 o9;generalize hL:srt cmpE (rnL es o)=L at*;have cd:=qA hL;clear hL;have nX: ¬w5.heap.size=w.heap.size+1:=tO;have nX': ¬w.heap.size+1=w5.heap.size:=tO;go_wp2;have G8:w.heap.size+1<w9.heap.size:=tO;have c0:((((w9.setCell ⟨w5.heap.size,2,none⟩ (.slice A9 L.length aT)).setCell ⟨w.heap.size+1,0,none⟩ (.int .i64 r)).setCell ⟨w.heap.size+1,1,none⟩ (.int .i64 o.length)).setCell ⟨w.heap.size+1,2,none⟩ (.slice A9 L.length aT)).cell? ⟨w.heap.size+1,0,none⟩=some (.int .i64 r):=by
        rw[zae _ _ _ _ (by simp),zae _ _ _ _ (by simp)];exact zak _ _ _ ((qCK _ _ _ _ _ _ tO).trans wH)
       have c1:((((w9.setCell ⟨w5.heap.size,2,none⟩ (.slice A9 L.length aT)).setCell ⟨w.heap.size+1,0,none⟩ (.int .i64 r)).setCell ⟨w.heap.size+1,1,none⟩ (.int .i64 o.length)).setCell ⟨w.heap.size+1,2,none⟩ (.slice A9 L.length aT)).cell? ⟨w.heap.size+1,1,none⟩=some (.int .i64 o.length):=by
        rw[zae _ _ _ _ (by simp)];exact zak _ _ _ ((zae _ _ _ _ (by simp)).trans ((qCK _ _ _ _ _ _ tO).trans wN))
       have c2:((((w9.setCell ⟨w5.heap.size,2,none⟩ (.slice A9 L.length aT)).setCell ⟨w.heap.size+1,0,none⟩ (.int .i64 r)).setCell ⟨w.heap.size+1,1,none⟩ (.int .i64 o.length)).setCell ⟨w.heap.size+1,2,none⟩ (.slice A9 L.length aT)).cell? ⟨w.heap.size+1,2,none⟩=some (.slice A9 L.length aT):=
        zak _ _ _ ((zae _ _ _ _ (by simp)).trans ((zae _ _ _ _ (by simp)).trans ((qCK _ _ _ _ _ _ tO).trans wI)))
       have zq:=qA (kU.out.trans (B9.out.mono (show w.heap.size≤wr.heap.size by omega)));have bw:Below w.heap.size w ((((w9.setCell ⟨w5.heap.size,2,none⟩ (.slice A9 L.length aT)).setCell ⟨w.heap.size+1,0,none⟩ (.int .i64 r)).setCell ⟨w.heap.size+1,1,none⟩ (.int .i64 o.length)).setCell ⟨w.heap.size+1,2,none⟩ (.slice A9 L.length aT)):=(by repeat(first | exact .refl _ _ | (refine BxS ?_ _) | (refine qB ?_ _) | (refine zaB ?_) | (refine BxA ?_ _) | (refine BxT ?_ (Hid.out zq))));have ow:OwE ((((w9.setCell ⟨w5.heap.size,2,none⟩ (.slice A9 L.length aT)).setCell ⟨w.heap.size+1,0,none⟩ (.int .i64 r)).setCell ⟨w.heap.size+1,1,none⟩ (.int .i64 o.length)).setCell ⟨w.heap.size+1,2,none⟩ (.slice A9 L.length aT)) wr.heap.size (.slice A9 L.length aT) L:=
        (((O9.out.far (p:=⟨w5.heap.size,2,none⟩) (by show w5.heap.size<_;omega) _).far (p:=⟨w.heap.size+1,0,none⟩) (by show w.heap.size+1<_;omega) _).far (p:=⟨w.heap.size+1,1,none⟩) (by show w.heap.size+1<_;omega) _).far (p:=⟨w.heap.size+1,2,none⟩) (by show w.heap.size+1<_;omega) _
       generalize (((w9.setCell ⟨w5.heap.size,2,none⟩ (.slice A9 L.length aT)).setCell ⟨w.heap.size+1,0,none⟩ (.int .i64 r)).setCell ⟨w.heap.size+1,1,none⟩ (.int .i64 o.length)).setCell ⟨w.heap.size+1,2,none⟩ (.slice A9 L.length aT)=wf at*;refine bodyPost_ret (v:= .agg #[.int .i64 r, .int .i64 o.length, .slice A9 L.length aT]) (by simp[results,Tryz.results155,go_sem,c0,c1,c2]) rfl ⟨_,rfl,⟨.slice A9 L.length aT,?_,?_,?_,?_⟩,bw⟩
       ·rfl
       ·show I64 r
        unfold I64;omega
       ·show I64 (o.length:Int)
        unfold I64;omega
       ·show OwE wf w.heap.size (.slice A9 L.length aT) (srt cmpE (rnL es o))
        rw[cd.out];exact ow.mono tO
theorem qKo (v vo:Value) (g:GrD) (o:List Int) (w:World) (h:ArgG w v g) (ho:RdI w vo o) (hg:grB g=true) (ar:qAd g.2.1 o):
  Calls Tryz.prog 155 #[v,vo] w fun e w'=> ∃r,e= .returned r∧OwG w' w.heap.size r (rnG g o)∧Below w.heap.size w w':=qMl v vo g o w h ho hg ar.toN
theorem OwnL.any {α:Type} {E:El α} {t:TypeId} {width:Nat} {w:World} {v:Value} {ds:List α} {lo hi:Nat} (h:OwnL E t width lo hi w v ds): ∃A m cap,v= .slice A m cap:=by
 obtain⟨A,cap,hv,_⟩:=h.len;exact⟨A,_,cap,hv⟩
theorem OwI.any {w:World} {base:Nat} {v:Value} {xs:List Int} (h:OwI w base v xs): ∃A m cap,v= .slice A m cap:=by
 obtain⟨A,cap,hv,_⟩:=h.form;exact⟨A,_,cap,hv⟩
theorem qMs {w:World} {base lo:Nat} {z:Value} {d:List Int} (h:OwI w base z d) (hb:lo≤base) (hl:base≤w.heap.size):OwII lo (w.heap.size+1) (.slice (some ⟨w.heap.size,0,none⟩) 1 1) [d] (w.alloc (.cells #[z] 24)):=by
 refine⟨w.heap.size::z.ownBlock.toList,⟨[([z],d,z.ownBlock.toList)],rfl,fun e he=> ?_,?_,by simp[zav]⟩,?_,fun b aE=> ?_⟩
 ·simp at he;subst he
  exact⟨rfl,EI.of (h.alloc _)⟩
 ·have:=qDf w [z] (by simp) (zap _)
  simpa using this
 ·refine List.nodup_cons.2 ⟨fun hm=> ?_,by cases z.ownBlock<;>simp⟩;have:=h.1.lt w.heap.size (by simpa using hm)
  omega
 ·rcases zaM.1 aE with rfl | hm
  ·omega
  ·have:=h.1.lt b (by simpa using hm)
   omega
theorem qNr (ls:List Int) (h6:ls.length≤6): ∀n,(rlL ls n).length≤6^n
 | 0=>by simp[rlL]
 | n+1=>by
   have h:=qFk (rlL ls n) (rxL ls) 6 fun x _=>zbl (qJt ls x) h6;have h2:=qNr ls h6 n;have h3:(rlL ls n).length*6≤6^n*6:=zaQ _ h2;have e:rlL ls (n+1)=(rlL ls n).flatMap (rxL ls):=rfl;rw[e,Nat.pow_succ];omega
theorem qQl (l:List Int) (m:Nat):((qD (m+1)).filter (rxOk l)).map (fun x=>l++ [x])=((qD m).filter (rxOk l)).map (fun x=>l++ [x])++(if rxOk l ((m:Int)+1) then [l++ [(m:Int)+1],l++ [-((m:Int)+1)]] else []):=by
 have e:qD (m+1)=qD m++ [(m:Int)+1,-((m:Int)+1)]:=rfl;have e2:rxOk l (-((m:Int)+1))=rxOk l ((m:Int)+1):=by unfold rxOk;rw[Int.neg_neg,Bool.and_comm]
 rw[e,zaJ,zaP];congr 1
 rcases h:rxOk l ((m:Int)+1) with _ | _
 ·simp[h,e2]
 ·simp[h,e2]
theorem qQL (ls:List Int) (L:List (List Int)) (q:Nat) (h:q<L.length):(L.take (q+1)).flatMap (rxL ls)=(L.take q).flatMap (rxL ls)++rxL ls L[q]:=by
 rw[zaf h,List.flatMap_append];simp
theorem qPr (n m q:Nat) (hm:m≤n) (hn:n≤3) (l:List Int) (L:List (List Int)) (hq:q≤216):((L.take q).flatMap (rxL (qD n))++((qD m).filter (rxOk l)).map (fun x=>l++ [x])).length≤1302:=by
 have h1:=qFk (L.take q) (rxL (qD n)) 6 fun x _=>by have:=qJt (qD n) x;rw[qo] at this;omega
 have h2:(((qD m).filter (rxOk l)).map (fun x=>l++ [x])).length≤6:=by
  rw[zaI];have:=List.length_filter_le (rxOk l) (qD m)
  rw[qo] at this;omega
 rw[zas];rw[zaj] at h1;have h3:min q L.length*6≤216*6:=zaQ _ tO;omega
theorem qOM {y:Int} (h1: -3≤y) (h2:y≤3):IntKind.i64.wrap (-y)= -y:=by rw[IntKind.wrap_i64];omega
theorem qBH (r:Int) (w:World) (hr:I64 r):
  Calls Tryz.prog 49 #[.int .i64 r] w fun e w'=> ∃v,e= .returned v∧OMS w.heap.size w'.heap.size v (relF r) w'∧Below w.heap.size w w':=by
 rcases e1:inB r 1 3 with _ | _
 ·have F:Hid (relF r= []):=qA (by unfold relF;rw[e1];rfl);have CI:=qA fun w=>qI r 1 3 w;rw[e1] at CI;go_enter Tryz.func49,Tryz.ntmps49
  go_wp2_with (go_at_call 64;refine(CI.out _).mono ?_;rintro e w' ⟨rfl,rfl⟩)
  refine bodyPost_ret (v:= .slice (some ⟨w.heap.size,0,none⟩) 0 0) (by simp[results,Tryz.results49,go_sem]) rfl ⟨_,rfl,?_,(by repeat(first | exact .refl _ _ | (refine BxS ?_ _) | (refine qB ?_ _) | (refine zaB ?_) | (refine BxA ?_ _)))⟩;rw[F.out];have:=qPs w (zad w.heap.size)
  simpa using this
 ·have gQ:=(qP.1 e1).1;have cS:=(qP.1 e1).2;obtain⟨n,rfl⟩: ∃n:Nat,r=n:=⟨r.toNat,tO⟩;have F:Hid (relF n=(rlL (qD n) n).map (relM n)):=qA (by unfold relF;rw[e1];simp);have hn:n≤3:=tO;have nk:(qD n).length≤6:=by rw[qo];omega
  have yZ:Hid (∀k,k≤n→(rlL (qD n) k).length≤216):=qA fun k hk=>by
   have h1:=qNr (qD n) nk k;have h2:6^k≤6^3:=Nat.pow_le_pow_right tO tO;omega
  have CI:=qA fun w=>qI n 1 3 w;rw[e1] at CI;obtain⟨W1,cC⟩: ∃W:World,W=((w.alloc (.cells #[] 31)).alloc (.cells #[] 3)).alloc (.cells #[.slice (some ⟨w.heap.size+1,0,none⟩) 0 0] 24):=⟨_,rfl⟩;have aA:W1.heap.size=w.heap.size+3:=by rw[cC];simp
  have eh:Hid (Below w.heap.size w W1):=qA (by rw[cC];exact(by repeat(first | exact .refl _ _ | (refine BxS ?_ _) | (refine qB ?_ _) | (refine zaB ?_) | (refine BxA ?_ _))));have iQ:Hid (OwII (w.heap.size+1) W1.heap.size (.slice (some ⟨w.heap.size+2,0,none⟩) 1 1) [[]] W1):=qA (by
   have h:=qMs (w:=(w.alloc (.cells #[] 31)).alloc (.cells #[] 3)) (lo:=w.heap.size+1) (qCF (w.alloc (.cells #[] 31)) [] (w.heap.size+1) (by simp) qS (by simp) (zad _)) (zad _) (by simp);rw[aA,cC];simpa using h)
  have ff:Hid (W1.ownsRow 0 31 2 (.slice (some ⟨w.heap.size,0,none⟩) 0 0) 0 []):=qA (by
   have h0:=World.ownsRow_lit (e:=31) (size:=2) (base:=0) w #[] 0 (zap _) (by unfold maxLen;omega) (by simp);have h1:=(h0.alloc (.cells #[] 3)).alloc (.cells #[.slice (some ⟨w.heap.size+1,0,none⟩) 0 0] 24);rw[cC];simpa using h1)
  have HW:=qA cC;clear cC hr e1 nk;go_enter Tryz.func49,Tryz.ntmps49
  go_wp2_with (go_at_call 64;refine(CI.out _).mono ?_;rintro e w' ⟨rfl,rfl⟩)
  rw[←HW.out];go_loopw [4,5] (fun ord i wr=> ∃k:Nat,k≤n∧i= .int .i64 k∧OwII (w.heap.size+1) wr.heap.size ord (rlL (qD n) k) wr∧Below (w.heap.size+1) W1 wr)
   (fun _ i _=>n-(intOf i).toNat)
  case atStart=>exact⟨0,zap _,rfl,iQ.out,zaC _ _⟩
  case round=>
   obtain⟨k,hk,rfl,hO,hB⟩:=hrel;have HO:=qA hO;have HB:=qA hB;have fL:=hB.size;have hL:=yZ.out k hk;have uV:Hid (rlL (qD n) (k+1)=(rlL (qD n) k).flatMap (rxL (qD n))):=qA rfl;clear hO hB;by_cases ac:k<n
   ·obtain⟨wo,rfl⟩: ∃wo:World,wo=wr:=⟨_,rfl⟩;have wU:Hid (∀l∈rlL (qD n) k,l.length≤3):=qA fun l hl=>by have:=(qFq (qD n) k l hl).1;omega
    generalize AR:rlL (qD n) k=L at*;clear AR;obtain⟨A0,pk,rfl,_⟩:=HO.out.len;have gR:=qA HO.out.rd;go_wp2_with fail;go_loopw [6,7] (fun nx q wi=> ∃q':Nat,q'≤L.length∧q= .int .i64 q'∧OwII wo.heap.size wi.heap.size nx ((L.take q').flatMap (rxL (qD n))) wi∧Below wo.heap.size wo wi)
     (fun _ q _=>L.length-(intOf q).toNat)
    case atStart=>exact⟨0,zap _,rfl,by simpa using qCe wo (zad _),(zaC _ _).alloc (zad _) _⟩
    case round=>
     obtain⟨q',hq,rfl,hN,BI⟩:=hrel;have HN:=qA hN;have CO:=qA BI;obtain⟨An,mn,cn,rfl⟩:=hN.any;clear hN BI;by_cases hltq:q'<L.length
     ·have sn:=qA (qQL (qD n) L q' hltq);have Hp:=qA fun m hm=>qPr n m q' hm hn L[q'] L tO;obtain⟨b,off,A3,aU,rfl,aM,aZ,jx,nu,hl⟩:=gR.out.at hltq;have og:=qA hl;have Hf:Hid (rxL (qD n) L[q']=((qD n).filter (rxOk L[q'])).map fun x=>L[q']++ [x]):=qA rfl;have Ie:L[q'].length≤3:=wU.out _ (zaH hltq);generalize (L.take q').flatMap (rxL (qD n))=P at*;generalize L[q']=l at*;clear hl;go_wp2_with fail;go_loopw [6,8] (fun nx x wi=> ∃m:Nat,m≤n∧x= .int .i64 ((m:Int)+1)∧OwII wo.heap.size wi.heap.size nx (P++((qD m).filter (rxOk l)).map fun x=>l++ [x]) wi∧Below wo.heap.size wo wi)
       (fun _ x _=>n+1-(intOf x).toNat)
      case atStart=>exact⟨0,zap _,rfl,by simpa[qD] using HN.out,CO.out⟩
      case round=>
       obtain⟨m,hm,rfl,ly,xO⟩:=hrel;obtain⟨wj,rfl⟩: ∃wj:World,wj=wr:=⟨_,rfl⟩;have rz:=qA ly;have rJ:=qA xO;obtain⟨Aj,mj,cj,rfl⟩:=ly.any;have kX:=xO.size;clear ly xO;by_cases hltm:m<n
       ·have rh:=qA (og.out.below rJ.out);have ev:=(rJ.out.cell (p:=⟨b,off+q',none⟩) aM).trans aZ;have Fb:(wj.alloc (.cells #[] 3)).cell? ⟨b,off+q',none⟩=some (.slice A3 l.length aU):=(za2 _ _ _ (zbm aM kX)).trans ev;have yu:=Hp.out m hm;have xG:(P++((qD m).filter (rxOk l)).map fun x=>l++ [x]).length≤1073741824:=tO;have ma:=qA (qQl l m);have jv:Hid (rxOk l ((m:Int)+1)=(!hasB l ((m:Int)+1)&& !hasB l (-((m:Int)+1)))):=qA rfl;have EN:Hid (I64 ((m:Int)+1)):=qA ⟨tO,tO⟩;have d6:Hid (I64 (-((m:Int)+1))):=qA ⟨tO,tO⟩;have Cq:=qOM (y:=(m:Int)+1) tO tO;have fx:=fun W (h:ArgI W (.slice A3 l.length aU) l)=>qBK _ l ((m:Int)+1) W h tO;have fy:=fun W (h:ArgI W (.slice A3 l.length aU) l)=>qBK _ l (-((m:Int)+1)) W h tO;have zb:(q':Int)<(L.length:Int):=tO;generalize hQ:P++((qD m).filter (rxOk l)).map (fun x=>l++ [x])=Q0 at*;have xF:(Q0++ [l++ [(m:Int)+1]]).length≤1073741824:=by rw[zas,za7];omega
        have HQ:=qA hQ;clear hQ yu;generalize hy:(m:Int)+1=y at*;have HY:Hid (y=(m:Int)+1):=qA hy.symm;have jO:1≤y:=tO;have Kr:y≤n:=tO;clear hy;rcases e1:hasB l y with _ | _
        ·rcases e2:hasB l (-y) with _ | _
         ·have bG:Hid (rxOk l y=true):=qA (by rw[jv.out,e1,e2];rfl);rw[e1] at fx;rw[e2] at fy;have CP:=qA fx;have CN:=qA fy;clear fx fy e1 e2 jv;go_wp2_with (first
      | (go_at_call 54;(with_reducible refine(CP.out _ rh.out.arg).mono ?_);rintro e w' ⟨rfl,rfl⟩)
      | (go_at_call 54;(with_reducible refine(CN.out _ rh.out.arg).mono ?_);rintro e w' ⟨rfl,rfl⟩)
      | (at_builtin;refine qi rfl (.tmp 54) (.tmp 58) rfl wj.heap.size _ [] (qW wj [] qS (by simp) (zad _)) rfl _ l (rh.out.alloc _) rfl (by simp;omega) (by simp) ?_;intro v1a w1a o1a g1a p1a;have xX:Hid (OwI w1a wj.heap.size v1a l):=qA (by simpa using o1a);have BH:Hid (Below wj.heap.size wj w1a):=qA (((zaC _ _).alloc (zad _) _).grown g1a (by simp) (fun k hk=>by simp[zav] at hk;omega));have Hd:=BH.out.size;obtain⟨J7,JB,rfl,_⟩:=OwI.form xX.out;clear o1a g1a p1a)
      | ((at_builtin;refine qN rfl (.tmp 59) (.tmp 61) rfl _ _ _ (OwI.alloc xX.out _) rfl _ _ rfl (qG _ _ _) EN.out (by first | omega | (simp<;>omega)) (by first | omega | (simp<;>omega)) ?_;intro v2a wv2a o2a g2a p2a);have zO:=qA (qQ BH.out Hd xX.out.1 (zad _) g2a);have Eh:=zO.out.size;have ET:=qA o2a;obtain⟨Ke,Jb,JV,rfl⟩:=o2a.any;clear o2a g2a p2a)
      | (at_builtin;refine qAV rfl (.tmp 53) (.tmp 63) rfl (w0:=wj) rz.out kX (zO.out.alloc Eh _) rfl _ _ _ rfl (ET.out.alloc _) (zad _) (qG _ _ _) rfl xG ?_;intro vza wza oza gza;have OZa:=qA oza;have BZa:Hid (Below wo.heap.size wo wza):=qA (qEx ((rJ.out.trans (zO.out.mono kX)).alloc (zbl kX Eh) _) rz.out (zad _) (by have:=kX;simp;omega) gza);obtain⟨Aza,mza,cza,rfl⟩:=oza.any;clear oza gza;have k7:=BZa.out.size;have Io:=qA (og.out.below BZa.out);have qb:=(BZa.out.cell (p:=⟨b,off+q',none⟩) aM).trans aZ;have Js:(wza.alloc (.cells #[] 3)).cell? ⟨b,off+q',none⟩=some (.slice A3 l.length aU):=(za2 _ _ _ (zbm aM k7)).trans qb)
      | (at_builtin;refine qi rfl (.tmp 66) (.tmp 70) rfl wza.heap.size _ [] (qW wza [] qS (by simp) (zad _)) rfl _ l (Io.out.alloc _) rfl (by simp;omega) (by simp) ?_;intro v1b rY o1b g1b p1b;have yo:Hid (OwI rY wza.heap.size v1b l):=qA (by simpa using o1b);have Be:Hid (Below wza.heap.size wza rY):=qA (((zaC _ _).alloc (zad _) _).grown g1b (by simp) (fun k hk=>by simp[zav] at hk;omega));have Hq:=Be.out.size;obtain⟨J9,JA,rfl,_⟩:=OwI.form yo.out;clear o1b g1b p1b)
      | ((at_builtin;refine qN rfl (.tmp 71) (.tmp 74) rfl _ _ _ (OwI.alloc yo.out _) rfl _ _ rfl (qG _ _ _) d6.out (by first | omega | (simp<;>omega)) (by first | omega | (simp<;>omega)) ?_;intro v2b wv2b o2b g2b p2b);have xz:=qA (qQ Be.out Hq yo.out.1 (zad _) g2b);have Eb:=xz.out.size;have ED:=qA o2b;obtain⟨JJ,Jy,Jp,rfl⟩:=o2b.any;clear o2b g2b p2b)
      | (at_builtin;refine qAV rfl (.tmp 65) (.tmp 76) rfl (w0:=wza) OZa.out k7 (xz.out.alloc Eb _) rfl _ _ _ rfl (ED.out.alloc _) (zad _) (qG _ _ _) rfl xF ?_;intro vzb wzb ozb gzb;have OZb:=qA ozb;have BZb:Hid (Below wo.heap.size wo wzb):=qA (qEx ((BZa.out.trans (xz.out.mono k7)).alloc (zbl k7 Eb) _) OZa.out (zad _) (by have:=k7;simp;omega) gzb);obtain⟨Azb,mzb,czb,rfl⟩:=ozb.any;clear ozb gzb))
          go_roundw
          case rel=>
           refine⟨m+1,tO,by rw[HY.out];go_num,?_,BZb.out⟩;have h:=OZb.out;rw[ma.out,bG.out,if_pos rfl,←List.append_assoc,HQ.out];simpa using h
          case measure=>(have:=HY.out;first | omega | (simp[intOf];omega))
         ·have di:Hid (rxOk l y=false):=qA (by rw[jv.out,e1,e2];rfl);rw[e1] at fx;rw[e2] at fy;have CP:=qA fx;have CN:=qA fy;clear fx fy e1 e2 jv;go_wp2_with (first
           | (go_at_call 54;(with_reducible refine(CP.out _ rh.out.arg).mono ?_);rintro e w' ⟨rfl,rfl⟩)
           | (go_at_call 54;(with_reducible refine(CN.out _ rh.out.arg).mono ?_);rintro e w' ⟨rfl,rfl⟩))
          go_roundw
          case rel=>exact⟨m+1,tO,by rw[HY.out];go_num,by rw[ma.out,di.out,if_neg (by decide),zaZ,HQ.out];exact rz.out,rJ.out⟩
          case measure=>(have:=HY.out;first | omega | (simp[intOf];omega))
        ·have di:Hid (rxOk l y=false):=qA (by rw[jv.out,e1];rfl);rw[e1] at fx;have CP:=qA fx;clear fx fy e1 jv;go_wp2_with (go_at_call 54;(with_reducible refine(CP.out _ rh.out.arg).mono ?_);rintro e w' ⟨rfl,rfl⟩)
         go_roundw
         case rel=>exact⟨m+1,tO,by rw[HY.out];go_num,by rw[ma.out,di.out,if_neg (by decide),zaZ,HQ.out];exact rz.out,rJ.out⟩
         case measure=>(have:=HY.out;first | omega | (simp[intOf];omega))
       ·obtain rfl:m=n:=tO
        have xV:Hid (OwII wo.heap.size wj.heap.size (.slice Aj mj cj) ((L.take (q'+1)).flatMap (rxL (qD m))) wj):=qA (by rw[sn.out,Hf.out];exact rz.out);clear rz;go_wp2;go_roundw
        case rel=>exact⟨q'+1,tO,by go_num,xV.out,rJ.out⟩
        case measure=>(first | omega | (simp[intOf];omega))
     ·obtain rfl:q'=L.length:=tO
      have xV:Hid (OwII wo.heap.size wr.heap.size (.slice An mn cn) (rlL (qD n) (k+1)) wr):=qA (by rw[uV.out];have h:=HN.out;rw[zar] at h;exact h);clear HN;go_wp2;go_roundw
      case rel=>exact⟨k+1,tO,by go_num,xV.out.widen tO (zad _),HB.out.trans (CO.out.mono tO)⟩
      case measure=>(first | omega | (simp[intOf];omega))
   ·obtain rfl:k=n:=tO
    obtain⟨W5,rfl⟩: ∃W:World,W=wr:=⟨_,rfl⟩;have wU:Hid (∀l∈rlL (qD k) k,l.length=k∧I64s l):=qA fun l hl=>by
     obtain⟨h1,h2⟩:=qFq (qD k) k l hl;exact⟨h1,fun x hx=>qJV (n:=k) tO x (h2 x hx)⟩
    generalize AR:rlL (qD k) k=L at*;clear AR;obtain⟨A0,pk,rfl,_⟩:=HO.out.len;have sX:Hid (OwLf EM 31 2 W5 (.slice (some ⟨w.heap.size,0,none⟩) 0 0) [] [w.heap.size]):=qA ⟨[],rfl,(fun e he=>by cases he),by simpa using qZ ff.out fun b hb=>by simp[zav] at hb;subst hb;exact HB.out.block _ tO,by simp[zav]⟩;have xh:w.heap.size<W5.heap.size:=tO;go_wp2_with fail;go_loopw [3,9] (fun out q wi=> ∃q':Nat,q'≤L.length∧q= .int .i64 q'∧ ∃F',OwLf EM 31 2 wi out ((L.take q').map (relM k)) F'∧F'.Nodup∧(∀b∈F',(b=w.heap.size∨W5.heap.size≤b)∧b<wi.heap.size)∧FrF w.heap.size [] W5 wi)
     (fun _ q _=>L.length-(intOf q).toNat)
    case atStart=>exact⟨0,zap _,rfl,[w.heap.size],by simpa using sX.out,by simp,(fun b hb=>by rw[zaE] at hb;subst hb;exact⟨.inl rfl,xh⟩),FrF.refl _ _ _⟩
    case round=>
     obtain⟨q',hq,rfl,F1,l1,l2,l3,f1⟩:=hrel;have fK:=qA l1;have rO:=qA l2;have uO:=qA l3;have lm:=qA f1;obtain⟨Ao,mo,co,rfl⟩:=OwLf.formR l1;have Cv:=f1.size;clear l1 l2 l3 f1;by_cases hltq:q'<L.length
     ·obtain⟨wi,rfl⟩: ∃wi:World,wi=wr:=⟨_,rfl⟩;have Is:Hid (RdII wi (.slice A0 L.length pk) L):=qA (OwII.rd (HO.out.keep EI.stable fun b h1 h2=>lm.out.block b h2 tO (by simp)));have iM:Hid ((L.take (q'+1)).map (relM k)=(L.take q').map (relM k)++ [relM k L[q']]):=qA (by rw[zaf hltq,zaP];rfl);have ee:L[q'].length=k:=(wU.out _ (zaH hltq)).1;have vN:=qA (wU.out _ (zaH hltq)).2;have IF:((L.take q').map (relM k)).length≤1073741824:=by rw[zaI,zaj];omega
      generalize hQ:(L.take q').map (relM k)=Q0 at*;clear hQ;have DU:=qA ee;have jb:L[q'].length≤3:=tO;have Bk:Hid (∀W,RdII W (.slice A0 L.length pk) L→ ∃b off A1 ah,A0=some ⟨b,off,none⟩∧b<W.heap.size∧W.cell? ⟨b,off+q',none⟩=some (.slice A1 L[q'].length ah)∧RdI W (.slice A1 L[q'].length ah) L[q']):=qA fun W h=>by
       obtain⟨b,off,A1,ah,h1,h2,h3,_,_,h6⟩:=h.at hltq;exact⟨b,off,A1,ah,h1,h2,h3,h6⟩
      obtain⟨b,off,A3,aU,rfl,aM,aZ,hl⟩:=Bk.out _ Is.out;have og:=qA hl;generalize L[q']=o at*;clear hl ee Bk;have zb:(q':Int)<(L.length:Int):=tO;go_wp2_with fail;go_loopw [11] (fun i wj=> ∃m:Nat,m≤o.length∧i= .int .i64 m∧ ∃s:Value,wj.cell? ⟨wi.heap.size,0,none⟩=some (.int .i64 k)∧wj.cell? ⟨wi.heap.size,1,none⟩=some s∧(∀o,wj.frozen? ⟨wi.heap.size,o,none⟩=false)∧OwII (wi.heap.size+1) wj.heap.size s ((o.take m).map fun x=> [x]) wj∧Below wi.heap.size wi wj∧wi.heap.size<wj.heap.size)
       (fun i _=>o.length-(intOf i).toNat)
      case atStart=>refine⟨0,zap _,rfl, .slice none 0 0,by simp[go_sem],by simp[go_sem],by simp[go_sem],qBs _ _ _,(by repeat(first | exact .refl _ _ | (refine BxS ?_ _) | (refine qB ?_ _) | (refine zaB ?_) | (refine BxA ?_ _))),by simp⟩
      case round=>
       obtain⟨m,hm,rfl,s,h0,h1,hf,hs,bC,bn⟩:=hrel;obtain⟨wj,rfl⟩: ∃wj:World,wj=wr:=⟨_,rfl⟩;have aI:=qA bC;have aR:=qA hs;obtain⟨A5,m5,ay,rfl⟩:=hs.any;have In:=bC.size;by_cases hltm:m<o.length
       ·have eL:(m:Int)<(k:Int):=by have:=DU.out;omega
        have AY:(m:Int)<(o.length:Int):=tO;have ev:=(bC.cell (p:=⟨b,off+q',none⟩) aM).trans aZ;obtain⟨b3,fv,rfl,sK,jx⟩:=og.out.at tO;have wV:=(bC.cell (p:=⟨b3,fv+m,none⟩) sK).trans (jx m hltm);have mV:b3<wj.heap.size:=tO;have HX:Hid (I64 o[m]):=qA (vN.out _ (zaH hltm));have HT:Hid ((o.take (m+1)).map (fun x=> [x])=(o.take m).map (fun x=> [x])++ [[o[m]]]):=qA (by rw[zaf hltm,zaP];rfl);have mh:((o.take m).map fun x=> [x]).length≤1073741824:=by rw[zaI,zaj];omega
        obtain⟨Fs,y1,y2,y3⟩:=hs;have wM:=qA y3;have Dy:=qA y1;have Ey:=qA y2;clear jx bC y1 y2 y3;generalize o[m]=x at*;generalize (o.take m).map (fun x=> [x])=L0 at*;have yG:b<wj.heap.size:=tO;have b9:Below wj.heap.size wj ((wj.alloc (.cells #[.int .i64 x] 3)).drew):=(by repeat(first | exact .refl _ _ | (refine BxS ?_ _) | (refine qB ?_ _) | (refine zaB ?_) | (refine BxA ?_ _)));have rA:Below wj.heap.size wj (((wj.alloc (.cells #[.int .i64 x] 3)).alloc (.cells #[.slice (some ⟨wj.heap.size,0,none⟩) 1 1] 24)).drew):=(by repeat(first | exact .refl _ _ | (refine BxS ?_ _) | (refine qB ?_ _) | (refine zaB ?_) | (refine BxA ?_ _)));have ip:=qA b9;have iB:=qA rA;have yU:Hid (OwI ((wj.alloc (.cells #[.int .i64 x] 3))) wj.heap.size (.slice (some ⟨wj.heap.size,0,none⟩) 1 1) [x]):=qA (qW wj [x] (by intro y hy;simp at hy;subst hy;exact HX.out) (by simp) (zad _));have zB:Hid (OwI (((wj.alloc (.cells #[.int .i64 x] 3)).alloc (.cells #[.slice (some ⟨wj.heap.size,0,none⟩) 1 1] 24)).drew) wj.heap.size (.slice (some ⟨wj.heap.size,0,none⟩) 1 1) [x]):=qA (yU.out.alloc _).drew;have fy:Hid ((((wj.alloc (.cells #[.int .i64 x] 3)).alloc (.cells #[.slice (some ⟨wj.heap.size,0,none⟩) 1 1] 24)).drew).cell? ⟨wj.heap.size+1,0,none⟩=some (.slice (some ⟨wj.heap.size,0,none⟩) 1 1)):=qA (by simp[go_sem]);clear b9 rA;go_wp2_with fail;refine qDO (n:=13) (S:=fun w'=>w'.cell? ⟨wi.heap.size,1,none⟩=some (.slice A5 m5 ay)∧w'.cell? ⟨b,off+q',none⟩=some (.slice (some ⟨b3,fv,none⟩) o.length aU)∧w'.cell? ⟨b3,fv+m,none⟩=some (.int .i64 x)) tK (by rfl) ⟨h1,ev,wV⟩ (fun hHeld=> ?_);(refine qO (n:=13) (i:=0) (v:= ?_) rfl tK rfl (by decide) tK tK tK tK (fun _ _ _ h=>h) (Or.inl ⟨by rfl,?_⟩) (by assumption) ?_;rotate_left;focus (intro ww hSw;(try dsimp only at hSw);go_simp;try with_reducible rfl);(try simp only[zah,zaa,zab,zac]));(refine qO (n:=13) (i:=1) (v:= ?_) rfl tK rfl (by decide) tK tK tK tK (fun _ _ _ h=>h) (Or.inl ⟨by rfl,?_⟩) (by assumption) ?_;rotate_left;focus (intro ww hSw;(try dsimp only at hSw);go_simp;try with_reducible rfl);(try simp only[zah,zaa,zab,zac]));(refine qO (n:=13) (i:=2) (v:= ?_) rfl tK rfl (by decide) tK tK tK tK (fun _ _ _ h=>h) (Or.inl ⟨by rfl,?_⟩) (by assumption) ?_;rotate_left;focus (intro ww hSw;(try dsimp only at hSw);go_simp;try with_reducible rfl);(try simp only[zah,zaa,zab,zac]));(refine qO (n:=13) (i:=3) (v:= ?_) rfl tK rfl (by decide) tK tK tK tK (fun _ _ _ h=>h) (Or.inl ⟨by rfl,?_⟩) (by assumption) ?_;rotate_left;focus (intro ww hSw;(try dsimp only at hSw);go_simp;try with_reducible rfl);(try simp only[zah,zaa,zab,zac]));(refine qO (n:=13) (i:=4) (v:= ?_) rfl tK rfl (by decide) tK tK tK tK (fun _ _ _ h=>h) (Or.inl ⟨by rfl,?_⟩) (by assumption) ?_;rotate_left;focus (intro ww hSw;(try dsimp only at hSw);go_simp;try with_reducible rfl);(try simp only[zah,zaa,zab,zac]));(refine qO (n:=13) (i:=5) (v:= ?_) rfl tK rfl (by decide) tK tK tK tK (fun _ _ _ h=>h) (Or.inl ⟨by rfl,?_⟩) (by assumption) ?_;rotate_left;focus (intro ww hSw;(try dsimp only at hSw);go_simp;try with_reducible rfl);(try simp only[zah,zaa,zab,zac]));(refine qO (n:=13) (i:=6) (v:= ?_) rfl tK rfl (by decide) tK tK tK tK (fun _ _ _ h=>h) (Or.inl ⟨by rfl,?_⟩) (by assumption) ?_;rotate_left;focus (intro ww hSw;(try dsimp only at hSw);go_simp;try with_reducible rfl);(try simp only[zah,zaa,zab,zac]));(refine qO (n:=13) (i:=7) (v:= ?_) rfl tK rfl (by decide) tK tK tK tK (fun _ _ _ h=>h) (Or.inl ⟨by rfl,?_⟩) (by assumption) ?_;rotate_left;focus (intro ww hSw;(try dsimp only at hSw);go_simp;try with_reducible rfl);(try simp only[zah,zaa,zab,zac]));(refine qO (n:=13) (i:=8) (v:= ?_) rfl tK rfl (by decide) tK tK tK tK (fun _ _ _ h=>h) (Or.inl ⟨by rfl,?_⟩) (by assumption) ?_;rotate_left;focus (intro ww hSw;(try dsimp only at hSw);go_simp;try with_reducible rfl);(try simp only[zah,zaa,zab,zac]))
        refine qAl (i:=9) tK rfl fun K' hK=> ?_;go_simp;refine hK.out _ _ ⟨(ip.out.cell (p:=⟨wi.heap.size,1,none⟩) bn).trans h1,(ip.out.cell (p:=⟨b,off+q',none⟩) yG).trans ev,(ip.out.cell (p:=⟨b3,fv+m,none⟩) mV).trans wV⟩ (fun _=> ?_);clear hK hHeld;refine qAl (i:=10) tK rfl fun K' hK=> ?_;go_simp;refine hK.out _ _ ⟨(iB.out.cell (p:=⟨wi.heap.size,1,none⟩) bn).trans h1,(iB.out.cell (p:=⟨b,off+q',none⟩) yG).trans ev,(iB.out.cell (p:=⟨b3,fv+m,none⟩) mV).trans wV⟩ (fun _=> ?_);clear hK;refine qAl (i:=11) tK rfl fun K' hK=> ?_;refine qGz rfl (.tmp 93) (.tmp 102) rfl (w0:=wj) Dy.out Ey.out (fun b hb=>(wM.out b hb).2) iB.out (by rfl) _ _ [x] (by rfl) zB.out (zad _) fy.out rfl mh ?_;intro vz wz Fz oz nz fz gz pz;obtain⟨Az,mz,cz,rfl⟩:=OwLf.formR oz;have pX:=iB.out.size;have iE:=gz.size;have ai: ∀y,(zaR A5 m5 ay).ownBlock=some y→wi.heap.size+1≤y:=fun y hy=>(wM.out y (Dy.out.mem hy)).1;have KEEP:Hid (∀y,y≤wi.heap.size→wz.heap[y]? =wj.heap[y]?):=qA fun y hy=>(gz.block y tO (fun e=>by have:=ai y e.symm;omega)).trans (iB.out.block y tO);have OZ:=qA oz;have NZ:=qA nz;have FZ:=qA fz;have GZ:=qA gz;have z1:wz.cell? ⟨wi.heap.size,1,none⟩=some (.slice A5 m5 ay):=(zan (w:=wj) (KEEP.out _ (zad _))).trans h1;have z2:wz.cell? ⟨b,off+q',none⟩=some (.slice (some ⟨b3,fv,none⟩) o.length aU):=(zan (w:=wj) (KEEP.out _ (Nat.le_of_lt aM))).trans ev;have z3:wz.cell? ⟨b3,fv+m,none⟩=some (.int .i64 x):=(zan (w:=wj) (KEEP.out _ (Nat.le_of_lt sK))).trans wV;refine hK.out _ _ ⟨z1,z2,z3⟩ (fun _=> ?_);clear hK oz nz fz gz pz;simp only[zah,zaa,zab,zac];(refine qO (n:=13) (i:=12) (v:= ?_) rfl tK rfl (by decide) tK tK tK tK (fun _ _ _ h=>h) (Or.inl ⟨by rfl,?_⟩) (by assumption) ?_;rotate_left;focus (intro ww hSw;(try dsimp only at hSw);go_simp;try with_reducible rfl);(try simp only[zah,zaa,zab,zac]))
        have qf: ∀j,wz.frozen? ⟨wi.heap.size,j,none⟩=false:=fun j=>(zaF (w:=wj) (KEEP.out _ (zad _))).trans (hf j);have z0:wz.cell? ⟨wi.heap.size,0,none⟩=some (.int .i64 k):=(zan (w:=wj) (KEEP.out _ (zad _))).trans h0;refine qDy (n:=13) tK rfl tK fun K' hK=> ?_;go_simp;refine hK.out _ _ ?_;clear hK;go_wp2;go_roundw
        case rel=>
         refine⟨m+1,tO,by go_num, .slice Az mz cz,by simp[go_sem,z0],by simp[go_sem,z1],by simp[go_sem,qf],⟨Fz,?_,NZ.out,fun y hy=> ?_⟩,?_,by simp;omega⟩
         ·rw[HT.out];exact OZ.out.stable EI.stable fun y hy=>qL _ _ _ y (by
           have h:=FZ.out y hy;have h2:y∈Fs→wi.heap.size+1≤y:=fun h=>(wM.out y h).1;show y≠wi.heap.size
           rcases h.1 with h3 | h3
           ·have:=h2 h3;omega
           ·omega)
         ·have h:=FZ.out y hy;refine⟨?_,by simpa using h.2⟩;rcases h.1 with h3 | h3
          ·exact(wM.out y h3).1
          ·omega
         ·exact(Below.mono (aI.out.trans (iB.out.mono tO)) (zad _)).grown GZ.out tO (fun j hj=>by have:=ai j hj;omega) |>.setCell (zad _) _
        case measure=>(first | omega | (simp[intOf];omega))
       ·obtain rfl:m=o.length:=tO
        have gf:Hid (OwII (wi.heap.size+1) wj.heap.size (.slice A5 m5 ay) (relM k o).2 wj):=qA (by have h:=aR.out;rw[zar] at h;exact h);have hI:I64 (relM k o).1:=(show I64 (k:Int) from⟨tO,tO⟩);have ee:wi.heap.size≤wi.heap.size+1:=tO;have bv:Hid (Below wi.heap.size wi (wj.alloc (.cells #[.int .i64 k, .slice A5 m5 ay] 31))):=qA (aI.out.alloc tO _);have jZ:Hid (∀j u,[zaS .i64 (relM k o).1, .slice A5 m5 ay][j]? =some u→(wj.alloc (.cells #[.int .i64 k, .slice A5 m5 ay] 31)).cell? ⟨wj.heap.size,j,none⟩=some u):=qA fun j u hj=>by
         match j,hj with
         | 0,hj=>simp at hj;subst hj;simp[go_sem];rfl
         | 1,hj=>simp at hj;subst hj;simp[go_sem]
        have en:Hid (OwII (wi.heap.size+1) wj.heap.size (.slice A5 m5 ay) (relM k o).2 (wj.alloc (.cells #[.int .i64 k, .slice A5 m5 ay] 31))):=qA (gf.out.keep EI.stable fun b _ hb=>zbs wj _ b hb);have fR: ∀y∈F1,y<wi.heap.size:=fun y hy=>(uO.out y hy).2;have yW:=qA fR;have J2: ¬((o.length:Int)<(k:Int)):=by have:=DU.out;omega
        clear hs bC aR gf fR;go_wp2_with (at_builtin;refine qHo rfl (.tmp 105) (.tmp 107) rfl fK.out rO.out yW.out bv.out rfl _ _ (relM k o) rfl en.out hI ee (by simp) jZ.out rfl IF ?_;intro vz wz Fz oz1 oz2 oz3 gz;obtain⟨Av,mv,cv,rfl⟩:=OwLf.formR oz1;have pF:=qA oz1;have pT:=qA oz2;have lN:=qA oz3;have GZ:=qA gz;clear oz1 oz2 oz3 gz)
        have pX:=bv.out.size;have iE:=GZ.out.size;go_roundw
        case rel=>
         refine⟨q'+1,tO,by go_num,Fz,by rw[iM.out];exact pF.out,pT.out,fun y hy=>⟨?_,(lN.out y hy).2⟩,⟨?_,?_,?_,tO,fun y h1 h2 h3=> ?_⟩⟩
         ·rcases(lN.out y hy).1 with h | h
          ·exact(uO.out y h).1
          ·exact .inr tO
         ·exact GZ.out.os.trans (bv.out.os.trans lm.out.os)
         ·exact GZ.out.tape.trans (bv.out.tape.trans lm.out.tape)
         ·exact GZ.out.output.trans (bv.out.output.trans lm.out.output)
         ·refine(GZ.out.block y tO fun e=> ?_).trans ((bv.out.block y tO).trans (lm.out.block y h1 h2 h3))
          rcases(uO.out y (fK.out.mem e.symm)).1 with h | h<;>omega
        case measure=>(first | omega | (simp[intOf];omega))
     ·obtain rfl:q'=L.length:=tO
      have FX:Hid (OwLf EM 31 2 wr (.slice Ao mo co) (relF k) F1):=qA (by rw[F.out];have h:=fK.out;rw[zar] at h;exact h);clear fK;go_wp2;refine bodyPost_ret (v:= .slice Ao mo co) (by simp[results,Tryz.results49,go_sem]) rfl ⟨_,rfl,⟨F1,FX.out,rO.out,fun b hb=>⟨?_,(uO.out b hb).2⟩⟩,?_⟩
      ·rcases(uO.out b hb).1 with h | h<;>omega
      ·exact(eh.out.trans (HB.out.mono tO)).trans ⟨lm.out.os,lm.out.tape,lm.out.output,lm.out.size,fun b hb=>lm.out.block b tO tO (by simp)⟩
inductive Sp where
 | val (c:Value)
 | own (p:World→Value→Prop) (h: ∀W W' v,p W v→Below W.heap.size W W'→p W' v)
 | new (p:World→Value→Prop) (h: ∀W W' v,p W v→Below W.heap.size W W'→p W' v)
 | cp (j:Nat)
def Sp.R (vs:Nat→Value):Sp→World→Value→Prop
 | .val c,_,v=>v=c
 | .own p _,W,v=>p W v
 | .new p _,W,v=>p W v∧ ∀b,v.ownBlock=some b→b<W.heap.size
 | .cp j,_,v=>v=vs j
def Sp.S (vs:Nat→Value):Sp→World→World→Value→Prop
 | .val c,_,_,v=>v=c
 | .own p _,_,W',v=>p W' v
 | .new p _,W,W',v=>p W' v∧ ∀b,v.ownBlock=some b→W.heap.size≤b∧b<W'.heap.size
 | .cp j,_,_,v=>v=vs j
def Sp.fr:Sp→Bool
 | .new _ _=>true
 | _=>false
def Sp.pick:Sp→Value→Value
 | .val c,_=>c
 | _,v=>v
def qw (l:List Oper):Nat→Nat→Nat→Bool
 | 0,_,_=>false
 | f+1,i,j=>match l[i]? with
   | none=>false
   | some o=>o.after.toList.any fun e=>Region.binds .any e&&(e.on==j||qw l f e.on j)
def freB (l:List Oper):Bool:=
 Region.noSelect l.toArray&&(zaq l.length).all fun i=>match l[i]? with
  | none=>true
  | some o=>o.guard.isNone&&(o.after.all fun e=> !Region.binds .any e||decide (e.on<i))&&
    ((zaq l.length).all fun k=>match l[k]? with
      | none=>true
      | some o'=>(decide (i=k)|| !(o.dst==o'.dst)||o.dst.isNone)&&
        (match o'.dst with
         | none=>true
         | some t=> !(o.looksAt l.toArray).contains t||qw l l.length i k||qw l l.length k i))
def actV (S:Nat→Bool) (vs:Nat→Value):List Oper→Nat→Act→Act
 | [],_,b=>b
 | o::r,k,b=>actV S vs r (k+1) (if S k then b.put o.dst (vs k) else b)
section
variable {l:List Oper}
theorem qEL (h:freB l=true):Region.noSelect l.toArray=true∧ ∀i o,l[i]? =some o→o.guard=none∧(∀e∈o.after,Region.binds .any e=true→e.on<i)∧(∀k o',l[k]? =some o'→i≠k→ ∀d,o.dst=some d→o'.dst≠some d)∧
  ∀k o' t,l[k]? =some o'→o'.dst=some t→t∈o.looksAt l.toArray→qw l l.length i k=true∨qw l l.length k i=true:=by
 unfold freB at h;rw[zam,zax] at h;refine⟨h.1,fun i o ho=> ?_⟩;have hi:i<l.length:=(zaw.1 ho).1;have h1:=h.2 i (zau.2 hi);rw[ho] at h1;simp only[zam,Option.isNone_iff_eq_none,zax,zau] at h1;obtain⟨⟨h2,h3⟩,h4⟩:=h1;refine⟨h2,fun e he hb=> ?_,fun k o' hk hik d hd hd'=> ?_,fun k o' t hk ht hl=> ?_⟩
 ·have:=zaN.1 h3 e he
  rw[hb] at this;simpa using this
 ·have h5:=h4 k ((zaw.1 hk).1);rw[hk] at h5;simp only[zam,zaz,decide_eq_true_eq] at h5;rcases h5.1 with (h6 | h6) | h6
  ·exact hik h6
  ·rw[hd,hd'] at h6;simp at h6
  ·rw[hd] at h6;simp at h6
 ·have h5:=h4 k ((zaw.1 hk).1);rw[hk] at h5;simp only[zam] at h5;have h6:=h5.2;rw[ht] at h6;simp only[zaz,zaL] at h6;rcases h6 with (h6 | h6) | h6
  ·rw[List.contains_iff_mem.2 hl] at h6;cases h6
  ·exact .inl h6
  ·exact .inr h6
theorem qBX {listed:Array Bool} (hc:Cl l.toArray listed): ∀(f i j:Nat),(∀o,l[i]? =some o→ ∀e∈o.after,Region.binds .any e=true→listed.getD e.on false=true)→qw l f i j=true→listed.getD j false=true
 | 0,_,_,_,h=>by cases h
 | f+1,i,j,hi,h=>by
   unfold qw at h;cases ho:l[i]? with
   | none=>rw[ho] at h;cases h
   | some o=>
     rw[ho] at h;simp only[zbt,zba,zam,zaz,beq_iff_eq] at h;obtain⟨e,he,hb,h⟩:=h;have h1:=hi o ho e he hb;rcases h with h | h
     ·rwa [←h]
     ·exact qBX hc f e.on j (fun o' bi e' he' aE=>hc.2 e.on o' (by simpa using bi) h1 e' he' aE) h
theorem qEb (hB:freB l=true): ∀(f i j:Nat),qw l f i j=true→j<i
 | 0,_,_,h=>by cases h
 | f+1,i,j,h=>by
   unfold qw at h;cases ho:l[i]? with
   | none=>rw[ho] at h;cases h
   | some o=>
     rw[ho] at h;simp only[zbt,zba,zam,zaz,beq_iff_eq] at h;obtain⟨e,he,hb,h⟩:=h;have h1:=((qEL hB).2 i o ho).2.1 e he hb;rcases h with h | h
     ·omega
     ·have:=qEb hB f e.on j h;omega
theorem qFl (a:Act) (d:Option Tmp) (v:Value):(a.put d v).tmps.size=a.tmps.size:=by
 cases d<;>simp[zah]
theorem qGG {vs:Nat→Value} {S S':Nat→Bool} {t:Tmp}: ∀(r:List Oper) (k:Nat) (b b':Act),b.tmps.size=b'.tmps.size→b.eval (.tmp t)=b'.eval (.tmp t)→
  (∀j o,r[j]? =some o→o.dst=some t→S (k+j)=S' (k+j))→(actV S vs r k b).eval (.tmp t)=(actV S' vs r k b').eval (.tmp t)
 | [],_,_,_,_,he,_=>he
 | o::r,k,b,b',hs,he,h=>by
   unfold actV;have hz:(if S k then b.put o.dst (vs k) else b).tmps.size=(if S' k then b'.put o.dst (vs k) else b').tmps.size:=by
    split<;>split<;>simp only[qFl,hs]
   refine qGG r (k+1) _ _ hz ?_ fun j o' bi hd'=>by have:=h (j+1) o' (by simpa using bi) hd';rwa [show k+(j+1)=k+1+j by omega] at this
   by_cases hd:o.dst=some t
   ·have h0:=h 0 o rfl hd;rw[zaG] at h0;rw[←h0];split
    ·rw[hd];simp only[zah,Act.eval,zat];by_cases ht:t<b.tmps.size
     ·rw[zao ht,zao (hs▸ht)]
     ·rw[zay (by rw[zaX];exact zbu ht),zay (by rw[zaX,←hs];exact zbu ht)]
    ·exact he
   ·have e1: ∀(c:Act) (S:Nat→Bool),(if S k then c.put o.dst (vs k) else c).eval (.tmp t)=c.eval (.tmp t):=fun c S=>by
     split
     ·exact Act.eval_put fun d oP e=>hd (by rw[oP];injection e with e;rw[e])
     ·rfl
    rw[e1,e1,he]
theorem qLa {S:Nat→Bool} {vs:Nat→Value} {x:Option Tmp} {v:Value}: ∀(r:List Oper) (k:Nat) (b:Act),(∀o∈r,∀d,o.dst=some d→x≠some d)→(actV S vs r k b).put x v=actV S vs r k (b.put x v)
 | [],_,_,_=>rfl
 | o::r,k,b,h=>by
   unfold actV;rw[qLa r (k+1) _ fun o' bi=>h o' (by simp[bi])];congr 1
   split
   ·exact Act.put_comm _ _ _ fun d hd=>h o (by simp) d hd
   ·rfl
theorem qBn {S S':Nat→Bool} {vs vs':Nat→Value}: ∀(r:List Oper) (k:Nat) (b:Act),(∀j,j<r.length→S (k+j)=S' (k+j)∧(S (k+j)=true→vs (k+j)=vs' (k+j)))→actV S vs r k b=actV S' vs' r k b
 | [],_,_,_=>rfl
 | o::r,k,b,h=>by
   unfold actV;have h0:=h 0 (by simp);rw[zaG] at h0;rw[qBn r (k+1) _ fun j hj=>by have:=h (j+1) (by simp;omega);rwa [show k+(j+1)=k+1+j by omega] at this];congr 1
   rw[←h0.1];split
   ·rename_i q;rw[h0.2 q]
   ·rfl
theorem qIF {S:Nat→Bool} {vs:Nat→Value} {v:Value}: ∀(r:List Oper) (k:Nat) (b:Act) (i:Nat) (o:Oper),r[i]? =some o→S (k+i)=false→
  (∀j o',r[j]? =some o'→i≠j→ ∀d,o.dst=some d→o'.dst≠some d)→
  (actV S vs r k b).put o.dst v=actV (fun j=>S j||decide (j=k+i)) (fun j=>if j=k+i then v else vs j) r k b
 | [],_,_,_,_,h,_,_=>by simp at h
 | o'::r,k,b,0,o,h,hS,hd=>by
   obtain rfl:o'=o:=by simpa using h
   rw[zaG] at hS;unfold actV;rw[hS,qLa r (k+1) _ fun o2 eG d oP e=> ?_]
   ·simp only[zaG,decide_true,Bool.or_true,if_true,zbn,if_false];refine qBn r (k+1) _ fun j hj=>⟨by rw[decide_eq_false tO,zbd],fun _=>by rw[if_neg tO]⟩
   ·obtain⟨j,hj⟩:=List.mem_iff_getElem?.1 eG;exact hd (j+1) o2 (by simpa using hj) tO d e oP
 | o'::r,k,b,i+1,o,h,hS,hd=>by
   unfold actV;have e:k+(i+1)=k+1+i:=tO;rw[qIF r (k+1) _ i o (by simpa using h) (by rw[←e];exact hS) fun j o2 hj dh=>hd (j+1) o2 (by simpa using hj) tO,e];congr 1
   have hk:decide (k=k+1+i)=false:=decide_eq_false tO;simp only[hk,zbd];rw[if_neg (show ¬k=k+1+i by omega)]
end
theorem qNU {P:Program} {o:Oper} {b b':Act} {W:World} {next:Act→World→Prop} {Q:Exit→Act→World→Prop} {G:Value→World→Prop} (he:execOp b'.eval o=execOp b.eval o)
  (h:o.wp P b W (fun c W'=> ∃v,c=b.put o.dst v∧G v W') (fun e _ _=>e= .outgrown∧False))
  (hz: ∀t,o.dst=some t→t<b.tmps.size) (hn: ∀v W',G v W'→next (b'.put o.dst v) W'):o.wp P b' W next Q:=by
 have key: ∀v W',(∃u,b.put o.dst v=b.put o.dst u∧G u W')→next (b'.put o.dst v) W':=fun v W' ⟨u,hu,hg⟩=>by
  have:=hn u W' hg
  cases hd:o.dst with
  | none=>rw[hd] at this;exact this
  | some t=>
    rw[hd] at this hu;have e:v=u:=by
     have h1:=congrArg (fun c:Act=>c.tmps[t]?) hu;simp only[zah] at h1;rw[zao (hz t hd),zao (hz t hd)] at h1;injection h1
    rw[e];exact this
 unfold Oper.wp at*;rw[he];generalize (execOp b.eval o).run P W=r at*;cases r with
 | ok n w'=>
   cases n<;>simp only[Oper.upon] at h⊢
   case value v=>exact key v w' h
   case skip=>exact key undef w' h
   case defer d=> 
    obtain⟨v,hv,_⟩:=h;exfalso
    have h1:=congrArg (fun c:Act=>c.defers.length) hv;have e1: ∀(c:Act) (v:Value),(c.put o.dst v).defers=c.defers:=fun c v=>by cases o.dst<;>rfl
    simp[e1] at h1
   case enter f args=>
    refine Calls.mono h fun e w'' he=> ?_;cases e with
    | returned v=>exact key v w'' he
    | panicked c=>exact he.2.elim
    | outgrown=>obtain⟨_,_,h1⟩:=he;exact h1.2.elim
   case row row args=>exact Rows.mono h fun v w'' he=>key v w'' he
 | halt x w'=>cases x<;>simp only[Oper.upon] at h⊢ <;>exact h.2.elim
section
variable {P:Program} {l:List Oper} {L:List Sp} {w:World} {a:Act} {Q:Exit→Act→World→Prop}
theorem qGk {listed:Array Bool} {i:Nat} (hi:i<listed.size) (h:listed.getD i false=false) (n:Nat) (hn:i<n):
  ((zaq n).filter fun j=> !(listed.setIfInBounds i true).getD j false).length+1=((zaq n).filter fun j=> !listed.getD j false).length:=by
 induction n with
 | zero=>omega
 | succ n ih=>
   rw[zbz,zaJ,zaJ,zas,zas];by_cases e:i=n
   ·subst e;have e1:(zaq i).filter (fun j=> !(listed.setIfInBounds i true).getD j false)=(zaq i).filter fun j=> !listed.getD j false:=by
     refine List.filter_congr fun j hj=> ?_;rw[getD_set_ne false (by have:=zau.1 hj;omega)]
    have e2:(listed.setIfInBounds i true).getD i false=true:=by simp[hi]
    rw[e1];simp only[zbv,zbA,e2,h,zbF,za6,zbn,if_false,if_true,zbx,za7]
   ·have:=ih tO
    simp only[zbv,zbA,getD_set_ne false e];omega
end
inductive Sg where
 | val (c:Value)
 | pur (q:(Nat→Value)→Value→Prop)
 | mem (p:(Nat→Value)→World→Value→Prop)
def Sg.R (vs:Nat→Value):Sg→World→Value→Prop
 | .val c,_,v=>v=c
 | .pur q,_,v=>q vs v
 | .mem p,W,v=>p vs W v
def Sg.isMem:Sg→Bool
 | .mem _=>true
 | _=>false
def Sg.pick:Sg→Value→Value
 | .val c,_=>c
 | _,v=>v
theorem Sg.pick_of (vs:Nat→Value): ∀(s:Sg) {W:World} {v:Value},s.R vs W v→s.pick v=v
 | .val _,_,_,h=>h.symm
 | .pur _,_,_,_=>rfl
 | .mem _,_,_,_=>rfl
def qAz (l:List Oper) (k:Nat) (vs:Nat→Value):Nat→Value:=fun j=>if qw l l.length k j=true then vs j else undef
theorem qDv {l:List Oper} {k j:Nat} {vs:Nat→Value} (h:qw l l.length k j=true):qAz l k vs j=vs j:=if_pos h
def sgA (L:List Sg) (k:Nat):Sg:=L.getD k (.val undef)
def tnA (T:List (Option (World→World→Prop))) (k:Nat):World→World→Prop:=match T.getD k none with
 | none=>fun W W'=>W'=W
 | some t=>t
def clG (l:List Oper) (L:List Sg) (T:List (Option (World→World→Prop))):List (Nat×Nat):=
 (zaq l.length).flatMap fun i=>(zaq l.length).filterMap fun k=>if(sgA L i).isMem&&(T.getD k none).isSome&& !(i==k)&& !qw l l.length i k then some (i,k) else none
def Stb (I:World→Prop) (L:List Sg) (T:List (Option (World→World→Prop))):List (Nat×Nat)→Prop
 | []=>True
 | q::r=>(∀vs W W' v,I W→I W'→tnA T q.2 W W'→(sgA L q.1).R vs W v→(sgA L q.1).R vs W' v)∧Stb I L T r
def Its (I:World→Prop):List (Option (World→World→Prop))→Prop
 | []=>True
 | none::r=>Its I r
 | some t::r=>(∀W W',I W→t W W'→I W')∧Its I r
theorem Its.at {I:World→Prop}: ∀ {T:List (Option (World→World→Prop))},Its I T→ ∀t,some t∈T→ ∀W W',I W→t W W'→I W'
 | none::r,h,t,ht=>by
   rcases zaM.1 ht with e | ht
   ·cases e
   ·exact Its.at (T:=r) h t ht
 | some u::r,h,t,ht=>by
   rcases zaM.1 ht with e | ht
   ·injection e with e;subst e;exact h.1
   ·exact Its.at (T:=r) h.2 t ht
theorem Stb.at {I:World→Prop} {L:List Sg} {T:List (Option (World→World→Prop))}: ∀ {X:List (Nat×Nat)},Stb I L T X→ ∀q∈X,∀vs W W' v,I W→I W'→tnA T q.2 W W'→(sgA L q.1).R vs W v→(sgA L q.1).R vs W' v
 | _::_,h,q,hq=>by
   rcases zaM.1 hq with rfl | hq
   ·exact h.1
   ·exact h.2.at q hq
def Obw (P:Program) (J:Nat→World→Prop) (l:List Oper) (L:List Sg) (T:List (Option (World→World→Prop))) (vs:Nat→Value) (Q:Exit→Act→World→Prop):List Oper→List Sg→Nat→Act→Prop
 | [],_,_,b=> ∀W',Hid (J l.length W')→Hid (∀j,j<l.length→(sgA L j).R (qAz l j vs) W' (vs j))→Q .normal b W'
 | _::_,[],_,_=>False
 | o::r,s::ss,k,b=>(∀W K Q0,Hid (J k W)→Hid (∀j,qw l l.length k j=true→(sgA L j).R (qAz l j vs) W (vs j))→Hid (∀v W',tnA T k W W'→s.R (qAz l k vs) W' v→K (b.put o.dst v) W')→o.wp P b W K Q0)∧Obw P J l L T vs Q r ss (k+1) (b.put o.dst (s.pick (vs k)))
section
variable {P:Program} {I Hs:World→Prop} {D:List Nat} {J:Nat→World→Prop} {l:List Oper} {L:List Sg} {T:List (Option (World→World→Prop))} {w:World} {a:Act} {Q:Exit→Act→World→Prop}
def okD (l:List Oper) (D:List Nat) (i:Nat):Bool:=D.all fun d=>d==i||qw l l.length d i
def JH (I Hs:World→Prop) (l:List Oper) (D:List Nat) (i:Nat) (W:World):Prop:=I W∧(okD l D i=true→Hs W)
def ItD (I Hs:World→Prop) (D:List Nat) (T:List (Option (World→World→Prop))):Nat→List (Option (World→World→Prop))→Prop
 | _,[]=>True
 | k,none::r=>ItD I Hs D T (k+1) r
 | k,some t::r=>(k∈D∨ ∀W W',I W→Hs W→t W W'→Hs W')∧ItD I Hs D T (k+1) r
theorem ItD.at {I Hs:World→Prop} {D:List Nat} {T:List (Option (World→World→Prop))}: ∀ {r:List (Option (World→World→Prop))} {k:Nat},ItD I Hs D T k r→ ∀i t,r[i]? =some (some t)→k+i∈D∨ ∀W W',I W→Hs W→t W W'→Hs W'
 | none::r,k,h,i,t,ht=>by
   cases i with
   | zero=>simp at ht
   | succ i=>have:=ItD.at (r:=r) (k:=k+1) h i t (by simpa using ht);rwa [show k+1+i=k+(i+1) by omega] at this
 | some u::r,k,h,i,t,ht=>by
   cases i with
   | zero=>simp at ht;subst ht;exact h.1
   | succ i=>have:=ItD.at (r:=r) (k:=k+1) h.2 i t (by simpa using ht);rwa [show k+1+i=k+(i+1) by omega] at this
theorem qNH {vs:Nat→Value} (hvs: ∀j,j<l.length→(sgA L j).pick (vs j)=vs j): ∀(r:List Oper) (ss:List Sg) (k:Nat) (b:Act),(∀j,r[j]? =l[k+j]?)→(∀j,ss.getD j (.val undef)=sgA L (k+j))→Obw P J l L T vs Q r ss k b→
  (∀i o,r[i]? =some o→ ∀W K Q0,Hid (J (k+i) W)→Hid (∀j,qw l l.length (k+i) j=true→(sgA L j).R (qAz l j vs) W (vs j))→Hid (∀v W',tnA T (k+i) W W'→(sgA L (k+i)).R (qAz l (k+i) vs) W' v→K ((actV (fun j=>decide (j<k+i)) vs r k b).put o.dst v) W')→o.wp P (actV (fun j=>decide (j<k+i)) vs r k b) W K Q0)∧
  (∀W',Hid (J l.length W')→Hid (∀j,j<l.length→(sgA L j).R (qAz l j vs) W' (vs j))→Q .normal (actV (fun _=>true) vs r k b) W')
 | [],_,_,_,_,_,h=>⟨fun i o ho=>by simp at ho,h⟩
 | _::_,[],_,_,_,_,h=>h.elim
 | o::r,s::ss,k,b,hr,hs,h=>by
   obtain⟨h1,h2⟩:=h;have aW:s=sgA L k:=by simpa using hs 0
   have hk:k<l.length:=by
    have:=hr 0
    rw[zaG] at this;exact(zaw.1 this.symm).1
   rw[aW,hvs k hk] at h2;have hn:=qNH hvs r ss (k+1) _ (fun j=>by have:=hr (j+1);rw[show k+(j+1)=k+1+j by omega] at this;simpa using this) (fun j=>by have:=hs (j+1);rw[show k+(j+1)=k+1+j by omega] at this;simpa using this) h2;refine⟨fun i o' bi=> ?_,?_⟩
   ·cases i with
    | zero=>
      obtain rfl:o=o':=by simpa using bi
      have e:actV (fun j=>decide (j<k+0)) vs (o::r) k b=b:=by
       unfold actV;rw[decide_eq_false tO];have: ∀(r:List Oper) (k2:Nat) (b:Act),k≤k2→actV (fun j=>decide (j<k+0)) vs r k2 b=b:=by
        intro r;induction r with
        | nil=>intros;rfl
        | cons o r ih=>
          intro k2 b rV;unfold actV;rw[decide_eq_false tO];exact ih (k2+1) b tO
       exact this r (k+1) b tO
      rw[e,zaG,←aW];exact h1
    | succ i=>
      have e:k+(i+1)=k+1+i:=tO;have:=hn.1 i o' (by simpa using bi)
      rw[e];unfold actV;rw[decide_eq_true tO];exact this
   ·exact hn.2
theorem qPh (hB:freB l=true) (ak: ∀(i:Nat) (o:Oper),l[i]? =some o→ ∀t,o.dst=some t→t<a.tmps.size)
  (hIT: ∀t,some t∈T→ ∀W W',I W→t W W'→I W') (hHT:ItD I Hs D T 0 T) (hst:Stb I L T (clG l L T)) (h: ∀vs,Obw P (JH I Hs l D) l L T vs Q l L 0 a): ∀(fuel:Nat) (listed:Array Bool) (vs:Nat→Value) (W:World),
  ((zaq l.length).filter fun j=> !listed.getD j false).length=fuel→Cl l.toArray listed→I W→((∀d∈D,listed.getD d false=false)→Hs W)→(∀j,j<l.length→(sgA L j).pick (vs j)=vs j)→(∀j,listed.getD j false=true→(sgA L j).R (qAz l j vs) W (vs j))→
  wpAny P .any l.toArray Q fuel listed (actV (fun j=>listed.getD j false) vs l 0 a) W:=by
 have hI: ∀k W W',I W→tnA T k W W'→I W':=fun k W W' hi ht=>by
  unfold tnA at ht;cases e:T.getD k none with
  | none=>rw[e] at ht;rw[show W'=W from ht];exact hi
  | some t=>
    rw[e] at ht;refine hIT t ?_ W W' hi ht;rw[zaV] at e;cases e2:T[k]? with
    | none=>rw[e2] at e;cases e
    | some q=>rw[e2] at e;simp only[zbw] at e;subst e;exact zbb e2
 have hH: ∀k W W',I W→k∉D→Hs W→tnA T k W W'→Hs W':=fun k W W' hi hk hs ht=>by
  unfold tnA at ht;cases e:T.getD k none with
  | none=>rw[e] at ht;rw[show W'=W from ht];exact hs
  | some t=>
    rw[e] at ht;rw[zaV] at e;cases e2:T[k]? with
    | none=>rw[e2] at e;cases e
    | some q=>
      rw[e2] at e;simp only[zbw] at e;subst e;rcases hHT.at k t e2 with h | h
      ·rw[zal] at h;exact absurd h hk
      ·exact h W W' hi hs ht
 have all: ∀(listed:Array Bool) (vs:Nat→Value) (W:World),Cl l.toArray listed→I W→((∀d∈D,listed.getD d false=false)→Hs W)→(∀j,j<l.length→(sgA L j).pick (vs j)=vs j)→(∀j,listed.getD j false=true→(sgA L j).R (qAz l j vs) W (vs j))→(∀j,j<l.length→listed.getD j false=true)→Q .normal (actV (fun j=>listed.getD j false) vs l 0 a) W:=fun listed vs W hc hb hd hp hr hl=>by
  have:=(qNH hp l L 0 a (fun j=>by rw[zal]) (fun j=>by rw[zal];rfl) (h vs)).2 W (qA ⟨hb,fun ok=>hd fun d hd'=>by
   have h1:=zax.1 ok d hd';simp only[zaz,beq_iff_eq] at h1;rcases h1 with h1 | h1
   ·rw[zat,zay (by rw[hc.1,h1];simp)];rfl
   ·have h2:=qEb hB _ _ _ h1;rw[zat,zay (by rw[hc.1];simp;omega)];rfl⟩) (qA fun j hj=>hr j (hl j hj))
  rwa [qBn (S':=fun _=>true) (vs':=vs) l 0 a fun j hj=>by rw[zal];exact⟨hl j hj,fun _=>rfl⟩]
 have none_ready: ∀(listed:Array Bool),Cl l.toArray listed→Region.ready .any l.toArray listed= []→ ∀j,j<l.length→listed.getD j false=true:=fun listed hc hr j=>by
  induction j using Nat.strongRecOn with
  | _ j ih=>
    intro hj;by_cases q:listed.getD j false=true
    ·exact q
    ·exfalso
     have:j∈Region.ready .any l.toArray listed:=by
      rw[mem_ready];refine⟨by rw[qAc (by rw[hc.1];simpa using hj)];simpa using q,l[j],by simp[hj],fun e he hb=> ?_⟩;have:=((qEL hB).2 j l[j] (zaD hj)).2.1 e he hb
      exact ih e.on this tO
     rw[hr] at this;cases this
 intro fuel;induction fuel with
 | zero=>
   intro listed vs W hf hc hb hd hp hr;have hl: ∀j,j<l.length→listed.getD j false=true:=fun j hj=>by
    have:=List.filter_eq_nil_iff.1 (List.eq_nil_of_length_eq_zero hf) j (zau.2 hj)
    simpa using this
   refine⟨?_,all listed vs W hc hb hd hp hr hl⟩;cases hq:Region.ready .any l.toArray listed with
   | nil=>rfl
   | cons i r=>
     obtain⟨h1,o,ho,_⟩:=mem_ready.1 (show i∈Region.ready .any l.toArray listed by rw[hq];simp);have hi:i<l.length:=by simpa using (zaU.1 ho).1
     rw[qAc (by rw[hc.1];simpa using hi),hl i hi] at h1;cases h1
 | succ fuel ih=>
   intro listed vs W hf hc hb hd hp hr;refine⟨fun h0=>all listed vs W hc hb hd hp hr (none_ready listed hc h0),fun i hi=> ?_⟩;obtain⟨h1,o,ho,kv⟩:=mem_ready.1 hi;have bi:l[i]? =some o:=by simpa using ho
   have jj:i<l.length:=(zaw.1 bi).1;have jF:i<listed.size:=by rw[hc.1];simpa using jj
   have eo:listed.getD i false=false:=by rw[←qAc jF];exact h1
   obtain⟨bO,_,oI,jY⟩:=(qEL hB).2 i o bi;have lh:=fun (cs:Array SelectCase) (b:Bool)=>Region.noSelect_spec (qEL hB).1 i o cs b ho;have pt:=(qNH hp l L 0 a (fun j=>by rw[zal]) (fun j=>by rw[zal];rfl) (h vs)).1 i o bi;rw[zal] at pt;have iX: ∀j,qw l l.length i j=true→listed.getD j false=true:=fun j hj=>qBX hc l.length i j (fun o2 eG e he hb=>by rw[bi] at eG;injection eG with eG;subst eG;exact kv e he hb) hj;have dy: ∀j,listed.getD j false=true→qw l l.length j i=false:=fun j hj=>by
    cases q:qw l l.length j i with
    | false=>rfl
    | true=>
      have:=qBX hc l.length j i (fun o2 eG e he hb=>hc.2 j o2 (by simpa using eG) hj e he hb) q
      rw[eo] at this;cases this
   have Ba:=pt W (fun c W'=> ∃v,c=(actV (fun j=>decide (j<i)) vs l 0 a).put o.dst v∧(tnA T i W W'∧(sgA L i).R (qAz l i vs) W' v)) (fun e _ _=>e= .outgrown∧False) (qA ⟨hb,fun ok=>hd fun d hd'=>by
    have h1:=zax.1 ok d hd';simp only[zaz,beq_iff_eq] at h1;rcases h1 with h1 | h1
    ·rw[h1];exact eo
    ·cases q:listed.getD d false with
     | false=>rfl
     | true=>have:=dy d q;rw[h1] at this;cases this⟩) (qA fun j hj=>hr j (iX j hj)) (qA fun v W' hbv hv=>⟨v,rfl,hbv,hv⟩)
   unfold wpOp;simp only[ho];rw[if_pos (qAT bO _)];refine .inl (qNU ?_ Ba (fun t ht=> ?_) fun v W' ⟨hbv,hv⟩=> ?_)
   ·refine execOp_congr o (fun cs b e=>lh cs b e) fun x hx=> ?_;cases x with
    | tmp t=>
      refine qGG l 0 a a rfl rfl fun k o' hk hd=> ?_;rw[zal];have ht:t∈o.looksAt l.toArray:=List.mem_append_left _ (zaT.2 ⟨.tmp t,by simpa using hx,rfl⟩);rcases jY k o' t hk hd ht with q | q
      ·rw[iX k q,decide_eq_true (qEb hB _ _ _ q)]
      ·have vK:=qEb hB _ _ _ q;rw[decide_eq_false tO];cases jg:listed.getD k false with
       | false=>rfl
       | true=>
         exfalso
         have:=dy k jg
         rw[q] at this;cases this
    | const v=>rfl
    | global g=>rfl
    | func f=>rfl
   ·have: ∀(S:Nat→Bool) (r:List Oper) (k:Nat) (b:Act),(actV S vs r k b).tmps.size=b.tmps.size:=by
     intro S r;induction r with
     | nil=>intros;rfl
     | cons o r ih=>intro k b;unfold actV;rw[ih];split;exact qFl _ _ _;rfl
    rw[this];exact ak i o bi t ht
   ·have e:=qIF (S:=fun j=>listed.getD j false) (vs:=vs) (v:=v) l 0 a i o bi (by rw[zal];exact eo) fun j o2 hj dh d hd=>oI j o2 hj dh d hd;rw[zal] at e;rw[e];rw[qBn (S':=fun j=>(listed.setIfInBounds i true).getD j false) (vs':=fun j=>if j=i then v else vs j) l 0 a fun j hj=>⟨by
     rw[zal];by_cases q:j=i
     ·subst q;simp[jF]
     ·rw[decide_eq_false q,zbd,getD_set_ne false (fun e=>q e.symm)],fun _=>rfl⟩]
    have oF: ∀j,(listed.setIfInBounds i true).getD j false=true→j≠i→listed.getD j false=true:=fun j hj q=>by
     rwa [getD_set_ne false (fun e=>q e.symm)] at hj
    have fQ: ∀j,qw l l.length j i=false→qAz l j (fun m=>if m=i then v else vs m)=qAz l j vs:=fun j hj=>by
     funext m
     unfold qAz;by_cases q:m=i
     ·subst q;rw[if_neg (by simp[hj]),if_neg (by simp[hj])]
     ·simp only[if_neg q]
    have zJ:qw l l.length i i=false:=by
     cases q:qw l l.length i i with
     | false=>rfl
     | true=>have:=qEb hB _ _ _ q;omega
    have so:I W':=hI i W W' hb hbv;refine ih (listed.setIfInBounds i true) _ W' ?_ (hc.set hi) so (fun hd'=> ?_) (fun j hj=> ?_) (fun j hj=> ?_)
    ·have:=qGk jF eo l.length jj
     omega
    ·have sI:i∉D:=fun hm=>by have:=hd' i hm;simp[jF] at this
     exact hH i W W' hb sI (hd fun d nP=>by
      have ai:i≠d:=fun e=>sI (e▸nP);have:=hd' d nP
      rwa [getD_set_ne false ai] at this) hbv
    ·by_cases q:j=i
     ·subst q;simp only[if_true];exact Sg.pick_of _ _ hv
     ·simp only[if_neg q];exact hp j hj
    ·by_cases q:j=i
     ·subst q;simp only[if_true];rw[fQ _ zJ];exact hv
     ·simp only[if_neg q];have dW:=oF j hj q;rw[fQ j (dy j dW)];have jV:j<l.length:=by
       by_cases q:j<l.length
       ·exact q
       ·rw[zat,zay (by rw[hc.1];simpa using q)] at dW;cases dW
      have bS:=hr j dW;cases hs:sgA L j with
      | val c=>rw[hs] at bS;exact bS
      | pur p=>rw[hs] at bS;exact bS
      | mem p=>
        cases ht:T.getD i none with
        | none=>
          have:W'=W:=by unfold tnA at hbv;rw[ht] at hbv;exact hbv
          rw[this,←hs];exact bS
        | some t=>
          rw[←hs];refine hst.at (j,i) ?_ _ W W' _ hb so hbv bS;unfold clG;refine List.mem_flatMap.2 ⟨j,zau.2 jV,zaT.2 ⟨i,zau.2 jj,?_⟩⟩;rw[if_pos];simp only[hs,ht,Sg.isMem,Option.isSome_some,dy j dW,za6,Bool.and_true,zbE];simpa using q
theorem qBT {id:Nat} (L:List Sg) (T:List (Option (World→World→Prop))) (I Hs:World→Prop) (D:List Nat) (X:List (Nat×Nat)) (hm:P.follows .mixedOrders=true) (hB:freB l=true) (hX:clG l L T=X) (ak:(l.all fun o=>match o.dst with | some t=>decide (t<a.tmps.size) | none=>true)=true)
  (hI0:I w.drew) (hH0:Hs w.drew) (hIT:Its I T) (hHT:ItD I Hs D T 0 T) (hst:Stb I L T X)
  (h: ∀vs,Obw P (JH I Hs l D) l L T vs Q l L 0 a):(Code.region id l.toArray true).wp P Q a w:=by
 refine wp_region_any hm ?_;subst hX;have hv: ∀j,j<l.length→(sgA L j).pick ((sgA L j).pick undef)=(sgA L j).pick undef:=fun j _=>by cases sgA L j<;>rfl
 have h0: ∀j,(zaA l.toArray.size false).getD j false=false:=fun j=>by
  simp only[zat,Array.getElem?_replicate];split<;>rfl
 have:=qPh (P:=P) (Q:=Q) hB (fun i o ho t ht=>by
  have:=zax.1 ak o (zbb ho)
  rw[ht] at this;simpa using this) hIT.at hHT hst h l.toArray.size (zaA l.toArray.size false) (fun j=>(sgA L j).pick undef) w.drew (by
   have:(zaq l.length).filter (fun j=> !(zaA l.toArray.size false).getD j false)=zaq l.length:=List.filter_eq_self.2 fun j _=>by rw[h0];rfl
   rw[this];simp) ⟨by simp,fun j o _ hj=>by rw[h0] at hj;cases hj⟩ hI0 (fun _=>hH0) hv (fun j hj=>by rw[h0] at hj;cases hj)
 have e:actV (fun j=>(zaA l.toArray.size false).getD j false) (fun j=>(sgA L j).pick undef) l 0 a=a:=by
  have: ∀(r:List Oper) (k:Nat) (b:Act),actV (fun j=>(zaA l.toArray.size false).getD j false) (fun j=>(sgA L j).pick undef) r k b=b:=by
   intro r;induction r with
   | nil=>intros;rfl
   | cons o r ih=>intro k b;unfold actV;rw[h0];exact ih _ _
  exact this l 0 a
 rw[e] at this;exact this
theorem Obw.mono {J J':Nat→World→Prop} (hJ: ∀k W,J' k W→J k W) {vs:Nat→Value}: ∀ {r:List Oper} {ss:List Sg} {k:Nat} {b:Act},Obw P J l L T vs Q r ss k b→Obw P J' l L T vs Q r ss k b
 | [],_,_,_,h=>fun W' hj hr=>h W' (qA (hJ _ _ hj.out)) hr
 | _::_,[],_,_,h=>h
 | _::_,_::_,_,_,h=>⟨fun W K Q0 hj hr hk=>h.1 W K Q0 (qA (hJ _ _ hj.out)) hr hk,h.2.mono hJ⟩
theorem qCI {I:World→Prop} {T:List (Option (World→World→Prop))}: ∀(r:List (Option (World→World→Prop))) (k:Nat),ItD I (fun _=>True) [] T k r
 | [],_=>trivial
 | none::r,k=>qCI r (k+1)
 | some _::r,k=>⟨.inr fun _ _ _ _ _=>trivial,qCI r (k+1)⟩
theorem qHv {id:Nat} (L:List Sg) (T:List (Option (World→World→Prop))) (I:World→Prop) (X:List (Nat×Nat)) (hm:P.follows .mixedOrders=true) (hB:freB l=true) (hX:clG l L T=X) (ak:(l.all fun o=>match o.dst with | some t=>decide (t<a.tmps.size) | none=>true)=true)
  (hI0:I w.drew) (hIT:Its I T) (hst:Stb I L T X)
  (h: ∀vs,Obw P (fun _=>I) l L T vs Q l L 0 a):(Code.region id l.toArray true).wp P Q a w:=
 qBT L T I (fun _=>True) [] X hm hB hX ak hI0 trivial hIT (qCI T 0) hst fun vs=>(h vs).mono fun _ _ hj=>hj.1
end
end Go.Proofs.YtlgcflpaekbopaaGreat
