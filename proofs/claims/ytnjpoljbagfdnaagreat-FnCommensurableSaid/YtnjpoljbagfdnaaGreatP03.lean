/- Parts of the proof: CanS, Ren, RenQ, Tree, Read, AddP, CanG, GrS, RankS, Srt, Dup. -/
import Derived.Test.YtnjpoljbagfdnaaGreatP02
import Derived.Test.YtnjpoljbagfdnaaGreatP01
import Derived.Lib.SliceRun
import Derived.Shelf.SlSortCmp.WholeK
import Derived.Ground.SlsfProg
set_option maxRecDepth 100000
set_option maxHeartbeats 16000000
set_option linter.unusedVariables false
set_option linter.unusedSimpArgs false
namespace Go.Proofs.YtnjpoljbagfdnaaGreat
open Go.RowKit
open Go.World renaming cell?_setCell_other→zaa,cell?_setCell_same→zah,cell?_of_block→zan,ownsRow→zas,frozen?_of_block→zaA,grownBy→zaF
open _root_.Nat renaming le_refl→zab,zero_le→zal,zero_add→zap,le_of_lt→zaM
open Go.Value renaming ownBlock→zac,agg→zaz,int→zaH
open _root_.List renaming pairwise_iff_getElem→zad,take_length→zae,getElem?_eq_getElem→zaf,take_succ_eq_append_getElem→zai,length_take→zak,length_cons→zam,getElem?_eq_some_iff→zao,mem_singleton→zaq,getElem_take→zar,mem_append→zau,replicate→zav,ext_getElem?→zaw,length_nil→zay,getElem?_eq_none→zaB,range→zaC,mem_iff_getElem→zaE,getElem_of_mem→zaG,set_cons_succ→zaJ,mem_map→zaK,length_append→zaL,getElem?_drop→zaN,getElem?_map→zaO,foldl_append→zaQ,cons_append→zaR,nil_append→zaS,length_map→zaT,range_succ→zaV,map_append→zaW,take_zero→zaX,mem_range→zaY,drop_drop→zaZ,getD→za0
open Go.RowKit.Below renaming refl→zag,drew→zaj,heap_alloc→zax
open _root_.Bool renaming and_eq_true→zat,not_eq_true'→zaP
open _root_.Array renaming getElem_toList→zaD
open _root_.Int renaming sub_zero→zaI
open _root_.Option renaming map_some→zaU,some→za1
def qDM (es:List EdD) (v:Nat):Bool:=decide (degL es v<2)|| !hasB (qBi es 0) v
def qAM (es:List EdD) (n:Nat):Nat→Nat→Int
 | 0,_=> -1
 | f+1,v=>if v<n then(if qDM es v then(v:Int) else qAM es n f (v+1)) else-1
def qk (es:List EdD) (n:Nat):Int:=qAM es n (n-1) 1
theorem qFR (es:List EdD) (n f:Nat):qAM es n f n= -1:=by
 cases f with
 | zero=>rfl
 | succ f=>unfold qAM;rw[if_neg (Nat.lt_irrefl n)]
theorem qCL {es:List EdD} {n v:Nat} (hv:v<n) (h:qDM es v=true):qAM es n (n-v) v=v:=by
 obtain⟨f,hf⟩: ∃f,n-v=f+1:=⟨n-v-1,tO⟩;rw[hf];unfold qAM;rw[if_pos hv,if_pos h]
theorem qEq {es:List EdD} {n v:Nat} (hv:v<n) (h:qDM es v=false):qAM es n (n-v) v=qAM es n (n-(v+1)) (v+1):=by
 obtain⟨f,hf⟩: ∃f,n-v=f+1:=⟨n-v-1,tO⟩;rw[hf];rw[qAM,if_pos hv,if_neg (by simp[h]),show n-(v+1)=f by omega]
theorem qGv (v:Value) (g:GrD) (w:World) (h:ArgG w v g) (hg:grB g=true):
  Calls Tryz.prog 203 #[v] w fun e w'=>e= .returned (.int .i64 (qk g.2.2 g.2.1.toNat))∧Below w.heap.size w w':=by
 have HG:=qA h;have aH:=qA hg;obtain⟨_,aE,aK,_⟩:=qB hg;have hu:inB 0 0 (wrap64 (g.2.1-1))=true:=by
  rw[IntWalk.wrap64_in _ ⟨tO,tO⟩];exact qAC.2 ⟨Int.le_refl _,tO⟩
 have HU:=qA hu;obtain⟨N,hN⟩: ∃N:Nat,g.2.1=(N:Int):=⟨g.2.1.toNat,tO⟩;clear hu hg;obtain⟨s,rfl,_,_,ha⟩:=h;obtain⟨A,cap,rfl⟩:=ha.form;obtain⟨r,n,es⟩:=g;simp only at hN aE aK
 subst hN;simp only[Int.toNat_natCast];have l5:1≤N:=tO;have uK:N≤40:=tO;obtain⟨R,hR⟩: ∃R,R=qk es N:=⟨_,rfl⟩;rw[←hR];have HR:=qA hR;clear hR ha aE;have bx:Below w.heap.size w (w.alloc (.cells #[.int .i64 r,.int .i64 N, .slice A es.length cap] 26)):=(by repeat(first | exact .refl _ _ | (refine BxS ?_ _) | (refine qD ?_ _) | (refine zaj ?_) | (refine BxA ?_ _)));have k0:(w.alloc (.cells #[.int .i64 r,.int .i64 N, .slice A es.length cap] 26)).cell? ⟨w.heap.size,0,none⟩=some (.int .i64 r):=by simp[go_sem]
 have k1:(w.alloc (.cells #[.int .i64 r,.int .i64 N, .slice A es.length cap] 26)).cell? ⟨w.heap.size,1,none⟩=some (.int .i64 N):=by simp[go_sem]
 have k2:(w.alloc (.cells #[.int .i64 r,.int .i64 N, .slice A es.length cap] 26)).cell? ⟨w.heap.size,2,none⟩=some (.slice A es.length cap):=by simp[go_sem]
 have sx:w.heap.size<(w.alloc (.cells #[.int .i64 r,.int .i64 N, .slice A es.length cap] 26)).heap.size:=by simp
 have BX:=qA bx;have K0:=qA k0;have K1:=qA k1;have K2:=qA k2;clear k0 k1 k2 bx;go_enter Tryz.func203,Tryz.ntmps203
 go_wp2_with fail;refine(qGG _ (r,(N:Int),es) 0 _ (HG.out.below BX.out) aH.out HU.out ⟨by decide,by decide⟩).mono ?_
 rintro e w1 ⟨rs,rfl,o1,b1⟩;have HB:=qA (BX.out.trans (b1.mono BX.out.size));have s1:=b1.size;have aP:w.heap.size<w1.heap.size:=tO;have q0:=(b1.cell (p:=⟨w.heap.size,0,none⟩) sx).trans K0.out;have q1:=(b1.cell (p:=⟨w.heap.size,1,none⟩) sx).trans K1.out;have q2:=(b1.cell (p:=⟨w.heap.size,2,none⟩) sx).trans K2.out;have Q0:=qA q0;have Q1:=qA q1;have Q2:=qA q2;have O1:=qA o1;obtain⟨A1,ah,rfl,_⟩:=o1.form;have Dr:(qBi es 0).length≤100000:=by
  have:=qGj es 0 (es.length+1) aK
  unfold qBi;omega
 have Es:Hid (∀v:Nat,qDM es v=(decide (degL es v<2)|| !hasB (qBi es 0) v)):=qA fun v=>rfl;clear q0 q1 q2 b1 o1 K0 K1 K2 s1 sx;simp only at O1 Dr
 generalize qBi es 0=L at*;go_wp2;go_loopw [4] (fun i wr=> ∃k:Nat,1≤k∧k≤N∧i= .int .i64 k∧R=qAM es N (N-k) k∧Below w1.heap.size w1 wr) (fun i _=>N-(intOf i).toNat)
 case atStart=>exact⟨1,zab _,l5,rfl,HR.out,zag _ _⟩
 case round=>
  obtain⟨k,oW,hk,rfl,jJ,ab⟩:=hrel;have jp:=qA jJ;have ay:=qA ab;have aC:=qA (HB.out.trans (ab.mono HB.out.size));have aq:=ab.size;have p0:=(ab.cell (p:=⟨w.heap.size,0,none⟩) aP).trans Q0.out;have p1:=(ab.cell (p:=⟨w.heap.size,1,none⟩) aP).trans Q1.out;have p2:=(ab.cell (p:=⟨w.heap.size,2,none⟩) aP).trans Q2.out;have OL:=qA (O1.out.below ab);clear jJ ab;by_cases ac:k<N
  ·have Ol:(k:Int)<(N:Int):=tO;have Fd:degL es k≤240:=by have:=qHq es k es.length;rw[zae] at this;omega
   have LB:=qA (Es.out k);go_wp2_with fail;refine(qDE _ (r,(N:Int),es) k _ (HG.out.below aC.out) (by simp only;omega)).mono ?_
   rintro e w2 ⟨rfl,b2⟩;have B2:=qA b2;have s2:=b2.size;have KI:=qA (OL.out.below b2);clear b2;simp only
   generalize degL es k=d at*;by_cases hd:d<2
   ·have EM:(d:Int)<2:=tO;have F:=qA (qCL ac (by rw[LB.out];simp[hd]));go_wp2;go_ret;exact⟨qAW (by rw[jp.out,F.out]),aC.out.trans (B2.out.mono tO)⟩
   ·have EM: ¬(d:Int)<2:=tO;go_wp2_with fail;refine(qBt _ L k _ KI.out.rd.arg tO).mono ?_
    rintro e' w' ⟨rfl,rfl⟩;rcases h1:hasB L k with _ | _
    ·have F:=qA (qCL ac (by rw[LB.out,h1];simp));go_wp2;go_ret;exact⟨qAW (by rw[jp.out,F.out]),aC.out.trans (B2.out.mono tO)⟩
    ·have F:=qA (qEq ac (by rw[LB.out,h1];simp[hd]));go_wp2;go_roundw
     case rel=>exact⟨k+1,tO,tO,by go_num,by rw[jp.out,F.out],ay.out.trans (B2.out.mono tO)⟩
     case measure=>simp[intOf];omega
  ·obtain rfl:k=N:=tO
   have F:Hid (R= -1):=qA (by rw[jp.out,qFR]);go_wp2;go_ret;exact⟨qAW F.out.symm,aC.out⟩
theorem qBj {g:GrD} (hg:grB g=true) {u:Int} (ls:List Int) (k:Nat) {o:List Int} (h:qAB g.2.1 o):qAB g.2.1 ((ls.take k).foldl (qW g.2.2 u) o):=qHW hg _ h
theorem qCo {es:List EdD} {u x:Int} {o:List Int} (h: ¬0≤qF es u x):qW es u o x=o:=by unfold qW;rw[if_neg h]
theorem qCz {es:List EdD} {u x:Int} {o:List Int} (h:0≤qF es u x) (h1:hasB o (qF es u x)=true):qW es u o x=o:=by unfold qW;rw[if_pos h,if_pos h1]
theorem qCF {es:List EdD} {u x:Int} {o:List Int} (h:0≤qF es u x) (h1:hasB o (qF es u x)=false):qW es u o x=o++ [qF es u x]:=by unfold qW;rw[if_pos h,if_neg (by simp[h1])]
theorem qDJ (v:Value) (g:GrD) (w:World) (h:ArgG w v g) (hf:qb g=true):
  Calls Tryz.prog 214 #[v] w fun e w'=> ∃r,e= .returned r∧OwI w' w.heap.size r (canO g)∧Below w.heap.size w w':=by
 have HG:=qA h;obtain⟨hg,bO⟩:=qE hf;have aH:=qA hg;have HF:=qA hf;have ONE:=qA (qp bO);obtain⟨bn,aE,aK,_⟩:=qB hg;obtain⟨A,cap,hv⟩: ∃A cap,v= .agg #[.int .i64 g.1, .int .i64 g.2.1, .slice A g.2.2.length cap]:=by
  obtain⟨s,hv,_,_,ha⟩:=h;obtain⟨A,cap,rfl⟩:=ha.form;exact⟨A,cap,hv⟩
 subst hv;obtain⟨rn,nh⟩: ∃rn:Nat,g.1=(rn:Int):=⟨g.1.toNat,tO⟩;have yh:1≤rn:=tO;have AW:rn≤3:=tO;have kS:Hid (canO g=canF g.2.2 (qG rn) 41 0 [0]):=qA (by unfold canO;rw[nh];rfl);have vf:=qA (qAB.one (n:=g.2.1) tO);have OKS:Hid (∀(u:Int) (o:List Int) (k:Nat),qAB g.2.1 o→qAB g.2.1 (((qG rn).take k).foldl (qW g.2.2 u) o)):=qA fun u o k h=>qBj hg _ k h;have OKL:Hid (∀o:List Int,qAB g.2.1 o→o.length≤40):=qA fun o h=>h.len tO tO;have NV:Hid (∀u x,qF g.2.2 u x= -1∨(0≤qF g.2.2 u x∧qF g.2.2 u x<41)):=qA fun u x=>by
  rcases qO hg u x with e | e
  ·exact .inl e
  ·exact .inr ⟨e.1,tO⟩
 have yT:=qA nh;clear hg hf bO h nh;have ka:1≤g.1∧g.1≤3:=bn;clear aE aK bn;have bx:Below w.heap.size w (w.alloc (.cells #[.int .i64 g.1,.int .i64 g.2.1, .slice A g.2.2.length cap] 26)):=(by repeat(first | exact .refl _ _ | (refine BxS ?_ _) | (refine qD ?_ _) | (refine zaj ?_) | (refine BxA ?_ _)));have k0:(w.alloc (.cells #[.int .i64 g.1,.int .i64 g.2.1, .slice A g.2.2.length cap] 26)).cell? ⟨w.heap.size,0,none⟩=some (.int .i64 g.1):=by simp[go_sem]
 have k1:(w.alloc (.cells #[.int .i64 g.1,.int .i64 g.2.1, .slice A g.2.2.length cap] 26)).cell? ⟨w.heap.size,1,none⟩=some (.int .i64 g.2.1):=by simp[go_sem]
 have k2:(w.alloc (.cells #[.int .i64 g.1,.int .i64 g.2.1, .slice A g.2.2.length cap] 26)).cell? ⟨w.heap.size,2,none⟩=some (.slice A g.2.2.length cap):=by simp[go_sem]
 have sx:w.heap.size<(w.alloc (.cells #[.int .i64 g.1,.int .i64 g.2.1, .slice A g.2.2.length cap] 26)).heap.size:=by simp
 have BX:=qA bx;have K0:=qA k0;have K1:=qA k1;have K2:=qA k2;clear k0 k1 k2 bx;go_enter Tryz.func214,Tryz.ntmps214
 go_wp2_with fail;have aO:=qAI _ g _ (HG.out.below BX.out);rw[HF.out] at aO;have po:=qA aO;clear aO;refine po.out.mono ?_;rintro e w1 ⟨rfl,b1⟩;clear po;have HB:=qA (BX.out.trans (b1.mono BX.out.size));have s1:=b1.size;have aP:w.heap.size<w1.heap.size:=tO;have q0:=(b1.cell (p:=⟨w.heap.size,0,none⟩) sx).trans K0.out;have q1:=(b1.cell (p:=⟨w.heap.size,1,none⟩) sx).trans K1.out;have q2:=(b1.cell (p:=⟨w.heap.size,2,none⟩) sx).trans K2.out;clear b1 K0 K1 K2 s1 sx;go_wp2_with fail;have eO:Below w1.heap.size w1 (w1.alloc (.cells #[.int .i64 0] 3)):=(zag _ _).alloc (zab _) _;have o2:OwI (w1.alloc (.cells #[.int .i64 0] 3)) w1.heap.size (.slice (some ⟨w1.heap.size,0,none⟩) 1 1) [0]:=qAE w1 [0] (fun x hx=>by simp at hx;subst hx;exact⟨by decide,by decide⟩) (by simp) (zab _);have s2:w1.heap.size<(w1.alloc (.cells #[.int .i64 0] 3)).heap.size:=by simp
 generalize w1.alloc (.cells #[.int .i64 0] 3)=w2 at eO o2 s2⊢;have ii:=qAs rn w2 tO;rw[←yT.out] at ii;have cR:=qA ii;clear ii;refine cR.out.mono ?_;rintro e w3 ⟨rl,rfl,ol,b3⟩;have s3:=b3.size;have nO:=eO.trans (b3.mono eO.size);have aC:=qA (HB.out.trans (nO.mono HB.out.size));have Q0:=qA ((nO.cell (p:=⟨w.heap.size,0,none⟩) aP).trans q0);have Q1:=qA ((nO.cell (p:=⟨w.heap.size,1,none⟩) aP).trans q1);have Q2:=qA ((nO.cell (p:=⟨w.heap.size,2,none⟩) aP).trans q2);have O2:=qA ((o2.below b3).mono (base':=w.heap.size+1) tO);have dT:=qy rn;generalize qG rn=ls at*;obtain⟨Al,capl,rfl,cU,cV,_,dC⟩:=ol.form;obtain⟨bl,rfl,jR,dw⟩:=dC tO;unfold maxLen at cV;have OL:=qA ol.rd;have My:bl≠w1.heap.size:=tO;clear ol b3 eO o2 nO q0 q1 q2 dC cR;go_wp2;go_loopw [3,5] (fun out i wo=> ∃(k:Nat) (o:List Int),k≤o.length∧i= .int .i64 k∧qAB g.2.1 o∧canO g=canF g.2.2 ls (41-k) k o∧OwI wo (w.heap.size+1) out o∧RdI wo (.slice (some ⟨bl,0,none⟩) ls.length capl) ls∧out.ownBlock≠some bl∧bl<wo.heap.size∧Below (w.heap.size+1) w3 wo) (fun _ i _=>41-(intOf i).toNat)
 case atStart=>exact⟨0,[0],by simp,rfl,vf.out,kS.out,O2.out,OL.out,by simp[zac];omega,dw,zag _ _⟩
 case round=>
  obtain⟨k,o,hk,rfl,af,eT,aa,aN,ai,tS,ab⟩:=hrel;obtain⟨wo,rfl⟩: ∃wo:World,wo=wr:=⟨_,rfl⟩;have gV:=OKL.out o af;have dD:=qA af;have HC:=qA eT;have HO:=qA aa;have jF:=qA aN;have iP:=qA ai;have ay:=qA ab;have aq:=ab.size;obtain⟨A1,ah,rfl,_⟩:=aa.form;clear af eT aa aN ai ab;by_cases ac:k<o.length
  ·obtain⟨u,hu⟩: ∃u,o[k]? =some u:=⟨o[k],by simp⟩;have fV:o[k]=u:=by rw[zaf ac] at hu;injection hu
   have jh:Hid (canO g=canF g.2.2 ls (41-(k+1)) (k+1) (ls.foldl (qW g.2.2 u) o)):=qA (by
    rw[HC.out,show 41-k=(41-(k+1))+1 by omega,qBd _ _ _ _ _ ac,fV])
   have dk:Hid (∀m:Nat,(((ls.take m).foldl (qW g.2.2 u) o))[k]? =some u):=qA fun m=>qr _ _ _ _ _ _ hu;have gH:Hid (∀(m:Nat) (hm:m<ls.length),(ls.take (m+1)).foldl (qW g.2.2 u) o=qW g.2.2 u ((ls.take m).foldl (qW g.2.2 u) o) ls[m]):=qA fun m hm=>qBm _ _ _ _ _ hm;have di:Hid (∀m:Nat,qAB g.2.1 ((ls.take m).foldl (qW g.2.2 u) o)):=qA fun m=>OKS.out u o m dD.out;clear hu fV;go_wp2;go_loopw [3,6] (fun out j wr=> ∃m:Nat,m≤ls.length∧j= .int .i64 m∧OwI wr (w.heap.size+1) out ((ls.take m).foldl (qW g.2.2 u) o)∧RdI wr (.slice (some ⟨bl,0,none⟩) ls.length capl) ls∧out.ownBlock≠some bl∧bl<wr.heap.size∧Below (w.heap.size+1) wo wr) (fun _ j _=>ls.length-(intOf j).toNat)
   case atStart=>exact⟨0,zal _,rfl,HO.out,jF.out,iP.out,tS,zag _ _⟩
   case round=>
    obtain⟨m,dj,rfl,aa,aN,ai,bN,aG⟩:=hrel;have si:=aG.size;have bK:=qA aG;have ch:=qA (aC.out.trans ((ay.out.trans aG).mono tO));have bm:w.heap.size<wr.heap.size:=tO;have cA:=ay.out.trans aG;have p0:=(cA.cell (p:=⟨w.heap.size,0,none⟩) (show w.heap.size<w.heap.size+1 by omega)).trans Q0.out;have p1:=(cA.cell (p:=⟨w.heap.size,1,none⟩) (show w.heap.size<w.heap.size+1 by omega)).trans Q1.out;have p2:=(cA.cell (p:=⟨w.heap.size,2,none⟩) (show w.heap.size<w.heap.size+1 by omega)).trans Q2.out;have kv:=qA aN;have dx:=qA ai;clear aG cA;by_cases al:m<ls.length
    ·have az:=di.out m;have ke:=OKL.out _ az;have bZ:=dk.out m;have HS:=qA (gH.out m al);obtain⟨_,_,dp,_,cU⟩:=aN.at tO;obtain⟨rfl,rfl⟩:bl=_∧0=_:=by simpa using dp
     have c0:=cU m al;rw[zap] at c0;generalize ls[m]=x at c0 HS;generalize (ls.take m).foldl (qW g.2.2 u) o=om at*;have ji:k<om.length:=(zao.1 bZ).1;have lh:om[k]=u:=by rw[zaf ji] at bZ;injection bZ
     have dQ:=qA aa;obtain⟨A2,ak,rfl,_,_,_,a7⟩:=aa.form;obtain⟨b2,rfl,uY,gY⟩:=a7 tO;have d0:=aa.cellAt k ji;rw[lh] at d0;have NX:=qA (NV.out u x);have N0:=qA (qCo (es:=g.2.2) (u:=u) (x:=x) (o:=om));have N1:=qA (qCz (es:=g.2.2) (u:=u) (x:=x) (o:=om));have N2:=qA (qCF (es:=g.2.2) (u:=u) (x:=x) (o:=om));have cS:=qA (fun W (h:ArgG W (.agg #[.int .i64 g.1, .int .i64 g.2.1, .slice A g.2.2.length cap]) g)=>qU _ g u x W h (ONE.out u x));clear cU dp aa aN a7 bZ lh az;go_wp2_with fail;have f0:=BelW.cell p0 bm;have f1:=BelW.cell p1 bm;have f2:=BelW.cell p2 bm;have f3:=BelW.cell c0 bN;have f4:=BelW.cell d0 gY;(refine qH tK tK ?_;(repeat(go_big_quiet_step (first | (go_at_call 86;exact Calls.bel_of (cS.out _ (HG.out.below (ch.out.trans ((BelW.h _).mono tO))))))));refine wpQuiet_nil ?_;intro wq aA;obtain⟨pq,ae⟩:=aA;have bq:=pq.h;rw[←ae] at bq;clear ae pq)
     clear f0 f1 f2 f3 f4 p0 p1 p2 c0 d0;have sq:=bq.size;have HQ:=qA (bK.out.trans (bq.mono tO));have gq:=qA (dQ.out.below bq);have iM:=qA (kv.out.below bq);clear bq;generalize qF g.2.2 u x=y at*;rcases NX.out with hy | hy
     ·subst hy;have F:=qA (N0.out tO);go_wp2;go_roundw
      case rel=>exact⟨m+1,tO,by go_num,by rw[HS.out,F.out];exact gq.out,iM.out,dx.out,tO,HQ.out⟩
      case measure=>simp[intOf];omega
     ·have ic:(0:Int)≤y:=hy.1;have Ph:y<41:=hy.2;go_wp2_with fail;refine(qBt _ om y _ gq.out.rd.arg tO).mono ?_
      rintro e' w' ⟨rfl,rfl⟩;rcases h1:hasB om y with _ | _
      ·have F:=qA (N2.out ic h1);have HY:Hid (I64 y):=qA ⟨tO,tO⟩;go_wp2_with (at_builtin;refine qd rfl (.tmp 46) (.tmp 48) rfl _ _ _ (OwI.alloc gq.out _) rfl _ _ rfl (qa _ _ _) HY.out (by first | omega | (simp<;>omega)) (by first | omega | (simp<;>omega)) ?_;intro v9 wv9 o9 g9 p9)
       have ml:=g9.size;simp at ml
       go_roundw
       case rel=>
        refine⟨m+1,tO,by go_num,by rw[HS.out,F.out];exact o9,(iM.out.alloc _).grown g9 (fun b hb aJ=> ?_),fun e=> ?_,tO,qe HQ.out tO gq.out.1 (zab _) g9⟩
        ·simp[zac] at hb aJ
         have:=dx.out
         simp[zac] at this
         omega
        ·rcases p9 with p9 | p9
         ·rw[p9] at e;exact dx.out e
         ·rw[p9] at e;simp at e;omega
       case measure=>simp[intOf];omega
      ·have F:=qA (N1.out ic h1);go_wp2;go_roundw
       case rel=>exact⟨m+1,tO,by go_num,by rw[HS.out,F.out];exact gq.out,iM.out,dx.out,tO,HQ.out⟩
       case measure=>simp[intOf];omega
    ·obtain rfl:m=ls.length:=tO
     rw[zae] at aa;have az:=di.out ls.length;rw[zae] at az;have gu:=qA az;have dQ:=qA aa;have au:k+1≤(ls.foldl (qW g.2.2 u) o).length:=by
      have:=dk.out ls.length
      rw[zae] at this;have:=(zao.1 this).1
      omega
     obtain⟨A2,ak,rfl,_⟩:=aa.form;clear aa aN ai az p0 p1 p2;go_wp2;go_roundw
     case rel=>exact⟨k+1,_,au,by go_num,gu.out,jh.out,dQ.out,kv.out,dx.out,bN,ay.out.trans bK.out⟩
     case measure=>simp[intOf];omega
  ·obtain rfl:k=o.length:=tO
   have F:Hid (canO g=o):=qA (by rw[HC.out,qCx]);go_wp2;go_ret;exact⟨_,rfl,by rw[F.out];exact HO.out.mono tO,aC.out.trans (ay.out.mono tO)⟩
def plv:List Int→Int→Int
 | [],_=>0
 | u::o,v=>if u=v then 1 else if plv o v=0 then 0 else plv o v+1
theorem qAe (o:List Int) (v:Int):0≤plv o v∧plv o v≤o.length:=by
 induction o with
 | nil=>simp[plv]
 | cons u o ih=>
   unfold plv;simp only[zam];split
   ·omega
   ·split<;>omega
theorem qCy {o:List Int} {v:Int}:plv o v=0↔v∉o:=by
 induction o with
 | nil=>simp[plv]
 | cons u o ih=>
   unfold plv;have:=qAe o v
   split
   ·rename_i h
    simp[h]
   ·rename_i h
    rw[List.mem_cons];split
    ·rename_i h0
     constructor
     ·intro _;rintro(e | e)
      ·exact h e.symm
      ·exact ih.1 h0 e
     ·intro _;rfl
    ·rename_i h0
     constructor
     ·intro e;omega
     ·intro hn;exact absurd (ih.2 fun e=>hn (.inr e)) h0
theorem qNd {o:List Int} {u:Int} (hu:u∉o) (v:Int):plv (o++ [u]) v=if v=u then(o.length:Int)+1 else plv o v:=by
 induction o with
 | nil=>
   simp only[zaS,plv,zay];by_cases h:u=v
   ·simp[h]
   ·have h': ¬v=u:=fun e=>h e.symm;simp[h,h']
 | cons a o ih=>
   have tp:u∉o:=fun e=>hu (by simp[e]);have NP:a≠u:=fun e=>hu (by simp[e]);have ih:=ih tp;simp only[zaR,plv,zam];by_cases h:a=v
   ·rw[if_pos h,if_pos h,if_neg (fun e=>NP (h.trans e))]
   ·rw[if_neg h,if_neg h,ih];by_cases h2:v=u
    ·rw[if_pos h2,if_pos h2,if_neg tO];omega
    ·rw[if_neg h2,if_neg h2]
theorem qGH {o:List Int} {v v':Int} (h:plv o v=plv o v') (h0:plv o v≠0):v=v':=by
 induction o with
 | nil=>exact absurd rfl h0
 | cons a o ih=>
   have r1:=qAe o v;have r2:=qAe o v';unfold plv at h h0;by_cases e1:a=v
   ·by_cases e2:a=v'
    ·rw[←e1,←e2]
    ·rw[if_pos e1,if_neg e2] at h;split at h<;>omega
   ·by_cases e2:a=v'
    ·rw[if_neg e1,if_pos e2] at h;split at h<;>omega
    ·rw[if_neg e1,if_neg e2] at h;rw[if_neg e1] at h0;by_cases z1:plv o v=0
     ·rw[if_pos z1] at h0;exact absurd rfl h0
     ·by_cases z2:plv o v'=0
      ·rw[if_neg z1,if_pos z2] at h;omega
      ·rw[if_neg z1,if_neg z2] at h;exact ih tO z1
def plc (n:Nat) (o:List Int) (d:Int):List Int:=(zaC n).map fun v=>plv o (v:Nat)-d
theorem qEI (n:Nat) (o:List Int) (d:Int):(plc n o d).length=n:=by simp[plc]
theorem qJG (n:Nat) (o:List Int) (d:Int) (v:Nat) (h:v<n):(plc n o d)[v]'(by rw[qEI];exact h)=plv o v-d:=by simp[plc]
theorem qJO (n:Nat) (d:Int):plc n [] d=zav n (-d):=by
 apply zaw
 intro i;simp only[plc,plv,zaO,List.getElem?_replicate];by_cases h:i<n
 ·simp[h]
 ·simp[h]
theorem qJh (n:Nat) (o:List Int) (d:Int) (k:Nat) (hk:k<o.length) (hd:o.Nodup) (u:Nat) (hu:o[k]=(u:Int)):
  (plc n (o.take k) d).set u ((k:Int)+1-d)=plc n (o.take (k+1)) d:=by
 have hn:(u:Int)∉o.take k:=by
  rw[←hu];intro hm;obtain⟨j,hj,e⟩:=zaG hm;rw[zar] at e;have ge:j<k:=by rw[zak] at hj;omega
  have:=(zad.1 hd) j k tO hk ge
  exact this e
 rw[zai hk,hu];have hl:(o.take k).length=k:=by rw[zak];omega
 apply zaw
 intro i;rw[List.getElem?_set];simp only[plc,zaO,zaT,List.length_range];by_cases hi:i<n
 ·simp only[List.getElem?_range hi,zaU];rw[qNd hn,hl];by_cases e:u=i
  ·subst e;simp[hi]
  ·rw[if_neg e,if_neg tO]
 ·simp only[zaB (show(zaC n).length≤i by simp;omega),Option.map_none];split
  ·rename_i e
   rw[if_neg tO]
  ·rfl
def rnE (o:List Int) (e:EdD):Option EdD:=if 0<plv o e.1∧0<plv o e.2.2 then some (plv o e.1-1,e.2.1,plv o e.2.2-1) else none
def rnL (es:List EdD) (o:List Int):List EdD:=es.filterMap (rnE o)
def rnG (g:GrD) (o:List Int):GrD:=(g.1,o.length,srt cmpE (rnL g.2.2 o))
theorem qJv (es:List EdD) (o:List Int) (k:Nat) (h:k<es.length):rnL (es.take (k+1)) o=rnL (es.take k) o++(rnE o es[k]).toList:=by
 unfold rnL;rw[zai h,List.filterMap_append];congr 1
theorem qHO (es:List EdD) (o:List Int):(rnL es o).length≤es.length:=List.length_filterMap_le _ _
theorem qIu {es:List EdD} (o:List Int) (h:es.Nodup):(rnL es o).Nodup:=by
 unfold rnL;unfold List.Nodup at*;rw[List.pairwise_filterMap];refine h.imp fun {a b} fI x hx y hy e=>fI ?_;subst e;unfold rnE at hx hy;split at hx
 ·rename_i ha
  split at hy
  ·rename_i hb
   injection hx with hx
   injection hy with hy
   rw[←hy] at hx;injection hx with e1 hx
   injection hx with e2 e3
   have i1:=qGH (o:=o) (v:=a.1) (v':=b.1) tO tO;have i3:=qGH (o:=o) (v:=a.2.2) (v':=b.2.2) tO tO;obtain⟨_,_,_⟩:=a;obtain⟨_,_,_⟩:=b;simp only at i1 e2 i3
   rw[i1,e2,i3]
  ·cases hy
 ·cases hx
theorem qDl {g:GrD} (h:grB g=true):Srt cmpE g.2.2∧g.2.2.Nodup:=by
 obtain⟨_,_,_,h4⟩:=qB h;have adj: ∀k (hk:k+1<g.2.2.length),cmpE g.2.2[k] g.2.2[k+1]<0:=fun k hk=>by
  have:=h4 (k+1) hk
  rw[qGQ tO hk,zat] at this;have h2:=this.2;simp only[zaP,decide_eq_false_iff_not,Nat.add_sub_cancel] at h2;omega
 have all: ∀d k (hk:k+d+1<g.2.2.length),cmpE (g.2.2[k]'tO) g.2.2[k+d+1]<0:=by
  intro d;induction d with
  | zero=>intro k hk;exact adj k hk
  | succ d ih=>intro k hk;exact qAD.trans (ih k tO) (adj (k+d+1) hk)
 have hs:Srt cmpE g.2.2:=by
  unfold Srt;rw[zad];intro i j hi hj eC;have:=all (j-i-1) i tO
  have e:i+(j-i-1)+1=j:=tO;simpa only[e] using this
 refine⟨hs,hs.imp fun {a b} fI e=> ?_⟩;rw[e] at fI;exact qAD.irrefl b fI
theorem qAV {w w':World} {row:Option Nat} (h:Below w.heap.size w w'):w.grownBy w' row:=⟨h.os,h.tape,h.output,h.size,fun b hb _=>h.block b hb⟩
theorem qAf {w w':World} {x b o:Nat} (h:w.grownBy w' (some x)) (hb:b<w.heap.size) (ai:b≠x):w'.cell? ⟨b,o,none⟩=w.cell? ⟨b,o,none⟩:=
 zan (w:=w) (h.block b hb fun e=>ai (by injection e))
theorem qFQ {w w':World} {x b o:Nat} (h:w.grownBy w' (some x)) (hb:b<w.heap.size) (ai:b≠x):w'.frozen? ⟨b,o,none⟩=w.frozen? ⟨b,o,none⟩:=
 zaA (w:=w) (h.block b hb fun e=>ai (by injection e))
theorem qAN (w:World) (b o b' o':Nat) (u:Value) (h:b≠b'):(w.setCell ⟨b',o',none⟩ u).cell? ⟨b,o,none⟩=w.cell? ⟨b,o,none⟩:=
 zan (w:=w) (Below.heap_setCell w _ u b h)
theorem qCm (v vo:Value) (g:GrD) (o:List Int) (w:World) (h:ArgG w v g) (ho:RdI w vo o) (hg:grB g=true) (af:OrdN g.2.1 o):
  Calls Tryz.prog 163 #[v,vo] w fun e w'=> ∃r,e= .returned (.tuple #[r, .bool true])∧OwG w' w.heap.size r (rnG g o)∧Below w.heap.size w w':=by
 have HG:=qA h;have aH:=qA hg;have dD:=qA af;have kq:=qA ho;obtain⟨bn,aE,aK,_⟩:=qB hg;have jC:=qA (fun e he=>qI hg (e:=e) he);obtain⟨N,hN⟩: ∃N:Nat,g.2.1=(N:Int):=⟨g.2.1.toNat,tO⟩;have gV:o.length≤N:=qAc N o af.1 fun y hy=>by have:=af.2.1 y hy;omega
 have zW:1≤o.length:=af.2.2;have kG:Hid (∀k (hk:k<o.length),∃u:Nat,o[k]=(u:Int)∧u<N):=qA fun k hk=>by
  have:=af.2.1 o[k] (by simp)
  exact⟨o[k].toNat,tO,tO⟩
 have lE:=qA af.1;clear hg af h;obtain⟨r,n,es⟩:=g;simp only at hN bn aE aK
 subst hN;have l5:1≤N:=tO;have uK:N≤40:=tO;have MN:(N:Int)≤40:=tO;clear aE;obtain⟨A,cap,rfl,HE⟩: ∃A cap,v= .agg #[.int .i64 r, .int .i64 N, .slice A es.length cap]∧Hid (ArgE w (.slice A es.length cap) es):=by
  obtain⟨s,hv,_,_,ha⟩:=HG.out;obtain⟨A,cap,rfl⟩:=ha.form;exact⟨A,cap,hv,qA ha⟩
 obtain⟨Ao,capo,rfl,eT,lK,_⟩:=ho.arg;have jy:es.length≤cap∧cap≤maxLen:=by
  obtain⟨_,_,hv,h1,h2,_⟩:=HE.out;injection hv with _ _ e3
  subst e3;exact⟨h1,h2⟩
 obtain⟨a6,hm⟩:=jy;unfold maxLen at lK hm;clear ho;have bx:Below w.heap.size w (((w.alloc (.cells #[.int .i64 r,.int .i64 N, .slice A es.length cap] 26)).alloc (.cells #[.int .i64 0,.int .i64 0, .slice none 0 0] 26)).alloc (.cells #[.int .i64 r,.int .i64 o.length, .slice none 0 0] 26)):=(by repeat(first | exact .refl _ _ | (refine BxS ?_ _) | (refine qD ?_ _) | (refine zaj ?_) | (refine BxA ?_ _)));go_enter Tryz.func163,Tryz.ntmps163
 go_wp2_with fail;obtain⟨W0,am⟩: ∃W,W=((w.alloc (.cells #[.int .i64 r,.int .i64 N, .slice A es.length cap] 26)).alloc (.cells #[.int .i64 0,.int .i64 0, .slice none 0 0] 26)).alloc (.cells #[.int .i64 r,.int .i64 o.length, .slice none 0 0] 26):=⟨_,rfl⟩;rw[←am] at bx⊢;have aW:W0.heap.size=w.heap.size+3:=by rw[am];simp
 have b0:W0.cell? ⟨w.heap.size,0,none⟩=some (.int .i64 r):=by rw[am];simp[go_sem]
 have b1:W0.cell? ⟨w.heap.size,1,none⟩=some (.int .i64 N):=by rw[am];simp[go_sem]
 have b2:W0.cell? ⟨w.heap.size,2,none⟩=some (.slice A es.length cap):=by rw[am];simp[go_sem]
 have r0: ∃u,W0.cell? ⟨w.heap.size+1,0,none⟩=some u:=⟨.int .i64 0,by rw[am];simp[go_sem]⟩;have r1: ∃u,W0.cell? ⟨w.heap.size+1,1,none⟩=some u:=⟨.int .i64 0,by rw[am];simp[go_sem]⟩;have r2: ∃u,W0.cell? ⟨w.heap.size+1,2,none⟩=some u:=⟨.slice none 0 0,by rw[am];simp[go_sem]⟩;have rf: ∀j,W0.frozen? ⟨w.heap.size+1,j,none⟩=false:=fun j=>by rw[am];simp[go_sem]
 have x0:W0.cell? ⟨w.heap.size+1+1,0,none⟩=some (.int .i64 r):=by rw[am];simp[go_sem]
 have x1:W0.cell? ⟨w.heap.size+1+1,1,none⟩=some (.int .i64 o.length):=by rw[am];simp[go_sem]
 have x2:W0.cell? ⟨w.heap.size+1+1,2,none⟩=some (.slice none 0 0):=by rw[am];simp[go_sem]
 have xf: ∀j,W0.frozen? ⟨w.heap.size+1+1,j,none⟩=false:=fun j=>by rw[am];simp[go_sem]
 clear am;have BX:=qA bx;have B0:=qA b0;have B1:=qA b1;have B2:=qA b2;have R0:=qA r0;have R1:=qA r1;have R2:=qA r2;have RF:=qA rf;have X0:=qA x0;have X1:=qA x1;have X2:=qA x2;have XF:=qA xf;have aY:=qq _ (r,(N:Int),es) W0 (HG.out.below bx);rw[aH.out] at aY;have z8:=qA aY;clear aY b0 b1 b2 r0 r1 r2 rf x0 x1 x2 xf;refine z8.out.mono ?_;rintro e w1 ⟨rfl,bW⟩;clear z8;have q1:=(bW.cell (p:=⟨w.heap.size,1,none⟩) (show w.heap.size<W0.heap.size by omega)).trans B1.out;have s1:=bW.size;have ky:=qA bW;clear bW bx;have g0:((o.length:Int)==0)=false:=by rw[beq_eq_false_iff_ne];omega
 have g1: ¬(N:Int)<(o.length:Int):=tO;obtain⟨i0,cE,cD,bI,cj⟩:=info_parts qCR;go_wp2_with (at_make;refine wpList_make_full _ rfl _ _ 37 rfl w1.heap.size 3 i0 (.int .i64 0) 1 Tryz.underlying37 cE cD bI _ _ _ _ N rfl rfl rfl rfl (by rw[cj];omega) (by unfold maxLen;omega) (zab _) ?_)
 intro w2 hown0 hgrow0;have dB:OwI w2 w1.heap.size (.slice (some ⟨w1.heap.size,0,none⟩) N N) (plc N (o.take 0) 0):=by
  refine⟨?_,fun y hy=> ?_⟩
  ·rw[zaX,qJO,List.length_replicate];have:ints (zav N (-0))=zav N (zaH .i64 0):=by simp[ints]
   rw[this];simpa[toList_madeCells_one] using hown0
  ·rw[zaX,qJO] at hy;obtain⟨_,rfl⟩:=List.mem_replicate.1 hy;exact⟨by decide,by decide⟩
 have yK:=qA dB;have ay:=qA (ky.out.grown hgrow0 s1 (fun k h=>by cases h));clear dB hown0 hgrow0 q1 g0 g1;go_wp2;go_loopw [8] (fun i wr=> ∃k:Nat,k≤o.length∧i= .int .i64 k∧OwI wr w1.heap.size (.slice (some ⟨w1.heap.size,0,none⟩) N N) (plc N (o.take k) 0)∧Below W0.heap.size W0 wr) (fun i _=>o.length-(intOf i).toNat)
 case atStart=>exact⟨0,zal _,rfl,yK.out,ay.out⟩
 case round=>
  obtain⟨k,hk,rfl,aa,ab⟩:=hrel;have aC:=qA ab;have CA:=qA (BX.out.trans (ab.mono tO));have aq:=ab.size;have hP:=(aa.1.lt w1.heap.size rfl).2;have ya:=(ab.cell (p:=⟨w.heap.size,1,none⟩) (show w.heap.size<W0.heap.size by omega)).trans B1.out;have HO:=qA aa;clear ab;by_cases ac:k<o.length
  ·obtain⟨bo,offo,rfl,iF,oG⟩:=(kq.out.below CA.out).at tO;have c0:=oG k ac;obtain⟨u,hu,xG⟩:=kG.out k ac;rw[hu] at c0;have jW:=aa.cellAt u (by rw[qEI];exact xG);have hz:(plc N (o.take k) 0)[u]'(by rw[qEI];exact xG)=0:=by
    rw[qJG _ _ _ _ xG,qCy.2,zaI];intro hm;rw[←hu] at hm;obtain⟨j,hj,e⟩:=zaG hm;rw[zar] at e;have ge:j<k:=by rw[zak] at hj;omega
    exact(zad.1 lE.out) j k tO ac ge e
   rw[hz] at jW;have sr:=aa.free u;have bG:=qA (aa.set u ((k:Int)+1) ⟨tO,tO⟩);have uA:Hid ((plc N (o.take k) 0).set u ((k:Int)+1)=plc N (o.take (k+1)) 0):=qA (by
    have:=qJh N o 0 k ac lE.out u hu
    rwa [zaI] at this)
   have j0:(0:Int)≤(u:Int):=tO;have j1:(u:Int)<(N:Int):=tO;have bD:=fun w=>ql (u:Int) 0 ((N:Int)-1) w;have tn:inB (u:Int) 0 ((N:Int)-1)=true:=qAC.2 ⟨tO,tO⟩;simp only[tn] at bD;have oC:=qA bD;have bm:w.heap.size<wr.heap.size:=tO;clear oG hu hz aa bD tn;go_wp2_with fail;have f0:=BelW.cell ya bm;have f1:=BelW.cell c0 iF;have f2:=BelW.cell jW hP;(refine qH tK tK ?_;(repeat(go_big_quiet_step (first | (go_at_call 138;exact Calls.bel_same (oC.out _)))));refine wpQuiet_nil ?_;intro wq aA;obtain⟨pq,ae⟩:=aA;have bq:=pq.h;rw[←ae] at bq;clear ae pq)
   replace c0:=f1 ⟨wq,bq⟩;replace jW:=f2 ⟨wq,bq⟩;simp only at c0 jW
   clear f0 f1 f2;have Q9:=(bq.frozen (p:=⟨w1.heap.size,u,none⟩) hP).trans sr;have sq:=bq.size;have gq:=qA ((HO.out.below bq).set u ((k:Int)+1) ⟨tO,tO⟩);have ej:=qA (aC.out.trans (bq.mono tO));clear bq sr ya;go_wp2;go_roundw
   case rel=>exact⟨k+1,tO,by go_num,by rw[←uA.out];exact gq.out.1,ej.out.grown gq.out.2 tO (fun j hj=>by cases hj;omega)⟩
   case measure=>simp[intOf];omega
  ·obtain rfl:k=o.length:=tO
   rw[zae] at HO;clear aa;have HP:=qA HO.out;obtain⟨w5,rfl⟩: ∃w5:World,w5=wr:=⟨_,rfl⟩;have hX:w.heap.size+1+1<w5.heap.size:=tO;have Nr:=qA ((aC.out.cell (p:=⟨w.heap.size+1+1,2,none⟩) (show w.heap.size+1+1<W0.heap.size by omega)).trans X2.out);have PM:=qA ((aC.out.cell (p:=⟨w.heap.size+1+1,0,none⟩) (show w.heap.size+1+1<W0.heap.size by omega)).trans X0.out);have LR:=qA ((aC.out.cell (p:=⟨w.heap.size+1+1,1,none⟩) (show w.heap.size+1+1<W0.heap.size by omega)).trans X1.out);have PXF:Hid (∀j,w5.frozen? ⟨w.heap.size+1+1,j,none⟩=false):=qA fun j=>(aC.out.frozen (p:=⟨w.heap.size+1+1,j,none⟩) (show w.heap.size+1+1<W0.heap.size by omega)).trans (XF.out j);clear ya;have rD:Hid (∀(wr:World),w5.grownBy wr (some (w.heap.size+1+1))→ ∀u:Nat,u<N→wr.cell? ⟨w1.heap.size,u,none⟩=some (.int .i64 (plv o u))):=qA fun wr hg u hu=>by
    rw[qAf hg hP tO,HP.out.cellAt u (by rw[qEI];exact hu),qJG _ _ _ _ hu,zaI]
   have PLR:Hid (∀v:Int,0≤plv o v∧plv o v≤40):=qA fun v=>by have:=qAe o v;omega
   go_wp2;go_loopw [9] (fun i wr=> ∃(k:Nat) (A2:Option Addr) (ak:Nat),k≤es.length∧i= .int .i64 k∧wr.cell? ⟨w.heap.size+1+1,2,none⟩=some (.slice A2 (srt cmpE (rnL (es.take k) o)).length ak)∧OwE wr (w.heap.size+1+1+1) (.slice A2 (srt cmpE (rnL (es.take k) o)).length ak) (srt cmpE (rnL (es.take k) o))∧w5.grownBy wr (some (w.heap.size+1+1))∧wr.cell? ⟨w.heap.size+1+1,0,none⟩=some (.int .i64 r)∧wr.cell? ⟨w.heap.size+1+1,1,none⟩=some (.int .i64 o.length)∧ ∀j,wr.frozen? ⟨w.heap.size+1+1,j,none⟩=false) (fun i _=>es.length-(intOf i).toNat)
   case atStart=>exact⟨0,none,0,zal _,rfl,Nr.out,OwE.nil,zaF.refl _ _,PM.out,LR.out,PXF.out⟩
   case round=>
    obtain⟨k,A2,ak,iL,rfl,eP,aX,aY,fJ,fi,jZ⟩:=hrel;have fZ:=qA aY;have jA:=aY.size;have nY:=qA (CA.out.grown aY tO (fun j hj=>by cases hj;omega));have b2:=(qAf (o:=2) aY (show w.heap.size<w5.heap.size by omega) tO).trans ((aC.out.cell (p:=⟨w.heap.size,2,none⟩) (show w.heap.size<W0.heap.size by omega)).trans B2.out);have gU:=qA eP;have gO:=qA fJ;have dZ:=qA fi;have mH:=qA jZ;clear fJ fi jZ;have d5:=qA aX;clear aY aX;by_cases al:k<es.length
    ·obtain⟨be,offe,rfl,ku,c0,c1,c2,dz⟩:=(HE.out.below nY.out).at al;obtain⟨e1,e2,e3⟩:=jC.out es[k] (by simp);have HS:=qA (qJv es o k al);have i8:Hid (∀x,rnE o es[k]=some x→srt cmpE (rnL (es.take (k+1)) o)=insF cmpE (srt cmpE (rnL (es.take k) o)) x):=qA fun x hx=>by
      rw[HS.out,hx];unfold srt;rw[zaQ];rfl
     have AQ:Hid (rnE o es[k]=none→rnL (es.take (k+1)) o=rnL (es.take k) o):=qA fun hx=>by rw[HS.out,hx];simp
     have ri:(srt cmpE (rnL (es.take k) o)).length≤120:=by
      have h1:=qCV (c:=cmpE) (rnL (es.take k) o);have h2:=qHO (es.take k) o;rw[zak] at h2;omega
     have bR:=qA dz;generalize es[k]=e at*;obtain⟨f,l,t⟩:=e;simp only at e1 e2 e3 c0 c1 c2
     obtain⟨a,rfl⟩: ∃a:Nat,f=(a:Int):=⟨f.toNat,tO⟩;obtain⟨c,rfl⟩: ∃c:Nat,t=(c:Int):=⟨t.toNat,tO⟩;have pa:=rD.out wr fZ.out a tO;have pc:=rD.out wr fZ.out c tO;obtain⟨Pz,Pg⟩:=PLR.out a;obtain⟨Pt,N7⟩:=PLR.out c;have RN:Hid (rnE o ((a:Int),l,(c:Int))=if 0<plv o a∧0<plv o c then some (plv o a-1,l,plv o c-1) else none):=qA rfl;have ja:(a:Int)<(N:Int):=tO;have jc:(c:Int)<(N:Int):=tO;have Kf:(0:Int)≤(a:Int):=tO;have Ii:(0:Int)≤(c:Int):=tO;have zj:w1.heap.size<wr.heap.size:=tO;have eZ:w.heap.size+1+1<wr.heap.size:=tO;have jQ:I64 l:=by unfold I64;omega
     have kJ:=qA jQ;generalize plv o a=pav at*;generalize plv o c=pcv at*;generalize hL:srt cmpE (rnL (es.take k) o)=L at*;clear jQ HS bR dz;have bA:Below wr.heap.size wr (wr.alloc (.cells #[.int .i64 a,.int .i64 l,.int .i64 c] 97)):=(zag _ _).alloc (zab _) _;by_cases t1:0<pav
     ·by_cases t2:0<pcv
      ·have F:=qA (i8.out _ (by rw[RN.out,if_pos ⟨t1,t2⟩]));go_wp2_with fail;have sA:wr.heap.size<(wr.alloc (.cells #[.int .i64 a,.int .i64 l,.int .i64 c] 97)).heap.size:=by simp
       have l0:(wr.alloc (.cells #[.int .i64 a,.int .i64 l,.int .i64 c] 97)).cell? ⟨wr.heap.size,0,none⟩=some (.int .i64 a):=by simp[go_sem]
       have l1:(wr.alloc (.cells #[.int .i64 a,.int .i64 l,.int .i64 c] 97)).cell? ⟨wr.heap.size,1,none⟩=some (.int .i64 l):=by simp[go_sem]
       have l2:(wr.alloc (.cells #[.int .i64 a,.int .i64 l,.int .i64 c] 97)).cell? ⟨wr.heap.size,2,none⟩=some (.int .i64 c):=by simp[go_sem]
       generalize wr.alloc (.cells #[.int .i64 a,.int .i64 l,.int .i64 c] 97)=W at bA sA l0 l1 l2⊢;have la:=(bA.cell (p:=⟨w1.heap.size,a,none⟩) zj).trans pa;have lc:=(bA.cell (p:=⟨w1.heap.size,c,none⟩) zj).trans pc;have lx:=(bA.cell (p:=⟨w.heap.size+1+1,2,none⟩) eZ).trans gU.out;have Ak:=qA ((bA.cell (p:=⟨w.heap.size+1+1,0,none⟩) eZ).trans gO.out);have AX:=qA ((bA.cell (p:=⟨w.heap.size+1+1,1,none⟩) eZ).trans dZ.out);have LXF:Hid (∀j,W.frozen? ⟨w.heap.size+1+1,j,none⟩=false):=qA fun j=>(bA.frozen (p:=⟨w.heap.size+1+1,j,none⟩) eZ).trans (mH.out j);have OW:=qA (d5.out.below bA);have GW:=qA (fZ.out.trans (qAV bA));have iS:w.heap.size+1+1<W.heap.size:=tO;have sU:w1.heap.size<W.heap.size:=tO;have nS:w1.heap.size≠w.heap.size+1+1:=tO;have ld:wr.heap.size≠w.heap.size+1+1:=tO;clear bA pa pc eP;have PK:IntKind.i64.wrap (pav-1)=pav-1:=by rw[IntKind.wrap_i64];omega
       have MD:IntKind.i64.wrap (pcv-1)=pcv-1:=by rw[IntKind.wrap_i64];omega
       have f0:=BelW.cell l0 sA;have f1:=BelW.cell l1 sA;have f2:=BelW.cell l2 sA;have f3:=BelW.cell la sU;have f4:=BelW.cell lc sU;have f5:=BelW.cell lx iS;(refine qBQ 17 tK tK tK tK (by rfl) (by rfl) ?_;dsimp only[dum3,dumO];(repeat(go_big_quiet_step (fail)));refine wpQuiet_nil ?_;refine⟨⟨_,fun _=>by rfl⟩,?_⟩;intro wq aA;obtain⟨pq,ae⟩:=aA;have bq:=pq.h;rw[←ae] at bq;clear ae pq;refine⟨_,_,by rfl,?_⟩)
       clear f0 f1 f2 f3 f4 f5;simp only[PK,MD,List.map_toArray,List.map_cons,List.map_nil,Array.empty_append,Array.append_empty];refine(show Calls Tryz.prog 166 #[.slice A2 L.length ak, .agg #[.int .i64 (pav-1), .int .i64 l, .int .i64 (pcv-1)]] wq _ from ?_)
       refine(qCc _ L (pav-1,l,pcv-1) wq (OW.out.below bq).arg ⟨⟨by simp only;omega,by simp only;omega⟩,kJ.out,⟨by simp only;omega,by simp only;omega⟩⟩ tO).mono ?_
       rintro e' w9 ⟨r9,rfl,o9,b9⟩;have B9:=qA (bq.trans (b9.mono bq.size));have qx:=(B9.out.cell (p:=⟨w.heap.size+1+1,2,none⟩) iS).trans lx;have qf:=(B9.out.frozen (p:=⟨w.heap.size+1+1,2,none⟩) iS).trans (LXF.out 2);have s9:W.heap.size≤w9.heap.size:=B9.out.size;have O9:=qA o9;obtain⟨A9,bh,rfl,_⟩:=o9.form;clear o9 b9;refine⟨_,rfl,?_⟩;simp only[Act.put,List.setIfInBounds_toArray,List.set_cons_zero,zaJ];go_wp2;go_roundw
       case rel=>
        have g9:w5.grownBy w9 (some (w.heap.size+1+1)):=GW.out.trans (qAV B9.out);refine⟨k+1,A9,bh,tO,by go_num,by rw[F.out];exact zah _ _ _ qx,?_,g9.trans (qBg _ _ _ _),?_,?_,fun j=>by rw[World.frozen?_setCell];exact(B9.out.frozen (p:=⟨w.heap.size+1+1,j,none⟩) iS).trans (LXF.out j)⟩
        ·rw[F.out];exact(O9.out.mono (by show _≤wq.heap.size;have:=bq.size;omega)).far (show w.heap.size+1+1<w.heap.size+1+1+1 by omega) _
        ·rw[zaa _ _ _ _ (by simp)];exact(B9.out.cell (p:=⟨w.heap.size+1+1,0,none⟩) iS).trans Ak.out
        ·rw[zaa _ _ _ _ (by simp)];exact(B9.out.cell (p:=⟨w.heap.size+1+1,1,none⟩) iS).trans AX.out
       case measure=>simp[intOf];omega
      ·have F:=qA (AQ.out (by rw[RN.out,if_neg (fun h=>t2 h.2)]));go_wp2;go_roundw
       case rel=>exact⟨k+1,A2,ak,tO,by go_num,by rw[F.out,hL];exact(bA.cell (p:=⟨w.heap.size+1+1,2,none⟩) eZ).trans gU.out,by rw[F.out,hL];exact d5.out.below bA,fZ.out.trans (qAV bA),(bA.cell (p:=⟨w.heap.size+1+1,0,none⟩) eZ).trans gO.out,(bA.cell (p:=⟨w.heap.size+1+1,1,none⟩) eZ).trans dZ.out,fun j=>(bA.frozen (p:=⟨w.heap.size+1+1,j,none⟩) eZ).trans (mH.out j)⟩
       case measure=>simp[intOf];omega
     ·have F:=qA (AQ.out (by rw[RN.out,if_neg (fun h=>t1 h.1)]));go_wp2;go_roundw
      case rel=>exact⟨k+1,A2,ak,tO,by go_num,by rw[F.out,hL];exact(bA.cell (p:=⟨w.heap.size+1+1,2,none⟩) eZ).trans gU.out,by rw[F.out,hL];exact d5.out.below bA,fZ.out.trans (qAV bA),(bA.cell (p:=⟨w.heap.size+1+1,0,none⟩) eZ).trans gO.out,(bA.cell (p:=⟨w.heap.size+1+1,1,none⟩) eZ).trans dZ.out,fun j=>(bA.frozen (p:=⟨w.heap.size+1+1,j,none⟩) eZ).trans (mH.out j)⟩
      case measure=>simp[intOf];omega
    ·obtain rfl:k=es.length:=tO
     rw[zae] at eP d5;have CF:=(qAf (o:=0) fZ.out (show w.heap.size+1<w5.heap.size by omega) tO).trans (aC.out.cell (p:=⟨w.heap.size+1,0,none⟩) (show w.heap.size+1<W0.heap.size by omega));have Dk:=(qAf (o:=1) fZ.out (show w.heap.size+1<w5.heap.size by omega) tO).trans (aC.out.cell (p:=⟨w.heap.size+1,1,none⟩) (show w.heap.size+1<W0.heap.size by omega));have Ci:=(qAf (o:=2) fZ.out (show w.heap.size+1<w5.heap.size by omega) tO).trans (aC.out.cell (p:=⟨w.heap.size+1,2,none⟩) (show w.heap.size+1<W0.heap.size by omega));have rrf: ∀j,wr.frozen? ⟨w.heap.size+1,j,none⟩=false:=fun j=>((qFQ (o:=j) fZ.out (show w.heap.size+1<w5.heap.size by omega) tO).trans (aC.out.frozen (p:=⟨w.heap.size+1,j,none⟩) (show w.heap.size+1<W0.heap.size by omega))).trans (RF.out j);obtain⟨u0,fl⟩:=R0.out;obtain⟨u1,kc⟩:=R1.out;obtain⟨u2,nI⟩:=R2.out;have y5:=CF.trans fl;have yB:=Dk.trans kc;have Au:=Ci.trans nI;have fJ:=gO.out;have fi:=dZ.out;have eu:=rrf 0;have eE:=rrf 1;have eG:=rrf 2;have KT:w.heap.size+1<wr.heap.size:=tO;clear CF Dk Ci fl kc nI rrf;generalize hL:srt cmpE (rnL es o)=L at*;have io:=qA hL;clear hL;go_wp2;have c0:(((wr.setCell ⟨w.heap.size+1,0,none⟩ (.int .i64 r)).setCell ⟨w.heap.size+1,1,none⟩ (.int .i64 o.length)).setCell ⟨w.heap.size+1,2,none⟩ (.slice A2 L.length ak)).cell? ⟨w.heap.size+1,0,none⟩=some (.int .i64 r):=by
      rw[zaa _ _ _ _ (by simp),zaa _ _ _ _ (by simp),zah _ _ _ y5]
     have c1:(((wr.setCell ⟨w.heap.size+1,0,none⟩ (.int .i64 r)).setCell ⟨w.heap.size+1,1,none⟩ (.int .i64 o.length)).setCell ⟨w.heap.size+1,2,none⟩ (.slice A2 L.length ak)).cell? ⟨w.heap.size+1,1,none⟩=some (.int .i64 o.length):=by
      rw[zaa _ _ _ _ (by simp)];exact zah _ _ _ ((zaa _ _ _ _ (by simp)).trans yB)
     have c2:(((wr.setCell ⟨w.heap.size+1,0,none⟩ (.int .i64 r)).setCell ⟨w.heap.size+1,1,none⟩ (.int .i64 o.length)).setCell ⟨w.heap.size+1,2,none⟩ (.slice A2 L.length ak)).cell? ⟨w.heap.size+1,2,none⟩=some (.slice A2 L.length ak):=
      zah _ _ _ ((zaa _ _ _ _ (by simp)).trans ((zaa _ _ _ _ (by simp)).trans Au))
     have bw:Below w.heap.size w (((wr.setCell ⟨w.heap.size+1,0,none⟩ (.int .i64 r)).setCell ⟨w.heap.size+1,1,none⟩ (.int .i64 o.length)).setCell ⟨w.heap.size+1,2,none⟩ (.slice A2 L.length ak)):=(by repeat(first | exact .refl _ _ | (refine BxS ?_ _) | (refine qD ?_ _) | (refine zaj ?_) | (refine BxA ?_ _) | (refine BxT ?_ (Hid.out nY))));have ow:OwE (((wr.setCell ⟨w.heap.size+1,0,none⟩ (.int .i64 r)).setCell ⟨w.heap.size+1,1,none⟩ (.int .i64 o.length)).setCell ⟨w.heap.size+1,2,none⟩ (.slice A2 L.length ak)) (w.heap.size+1+1+1) (.slice A2 L.length ak) L:=
      ((d5.out.far (by show w.heap.size+1<_;omega) _).far (by show w.heap.size+1<_;omega) _).far (by show w.heap.size+1<_;omega) _
     generalize ((wr.setCell ⟨w.heap.size+1,0,none⟩ (.int .i64 r)).setCell ⟨w.heap.size+1,1,none⟩ (.int .i64 o.length)).setCell ⟨w.heap.size+1,2,none⟩ (.slice A2 L.length ak)=wf at*;refine bodyPost_ret (v:= .tuple #[.agg #[.int .i64 r, .int .i64 o.length, .slice A2 L.length ak], .bool true]) (by simp[results,Tryz.results163,go_sem,c0,c1,c2]) rfl ⟨_,rfl,⟨.slice A2 L.length ak,?_,?_,?_,?_⟩,bw⟩
     ·rfl
     ·show I64 r
      unfold I64;omega
     ·show I64 (o.length:Int)
      unfold I64;omega
     ·show OwE wf w.heap.size (.slice A2 L.length ak) (srt cmpE (rnL es o))
      rw[io.out];exact ow.mono tO
theorem qDF (v vo:Value) (g:GrD) (o:List Int) (w:World) (h:ArgG w v g) (ho:RdI w vo o) (hg:grB g=true) (af:qAB g.2.1 o):
  Calls Tryz.prog 163 #[v,vo] w fun e w'=> ∃r,e= .returned (.tuple #[r, .bool true])∧OwG w' w.heap.size r (rnG g o)∧Below w.heap.size w w':=qCm v vo g o w h ho hg af.toN
theorem qFP {g:GrD} (h1:1≤g.1∧g.1≤3) (h2:1≤g.2.1∧g.2.1≤40) (h3:g.2.2.length≤120) (hs:Srt cmpE g.2.2)
  (he: ∀e∈g.2.2,(0≤e.1∧e.1<g.2.1)∧(1≤e.2.1∧e.2.1≤g.1)∧(0≤e.2.2∧e.2.2<g.2.1)):grB g=true:=by
 have hw:wrap64 (g.2.1-1)=g.2.1-1:=by unfold wrap64;omega
 have ho: ∀k (hk:k<g.2.2.length),qAa g.1 g.2.1 g.2.2[k]=true:=fun k hk=>by
  obtain⟨⟨a1,a2⟩,⟨b1,b2⟩,c1,c2⟩:=he g.2.2[k] (by simp);unfold qAa;rw[hw];simp only[zat];exact⟨⟨qAC.2 ⟨tO,tO⟩,qAC.2 ⟨tO,tO⟩⟩,qAC.2 ⟨tO,tO⟩⟩
 unfold grB;simp only[zat,decide_eq_true_eq,List.all_eq_true,zaY];refine⟨⟨⟨qAC.2 h1,qAC.2 h2⟩,h3⟩,fun k hk=> ?_⟩;rcases Nat.eq_zero_or_pos k with rfl | h0
 ·rw[qFo hk];exact ho 0 hk
 ·rw[qGQ h0 hk,ho k hk];have:=(zad.1 hs) (k-1) k tO hk tO
  simp only[Bool.true_and,zaP,decide_eq_false_iff_not];omega
theorem qPD {o:List Int} {r n:Int} {e x:EdD} (he:(0≤e.1∧e.1<n)∧(1≤e.2.1∧e.2.1≤r)∧(0≤e.2.2∧e.2.2<n)) (h:rnE o e=some x):
  (0≤x.1∧x.1<o.length)∧(1≤x.2.1∧x.2.1≤r)∧(0≤x.2.2∧x.2.2<o.length):=by
 unfold rnE at h;split at h
 ·rename_i hp
  injection h with h
  subst h;have h1:=qAe o e.1;have h2:=qAe o e.2.2;simp only
  omega
 ·cases h
theorem qFl {g:GrD} {o:List Int} (hg:grB g=true) (ho:OrdN g.2.1 o):grB (rnG g o)=true:=by
 obtain⟨h1,h2,h3,_⟩:=qB hg;have gV:o.length≤g.2.1.toNat:=qAc g.2.1.toNat o ho.1 fun y hy=>by have:=ho.2.1 y hy;omega
 have zW:1≤o.length:=ho.2.2;have gF:=qAu qAD (rnL g.2.2 o);refine qFP h1 ⟨by show(1:Int)≤(o.length:Int);omega,by show(o.length:Int)≤40;omega⟩ ?_ gF.1 fun e he=> ?_
 ·have a:=qCV (c:=cmpE) (rnL g.2.2 o);have b:=qHO g.2.2 o;show(srt cmpE (rnL g.2.2 o)).length≤120
  omega
 ·have hm:=(gF.2 e).1 he;unfold rnL at hm;obtain⟨d,hd,hx⟩:=List.mem_filterMap.1 hm;exact qPD (qI hg hd) hx
theorem qHX {g:GrD} {o:List Int} (hg:grB g=true) (ho:qAB g.2.1 o):grB (rnG g o)=true:=qFl hg ho.toN
def delO (n:Nat) (x:Int):List Int:=((zaC n).map fun v=>((v:Nat):Int)).filter fun y=>decide (y≠x)
theorem qBf (n:Nat) (x:Int):delO (n+1) x=if(n:Int)≠x then delO n x++ [(n:Int)] else delO n x:=by
 unfold delO;rw[zaV,zaW,List.filter_append];by_cases h:(n:Int)=x<;>simp[h]
theorem qAp {n:Nat} {x y:Int}:y∈delO n x↔(0≤y∧y<n)∧y≠x:=by
 unfold delO;simp only[List.mem_filter,zaK,zaY,decide_eq_true_eq];constructor
 ·rintro⟨⟨v,hv,rfl⟩,h⟩
  exact⟨⟨tO,tO⟩,h⟩
 ·rintro⟨⟨h0,h1⟩,h⟩
  exact⟨⟨y.toNat,tO,tO⟩,h⟩
theorem qFH (n:Nat) (x:Int):(delO n x).Nodup:=by
 induction n with
 | zero=>exact List.nodup_nil
 | succ n ih=>
   rw[qBf];split
   ·rw[List.nodup_append];refine⟨ih,by simp,fun a ha b hb e=> ?_⟩;have:=(qAp.1 ha).1.2
    simp only[zaq] at hb;omega
   ·exact ih
theorem qLU {n:Nat} {x:Int} (hn:1≤n) (hx:1≤x):(delO n x)[0]? =some 0:=by
 obtain⟨m,rfl⟩: ∃m,n=m+1:=⟨n-1,tO⟩;induction m with
 | zero=>
   rw[qBf,if_pos tO];rfl
 | succ m ih=>
   rw[qBf];have:=ih tO
   split
   ·rw[List.getElem?_append_left (by
     cases h:delO (m+1) x with
     | nil=>rw[h] at this;cases this
     | cons _ _=>simp)]
    exact this
   ·exact this
theorem qCS {n:Nat} {x:Int} (hn:1≤n) (hx:1≤x):qAB (n:Int) (delO n x):=
 ⟨qFH n x,fun y hy=>(qAp.1 hy).1,qLU hn hx⟩
theorem qNi {n:Nat} {x:Int} (hx:0≤x) (Ed:x<n):(delO n x).length+1≤n:=by
 have h1:(delO n x).length≤n-1:=by
  have hn:=qFH n x;have key:=qAc (n-1) ((delO n x).map fun y=>if y<x then y else y-1) ?_ ?_
  ·rwa [zaT] at key
  ·unfold List.Nodup at*;rw[List.pairwise_map];refine hn.imp_of_mem fun {a b} ha hb fI e=>fI ?_;have h1:=(qAp.1 ha).2;have h2:=(qAp.1 hb).2;split at e<;>split at e<;>omega
  ·intro y hy;obtain⟨z,hz,rfl⟩:=zaK.1 hy;obtain⟨⟨a,b⟩,c⟩:=qAp.1 hz;split<;>omega
 omega
theorem qED (es:List EdD) (n:Nat): ∀f v:Nat,qAM es n f v= -1∨((v:Int)≤qAM es n f v∧qAM es n f v<n)
 | 0,v=> .inl rfl
 | f+1,v=>by
   unfold qAM;split
   ·split
    ·right;omega
    ·rcases qED es n f (v+1) with h | h
     ·exact .inl h
     ·right;omega
   ·exact .inl rfl
theorem qAQ (es:List EdD) (n:Nat):qk es n= -1∨(1≤qk es n∧qk es n<n):=by
 have:=qED es n (n-1) 1
 unfold qk;omega
theorem qNG (v:Value) (n:Int) (w:World) (hn:n=0∨n=1):
  Calls Tryz.prog 243 #[v, .int .i64 0, .int .i64 n] w fun e w'=>e= .returned (.tuple #[])∧w=w':=by
 rcases hn with rfl | rfl
 all_goals (
  go_enter Tryz.func243,Tryz.ntmps243
  go_wp2;refine wp_loop_rounds 1 ?_;rw[rounds_succ];go_wp2;go_end0
  exact⟨rfl,rfl⟩)
theorem qMF (n:Int) (w:World) (hn:n=0∨n=1):
  Calls Tryz.prog 253 #[.int .u64 n] w fun e w'=>(∃l:Int,e= .returned (.int .i64 l))∧w=w':=by
 rcases hn with rfl | rfl
 ·go_enter Tryz.func253,Tryz.ntmps253
  go_wp2;go_ret;exact⟨⟨_,rfl⟩,rfl⟩
 ·go_enter Tryz.func253,Tryz.ntmps253
  go_wp2;go_ret;exact⟨⟨_,rfl⟩,rfl⟩
theorem qNH (n:Int) (w:World) (hn:n=0∨n=1):
  Calls Tryz.prog 234 #[.int .u64 n] w fun e w'=>(∃l:Int,e= .returned (.int .i64 l))∧w=w':=by
 have h:=qMF n w hn;have HN:=qA h;clear h;rcases hn with rfl | rfl
 all_goals (
  go_enter Tryz.func234,Tryz.ntmps234
  go_wp2_with fail;refine HN.out.mono ?_;rintro e w' ⟨⟨l,rfl⟩,rfl⟩;go_wp2;go_ret;exact⟨⟨_,rfl⟩,rfl⟩)
theorem qNu (v:Value) (n:Int) (l:Int) (w:World) (hn:n=0∨n=1):
  Calls Tryz.prog 233 #[v, .int .i64 0, .int .i64 n, .int .i64 l] w fun e w'=>e= .returned (.tuple #[])∧w=w':=by
 have h:=qNG v n w hn;have HN:=qA h;clear h;rcases hn with rfl | rfl
 all_goals (
  go_enter Tryz.func233,Tryz.ntmps233
  go_wp2;refine wp_loop_rounds 1 ?_;rw[rounds_succ];go_wp2_with fail;refine HN.out.mono ?_;rintro e w' ⟨rfl,rfl⟩;go_wp2;exact bodyPost_ret (v:= .tuple #[]) (by simp[results,Tryz.results233,go_sem]) rfl ⟨rfl,rfl⟩)
theorem qMf (v:Value) (xs:List Int) (w:World) (h:RdI w v xs) (hn:xs.length≤1):
  Calls Tryz.prog 209 #[v] w fun e w'=>e= .returned (.tuple #[])∧w=w':=by
 obtain⟨A,cap,rfl,_⟩:=h.arg;have mS:(xs.length:Int)=0∨(xs.length:Int)=1:=tO;have H1:=qA (qNH (xs.length:Int) w mS);have H2:=qA (fun l=>qNu (.slice A xs.length cap) (xs.length:Int) l w mS);have hw:IntKind.u64.wrap (xs.length:Int)=(xs.length:Int):=by
  rcases mS with h | h<;>rw[h]<;>decide+kernel
 clear mS h;go_enter Tryz.func209,Tryz.ntmps209
 go_wp2_with fail;refine H1.out.mono ?_;rintro e w' ⟨⟨l,rfl⟩,rfl⟩;go_wp2_with fail;refine(H2.out l).mono ?_
 rintro e w' ⟨rfl,rfl⟩;go_wp2;go_end0
 exact⟨rfl,rfl⟩
theorem qIN (A:Option Addr) (n cap:Nat) (w:World) (hn:n≤1):
  Calls Tryz.prog 210 #[.slice A n cap] w fun e w'=>e= .returned (.slice A n cap)∧w=w':=by
 have h1:(n:Int)<2:=tO;go_enter Tryz.func210,Tryz.ntmps210
 go_wp2;go_ret;exact⟨rfl,rfl⟩
theorem qEx (v:Value) (g:GrD) (u x:Int) (w:World) (h:ArgG w v g) (fX:(qv g.2.2 u x).length≤1) (iV: ∀e∈g.2.2,1≤e.2.1):
  Calls Tryz.prog 161 #[v, .int .i64 u, .int .i64 x] w fun e w'=> ∃r,e= .returned r∧OwI w' w.heap.size r (qv g.2.2 u x)∧Below w.heap.size w w':=by
 obtain⟨s,rfl,_,_,ha⟩:=h;have H:=qA ha;obtain⟨A,cap,rfl,a6,hm,_,hr,_⟩:=ha;have HR:=qA hr;unfold maxLen at hm;clear hr;have EO:=qA iV;clear iV;go_enter Tryz.func161,Tryz.ntmps161
 go_wp2;have hb:Below w.heap.size w ((w.alloc (.cells #[.int .i64 g.1,.int .i64 g.2.1, .slice A g.2.2.length cap] 26)).alloc (.cells #[] 3)):=(by repeat(first | exact .refl _ _ | (refine BxS ?_ _) | (refine qD ?_ _) | (refine zaj ?_) | (refine BxA ?_ _)));have k2:((w.alloc (.cells #[.int .i64 g.1,.int .i64 g.2.1, .slice A g.2.2.length cap] 26)).alloc (.cells #[] 3)).cell? ⟨w.heap.size,2,none⟩=some (.slice A g.2.2.length cap):=by simp[go_sem]
 have aP:w.heap.size+1<((w.alloc (.cells #[.int .i64 g.1,.int .i64 g.2.1, .slice A g.2.2.length cap] 26)).alloc (.cells #[] 3)).heap.size:=by simp
 have o0:OwI ((w.alloc (.cells #[.int .i64 g.1,.int .i64 g.2.1, .slice A g.2.2.length cap] 26)).alloc (.cells #[] 3)) (w.heap.size+1) (.slice (some ⟨w.heap.size+1,0,none⟩) 0 0) []:=qCH (w.alloc (.cells #[.int .i64 g.1,.int .i64 g.2.1, .slice A g.2.2.length cap] 26)) [] (w.heap.size+1) (by simp) qAT (by simp) (zab _);generalize (w.alloc (.cells #[.int .i64 g.1,.int .i64 g.2.1, .slice A g.2.2.length cap] 26)).alloc (.cells #[] 3)=w1 at hb k2 aP o0⊢;have HB:=qA hb;have K2:=qA k2;have O0:=qA o0;clear hb k2 o0;go_loopw [7,14] (fun out i wr=> ∃k:Nat,k≤g.2.2.length∧i= .int .i64 k∧OwI wr (w.heap.size+1) out (qv (g.2.2.take k) u x)∧Below (w.heap.size+1) w1 wr) (fun _ i _=>g.2.2.length-(intOf i).toNat)
 case atStart=>exact⟨0,zal _,rfl,O0.out,zag _ _⟩
 case round=>
  obtain⟨k,hk,rfl,aa,ab⟩:=hrel;have aq:=ab.size;have aC:=qA (HB.out.trans (ab.mono tO));have p2:=(ab.cell (p:=⟨w.heap.size,2,none⟩) (show w.heap.size<w.heap.size+1 by omega)).trans K2.out;have HO:=qA aa;have ay:=qA ab;obtain⟨A1,ah,rfl,dl,dj,_,_⟩:=aa.form;clear ab;by_cases ac:k<g.2.2.length
  ·obtain⟨b,off,rfl,dv,c0,c1,c2,_⟩:=(H.out.below aC.out).at ac;have HS:=qA (qGE g.2.2 u x k ac);have HX:=qA (HR.out g.2.2[k] (by simp));have cR:=qA (EO.out g.2.2[k] (by simp));have dR:=qEN g.2.2 u x (k+1);have dM:(qv (g.2.2.take k) u x).length≤1:=by have:=qEN g.2.2 u x k;omega
   have EK:Hid ((qv (g.2.2.take (k+1)) u x).length≤1):=qA tO;clear dR aa;generalize g.2.2[k]=e at*;obtain⟨f,l,t⟩:=e;simp only at c0 c1 c2
   have keep:mt u x (f,l,t)=none→qv (g.2.2.take (k+1)) u x=qv (g.2.2.take k) u x:=fun e=>by rw[HS.out,e];simp
   have KE:=qA keep;have put: ∀y,mt u x (f,l,t)=some y→qv (g.2.2.take k) u x= []∧qv (g.2.2.take (k+1)) u x= [y]:=fun y e=>by
    have h1:=HS.out;have h2:=EK.out;rw[e] at h1;rw[h1] at h2;simp at h2
    refine⟨h2,by rw[h1,h2];rfl⟩
   have PU:=qA put;clear keep put;by_cases hp:0<x
   ·have hn: ¬x<0:=tO;rcases e1:(l==x) with _ | _
    ·have F:=qA (KE.out (by simp at e1;simp[mt,hp,e1]));go_wp2;go_roundw
     case rel=>exact⟨k+1,tO,by go_num,by rw[F.out];exact HO.out.alloc _,ay.out.alloc tO _⟩
     case measure=>simp[intOf];omega
    ·rcases e2:(f==u) with _ | _
     ·have F:=qA (KE.out (by simp at e2;simp[mt,hp,e2]));go_wp2;go_roundw
      case rel=>exact⟨k+1,tO,by go_num,by rw[F.out];exact HO.out.alloc _,ay.out.alloc tO _⟩
      case measure=>simp[intOf];omega
     ·have F:=qA (PU.out t (by simp at e1 e2;simp[mt,hp,e1,e2]));go_wp2_with (at_builtin;refine qd rfl (.tmp 33) (.tmp 36) rfl _ _ _ (OwI.alloc (OwI.alloc HO.out _) _) rfl (wr.heap.size+1) t rfl (by simp[go_sem]) HX.out.2.2 tO (by simp;omega) ?_;intro v9 wv9 o9 g9 p9)
      go_roundw
      case rel=>exact⟨k+1,tO,by go_num,by have:=o9;rw[F.out.1] at this;rw[F.out.2];exact this,qe (B:=w.heap.size+1) (ay.out.alloc tO _) (by simp;omega) (OwI.alloc HO.out _).1 (zab _) g9⟩
      case measure=>simp[intOf];omega
   ·by_cases hn:x<0
    ·rcases e0:(x != -9223372036854775808) with _ | _
     ·have fJ:x= -9223372036854775808:=by simpa using e0
      have F:=qA (KE.out (by
       have h1:wrap64 (-x)= -9223372036854775808:=by rw[fJ];decide+kernel
       have h2:=cR.out;unfold mt;rw[if_neg hp,if_pos hn,h1,if_neg (fun h=>by have:=h.1;simp only at this;omega)]))
      go_wp2;go_roundw
      case rel=>exact⟨k+1,tO,by go_num,by rw[F.out];exact HO.out.alloc _,ay.out.alloc tO _⟩
      case measure=>simp[intOf];omega
     rcases e1:(l==wrap64 (-x)) with _ | _
     ·have F:=qA (KE.out (by simp at e1;simp[mt,hp,hn,e1]));go_wp2;go_roundw
      case rel=>exact⟨k+1,tO,by go_num,by rw[F.out];exact HO.out.alloc _,ay.out.alloc tO _⟩
      case measure=>simp[intOf];omega
     ·rcases e2:(t==u) with _ | _
      ·have F:=qA (KE.out (by simp at e2;simp[mt,hp,hn,e2]));go_wp2;go_roundw
       case rel=>exact⟨k+1,tO,by go_num,by rw[F.out];exact HO.out.alloc _,ay.out.alloc tO _⟩
       case measure=>simp[intOf];omega
      ·have F:=qA (PU.out f (by simp at e1 e2;simp[mt,hp,hn,e1,e2]));go_wp2_with (at_builtin;refine qd rfl (.tmp 58) (.tmp 61) rfl _ _ _ (OwI.alloc (OwI.alloc HO.out _) _) rfl (wr.heap.size+1) f rfl (by simp[go_sem]) HX.out.1 tO (by simp;omega) ?_;intro v9 wv9 o9 g9 p9)
       go_roundw
       case rel=>exact⟨k+1,tO,by go_num,by have:=o9;rw[F.out.1] at this;rw[F.out.2];exact this,qe (B:=w.heap.size+1) (ay.out.alloc tO _) (by simp;omega) (OwI.alloc HO.out _).1 (zab _) g9⟩
       case measure=>simp[intOf];omega
    ·have F:=qA (KE.out (by simp[mt,hp,hn]));go_wp2;go_roundw
     case rel=>exact⟨k+1,tO,by go_num,by rw[F.out];exact HO.out.alloc _,ay.out.alloc tO _⟩
     case measure=>simp[intOf];omega
  ·obtain rfl:k=g.2.2.length:=tO
   clear aa;rw[zae];rw[zae] at HO dl;have mS:(qv g.2.2 u x).length≤1:=fX;go_wp2_with fail;refine(qMf _ _ _ HO.out.rd mS).mono ?_
   rintro e wz ⟨rfl,rfl⟩;go_wp2_with fail;refine(qIN _ _ _ _ mS).mono ?_
   rintro e wz ⟨rfl,rfl⟩;go_wp2;go_ret;exact⟨_,rfl,HO.out.mono (base':=w.heap.size) tO,aC.out⟩
theorem qh (v:Value) (g:GrD) (u x:Int) (w:World) (h:ArgG w v g) (fX:(qv g.2.2 u x).length≤1) (iV: ∀e∈g.2.2,1≤e.2.1):
  Calls Tryz.prog 80 #[v, .int .i64 u, .int .i64 x] w fun e w'=>e= .returned (.int .i64 (qF g.2.2 u x))∧Below w.heap.size w w':=by
 have H:=qA h;obtain⟨s,rfl,_,_,ha⟩:=h;obtain⟨A,cap,rfl⟩:=ha.form;obtain⟨R,hR⟩: ∃R,R=qF g.2.2 u x:=⟨_,rfl⟩;rw[←hR];unfold qF at hR;have HR:=qA hR;clear hR;go_enter Tryz.func80,Tryz.ntmps80
 go_wp2_with fail;have hb:Below w.heap.size w (w.alloc (.cells #[.int .i64 g.1,.int .i64 g.2.1, .slice A g.2.2.length cap] 26)):=(by repeat(first | exact .refl _ _ | (refine BxS ?_ _) | (refine qD ?_ _) | (refine zaj ?_) | (refine BxA ?_ _)));refine(qEx _ g u x _ (H.out.below hb) fX iV).mono ?_
 rintro e w1 ⟨r,rfl,o1,b1⟩;have B1:=qA (hb.trans (b1.mono hb.size));generalize qv g.2.2 u x=L at o1 HR;clear hb b1 ha;obtain⟨A1,ah,rfl,aR,dj,_,_⟩:=o1.form;match L,o1,HR with
 | [],o1,HR=>
   have F:Hid (R= -1):=HR;clear o1;go_wp2;go_ret;exact⟨qAW F.out.symm,B1.out⟩
 | y::L,o1,HR=>
   obtain rfl:R=y:=HR.out
   clear HR;obtain⟨b,off,rfl,dv,hc⟩:=o1.rd.at (by simp);have c0:=hc 0 (by simp);simp only[List.getElem_cons_zero,Nat.add_zero] at c0;clear o1 hc;go_wp2;go_ret;exact⟨rfl,B1.out⟩
structure TreeW (bb P N:Nat) (w:World) (ord:Value) (o:List Int):Prop where
 ex: ∃vs:List Value,vs.length=N∧w.ownsRow bb 37 1 (.slice (some ⟨P,0,none⟩) N N) N vs∧ ∀(j:Nat) (hj:j<vs.length),
  ((j:Int)∉o∧vs[j]= .slice none 0 0)∨((j:Int)∈o∧ ∃(b cap:Nat) (ws:List Int),vs[j]= .slice (some ⟨b,0,none⟩) ws.length cap∧ws.length≤o.length∧RdI w vs[j] ws∧b≠P∧ord.ownBlock≠some b∧b<w.heap.size)
 ne:ord.ownBlock≠some P
section
variable {bb P N:Nat} {w w':World} {ord:Value} {o:List Int}
theorem TreeW.lt (h:TreeW bb P N w ord o):bb≤P∧P<w.heap.size:=by
 obtain⟨vs,_,h2,_⟩:=h.ex;exact h2.lt P rfl
theorem TreeW.at_new (h:TreeW bb P N w ord o) {y:Nat} (hy:y<N) (hn:(y:Int)∉o):w.cell? ⟨P,y,none⟩=some (.slice none 0 0):=by
 obtain⟨vs,h1,h2,h3⟩:=h.ex;rw[zas.cellAt h2 y tO];rcases h3 y tO with ⟨_,h4⟩ | ⟨h4,_⟩
 ·rw[zaf tO,h4]
 ·exact absurd h4 hn
theorem TreeW.at_old (h:TreeW bb P N w ord o) {y:Nat} (hy:y<N) (hn:(y:Int)∈o):
  ∃(b cap:Nat) (ws:List Int),w.cell? ⟨P,y,none⟩=some (.slice (some ⟨b,0,none⟩) ws.length cap)∧ws.length≤o.length∧RdI w (.slice (some ⟨b,0,none⟩) ws.length cap) ws:=by
 obtain⟨vs,h1,h2,h3⟩:=h.ex;rw[zas.cellAt h2 y tO];rcases h3 y tO with ⟨h4,_⟩ | ⟨_,b,cap,ws,e1,e2,e3,_⟩
 ·exact absurd hn h4
 ·rw[e1] at e3;exact⟨b,cap,ws,by rw[zaf tO,e1],e2,e3⟩
theorem TreeW.free (h:TreeW bb P N w ord o) (j:Nat):w.frozen? ⟨P,j,none⟩=false:=by
 obtain⟨vs,h1,h2,h3⟩:=h.ex;exact zas.frozenAt h2 j
theorem TreeW.below (h:TreeW bb P N w ord o) (hb:Below w.heap.size w w'):TreeW bb P N w' ord o:=by
 obtain⟨vs,h1,h2,h3⟩:=h.ex;refine⟨⟨vs,h1,qu h2 hb,fun j hj=> ?_⟩,h.ne⟩;rcases h3 j hj with h4 | ⟨h4,b,cap,ws,e1,e2,e3,e4,e5,e6⟩
 ·exact .inl h4
 ·exact .inr ⟨h4,b,cap,ws,e1,e2,e3.below hb,e4,e5,by have:=hb.size;omega⟩
theorem TreeW.set (h:TreeW bb P N w ord o) {y:Nat} (hy:y<N) {b cap:Nat} {ws:List Int} (hr:RdI w (.slice (some ⟨b,0,none⟩) ws.length cap) ws) (hl:ws.length≤o.length+1) (hb:b≠P) (ho:ord.ownBlock≠some b) (ac:b<w.heap.size):
  TreeW bb P N (w.setCell ⟨P,y,none⟩ (.slice (some ⟨b,0,none⟩) ws.length cap)) ord (o++ [(y:Int)]):=by
 obtain⟨vs,h1,h2,h3⟩:=h.ex;obtain⟨s1,s2⟩:=zas.stored h2 y (.slice (some ⟨b,0,none⟩) ws.length cap);have aq:(w.setCell ⟨P,y,none⟩ (.slice (some ⟨b,0,none⟩) ws.length cap)).heap.size=w.heap.size:=by simp
 have hg:w.grownBy (w.setCell ⟨P,y,none⟩ (.slice (some ⟨b,0,none⟩) ws.length cap)) (some P):=qBg _ _ _ _;refine⟨⟨_,by simpa using h1,s1,fun j hj=> ?_⟩,h.ne⟩;have lW:j<vs.length:=by simpa using hj
 by_cases hjy:j=y
 ·subst hjy;refine .inr ⟨by simp,b,cap,ws,by simp,by simp;omega,?_,hb,ho,tO⟩;rw[List.getElem_set_self];exact hr.grown hg fun x hx hx'=>by simp[zac] at hx hx';omega
 ·rw[List.getElem_set_ne (Ne.symm hjy)];rcases h3 j lW with ⟨h4,h5⟩ | ⟨h4,b',cap',ws',e1,e2,e3,e4,e5,e6⟩
  ·refine .inl ⟨?_,h5⟩;rw[zau,zaq];rintro(h6 | h6)
   ·exact h4 h6
   ·omega
  ·refine .inr ⟨List.mem_append_left _ h4,b',cap',ws',e1,by simp;omega,e3.grown hg fun x hx hx'=> ?_,e4,e5,tO⟩;rw[e1] at hx;simp[zac] at hx hx'
   omega
theorem TreeW.lit (h:TreeW bb P N w (.slice none 0 0) o) (ob:Obj) (n c:Nat):TreeW bb P N (w.alloc ob) (.slice (some ⟨w.heap.size,0,none⟩) n c) o:=by
 have ac:=h.lt;obtain⟨vs,h1,h2,h3⟩:=h.ex;refine⟨⟨vs,h1,qu h2 ((zag w.heap.size w).alloc (zab _) ob),fun j hj=> ?_⟩,by simp[zac];omega⟩;rcases h3 j hj with h4 | ⟨h4,b,cap,ws,e1,e2,e3,e4,e5,e6⟩
 ·exact .inl h4
 ·exact .inr ⟨h4,b,cap,ws,e1,e2,e3.alloc _,e4,by simp[zac];omega,by simp;omega⟩
theorem TreeW.push (h:TreeW bb P N w ord o) {w9:World} {v9:Value} {ob:Obj} (hg:(w.alloc ob).grownBy w9 ord.ownBlock) (hp:v9.ownBlock=ord.ownBlock∨v9.ownBlock=some (w.alloc ob).heap.size):TreeW bb P N w9 v9 o:=by
 have ac:=h.lt;have h':=h.below ((zag w.heap.size w).alloc (zab _) ob);obtain⟨vs,h1,h2,h3⟩:=h'.ex;have hs:(w.alloc ob).heap.size=w.heap.size+1:=by simp
 have kn:=hg.size;refine⟨⟨vs,h1,h2.kept hg (.inr fun e=>h.ne e.symm),fun j hj=> ?_⟩,?_⟩
 ·rcases h3 j hj with h4 | ⟨h4,b,cap,ws,e1,e2,e3,e4,e5,e6⟩
  ·exact .inl h4
  ·refine .inr ⟨h4,b,cap,ws,e1,e2,e3.grown hg fun x hx hx'=> ?_,e4,?_,tO⟩
   ·rw[e1] at hx;simp only[zac,za1.injEq] at hx;subst hx;exact e5 hx'
   ·rcases hp with hp | hp
    ·rw[hp];exact e5
    ·rw[hp];intro e;injection e with e
     omega
 ·rcases hp with hp | hp
  ·rw[hp];exact h.ne
  ·rw[hp];intro e;injection e with e
   omega
end
theorem qHI:(Tryz.prog.info? 37).map (fun i=>(i.zero,i.size,i.bytes))=some (some (.slice none 0 0),1,24):=by kernel_rfl
theorem qNN (v:Value) (g:GrD) (w:World) (h:ArgG w v g) (hf:qb g=true):
  Calls Tryz.prog 192 #[v, .int .i64 0] w fun e w'=> ∃r s,e= .returned (.tuple #[r,s])∧OwI w' w.heap.size r (canO g)∧Below w.heap.size w w':=by
 have HG:=qA h;obtain⟨hg,bO⟩:=qE hf;have ONE:=qA (qp bO);have LET:=qA (qAn hg);obtain⟨bn,aE,aK,_⟩:=qB hg;obtain⟨A,cap,hv⟩: ∃A cap,v= .agg #[.int .i64 g.1, .int .i64 g.2.1, .slice A g.2.2.length cap]:=by
  obtain⟨s,hv,_,_,ha⟩:=h;obtain⟨A,cap,rfl⟩:=ha.form;exact⟨A,cap,hv⟩
 subst hv;obtain⟨N,hN⟩: ∃N:Nat,g.2.1=(N:Int):=⟨g.2.1.toNat,tO⟩;obtain⟨rn,nh⟩: ∃rn:Nat,g.1=(rn:Int):=⟨g.1.toNat,tO⟩;have yh:1≤rn:=tO;have AW:rn≤3:=tO;have l5:1≤N:=tO;have uK:N≤40:=tO;have kS:Hid (canO g=canF g.2.2 (qG rn) 41 0 [0]):=qA (by unfold canO;rw[nh];rfl);have vf:=qA (qAB.one (n:=g.2.1) tO);have OKS:Hid (∀(u:Int) (o:List Int) (k:Nat),qAB g.2.1 o→qAB g.2.1 (((qG rn).take k).foldl (qW g.2.2 u) o)):=qA fun u o k h=>qBj hg _ k h;have OKL:Hid (∀o:List Int,qAB g.2.1 o→o.length≤40):=qA fun o h=>h.len tO tO;have OKR:Hid (∀o:List Int,qAB g.2.1 o→ ∀y∈o,0≤y∧y<N):=qA fun o h y hy=>by have:=h.2.1 y hy;omega
 have NV:Hid (∀u x,qF g.2.2 u x= -1∨(0≤qF g.2.2 u x∧qF g.2.2 u x<N)):=qA fun u x=>by
  rcases qO hg u x with e | e
  ·exact .inl e
  ·exact .inr ⟨e.1,tO⟩
 have dT:=qy rn;have cR:Hid (∀W:World,Calls Tryz.prog 79 #[.int .i64 g.1] W fun e w'=> ∃r,e= .returned r∧OwI w' W.heap.size r (qG rn)∧Below W.heap.size W w'):=qA fun W=>by
  rw[nh];exact qCA rn W tO
 generalize qG rn=ls at*;rw[hN] at HG;clear hg hf bO h nh;have ka:1≤g.1∧g.1≤3:=bn;clear aE aK bn;rw[hN];have bx:Below w.heap.size w (w.alloc (.cells #[.int .i64 g.1,.int .i64 N, .slice A g.2.2.length cap] 26)):=(by repeat(first | exact .refl _ _ | (refine BxS ?_ _) | (refine qD ?_ _) | (refine zaj ?_) | (refine BxA ?_ _)));have k0:(w.alloc (.cells #[.int .i64 g.1,.int .i64 N, .slice A g.2.2.length cap] 26)).cell? ⟨w.heap.size,0,none⟩=some (.int .i64 g.1):=by simp[go_sem]
 have k1:(w.alloc (.cells #[.int .i64 g.1,.int .i64 N, .slice A g.2.2.length cap] 26)).cell? ⟨w.heap.size,1,none⟩=some (.int .i64 N):=by simp[go_sem]
 have k2:(w.alloc (.cells #[.int .i64 g.1,.int .i64 N, .slice A g.2.2.length cap] 26)).cell? ⟨w.heap.size,2,none⟩=some (.slice A g.2.2.length cap):=by simp[go_sem]
 have sx:w.heap.size<(w.alloc (.cells #[.int .i64 g.1,.int .i64 N, .slice A g.2.2.length cap] 26)).heap.size:=by simp
 have ex:(w.alloc (.cells #[.int .i64 g.1,.int .i64 N, .slice A g.2.2.length cap] 26)).heap.size=w.heap.size+1:=by simp
 have qT: ∀(w:World) (a:Option Addr) (n c n' c':Nat),(binOp .eql 37 (.slice a n c) (.slice none n' c')).run Tryz.prog w= .ok (.bool a.isNone) w:=fun w a n c n' c'=>Lib.run_eql_slice_nil w _ _ a n c n' c' Tryz.underlying37;go_enter Tryz.func192,Tryz.ntmps192
 obtain⟨i0,cE,cD,bI,cj⟩:=info_parts qHI;go_wp2_with (at_make;refine wpList_make_full _ rfl _ _ 69 rfl (w.heap.size+1) 37 i0 (.slice none 0 0) 1 Tryz.underlying69 cE cD bI _ _ _ _ N rfl rfl rfl rfl (by rw[cj];omega) (by unfold maxLen;omega) (by simp) ?_)
 generalize w.alloc (.cells #[.int .i64 g.1,.int .i64 N, .slice A g.2.2.length cap] 26)=w1 at bx k0 k1 k2 sx ex⊢;rw[←ex];have BX:=qA bx;have K0:=qA k0;have K1:=qA k1;have K2:=qA k2;have EX:=qA ex;clear k0 k1 k2 bx ex;intro w2 hown0 hgrow0;have AA:w1.heap.size<w2.heap.size:=(hown0.lt w1.heap.size rfl).2;have kD:Below w1.heap.size w1 w2:=(zag w1.heap.size w1).grown hgrow0 (zab _) (fun k h=>by cases h);have yS:TreeW w1.heap.size w1.heap.size N w2 (.slice none 0 0) []:=⟨⟨zav N (.slice none 0 0),by simp,by simpa[toList_madeCells_one] using hown0,fun j hj=> .inl ⟨by simp,by simp⟩⟩,by simp[zac]⟩;have r7:TreeW w1.heap.size w1.heap.size N (w2.alloc (.cells #[] 3)) (.slice none 0 0) []:=yS.below ((zag _ _).alloc (zab _) _);have oE:OwI (w2.alloc (.cells #[] 3)) w2.heap.size (.slice (some ⟨w2.heap.size,0,none⟩) 0 0) []:=qAE w2 [] (fun _ h=>by cases h) (by simp) (zab _);have yk:=r7.set (y:=0) tO (b:=w2.heap.size) (cap:=0) (ws:= []) oE.rd (by simp) tO (by simp[zac]) (by simp);have mh:=r7.at_new (y:=0) tO (by simp);have xi:=r7.free 0;have j1:(0:Int)<(N:Int):=tO;have TWH:=qA yk;have yL:Hid (Below w1.heap.size w1 ((w2.alloc (.cells #[] 3)).setCell ⟨w1.heap.size,0,none⟩ (.slice (some ⟨w2.heap.size,0,none⟩) 0 0))):=qA ((kD.alloc tO _).setCell (by show w1.heap.size≤w1.heap.size;omega) _);clear yS r7 yk oE hown0 hgrow0 kD;go_wp2;have oO:OwI (((w2.alloc (.cells #[] 3)).setCell ⟨w1.heap.size,0,none⟩ (.slice (some ⟨w2.heap.size,0,none⟩) 0 0)).alloc (.cells #[.int .i64 0] 3)) (w1.heap.size+1) (.slice (some ⟨w2.heap.size+1,0,none⟩) 1 1) [0]:=qCH _ [0] (w2.heap.size+1) (by simp) (fun x hx=>by simp at hx;subst hx;exact⟨by decide,by decide⟩) (by simp) tO;have TWL:=TWH.out.lit (.cells #[.int .i64 0] 3) 1 1;have rL:Below w1.heap.size w1 (((w2.alloc (.cells #[] 3)).setCell ⟨w1.heap.size,0,none⟩ (.slice (some ⟨w2.heap.size,0,none⟩) 0 0)).alloc (.cells #[.int .i64 0] 3)):=yL.out.alloc (by simp;omega) _;have e3:((w2.alloc (.cells #[] 3)).setCell ⟨w1.heap.size,0,none⟩ (.slice (some ⟨w2.heap.size,0,none⟩) 0 0)).heap.size=w2.heap.size+1:=by simp
 simp only[zay,zaS] at TWL;rw[e3] at TWL;have Cv:(w2.alloc (.cells #[] 3)).setCell ⟨w1.heap.size,0,none⟩ (.slice (some ⟨w2.heap.size,0,none⟩) 0 0)=(w2.setCell ⟨w1.heap.size,0,none⟩ (.slice (some ⟨w2.heap.size,0,none⟩) 0 0)).alloc (.cells #[] 3):=World.setCell_alloc_past _ _ _ _ AA;rw[Cv] at oO TWL rL;generalize ((w2.setCell ⟨w1.heap.size,0,none⟩ (.slice (some ⟨w2.heap.size,0,none⟩) 0 0)).alloc (.cells #[] 3)).alloc (.cells #[.int .i64 0] 3)=w3 at oO TWL rL⊢;have OO:=qA oO;have TW:=qA TWL;have zo:=qA rL;clear oO TWL rL e3 mh xi TWH yL;go_loopw [7,8] (fun out i wo=> ∃(k:Nat) (o:List Int),k≤o.length∧i= .int .i64 k∧qAB g.2.1 o∧canO g=canF g.2.2 ls (41-k) k o∧OwI wo (w1.heap.size+1) out o∧TreeW w1.heap.size w1.heap.size N wo out o∧Below w1.heap.size w1 wo) (fun _ i _=>41-(intOf i).toNat)
 case atStart=>exact⟨0,[0],by simp,rfl,vf.out,kS.out,OO.out,TW.out,zo.out⟩
 case round=>
  obtain⟨k,o,hk,rfl,af,eT,aa,cO,ab⟩:=hrel;obtain⟨wo,rfl⟩: ∃wo:World,wo=wr:=⟨_,rfl⟩;have gV:=OKL.out o af;have dD:=qA af;have HC:=qA eT;have HO:=qA aa;have mm:=qA cO;have ay:=qA ab;have aq:=ab.size;have q0:=(ab.cell (p:=⟨w.heap.size,0,none⟩) sx).trans K0.out;obtain⟨A1,ah,rfl,_,_,_,a7⟩:=aa.form;clear af eT cO ab;by_cases ac:k<o.length
  ·obtain⟨u,hu⟩: ∃u,o[k]? =some u:=⟨o[k],by simp⟩;have fV:o[k]=u:=by rw[zaf ac] at hu;injection hu
   have jh:Hid (canO g=canF g.2.2 ls (41-(k+1)) (k+1) (ls.foldl (qW g.2.2 u) o)):=qA (by
    rw[HC.out,show 41-k=(41-(k+1))+1 by omega,qBd _ _ _ _ _ ac,fV])
   have dk:Hid (∀m:Nat,(((ls.take m).foldl (qW g.2.2 u) o))[k]? =some u):=qA fun m=>qr _ _ _ _ _ _ hu;have gH:Hid (∀(m:Nat) (hm:m<ls.length),(ls.take (m+1)).foldl (qW g.2.2 u) o=qW g.2.2 u ((ls.take m).foldl (qW g.2.2 u) o) ls[m]):=qA fun m hm=>qBm _ _ _ _ _ hm;have di:Hid (∀m:Nat,qAB g.2.1 ((ls.take m).foldl (qW g.2.2 u) o)):=qA fun m=>OKS.out u o m dD.out;obtain⟨un,d4,iO⟩: ∃un:Nat,u=(un:Int)∧un<N:=by
    have h1:=dD.out.2.1 u (by rw[←fV];simp);exact⟨u.toNat,tO,tO⟩
   obtain⟨b1,rfl,_,fe⟩:=a7 tO;have ck:=aa.cellAt k ac;rw[fV] at ck;have ip:=qA d4;clear a7 hu fV aa d4;go_wp2_with fail;refine(cR.out wo).mono ?_
   rintro e wl ⟨rl,rfl,ol,bl⟩;have sl:=bl.size;obtain⟨Al,capl,rfl,cU,cV,_,dC⟩:=ol.form;obtain⟨gl,rfl,wG,mE⟩:=dC tO;unfold maxLen at cV;have OL:=qA ol.rd;have BL:=qA bl;have mx:=qA (HO.out.below bl);have Ge:=qA (mm.out.below bl);have bU:b1≠gl:=tO;clear dC ol bl;go_wp2;go_loopw [7,36] (fun out j wr=> ∃m:Nat,m≤ls.length∧j= .int .i64 m∧OwI wr (w1.heap.size+1) out ((ls.take m).foldl (qW g.2.2 u) o)∧TreeW w1.heap.size w1.heap.size N wr out ((ls.take m).foldl (qW g.2.2 u) o)∧RdI wr (.slice (some ⟨gl,0,none⟩) ls.length capl) ls∧out.ownBlock≠some gl∧gl≠w1.heap.size∧gl<wr.heap.size∧Below w1.heap.size wl wr) (fun _ j _=>ls.length-(intOf j).toNat)
   case atStart=>exact⟨0,zal _,rfl,mx.out,Ge.out,OL.out,by simp[zac];omega,by have:=mm.out.lt;omega,mE,zag _ _⟩
   case round=>
    obtain⟨m,dj,rfl,aa,cO,aN,ai,uC,bN,aG⟩:=hrel;have si:=aG.size;have bK:=qA aG;have ch:Hid (Below w1.heap.size w1 wr):=qA ((ay.out.trans (BL.out.mono tO)).trans aG);have p0:=(ch.out.cell (p:=⟨w.heap.size,0,none⟩) sx).trans K0.out;have p1:=(ch.out.cell (p:=⟨w.heap.size,1,none⟩) sx).trans K1.out;have p2:=(ch.out.cell (p:=⟨w.heap.size,2,none⟩) sx).trans K2.out;have kv:=qA aN;have dx:=qA ai;have kB:=qA cO;clear aG cO;by_cases al:m<ls.length
    ·have az:=di.out m;have ke:=OKL.out _ az;have bZ:=dk.out m;have HS:=qA (gH.out m al);have D1:=qA (OKR.out _ az);obtain⟨_,_,dp,_,cU⟩:=aN.at tO;obtain⟨rfl,rfl⟩:gl=_∧0=_:=by simpa using dp
     have c0:=cU m al;rw[zap] at c0;have kI:I64 ls[m]:=aN.2 _ (by simp);generalize ls[m]=x at c0 HS kI;have HX:=qA kI;generalize (ls.take m).foldl (qW g.2.2 u) o=om at*;have fK:u∈om:=List.mem_of_getElem? bZ;have ur:=qA fK;have dQ:=qA aa;have NX:=qA (NV.out u x);have N0:=qA (qCo (es:=g.2.2) (u:=u) (x:=x) (o:=om));have N1:=qA (qCz (es:=g.2.2) (u:=u) (x:=x) (o:=om));have N2:=qA (qCF (es:=g.2.2) (u:=u) (x:=x) (o:=om));have cS:=qA (qh _ g u x wr (HG.out.below (BX.out.trans (ch.out.mono tO))) (ONE.out u x) LET.out);clear cU dp aa aN bZ az kI fK;go_wp2_with fail;refine cS.out.mono ?_;rintro e wq ⟨rfl,bq⟩;clear cS;have sq:=bq.size;have HQ:Hid (Below w1.heap.size wl wq):=qA (bK.out.trans (bq.mono tO));have gq:=qA (dQ.out.below bq);have iM:=qA (kv.out.below bq);have iN:=qA (kB.out.below bq);clear bq p0 p1 p2;generalize qF g.2.2 u x=y at*;rcases NX.out with hy | hy
     ·subst hy;have F:=qA (N0.out tO);go_wp2;go_roundw
      case rel=>exact⟨m+1,tO,by go_num,by rw[HS.out,F.out];exact gq.out,by rw[HS.out,F.out];exact iN.out,iM.out,dx.out,uC,tO,HQ.out⟩
      case measure=>simp[intOf];omega
     ·obtain⟨yn,rfl⟩: ∃yn:Nat,y=(yn:Int):=⟨y.toNat,tO⟩;have ic:(0:Int)≤(yn:Int):=hy.1;have C8:(yn:Int)<(N:Int):=hy.2;have eI:yn<N:=tO;rcases h1:hasB om (yn:Int) with _ | _
      ·have F:=qA (N2.out ic h1);have HY:Hid (I64 (yn:Int)):=qA ⟨tO,tO⟩;have gD:(yn:Int)∉om:=qCJ h1;have ct:=iN.out.at_new eI gD;have ft:=iN.out.free yn;obtain⟨bu,capu,wu,cu,uV,m7⟩:=iN.out.at_old iO (by rw[←ip.out];exact ur.out);have Hb:=qA m7;have GZ:u<(N:Int):=by rw[ip.out];omega
       have Fl:(0:Int)≤u:=by rw[ip.out];omega
       have cu':wq.cell? ⟨w1.heap.size,u.toNat,none⟩=some (.slice (some ⟨bu,0,none⟩) wu.length capu):=by rw[ip.out];exact cu
       clear m7 gD;go_wp2_with fail;refine(qFM _ wu _ Hb.out tO).mono ?_
       rintro e wc ⟨rc,rfl,oc,bc⟩;have sc:=bc.size;have OC:=qA oc;have BC:=qA bc;have uU:=iN.out.lt.2;have Hc:=iN.out.ne;have fh: ∀x,u7.ownBlock=some x→x<wq.heap.size:=fun x hx=>(gq.out.1.lt x hx).2;have ph:=qA fh;have CT:=qA ct;have FT:=qA ft;obtain⟨Ac,capc,rfl,_⟩:=OwI.form oc;clear oc bc ct ft fh;go_wp2_with (first | ((at_builtin;refine qd rfl (.tmp 59) (.tmp 61) rfl _ _ _ (OwI.alloc OC.out _) rfl _ _ rfl (qa _ _ _) HX.out (by first | omega | (simp<;>omega)) (by first | omega | (simp<;>omega)) ?_;intro v8 wv8 o8 g8 p8);obtain⟨A8,gv,rfl,Mn,On,_,AJ⟩:=OwI.form o8;obtain⟨b8,rfl,Ew,uQ⟩:=AJ (by simp);have B8:Below wq.heap.size wq wv8:=qe BC.out sc OC.out.1 (zab _) g8;have Mm:=(B8.cell (p:=⟨w1.heap.size,yn,none⟩) uU).trans CT.out;have KH:=(B8.frozen (p:=⟨w1.heap.size,yn,none⟩) uU).trans FT.out;have m8:=(iN.out.below B8).set eI o8.rd (by simp;omega) tO (fun e=>by have:=ph.out _ e;omega) uQ;have s8:=B8.size;have mk:=qA B8;simp only[zaL,zam,zay,zap] at m8;have pp:=qA m8;clear o8 g8 p8 AJ B8 m8;have zd:wv8.grownBy (wv8.setCell ⟨w1.heap.size,yn,none⟩ (.slice (some ⟨b8,0,none⟩) (wu.length+1) gv)) (some w1.heap.size):=qBg _ _ _ _;have lF:Hid (OwI (wv8.setCell ⟨w1.heap.size,yn,none⟩ (.slice (some ⟨b8,0,none⟩) (wu.length+1) gv)) (w1.heap.size+1) u7 om):=qA ((gq.out.below mk.out).far (p:=⟨w1.heap.size,yn,none⟩) (by show w1.heap.size<_;omega) _);have lD:Hid (RdI (wv8.setCell ⟨w1.heap.size,yn,none⟩ (.slice (some ⟨b8,0,none⟩) (wu.length+1) gv)) (.slice (some ⟨gl,0,none⟩) ls.length capl) ls):=qA ((iM.out.below mk.out).grown zd fun b hb aJ=>by simp[zac] at hb aJ;omega);have mF:Hid (Below w1.heap.size wl (wv8.setCell ⟨w1.heap.size,yn,none⟩ (.slice (some ⟨b8,0,none⟩) (wu.length+1) gv))):=qA ((HQ.out.trans (mk.out.mono tO)).setCell (by show w1.heap.size≤w1.heap.size;omega) _);clear zd) | (at_builtin;refine qd rfl (.tmp 64) (.tmp 66) rfl _ _ _ (OwI.alloc lF.out _) rfl _ _ rfl (by simp[go_sem]) HY.out (by first | omega | (simp<;>omega)) (by first | omega | (simp<;>omega)) ?_;intro v9 wv9 o9 g9 p9))
       have hS:(wv8.setCell ⟨w1.heap.size,yn,none⟩ (.slice (some ⟨b8,0,none⟩) (wu.length+1) gv)).heap.size=wv8.heap.size:=by simp
       have ml:=g9.size;simp at ml
       go_roundw
       case rel=>
        refine⟨m+1,tO,by go_num,by rw[HS.out,F.out];exact o9,by rw[HS.out,F.out];exact pp.out.push g9 p9,(lD.out.alloc _).grown g9 (fun b hb aJ=> ?_),fun e=> ?_,uC,tO,qe mF.out tO lF.out.1 tO g9⟩
        ·simp only[zac,za1.injEq] at hb;subst hb;exact dx.out aJ
        ·rcases p9 with p9 | p9
         ·rw[p9] at e;exact dx.out e
         ·rw[p9] at e;simp at e;omega
       case measure=>simp[intOf];omega
      ·have F:=qA (N1.out ic h1);obtain⟨bu,capu,wu,cu,uV,m7⟩:=iN.out.at_old eI (qAS.1 h1);clear m7;go_wp2;go_roundw
       case rel=>exact⟨m+1,tO,by go_num,by rw[HS.out,F.out];exact gq.out,by rw[HS.out,F.out];exact iN.out,iM.out,dx.out,uC,tO,HQ.out⟩
       case measure=>simp[intOf];omega
    ·obtain rfl:m=ls.length:=tO
     rw[zae] at aa kB;have az:=di.out ls.length;rw[zae] at az;have gu:=qA az;have dQ:=qA aa;have au:k+1≤(ls.foldl (qW g.2.2 u) o).length:=by
      have:=dk.out ls.length
      rw[zae] at this;have:=(zao.1 this).1
      omega
     obtain⟨A2,ak,rfl,_⟩:=aa.form;clear aa aN ai az p0 p1 p2;go_wp2;go_roundw
     case rel=>exact⟨k+1,_,au,by go_num,gu.out,jh.out,dQ.out,kB.out,ch.out⟩
     case measure=>simp[intOf];omega
  ·obtain rfl:k=o.length:=tO
   have F:Hid (canO g=o):=qA (by rw[HC.out,qCx]);clear aa a7;have cJ:Hid (Below w.heap.size w wo):=qA (BX.out.trans (ay.out.mono tO));have xM:=EX.out;have ao:w.heap.size≤w1.heap.size+1:=tO;clear xM;go_wp2;exact bodyPost_ret (v:= .tuple #[.slice A1 o.length ah, .slice (some ⟨w1.heap.size,0,none⟩) N N]) (by simp[results,Tryz.results192]) rfl ⟨_,_,rfl,by rw[F.out];exact HO.out.mono ao,cJ.out⟩
def qBG (es:List EdD):Int→List Int→Int×Nat
 | v,[]=>(v,0)
 | v,x::w=>if qF es v x<0 then(v,0) else((qBG es (qF es v x) w).1,(qBG es (qF es v x) w).2+1)
theorem qLD (es:List EdD) (v:Int) (w:List Int) (k:Nat) (h:k<w.length):qBG es v (w.drop k)=if qF es v w[k]<0 then(v,0) else((qBG es (qF es v w[k]) (w.drop (k+1))).1,(qBG es (qF es v w[k]) (w.drop (k+1))).2+1):=by
 rw[List.drop_eq_getElem_cons h];rfl
theorem qGN (es:List EdD): ∀(w:List Int) (v:Int),0≤v→(qY es v w<0∧(qBG es v w).2<w.length)∨(0≤qY es v w∧(qBG es v w).2=w.length∧(qBG es v w).1=qY es v w)
 | [],v,hv=> .inr ⟨hv,rfl,rfl⟩
 | x::w,v,hv=>by
   unfold qY qBG;by_cases h:qF es v x<0
   ·rw[if_pos h,if_pos h];exact .inl ⟨by decide,by simp⟩
   ·rw[if_neg h,if_neg h];rcases qGN es w (qF es v x) tO with ⟨h1,h2⟩ | ⟨h1,h2,h3⟩
    ·exact .inl ⟨h1,by simp only[zam];omega⟩
    ·exact .inr ⟨h1,by simp only[zam];omega,h3⟩
theorem qJm (v vw:Value) (g:GrD) (u:Int) (ws:List Int) (w:World) (h:ArgG w v g) (hw:RdI w vw ws) (hf:qb g=true) (hu:0≤u∧u<g.2.1):
  Calls Tryz.prog 77 #[v, .int .i64 u,vw] w fun e w'=>e= .returned (.tuple #[.int .i64 (qBG g.2.2 u ws).1, .int .i64 ((qBG g.2.2 u ws).2:Nat)])∧Below w.heap.size w w':=by
 have HG:=qA h;have HW:=qA hw;obtain⟨hg,bO⟩:=qE hf;have ONE:=qA (qp bO);have LET:=qA (qAn hg);have NV:Hid (∀v x,qF g.2.2 v x= -1∨(0≤qF g.2.2 v x∧qF g.2.2 v x<g.2.1)):=qA fun v x=>qO hg v x;obtain⟨s,rfl,aT,aS,ha⟩:=h;obtain⟨A,cap,rfl⟩:=ha.form;obtain⟨Aw,capw,rfl,oS,Gp,_⟩:=hw.arg;unfold maxLen at Gp;clear hf hg bO ha hw;have HR:Hid (qBG g.2.2 u ws=((qBG g.2.2 u (ws.drop 0)).1,0+(qBG g.2.2 u (ws.drop 0)).2)):=qA (by rw[List.drop_zero,zap]);generalize qBG g.2.2 u ws=R at*;go_enter Tryz.func77,Tryz.ntmps77
 go_wp2_with fail;have bx:Below w.heap.size w (w.alloc (.cells #[.int .i64 g.1,.int .i64 g.2.1, .slice A g.2.2.length cap] 26)):=(by repeat(first | exact .refl _ _ | (refine BxS ?_ _) | (refine qD ?_ _) | (refine zaj ?_) | (refine BxA ?_ _)));have l0:(w.alloc (.cells #[.int .i64 g.1,.int .i64 g.2.1, .slice A g.2.2.length cap] 26)).cell? ⟨w.heap.size,0,none⟩=some (.int .i64 g.1):=by simp[go_sem]
 have l1:(w.alloc (.cells #[.int .i64 g.1,.int .i64 g.2.1, .slice A g.2.2.length cap] 26)).cell? ⟨w.heap.size,1,none⟩=some (.int .i64 g.2.1):=by simp[go_sem]
 have l2:(w.alloc (.cells #[.int .i64 g.1,.int .i64 g.2.1, .slice A g.2.2.length cap] 26)).cell? ⟨w.heap.size,2,none⟩=some (.slice A g.2.2.length cap):=by simp[go_sem]
 have sA:w.heap.size<(w.alloc (.cells #[.int .i64 g.1,.int .i64 g.2.1, .slice A g.2.2.length cap] 26)).heap.size:=by simp
 generalize w.alloc (.cells #[.int .i64 g.1,.int .i64 g.2.1, .slice A g.2.2.length cap] 26)=W at bx l0 l1 l2 sA⊢;have BX:=qA bx;have HA:Hid (∀w',Below W.heap.size W w'→ArgG w' (.agg #[.int .i64 g.1, .int .i64 g.2.1, .slice A g.2.2.length cap]) g):=qA fun w' hb=>HG.out.below (BX.out.trans (hb.mono tO));have L0:=qA l0;have L1:=qA l1;have L2:=qA l2;clear bx l0 l1 l2;go_loopw [1,13] (fun a i wr=> ∃(k:Nat) (u':Int),k≤ws.length∧i= .int .i64 k∧a= .int .i64 u'∧(0≤u'∧u'<g.2.1)∧R=((qBG g.2.2 u' (ws.drop k)).1,k+(qBG g.2.2 u' (ws.drop k)).2)∧Below W.heap.size W wr) (fun _ i _=>ws.length-(intOf i).toNat)
 case atStart=>exact⟨0,u,zal _,rfl,rfl,hu,HR.out,zag _ _⟩
 case round=>
  obtain⟨k,u',hk,rfl,rfl,tp,hR,ab⟩:=hrel;have HB:=qA ab;have uG:=qA hR;have hs:=ab.size;have q0:=(ab.cell (p:=⟨w.heap.size,0,none⟩) sA).trans L0.out;have q1:=(ab.cell (p:=⟨w.heap.size,1,none⟩) sA).trans L1.out;have q2:=(ab.cell (p:=⟨w.heap.size,2,none⟩) sA).trans L2.out;by_cases ac:k<ws.length
  ·have DD:=qA (HW.out.below (BX.out.trans (ab.mono tO)));obtain⟨bw,offw,rfl,eX,n5⟩:=DD.out.at tO;have c0:=n5 k ac;have ST:=qA (qLD g.2.2 u' ws k ac);generalize ws[k]=x at c0 ST;have NX:=qA (NV.out u' x);have cS:=qA (qh _ g u' x wr (HA.out _ ab) (ONE.out u' x) LET.out);clear ab hR n5;go_wp2_with fail;refine cS.out.mono ?_;rintro e wq ⟨rfl,bq⟩;have HQ:=qA (HB.out.trans (bq.mono tO));clear bq cS q0 q1 q2 c0;generalize qF g.2.2 u' x=y at*;rcases NX.out with hy | hy
   ·subst hy;have F:Hid (R=(u',k)):=qA (by rw[uG.out,ST.out];rfl);go_wp2;exact bodyPost_ret (v:= .tuple #[.int .i64 u', .int .i64 k]) (by simp[results,Tryz.results77]) rfl ⟨by rw[F.out],BX.out.trans (HQ.out.mono tO)⟩
   ·have ic: ¬y<0:=tO;have F:Hid (R=((qBG g.2.2 y (ws.drop (k+1))).1,(k+1)+(qBG g.2.2 y (ws.drop (k+1))).2)):=qA (by
     rw[uG.out,ST.out,if_neg ic];simp only
     rw[Nat.add_assoc,Nat.add_comm 1])
    go_wp2;go_roundw
    case rel=>exact⟨k+1,y,tO,by go_num,rfl,hy,F.out,HQ.out⟩
    case measure=>simp[intOf];omega
  ·obtain rfl:k=ws.length:=tO
   have F:Hid (R=(u',ws.length)):=qA (by rw[uG.out,List.drop_length];rfl);clear ab hR;go_wp2;exact bodyPost_ret (v:= .tuple #[.int .i64 u', .int .i64 ws.length]) (by simp[results,Tryz.results77]) rfl ⟨by rw[F.out],BX.out.trans (HB.out.mono tO)⟩
theorem qMR {α:Type} (c:α→α→Int) (L:List α) (e:α):srt c (L++ [e])=insF c (srt c L) e:=by
 unfold srt;rw[zaQ];rfl
def stpE (u x v:Int):EdD:=if 0<x then(u,x,v) else(v,-x,u)
def nxP (N:Nat) (len:Nat) (v:Int) (j:Nat):Int:=if j+1<len then((N+j:Nat):Int) else v
def atP (N:Nat) (len:Nat) (u v:Int):Nat→Int
 | 0=>u
 | j+1=>nxP N len v j
theorem qNX (N len:Nat) (u v:Int) (j:Nat):atP N len u v (j+1)=nxP N len v j:=rfl
theorem qLv {α:Type} {l:List α} {i:Nat} {d:α} (h:i<l.length):l.getD i d=l[i]:=by simp[h]
def pthE (N:Nat) (u v:Int) (w:List Int) (j:Nat):EdD:=stpE (atP N w.length u v j) (w.getD j 0) (nxP N w.length v j)
def pthL (N:Nat) (u v:Int) (w:List Int) (k:Nat):List EdD:=(zaC k).map (pthE N u v w)
theorem qMo (N:Nat) (u v:Int) (w:List Int) (k:Nat):pthL N u v w (k+1)=pthL N u v w k++ [pthE N u v w k]:=by
 unfold pthL;rw[zaV,zaW];rfl
theorem qJj (N:Nat) (u v:Int) (w:List Int) (k:Nat):(pthL N u v w k).length=k:=by simp[pthL]
def szP (N len j:Nat):Nat:=N+min j (len-1)
theorem qNt {N len j:Nat} (h:j<len):szP N len (j+1)=if j+1<len then szP N len j+1 else szP N len j:=by
 unfold szP;split<;>omega
theorem qPM {N len j:Nat} (h:j+1<len):szP N len j=N+j:=by
 unfold szP;omega
theorem qMN {N len j:Nat} {u v:Int} (hu:0≤u∧u<N) (hv:0≤v∧v<N):0≤atP N len u v j∧atP N len u v j<N+len:=by
 cases j with
 | zero=>show 0≤u∧u<N+len;omega
 | succ j=>
   unfold atP nxP;split<;>omega
theorem qMX {N len j:Nat} {v:Int} (hv:0≤v∧v<N):0≤nxP N len v j∧nxP N len v j<N+len:=by
 unfold nxP;split<;>omega
def addG (g:GrD) (u v:Int) (w:List Int):GrD:=(g.1,((g.2.1.toNat+(w.length-1):Nat):Int),srt cmpE (g.2.2++pthL g.2.1.toNat u v w w.length))
def qEv (g:GrD) (t:List Int):Bool:=decide (g.2.1+t.length-1≤40∧(g.2.2.length:Int)+t.length≤120)
theorem qNo {L:List EdD} (h:Srt cmpE L):srt cmpE L=L:=(qKA qAD h fun _=>Iff.rfl).symm
theorem qDn (w:World) (b:Nat) {x0 x1 x2:Value} (v0 v1 v2:Value) (h0:w.cell? ⟨b,0,none⟩=some x0) (h1:w.cell? ⟨b,1,none⟩=some x1) (h2:w.cell? ⟨b,2,none⟩=some x2):
  (((w.setCell ⟨b,0,none⟩ v0).setCell ⟨b,1,none⟩ v1).setCell ⟨b,2,none⟩ v2).cell? ⟨b,0,none⟩=some v0∧(((w.setCell ⟨b,0,none⟩ v0).setCell ⟨b,1,none⟩ v1).setCell ⟨b,2,none⟩ v2).cell? ⟨b,1,none⟩=some v1∧(((w.setCell ⟨b,0,none⟩ v0).setCell ⟨b,1,none⟩ v1).setCell ⟨b,2,none⟩ v2).cell? ⟨b,2,none⟩=some v2:=by
 refine⟨?_,?_,?_⟩
 ·rw[zaa _ _ _ _ (by simp),zaa _ _ _ _ (by simp),zah _ _ _ h0]
 ·rw[zaa _ _ _ _ (by simp)];exact zah _ _ _ ((zaa _ _ _ _ (by simp)).trans h1)
 ·exact zah _ _ _ ((zaa _ _ _ _ (by simp)).trans ((zaa _ _ _ _ (by simp)).trans h2))
def canG (g:GrD):GrD:=rnG g (canO g)
theorem qBU (v:Value) (g:GrD) (w:World) (h:ArgG w v g) (hf:qb g=true):
  Calls Tryz.prog 169 #[v] w fun e w'=> ∃r,e= .returned r∧OwG w' w.heap.size r (canG g)∧Below w.heap.size w w':=by
 have HG:=qA h;have HF:=qA hf;obtain⟨hg,_⟩:=qE hf;have aH:=qA hg;have af:=qc hg;obtain⟨bn,aE,aK,_⟩:=qB hg;have zW:1≤(canO g).length:=by
  have:=af.2.2
  cases hc:canO g with
  | nil=>rw[hc] at this;cases this
  | cons _ _=>simp
 have gV:(canO g).length≤g.2.1.toNat:=qAc g.2.1.toNat _ af.1 fun y hy=>by have:=af.2.1 y hy;omega
 have dD:=qA af;have vU:Hid (canG g=rnG g (canO g)):=qA rfl;obtain⟨s,rfl,aT,aS,ha⟩:=h;clear hf hg af;generalize hO:canO g=o at*;have kE:=qA hO;clear hO;obtain⟨r,n,es⟩:=g;simp only at bn aE aK gV aT aS ha HG⊢
 obtain⟨A,cap,rfl,a6,hm,_⟩:=ha;unfold maxLen at hm;have bx:Below w.heap.size w ((w.alloc (.cells #[.int .i64 r,.int .i64 n, .slice A es.length cap] 26)).alloc (.cells #[.int .i64 0,.int .i64 0, .slice none 0 0] 26)):=(by repeat(first | exact .refl _ _ | (refine BxS ?_ _) | (refine qD ?_ _) | (refine zaj ?_) | (refine BxA ?_ _)));go_enter Tryz.func169,Tryz.ntmps169
 go_wp2_with fail;obtain⟨W0,am⟩: ∃W,W=(w.alloc (.cells #[.int .i64 r,.int .i64 n, .slice A es.length cap] 26)).alloc (.cells #[.int .i64 0,.int .i64 0, .slice none 0 0] 26):=⟨_,rfl⟩;rw[←am] at bx⊢;have aW:W0.heap.size=w.heap.size+2:=by rw[am];simp
 have B0:Hid (W0.cell? ⟨w.heap.size,0,none⟩=some (.int .i64 r)):=qA (by rw[am];simp[go_sem]);have B1:Hid (W0.cell? ⟨w.heap.size,1,none⟩=some (.int .i64 n)):=qA (by rw[am];simp[go_sem]);have B2:Hid (W0.cell? ⟨w.heap.size,2,none⟩=some (.slice A es.length cap)):=qA (by rw[am];simp[go_sem]);have R0:Hid (W0.cell? ⟨w.heap.size+1,0,none⟩=some (.int .i64 0)):=qA (by rw[am];simp[go_sem]);have R1:Hid (W0.cell? ⟨w.heap.size+1,1,none⟩=some (.int .i64 0)):=qA (by rw[am];simp[go_sem]);have R2:Hid (W0.cell? ⟨w.heap.size+1,2,none⟩=some (.slice none 0 0)):=qA (by rw[am];simp[go_sem]);have RF:Hid (∀j,W0.frozen? ⟨w.heap.size+1,j,none⟩=false):=qA fun j=>by rw[am];simp[go_sem]
 clear am;have BX:=qA bx;refine(qDJ _ (r,n,es) W0 (HG.out.below bx) HF.out).mono ?_
 rintro e w1 ⟨r1,rfl,o1,b1⟩;rw[kE.out] at o1;have O1:=qA o1;have sh:=qA b1;have s1:=b1.size;obtain⟨A1,ah,rfl,Oa,D3,_⟩:=OwI.form o1;unfold maxLen at D3;have q0:=(b1.cell (p:=⟨w.heap.size,0,none⟩) (show w.heap.size<W0.heap.size by omega)).trans B0.out;have q1:=(b1.cell (p:=⟨w.heap.size,1,none⟩) (show w.heap.size<W0.heap.size by omega)).trans B1.out;have q2:=(b1.cell (p:=⟨w.heap.size,2,none⟩) (show w.heap.size<W0.heap.size by omega)).trans B2.out;have g0:((o.length:Int)==0)=false:=by rw[beq_eq_false_iff_ne];omega
 clear o1 b1 bx;go_wp2_with fail;refine(qDF _ _ (r,n,es) o w1 (HG.out.below (BX.out.trans (sh.out.mono tO))) O1.out.rd aH.out dD.out).mono ?_
 rintro e w2 ⟨r2,rfl,o2,b2⟩;have PD:=qA b2;have s2:=b2.size;have O2:=qA o2;obtain⟨sv,rfl,bI,cj,IY⟩:=o2;obtain⟨A2,ak,rfl,Gu,Qg,_⟩:=IY.form;have eu:=((b2.frozen (p:=⟨w.heap.size+1,0,none⟩) (show w.heap.size+1<w1.heap.size by omega)).trans (sh.out.frozen (p:=⟨w.heap.size+1,0,none⟩) (show w.heap.size+1<W0.heap.size by omega))).trans (RF.out 0);have eE:=((b2.frozen (p:=⟨w.heap.size+1,1,none⟩) (show w.heap.size+1<w1.heap.size by omega)).trans (sh.out.frozen (p:=⟨w.heap.size+1,1,none⟩) (show w.heap.size+1<W0.heap.size by omega))).trans (RF.out 1);have eG:=((b2.frozen (p:=⟨w.heap.size+1,2,none⟩) (show w.heap.size+1<w1.heap.size by omega)).trans (sh.out.frozen (p:=⟨w.heap.size+1,2,none⟩) (show w.heap.size+1<W0.heap.size by omega))).trans (RF.out 2);have y5:=((b2.cell (p:=⟨w.heap.size+1,0,none⟩) (show w.heap.size+1<w1.heap.size by omega)).trans (sh.out.cell (p:=⟨w.heap.size+1,0,none⟩) (show w.heap.size+1<W0.heap.size by omega))).trans R0.out;have yB:=((b2.cell (p:=⟨w.heap.size+1,1,none⟩) (show w.heap.size+1<w1.heap.size by omega)).trans (sh.out.cell (p:=⟨w.heap.size+1,1,none⟩) (show w.heap.size+1<W0.heap.size by omega))).trans R1.out;have Au:=((b2.cell (p:=⟨w.heap.size+1,2,none⟩) (show w.heap.size+1<w1.heap.size by omega)).trans (sh.out.cell (p:=⟨w.heap.size+1,2,none⟩) (show w.heap.size+1<W0.heap.size by omega))).trans R2.out;clear b2 q0 q1 q2 IY;generalize rnG (r,n,es) o=D at*;obtain⟨dr,dn,de⟩:=D;simp only at O2 bI cj Gu⊢
 have ac:w.heap.size+1<w2.heap.size:=tO;have hA: ∀ob o',(w2.alloc ob).cell? ⟨w.heap.size+1,o',none⟩=w2.cell? ⟨w.heap.size+1,o',none⟩:=fun ob o'=>zan (zax w2 ob _ ac);have Re: ∀ob o',(w2.alloc ob).frozen? ⟨w.heap.size+1,o',none⟩=w2.frozen? ⟨w.heap.size+1,o',none⟩:=fun ob o'=>zaA (zax w2 ob _ ac);go_wp2;obtain⟨c0,c1,c2⟩:=qDn w2 (w.heap.size+1) (.int .i64 dr) (.int .i64 dn) (.slice A2 de.length ak) y5 yB Au;have BB:Hid (Below w.heap.size w w2):=qA (BX.out.trans ((sh.out.mono tO).trans (PD.out.mono tO)));have bw:Below w.heap.size w (((w2.setCell ⟨w.heap.size+1,0,none⟩ (.int .i64 dr)).setCell ⟨w.heap.size+1,1,none⟩ (.int .i64 dn)).setCell ⟨w.heap.size+1,2,none⟩ (.slice A2 de.length ak)):=(by repeat(first | exact .refl _ _ | (refine BxS ?_ _) | (refine qD ?_ _) | (refine zaj ?_) | (refine BxA ?_ _) | (refine BxT ?_ (Hid.out BB))));have ow:OwE (((w2.setCell ⟨w.heap.size+1,0,none⟩ (.int .i64 dr)).setCell ⟨w.heap.size+1,1,none⟩ (.int .i64 dn)).setCell ⟨w.heap.size+1,2,none⟩ (.slice A2 de.length ak)) w1.heap.size (.slice A2 de.length ak) de:=by
  obtain⟨sv,e,_,_,ha⟩:=O2.out;injection e with e
  have e3:sv= .slice A2 de.length ak:=by injection e with e;injection e with _ e;injection e with _ e;injection e with e _;exact e.symm
  subst e3;exact((ha.far (by show w.heap.size+1<_;omega) _).far (by show w.heap.size+1<_;omega) _).far (by show w.heap.size+1<_;omega) _
 have N8:(((w2.setCell ⟨w.heap.size+1,0,none⟩ (.int .i64 dr)).setCell ⟨w.heap.size+1,1,none⟩ (.int .i64 dn)).setCell ⟨w.heap.size+1,2,none⟩ (.slice A2 de.length ak)).heap.size=w2.heap.size:=by simp
 generalize ((w2.setCell ⟨w.heap.size+1,0,none⟩ (.int .i64 dr)).setCell ⟨w.heap.size+1,1,none⟩ (.int .i64 dn)).setCell ⟨w.heap.size+1,2,none⟩ (.slice A2 de.length ak)=wf at*;have ba: ∀ob,Below wf.heap.size wf (wf.alloc ob):=fun ob=>(zag _ _).alloc (zab _) _;have fh: ∀ob o',(wf.alloc ob).cell? ⟨w.heap.size+1,o',none⟩=wf.cell? ⟨w.heap.size+1,o',none⟩:=fun ob o'=>zan (zax wf ob (w.heap.size+1) (show w.heap.size+1<wf.heap.size by omega));refine bodyPost_ret (v:= .agg #[.int .i64 dr, .int .i64 dn, .slice A2 de.length ak]) (by simp[results,Tryz.results169,go_sem,fh,c0,c1,c2]) rfl ⟨_,rfl,?_,bw.trans ((ba _).mono bw.size)⟩;rw[vU.out];exact⟨_,rfl,bI,cj,(ow.below (ba _)).mono tO⟩
section
variable {w w':World} {v:Value} {ds:List GrD} {lo hi:Nat}
end
def qR (g:GrD):Bool:=qb g&&decide (qk g.2.2 g.2.1.toNat<0)&&decide (canG g=g)
theorem qGt (v:Value) (g:GrD) (w:World) (h:ArgG w v g):
  Calls Tryz.prog 147 #[v] w fun e w'=>e= .returned (.bool (qR g))∧Below w.heap.size w w':=by
 have HG:=qA h;obtain⟨s,rfl,aT,aS,ha⟩:=h;have HC:Hid (qR g=(qb g&&decide (qk g.2.2 g.2.1.toNat<0)&&decide (canG g=g))):=qA rfl;generalize qR g=cb at*;clear ha;go_enter Tryz.func147,Tryz.ntmps147
 go_wp2_with fail;have bx:Below w.heap.size w (w.alloc (.cells #[.int .i64 g.1,.int .i64 g.2.1,s] 26)):=(by repeat(first | exact .refl _ _ | (refine BxS ?_ _) | (refine qD ?_ _) | (refine zaj ?_) | (refine BxA ?_ _)));have l0:(w.alloc (.cells #[.int .i64 g.1,.int .i64 g.2.1,s] 26)).cell? ⟨w.heap.size,0,none⟩=some (.int .i64 g.1):=by simp[go_sem]
 have l1:(w.alloc (.cells #[.int .i64 g.1,.int .i64 g.2.1,s] 26)).cell? ⟨w.heap.size,1,none⟩=some (.int .i64 g.2.1):=by simp[go_sem]
 have l2:(w.alloc (.cells #[.int .i64 g.1,.int .i64 g.2.1,s] 26)).cell? ⟨w.heap.size,2,none⟩=some s:=by simp[go_sem]
 have sA:w.heap.size<(w.alloc (.cells #[.int .i64 g.1,.int .i64 g.2.1,s] 26)).heap.size:=by simp
 generalize w.alloc (.cells #[.int .i64 g.1,.int .i64 g.2.1,s] 26)=W at bx l0 l1 l2 sA⊢;have BX:=qA bx;have HA:Hid (∀w',Below W.heap.size W w'→ArgG w' (.agg #[.int .i64 g.1, .int .i64 g.2.1,s]) g):=qA fun w' hb=>HG.out.below (BX.out.trans (hb.mono tO));clear bx;have fg:=fun w' hb=>qAI _ g w' (HA.out w' hb);rcases e1:qb g with _ | _
 ·have HF:=qA e1;have HR:Hid (cb=false):=qA (by rw[HC.out,e1];rfl);simp only[e1] at fg;have jt:=qA fg;clear e1 fg;have f0:=BelW.cell l0 sA;have f1:=BelW.cell l1 sA;have f2:=BelW.cell l2 sA;(refine qH tK tK ?_;(repeat(go_big_quiet_step (first | (go_at_call 148;exact Calls.bel_of (jt.out _ (BelW.h _))))));refine wpQuiet_nil ?_;intro wq aA;obtain⟨pq,ae⟩:=aA;have bq:=pq.h;rw[←ae] at bq;clear ae pq)
  go_wp2;exact bodyPost_ret (v:= .bool false) (by simp[results,Tryz.results147]) rfl ⟨by rw[HR.out],BX.out.trans (bq.mono (zaM sA))⟩
 ·have HF:=qA e1;have hg:=(qE e1).1;simp only[e1] at fg;have jt:=qA fg;clear fg;have aH:=qA hg;have Cz:Hid (qk g.2.2 g.2.1.toNat=qk g.2.2 g.2.1.toNat):=qA rfl;have L8:=qA (fun w' hb=>qGv _ g w' (HA.out w' hb) aH.out);generalize qk g.2.2 g.2.1.toNat=lv at*;clear hg;by_cases hl:lv<0
  ·have HR:Hid (cb=decide (canG g=g)):=qA (by rw[HC.out,e1];simp[hl]);clear e1;go_region_held3 (fun w'=>w'.cell? ⟨w.heap.size,0,none⟩=some (.int .i64 g.1)∧w'.cell? ⟨w.heap.size,1,none⟩=some (.int .i64 g.2.1)∧w'.cell? ⟨w.heap.size,2,none⟩=some s)
    (first | go_keep | exact⟨q0,q1,q2⟩)
    (first
     | (go_at_call 148;refine(qAI _ g _ (HA.out _ (zag _ _).drew)).mono ?_;rintro e' w1 ⟨rfl,b1⟩;rw[HF.out];have B1:=qA ((zag _ W).drew.trans b1);have q0:=(B1.out.cell (p:=⟨w.heap.size,0,none⟩) sA).trans l0;have q1:=(B1.out.cell (p:=⟨w.heap.size,1,none⟩) sA).trans l1;have q2:=(B1.out.cell (p:=⟨w.heap.size,2,none⟩) sA).trans l2;clear b1)
     | (go_at_call 203;refine(L8.out _ B1.out).mono ?_;rintro e' w2 ⟨rfl,b2⟩;have B2:=qA (B1.out.trans (b2.mono B1.out.size));have q0:=(B2.out.cell (p:=⟨w.heap.size,0,none⟩) sA).trans l0;have q1:=(B2.out.cell (p:=⟨w.heap.size,1,none⟩) sA).trans l1;have q2:=(B2.out.cell (p:=⟨w.heap.size,2,none⟩) sA).trans l2;clear b2)
     | (go_at_call 169;refine(qBU _ g _ (HA.out _ B2.out) HF.out).mono ?_;rintro e' w3 ⟨r3,rfl,o3,b3⟩;have B3:=qA (B2.out.trans (b3.mono B2.out.size));have O3:=qA o3;have q0:=(B3.out.cell (p:=⟨w.heap.size,0,none⟩) sA).trans l0;have q1:=(B3.out.cell (p:=⟨w.heap.size,1,none⟩) sA).trans l1;have q2:=(B3.out.cell (p:=⟨w.heap.size,2,none⟩) sA).trans l2;clear b3 o3)
     | (go_at_call 47;refine(qEW _ _ (canG g) g _ O3.out.arg (HA.out _ B3.out)).mono ?_;rintro e' w4 ⟨rfl,b4⟩;have B4:=qA (B3.out.trans (b4.mono B3.out.size));have q0:=(B4.out.cell (p:=⟨w.heap.size,0,none⟩) sA).trans l0;have q1:=(B4.out.cell (p:=⟨w.heap.size,1,none⟩) sA).trans l1;have q2:=(B4.out.cell (p:=⟨w.heap.size,2,none⟩) sA).trans l2;clear b4))
   go_wp2;exact bodyPost_ret (v:= .bool (decide (canG g=g))) (by simp[results,Tryz.results147]) rfl ⟨by rw[HR.out],BX.out.trans (B4.out.mono (zaM sA))⟩
  ·have HR:Hid (cb=false):=qA (by rw[HC.out,e1];simp[hl]);clear e1;have f0:=BelW.cell l0 sA;have f1:=BelW.cell l1 sA;have f2:=BelW.cell l2 sA;(refine qH tK tK ?_;(repeat(go_big_quiet_step (first | (go_at_call 148;exact Calls.bel_of (jt.out _ (BelW.h _))) | (go_at_call 203;exact Calls.bel_of (L8.out _ (BelW.h _))))));refine wpQuiet_nil ?_;intro wq aA;obtain⟨pq,ae⟩:=aA;have bq:=pq.h;rw[←ae] at bq;clear ae pq)
   go_wp2;exact bodyPost_ret (v:= .bool false) (by simp[results,Tryz.results147]) rfl ⟨by rw[HR.out],BX.out.trans (bq.mono (zaM sA))⟩
def qFc (g:GrD):Int:=if qR g then(g.2.2.length:Int)-g.2.1+1 else-1
theorem qZ {g:GrD} (h:qR g=true):grB g=true:=by
 unfold qR at h;simp only[zat] at h;exact(qE h.1.1).1
theorem qAH (v:Value) (g:GrD) (w:World) (h:ArgG w v g):
  Calls Tryz.prog 68 #[v] w fun e w'=>e= .returned (.bool (qR g))∧Below w.heap.size w w':=by
 have HG:=qA h;obtain⟨s,rfl,aT,aS,ha⟩:=h;clear ha;go_enter Tryz.func68,Tryz.ntmps68
 go_wp2_with fail;have bx:Below w.heap.size w (w.alloc (.cells #[.int .i64 g.1,.int .i64 g.2.1,s] 26)):=(by repeat(first | exact .refl _ _ | (refine BxS ?_ _) | (refine qD ?_ _) | (refine zaj ?_) | (refine BxA ?_ _)));refine(qGt _ g _ (HG.out.below bx)).mono ?_
 rintro e w1 ⟨rfl,b1⟩;have b2:=bx.trans (b1.mono bx.size);go_wp2;exact bodyPost_ret (v:= .bool (qR g)) (by simp[results,Tryz.results68]) rfl ⟨rfl,b2⟩
theorem qEC (v:Value) (g:GrD) (w:World) (h:ArgG w v g):
  Calls Tryz.prog 16 #[v] w fun e w'=>e= .returned (.int .i64 (qFc g))∧Below w.heap.size w w':=by
 have HG:=qA h;obtain⟨s,rfl,aT,aS,ha⟩:=h;obtain⟨A,cap,rfl,a6,hm,_⟩:=ha;have HP:Hid (qR g=true→g.2.1≤40∧1≤g.2.1∧g.2.2.length≤120):=qA fun e=>by
  obtain⟨_,h1,h2,_⟩:=qB (qZ e);exact⟨h1.2,h1.1,h2⟩
 have HR:Hid (qFc g=if qR g then(g.2.2.length:Int)-g.2.1+1 else-1):=qA rfl;generalize qFc g=rk at*;go_enter Tryz.func16,Tryz.ntmps16
 go_wp2_with fail;have bx:Below w.heap.size w (w.alloc (.cells #[.int .i64 g.1,.int .i64 g.2.1, .slice A g.2.2.length cap] 26)):=(by repeat(first | exact .refl _ _ | (refine BxS ?_ _) | (refine qD ?_ _) | (refine zaj ?_) | (refine BxA ?_ _)));have l1:(w.alloc (.cells #[.int .i64 g.1,.int .i64 g.2.1, .slice A g.2.2.length cap] 26)).cell? ⟨w.heap.size,1,none⟩=some (.int .i64 g.2.1):=by simp[go_sem]
 have l2:(w.alloc (.cells #[.int .i64 g.1,.int .i64 g.2.1, .slice A g.2.2.length cap] 26)).cell? ⟨w.heap.size,2,none⟩=some (.slice A g.2.2.length cap):=by simp[go_sem]
 have sA:w.heap.size<(w.alloc (.cells #[.int .i64 g.1,.int .i64 g.2.1, .slice A g.2.2.length cap] 26)).heap.size:=by simp
 have ax:=HG.out.below bx;generalize w.alloc (.cells #[.int .i64 g.1,.int .i64 g.2.1, .slice A g.2.2.length cap] 26)=W at bx l1 l2 sA ax⊢;refine(qAH _ g _ ax).mono ?_
 rintro e w1 ⟨rfl,b1⟩;have B2:=qA (bx.trans (b1.mono bx.size));have c1:=(b1.cell (p:=⟨w.heap.size,1,none⟩) sA).trans l1;have c2:=(b1.cell (p:=⟨w.heap.size,2,none⟩) sA).trans l2;clear b1 bx l1 l2 ax;rcases e1:qR g with _ | _
 ·have fO:Hid (rk= -1):=qA (by rw[HR.out,e1];rfl);clear e1;go_wp2;exact bodyPost_ret (v:= .int .i64 (-1)) (by simp[results,Tryz.results16]) rfl ⟨by rw[fO.out],B2.out⟩
 ·obtain⟨p1,p2,p3⟩:=HP.out e1;have fO:Hid (rk=(g.2.2.length:Int)-g.2.1+1):=qA (by rw[HR.out,e1,if_pos rfl]);clear e1;go_wp2;exact bodyPost_ret (v:= .int .i64 ((g.2.2.length:Int)-g.2.1+1)) (by simp[results,Tryz.results16];try(go_num)) rfl ⟨by rw[fO.out],B2.out⟩
section
open Go.RowKit Go.Shelf Go.Lib Go.Sort
def Tryz.sortE_ren:Go.Shelf.Ren:=⟨fun | 6=>217 | 15=>234 | 14=>236 | 28=>252 | 29=>253 | 20=>255 | 21=>256 | 22=>257 | 23=>258 | 24=>259 | 25=>260 | 26=>261 | 27=>262 | 46=>272 | 47=>267 | 48=>268 | 49=>273 | 50=>274 | 57=>277 | n=>n,fun | 22=>24 | 24=>97 | 25=>157 | 3=>3 | 39=>174 | 0=>0 | 53=>187 | 55=>189 | 4=>4 | 46=>181 | 45=>180 | 50=>80 | 5=>5 | 9=>9 | 66=>198 | 70=>202 | 76=>207 | 77=>30 | n=>n,fun | n=>n⟩
theorem Tryz.sortE:Go.Proofs.SlLaysF0.n6 Tryz.prog Tryz.sortE_ren:= {
 mixed:=by kernel_rfl,
 f6:=⟨Tryz.f217.name,by decide,Tryz.func217.trans (congrArg some tK)⟩,
 f14:=⟨Tryz.f236.name,by decide,Tryz.func236.trans (congrArg some tK)⟩,
 f15:=Tryz.func234.trans (congrArg some tK),
 f20:=⟨Tryz.f255.name,by decide,Tryz.func255.trans (congrArg some tK)⟩,
 f21:=⟨Tryz.f256.name,by decide,Tryz.func256.trans (congrArg some tK)⟩,
 f22:=⟨Tryz.f257.name,by decide,Tryz.func257.trans (congrArg some tK)⟩,
 f23:=⟨Tryz.f258.name,by decide,Tryz.func258.trans (congrArg some tK)⟩,
 f24:=⟨Tryz.f259.name,by decide,Tryz.func259.trans (congrArg some tK)⟩,
 f25:=⟨Tryz.f260.name,by decide,Tryz.func260.trans (congrArg some tK)⟩,
 f26:=⟨Tryz.f261.name,by decide,Tryz.func261.trans (congrArg some tK)⟩,
 f27:=⟨Tryz.f262.name,by decide,Tryz.func262.trans (congrArg some tK)⟩,
 f28:=Tryz.func252.trans (congrArg some tK),
 f29:=Tryz.func253.trans (congrArg some tK),
 f46:=⟨Tryz.f272.name,by decide,Tryz.func272.trans (congrArg some tK)⟩,
 f47:=Tryz.func267.trans (congrArg some tK),
 f48:=Tryz.func268.trans (congrArg some tK),
 f49:=⟨Tryz.f273.name,by decide,Tryz.func273.trans (congrArg some tK)⟩,
 f50:=⟨Tryz.f274.name,by decide,Tryz.func274.trans (congrArg some tK)⟩,
 f57:=⟨Tryz.f277.name,by decide,Tryz.func277.trans (congrArg some tK)⟩,
 t0:=Tryz.underlying0,
 a0:=Tryz.isAgg0,
 z0:=Tryz.sizeOf0,
 v0:=Tryz.zeroValue0,
 t3:=Tryz.underlying3,
 a3:=Tryz.isAgg3,
 z3:=Tryz.sizeOf3,
 v3:=Tryz.zeroValue3,
 t4:=Tryz.underlying4,
 a4:=Tryz.isAgg4,
 z4:=Tryz.sizeOf4,
 v4:=Tryz.zeroValue4,
 t5:=Tryz.underlying5,
 a5:=Tryz.isAgg5,
 z5:=Tryz.sizeOf5,
 v5:=Tryz.zeroValue5,
 t9:=Tryz.underlying9,
 a9:=Tryz.isAgg9,
 z9:=Tryz.sizeOf9,
 v9:=Tryz.zeroValue9,
 t22:=Tryz.underlying24,
 a22:=Tryz.isAgg24,
 z22:=Tryz.sizeOf24,
 v22:=Tryz.zeroValue24,
 t25:=Tryz.underlying157,
 a25:=Tryz.isAgg157,
 z25:=Tryz.sizeOf157,
 v25:=Tryz.zeroValue157,
 t39:=Tryz.underlying174,
 a39:=Tryz.isAgg174,
 z39:=Tryz.sizeOf174,
 v39:=Tryz.zeroValue174,
 t45:=Tryz.underlying180,
 a45:=Tryz.isAgg180,
 z45:=Tryz.sizeOf180,
 v45:=Tryz.zeroValue180,
 t46:=Tryz.underlying181,
 a46:=Tryz.isAgg181,
 z46:=Tryz.sizeOf181,
 v46:=Tryz.zeroValue181,
 t50:=Tryz.underlying80,
 a50:=Tryz.isAgg80,
 z50:=Tryz.sizeOf80,
 v50:=Tryz.zeroValue80,
 t53:=Tryz.underlying187,
 a53:=Tryz.isAgg187,
 z53:=Tryz.sizeOf187,
 v53:=Tryz.zeroValue187,
 t55:=Tryz.underlying189,
 a55:=Tryz.isAgg189,
 z55:=Tryz.sizeOf189,
 v55:=Tryz.zeroValue189,
 t66:=Tryz.underlying198,
 a66:=Tryz.isAgg198,
 z66:=Tryz.sizeOf198,
 v66:=Tryz.zeroValue198,
 t70:=Tryz.underlying202,
 a70:=Tryz.isAgg202,
 z70:=Tryz.sizeOf202,
 v70:=Tryz.zeroValue202,
 t76:=Tryz.underlying207,
 a76:=Tryz.isAgg207,
 z76:=Tryz.sizeOf207,
 v76:=Tryz.zeroValue207,
 t77:=Tryz.underlying30,
 a77:=Tryz.isAgg30,
 z77:=Tryz.sizeOf30,
 v77:=Tryz.zeroValue30}
theorem qNL:SWO (ltOf cmpE) where
 irrefl x:=by
  unfold ltOf;simpa using qAD.irrefl x
 trans x y z h1 h2:=by
  unfold ltOf at*;simp only[decide_eq_true_eq] at*;exact qAD.trans h1 h2
 ntrans x y z h1 h2:=by
  unfold ltOf at*;simp only[decide_eq_false_iff_not] at*;rw[qFw] at*;omega
theorem qDV (a b:EdD) (w:World):
  Calls Tryz.prog 218 #[edV a,edV b] w fun e w'=>e= .returned (.int .i64 (cmpE a b))∧ ∃q os',w'=grow (w.drewN q) os':=by
 obtain⟨x,y,z⟩:=a;obtain⟨x',y',z'⟩:=b;unfold edV;rcases e1:(cmpI x x' != 0) with _ | _
 ·rcases e2:(cmpI y y' != 0) with _ | _
  ·have F:Hid (cmpE (x,y,z) (x',y',z')=cmpI z z'):=qA (by simp at e1 e2;simp[cmpE,e1,e2]);go_enter Tryz.func218,Tryz.ntmps218
   go_wp2_with (go_at_call 237;refine(qAZ _ _ _).mono ?_;rintro e w' ⟨rfl,rfl⟩)
   go_ret;exact⟨qAW F.out.symm,0,_,by rw[alloc_eq_grow,alloc_eq_grow,grow_grow];rfl⟩
  ·have F:Hid (cmpE (x,y,z) (x',y',z')=cmpI y y'):=qA (by simp at e1 e2;simp[cmpE,e1,e2]);go_enter Tryz.func218,Tryz.ntmps218
   go_wp2_with (go_at_call 237;refine(qAZ _ _ _).mono ?_;rintro e w' ⟨rfl,rfl⟩)
   go_ret;exact⟨qAW F.out.symm,0,_,by rw[alloc_eq_grow,alloc_eq_grow,grow_grow];rfl⟩
 ·have F:Hid (cmpE (x,y,z) (x',y',z')=cmpI x x'):=qA (by simp at e1;simp[cmpE,e1]);go_enter Tryz.func218,Tryz.ntmps218
  go_wp2_with (go_at_call 237;refine(qAZ _ _ _).mono ?_;rintro e w' ⟨rfl,rfl⟩)
  go_ret;exact⟨qAW F.out.symm,0,_,by rw[alloc_eq_grow,alloc_eq_grow,grow_grow];rfl⟩
theorem qGK (e:EdD):(edC e).length=3:=rfl
theorem qOi (e:EdD) (v:Value) (h:v∈edC e):v.oneCell'=true:=by
 simp[edC] at h
 rcases h with rfl | rfl | rfl<;>rfl
theorem qIe (d:Array EdD) (j:Nat) (h:j<d.size*3):(flatK edC 3 d)[j]! =(edC d[j/3]!)[j%3]! :=by
 unfold flatK;rw[getElem!_pos _ _ (by simpa using h)];simp
theorem qLN (es:List EdD) (j:Nat) (h:j<es.length*3):(edCs es)[j]? =some ((edC (es.toArray)[j/3]!)[j%3]!):=by
 have hk:j/3<es.length:=tO;have:=qHi es (j/3) (j%3) hk tO
 rw[show j/3*3+j%3=j by omega] at this;rw[this,zaf (show j%3<(edC es[j/3]).length by rw[qGK];omega)];rw[getElem!_pos (es.toArray) _ (by simpa using hk),getElem!_pos _ _ (by rw[qGK];omega)];simp
theorem OwE.holdsK {w:World} {base g n cap:Nat} {es:List EdD} (h:OwE w base (.slice (some ⟨g,0,none⟩) n cap) es):HoldsK edC 3 w g 0 es.toArray:=by
 have hn:n=es.length:=by
  rcases h.1.2 with ⟨hv,_⟩ | ⟨g',cap',cur,hv,_⟩
  ·cases hv
  ·injection hv
 subst hn;intro j hj;have lW:j<es.length*3:=by simpa[flatK] using hj
 refine⟨?_,h.free _⟩;rw[zap,h.1.cellAt j lW,qIe _ _ (by simpa using lW)];exact qLN es j lW
theorem qHk {w:World} {base g n cap:Nat} {es:List EdD} (h:OwE w base (.slice (some ⟨g,0,none⟩) n cap) es) (d:Array EdD) (hd:d.size=es.length) (hE:E64s d.toList) (q:Nat) (os:Array Obj):
  OwE (sortWorldK edC 3 w g 0 q d os) base (.slice (some ⟨g,0,none⟩) n cap) d.toList∧w.grownBy (sortWorldK edC 3 w g 0 q d os) (some g):=by
 have ac:=(h.1.lt g rfl).2;have fM: ∀b,b<w.heap.size→(sortWorldK edC 3 w g 0 q d os).heap[b]? =if g=b then(w.heap[b]?).map (onCells (putCells id 0 (flatK edC 3 d))) else w.heap[b]? :=by
  intro b hb;show((w.heap.modify g (onCells (putCells id 0 (flatK edC 3 d))))++os)[b]? =_
  rw[Array.getElem?_append_left (by simpa using hb),Array.getElem?_modify]
 refine⟨⟨⟨by rw[qBs],?_⟩,hE⟩,rfl,rfl,rfl,?_,fun b hb ai=> ?_⟩
 ·rcases h.1.2 with ⟨hv,_⟩ | ⟨g',cap',cur,hv,hg,hh,hnc,mC,gN,htake⟩
  ·cases hv
  ·injection hv with e1 e2 e3
   injection e1 with e1
   injection e1 with e1
   subst e1 e2 e3;refine .inr ⟨g,cap,putCells id 0 (flatK edC 3 d) cur,by simp[hd],hg,?_,by simp[hd];exact hnc,mC,by simp[putCells,gN],?_⟩
   ·rw[fM g ac,if_pos rfl,hh];rfl
   ·apply zaw
    intro j;rw[List.getElem?_take];split
    ·rename_i hj
     rw[Array.length_toList] at hj;have zS:j<cur.size:=by rw[gN];have:d.size*3≤cap*3:=Nat.mul_le_mul_right 3 tO;omega
     rw[qLN _ _ (by simpa using hj),Array.getElem?_toList];simp only[putCells,Array.getElem?_mapIdx];rw[Array.getElem?_eq_getElem zS];simp only[zaU,zal,true_and,zap,Nat.sub_zero,id];rw[if_pos (by simpa[flatK] using hj),qIe _ _ hj]
    ·rename_i hj
     rw[zaB (by rw[qBs];omega)]
 ·show w.heap.size≤((w.heap.modify g (onCells (putCells id 0 (flatK edC 3 d))))++os).size
  simp
 ·rw[fM b hb,if_neg (fun e=>ai (by rw[e]))]
theorem qJF (g n cap base:Nat) (es:List EdD) (w:World) (h:OwE w base (.slice (some ⟨g,0,none⟩) n cap) es) (hl:es.length≤1073741824):
  Calls Tryz.prog 217 #[.slice (some ⟨g,0,none⟩) n cap, .func (.func 218) #[] #[]] w fun e w'=>
   e= .returned (.tuple #[])∧ ∃es',OwE w' base (.slice (some ⟨g,0,none⟩) n cap) es'∧es'.Perm es∧(es'.Pairwise fun a b=> ¬0<cmpE a b)∧w.grownBy w' (some g):=by
 have hn:n=es.length:=by
  rcases h.1.2 with ⟨hv,_⟩ | ⟨g',cap',cur,hv,_⟩
  ·cases hv
  ·injection hv
 subst hn;have eg: ∀args w,(callFunc 218 args).run Tryz.prog w= .ok (.enter 218 args) w:=enters_of Tryz.func218 tK rfl;have zF:=AnyQ.slices_SortFunc Tryz.sortE 3 Tryz.isAgg97 Tryz.sizeOf97 edC qGK qOi cmpE qNL 218 #[] g 0 cap es.toArray w eg (fun _ _ _ _ x y=>qDV x y _) h.holdsK (h.1.lt g rfl).2 (by simp;omega);change Calls Tryz.prog 217 _ _ _ at zF;refine zF.mono ?_;rintro e w' ⟨rfl,d,q,os,hp,hs,rfl⟩;obtain⟨p1,_,p3⟩:=hp;have th:d.toList.Perm es:=by
  have e1:d.extract 0 es.toArray.size=d:=by rw[←p1];simp
  have e2:es.toArray.extract 0 es.toArray.size=es.toArray:=by simp
  rw[e1,e2] at p3;simpa using p3
 have hE:E64s d.toList:=fun x hx=>h.2 x (th.mem_iff.1 hx);obtain⟨o1,g1⟩:=qHk h d (by simpa using p1) hE q os;refine⟨rfl,d.toList,o1,th,?_,g1⟩;rw[zad];intro i j hi hj eC;have eR:i<d.size:=by simpa using hi
 have lW:j<d.size:=by simpa using hj
 have:=hs i j (zal _) eC (by rw[←p1];exact lW)
 unfold ltOf at this;rw[decide_eq_false_iff_not,getElem!_pos d j lW,getElem!_pos d i eR] at this;rw[zaD,zaD];intro h0;exact this (qAD.anti.2 h0)
end
theorem qIx (A:Option Addr) (n cap:Nat) (es:List EdD) (w:World) (h:ArgE w (.slice A n cap) es) (hs:Srt cmpE es):
  Calls Tryz.prog 219 #[.slice A n cap] w fun e w'=>e= .returned (.slice A n cap)∧ ∃q,w'=w.drewN q:=by
 have H:=qA h;obtain⟨A',cap',hv,a6,hm,_⟩:=h;injection hv with e1 e2 e3
 subst e1 e2 e3;unfold maxLen at hm;have HS:=qA hs;clear hs;by_cases al:es.length<2
 ·have h1:(es.length:Int)<2:=tO;go_enter Tryz.func219,Tryz.ntmps219
  go_wp2;go_ret;exact⟨rfl,0,rfl⟩
 ·have h1: ¬(es.length:Int)<2:=tO;go_enter Tryz.func219,Tryz.ntmps219
  go_wp2;go_loopw [3] (fun i wr=> ∃k:Nat,k+1≤es.length∧i= .int .i64 ((k:Int)+1)∧ ∃q,wr=w.drewN q) (fun i _=>es.length-(intOf i).toNat)
  case atStart=>exact⟨0,tO,rfl,0,rfl⟩
  case round=>
   obtain⟨k,hk,rfl,q,rfl⟩:=hrel;by_cases ac:k+1<es.length
   ·obtain⟨b,off,rfl,dv,c0,c1,c2,_⟩:=H.out.at ac;obtain⟨b2,iT,fh,_,d0,d1,d2,_⟩:=H.out.at (k:=k) tO;obtain⟨rfl,rfl⟩:b=b2∧off=iT:=by simpa using fh
    have ai:decide (es[k+1]=es[k])=false:=by
     rw[decide_eq_false_iff_not];intro e;have:=(zad.1 HS.out) k (k+1) tO ac tO
     rw[e] at this;exact qAD.irrefl _ this
    have i0:(0:Int)≤(k:Int):=tO;have i1:(k:Int)<(es.length:Int):=tO;have i2:(k:Int)+1<(es.length:Int):=tO;have i3:(0:Int)≤(k:Int)+1:=tO;have i4:((k:Int)+1).toNat=k+1:=tO;have i5:IntKind.i64.wrap ((k:Int)+1-1)=(k:Int):=by rw[IntKind.wrap_i64];omega
    clear fh;have iK:=fun w=>qHL es[k+1] es[k] w;rw[ai] at iK;unfold edV at iK;have dH:=qCg;generalize es[k]=y at*;generalize es[k+1]=x at*;go_wp2;go_quiet (fail)
    go_wp2;go_roundw
    case rel=>exact⟨k+1,tO,by go_num,_,rfl⟩
    case measure=>simp[intOf];omega
   ·have du:k+1=es.length:=tO;have i2: ¬(k:Int)+1<(es.length:Int):=tO;go_wp2;go_ret;exact⟨rfl,q,rfl⟩
theorem qKs (v:Value) (es:List EdD) (w:World) (h:ArgE w v es) (eL:es.Nodup) (hl:es.length≤1073741824):
  Calls Tryz.prog 173 #[v] w fun e w'=> ∃r,e= .returned r∧OwE w' w.heap.size r (srt cmpE es)∧Below w.heap.size w w':=by
 have H:=qA h;obtain⟨A,cap,rfl⟩:=h.form;clear h;go_enter Tryz.func173,Tryz.ntmps173
 go_wp2_with (at_builtin;refine qFN rfl (.tmp 4) (.tmp 5) rfl w.heap.size _ [] (qJM _ (zab _)) rfl _ es (H.out.alloc _) rfl (by simp;omega) (by simp) ?_;intro v1 w1 o1 g1 p1)
 have O1:Hid (OwE w1 w.heap.size v1 es):=qA (by simpa using o1);have B1:Hid (Below w.heap.size w w1):=qA (((zag _ _).alloc (zab _) _).grown g1 (by simp) (fun k hk=>by simp[zac] at hk;omega));obtain⟨g,ah,rfl⟩: ∃g ah,v1= .slice (some ⟨g,0,none⟩) es.length ah:=by
  obtain⟨A1,ah,rfl,_⟩:=O1.out.form;rcases O1.out.1.2 with ⟨hv,_⟩ | ⟨g',cap',cur,hv,_⟩
  ·rw[hv] at p1;simp[zac] at p1
  ·injection hv with e1 e2 e3
   subst e1;exact⟨g',ah,rfl⟩
 clear g1 o1 p1;refine(qJF g es.length ah w.heap.size es w1 O1.out hl).mono ?_
 rintro e w2 ⟨rfl,es',o2,hp,zU,g2⟩;have yW:es'.Nodup:=hp.nodup_iff.2 eL;have hS:Srt cmpE es':=(zU.and yW).imp fun {a b} ⟨h1,h2⟩=>by
  have:cmpE a b≠0:=fun e=>h2 (qBe.1 e)
  omega
 have hE:es'=srt cmpE es:=qKA qAD hS fun x=>hp.mem_iff;have O2:=qA o2;have B2:=qA (B1.out.grown g2 B1.out.size (fun k hk=>by cases hk;exact(O1.out.1.lt g rfl).1));have HE:=qA hE;have HS:=qA hS;clear o2 g2 hp zU yW hE hS;go_wp2_with fail;refine(qIx _ _ _ es' w2 O2.out.arg HS.out).mono ?_
 rintro e w3 ⟨rfl,q,rfl⟩;go_wp2;go_ret;exact⟨_,rfl,by rw[←HE.out];exact O2.out.drewN q,qD B2.out q⟩
def ddAt (es:List EdD) (j:Nat):List EdD:=if 0<j∧es.getD j (0,0,0)=es.getD (j-1) (0,0,0) then [] else [es.getD j (0,0,0)]
def ddU (es:List EdD):Nat→List EdD
 | 0=> []
 | j+1=>ddU es j++ddAt es j
theorem qGO {es:List EdD} {j:Nat} (h0:0<j) (hj:j<es.length) (h:es[j]=es[j-1]):ddU es (j+1)=ddU es j:=by
 show ddU es j++ddAt es j=_
 unfold ddAt;rw[if_pos ⟨h0,by simp[za0,hj,show j-1<es.length by omega,h]⟩,List.append_nil]
theorem qEe {es:List EdD} {j:Nat} (hj:j<es.length) (h: ∀_:0<j,es[j]≠es[j-1]):ddU es (j+1)=ddU es j++ [es[j]]:=by
 show ddU es j++ddAt es j=_
 unfold ddAt;rw[if_neg]
 ·simp[za0,hj]
 ·rintro⟨h0,e⟩
  exact h h0 (by simpa[za0,hj,show j-1<es.length by omega] using e)
theorem qKQ {es:List EdD} (hs:es.Pairwise fun a b=>cmpE a b≤0): ∀j,j≤es.length→Srt cmpE (ddU es j)∧ ∀x,x∈ddU es j↔x∈es.take j
 | 0,_=>⟨List.Pairwise.nil,fun x=>by simp[ddU]⟩
 | j+1,hj=>by
   obtain⟨h1,h2⟩:=qKQ hs j tO;have dS:j<es.length:=tO;have ht:es.take (j+1)=es.take j++ [es[j]]:=zai dS;by_cases hd: ∃h0:0<j,es[j]=es[j-1]
   ·obtain⟨h0,e⟩:=hd;rw[qGO h0 dS e];refine⟨h1,fun x=> ?_⟩;rw[h2,ht,zau,zaq];refine⟨.inl,fun h=> ?_⟩;rcases h with h | h
    ·exact h
    ·rw[h,e];exact zaE.2 ⟨j-1,by rw[zak];omega,by rw[zar]⟩
   ·rw[qEe dS fun h0 e=>hd ⟨h0,e⟩];refine⟨List.pairwise_append.2 ⟨h1,List.pairwise_singleton _ _,fun x hx y hy=> ?_⟩,fun x=> ?_⟩
    ·rw[zaq.1 hy];obtain⟨i,hi,rfl⟩:=zaE.1 ((h2 x).1 hx);rw[zak] at hi;rw[zar];have ii:=(zad.1 hs) i j tO dS tO;have h0:0<j:=tO;have ai:cmpE es[j-1] es[j]≠0:=fun e=>hd ⟨h0,(qBe.1 e).symm⟩;have xD:=(zad.1 hs) (j-1) j tO dS tO;by_cases eC:i=j-1
     ·subst eC;omega
     ·have jY:=(zad.1 hs) i (j-1) tO tO tO;by_cases h3:cmpE es[i] es[j-1]=0
      ·rw[qBe.1 h3];omega
      ·exact qAD.trans tO (show cmpE es[j-1] es[j]<0 by omega)
    ·rw[zau,h2,ht,zau]
theorem qOf {es:List EdD} (hs:es.Pairwise fun a b=>cmpE a b≤0) {L:List EdD} (hm: ∀x,x∈es↔x∈L):ddU es es.length=srt cmpE L:=by
 obtain⟨h1,h2⟩:=qKQ hs es.length (zab _);exact qKA qAD h1 fun x=>by rw[h2,zae,hm]
theorem qMa {w:World} {base g cap k o:Nat} {es:List EdD} (h:OwE w base (.slice (some ⟨g,0,none⟩) k cap) es) (ho:k*3≤o): ∀(vs:List Value) (o':Nat),o≤o'→OwE (w.setCells g o' vs) base (.slice (some ⟨g,0,none⟩) k cap) es∧w.grownBy (w.setCells g o' vs) (some g):=by
 intro vs;induction vs generalizing w with
 | nil=>intro o' _;exact⟨h,zaF.refl _ _⟩
 | cons v vs ih=>
   intro o' cC;have hk:k=es.length:=by
    obtain⟨_,_,hv,_⟩:=OwE.form h;injection hv
   subst hk;have hst:=zas.stored h.1 o' v;have hl:=h.1.1;rw[List.set_eq_of_length_le tO] at hst;obtain⟨i1,i2⟩:=ih (w:=w.setCell ⟨g,o',none⟩ v) ⟨hst.1,h.2⟩ (o'+1) tO;exact⟨i1,hst.2.trans i2⟩
theorem OwE.head {w:World} {base g n cap k:Nat} {es:List EdD} (h:OwE w base (.slice (some ⟨g,0,none⟩) n cap) es) (hk:k≤es.length):OwE w base (.slice (some ⟨g,0,none⟩) k cap) (es.take k):=by
 have hn:n=es.length:=by
  obtain⟨_,_,hv,_⟩:=OwE.form h;injection hv
 subst hn;have h1:=qHw h.1 rfl hk;refine⟨?_,fun e he=>h.2 e (List.mem_of_mem_take he)⟩;have hl:(es.take k).length=k:=by rw[zak];omega
 rw[hl];have e:edCs (es.take k)=(edCs es).take (k*3):=by
  have h2:edCs es=edCs (es.take k)++edCs (es.drop k):=by rw[←qCw,List.take_append_drop]
  rw[h2,List.take_left' (by rw[qBs,hl])]
 rw[e];exact h1
theorem qKw (n:Nat):(Builtin.zeroCells (zaz #[.int .i64 0, .int .i64 0, .int .i64 0]).cells n).toList.length=n*3∧ ∀v∈(Builtin.zeroCells (zaz #[.int .i64 0, .int .i64 0, .int .i64 0]).cells n).toList,v.oneCell'=true:=by
 have hc:(zaz #[.int .i64 0, .int .i64 0, .int .i64 0]).cells= #[.int .i64 0, .int .i64 0, .int .i64 0]:=by simp[Value.cells]
 rw[hc];refine⟨by simp[Builtin.zeroCells],fun v hv=> ?_⟩;simp only[Builtin.zeroCells,Array.toList_map,zaK] at hv;obtain⟨i,_,rfl⟩:=hv;have h3: #[zaH IntKind.i64 0,zaH IntKind.i64 0,zaH IntKind.i64 0].size=3:=rfl;rw[h3];have:i%3=0∨i%3=1∨i%3=2:=tO
 rcases this with e | e | e<;>rw[e]<;>rfl
theorem qGd (w:World) (g o n c:Nat) (hn:0<n) (hc: ∀j,j<n*3→(w.cell? ⟨g,o+j,none⟩).isSome=true) (hf: ∀j,j<n*3→w.frozen? ⟨g,o+j,none⟩=false):
  ∃vs,∀ty,(Builtin.clear_ #[24] ty #[.slice (some ⟨g,o,none⟩) n c]).run Tryz.prog w= .ok (.tuple #[]) (w.setCells g o vs):=by
 obtain⟨h1,h2⟩:=qKw n;obtain⟨i0,cE,cD,_,_⟩:=info_parts qEn;refine⟨(Builtin.zeroCells (zaz #[.int .i64 0, .int .i64 0, .int .i64 0]).cells n).toList,fun ty=> ?_⟩;have hst:=run_storeCells_cells (P:=Tryz.prog) g o (Builtin.zeroCells (zaz #[.int .i64 0, .int .i64 0, .int .i64 0]).cells n).toList 0 w (by rw[h1];simpa using hc) (by rw[h1];simpa using hf) h2;simp only[Nat.add_zero] at hst;have hv: ∀w,(zeroValue 97).run Tryz.prog w= .ok (.agg #[.int .i64 0, .int .i64 0, .int .i64 0]) w:=fun w=>by rfl
 obtain⟨m,rfl⟩: ∃m,n=m+1:=⟨n-1,tO⟩;simp[Builtin.clear_,run_underlying Tryz.underlying24,hv,hst]
theorem qJy: ∀(R:List EdD) (k:Nat) (x:EdD),k<R.length→(R.set k x).take (k+1)=R.take k++ [x]
 | [],k,x,h=>by cases h
 | a::R,0,x,_=>by simp
 | a::R,k+1,x,h=>by
   have:=qJy R k x (by simpa using h)
   simp only[zaJ,List.take_succ_cons,zaR];rw[this]
theorem qJz: ∀(R:List EdD) (k m:Nat) (x:EdD),k<m→(R.set k x).drop m=R.drop m
 | [],k,m,x,h=>by simp
 | a::R,0,m+1,x,_=>by simp
 | a::R,k+1,m+1,x,h=>by
   have:=qJz R k m x tO
   simpa using this
theorem qIm (g n cap base:Nat) (es:List EdD) (w:World) (h:OwE w base (.slice (some ⟨g,0,none⟩) n cap) es) (hl:es.length≤1073741824):
  Calls Tryz.prog 219 #[.slice (some ⟨g,0,none⟩) n cap] w fun e w'=>e= .returned (.slice (some ⟨g,0,none⟩) (ddU es es.length).length cap)∧OwE w' base (.slice (some ⟨g,0,none⟩) (ddU es es.length).length cap) (ddU es es.length)∧w.grownBy w' (some g):=by
 obtain⟨_,_,hv,a6,hm,_,hg⟩:=h.form;injection hv with e1 e2 e3
 subst e1 e2 e3;unfold maxLen at hm;have H:=qA h;clear h hg;by_cases al:es.length<2
 ·have h1:(es.length:Int)<2:=tO;have hd:ddU es es.length=es:=by
   match es,al with
   | [],_=>rfl
   | [a],_=>simp[ddU,ddAt]
  rw[hd];go_enter Tryz.func219,Tryz.ntmps219
  go_wp2;go_ret;exact⟨rfl,H.out,zaF.refl _ _⟩
 ·have h1: ¬(es.length:Int)<2:=tO;go_enter Tryz.func219,Tryz.ntmps219
  go_wp2;go_loopw [3] (fun i wr=> ∃k:Nat,k+1≤es.length∧i= .int .i64 ((k:Int)+1)∧ddU es (k+1)=es.take (k+1)∧ ∃q,wr=w.drewN q) (fun i _=>es.length-(intOf i).toNat)
  case atStart=>exact⟨0,tO,rfl,by rw[qEe tO (fun h=>absurd h tO)];rw[zai tO];rfl,0,rfl⟩
  case round=>
   obtain⟨k,hk,rfl,C7,q,rfl⟩:=hrel;have Ej:=qA C7;clear C7;by_cases ac:k+1<es.length
   ·obtain⟨c0,c1,c2⟩:=H.out.cellAt (k+1) ac;obtain⟨d0,d1,d2⟩:=H.out.cellAt k tO;have i0:(0:Int)≤(k:Int):=tO;have i1:(k:Int)<(es.length:Int):=tO;have i2:(k:Int)+1<(es.length:Int):=tO;have i3:(0:Int)≤(k:Int)+1:=tO;have i4:((k:Int)+1).toNat=k+1:=tO;have i5:IntKind.i64.wrap ((k:Int)+1-1)=(k:Int):=by rw[IntKind.wrap_i64];omega
    have iK:=fun w=>qHL es[k+1] es[k] w;unfold edV at iK;have dH:=qCg;by_cases he:es[k+1]=es[k]
    ·have Fk:=qA (qGO (es:=es) (j:=k+1) tO ac he);rw[decide_eq_true he] at iK;generalize es[k]=y at*;generalize es[k+1]=x at*;go_wp2;go_quiet (fail)
     have OQ: ¬cap=k+1:=tO;have i6:(k:Int)+1≤(es.length:Int):=tO;have i7:(es.length:Int)≤(cap:Int):=tO;have CH:=qA H.out.free;have Jp:Hid ((ddU es (k+2)).length=k+1∧es.take (k+1)=ddU es (k+2)):=qA (by
      have h1:=Fk.out;rw[Ej.out] at h1;exact⟨by rw[show k+2=k+1+1 from rfl,h1,zak];omega,h1.symm⟩)
     clear c0 c1 c2 d0 d1 d2;go_wp2;obtain⟨rem,jJ⟩: ∃r,r=es.length-(k+1):=⟨_,rfl⟩;have Dr:rem+(k+1)=es.length:=tO;have jp:=qA jJ;clear jJ;rw[←jp.out];go_loopw [3,5] (fun s3 s5 wr=> ∃(kk t:Nat) (R:List EdD),s3= .int .i64 kk∧s5= .int .i64 ((t:Int)+1)∧t+1≤rem∧kk=(ddU es (k+t+2)).length∧R.length=es.length∧R.take kk=ddU es (k+t+2)∧R.drop (k+t+1)=es.drop (k+t+1)∧kk≤k+t+1∧OwE wr base (.slice (some ⟨g,0,none⟩) es.length cap) R∧w.grownBy wr (some g)) (fun _ i _=>rem-(intOf i).toNat)
     case atStart=>exact⟨k+1,0,es,by go_num,rfl,tO,Jp.out.1.symm,rfl,Jp.out.2,rfl,tO,H.out.drewN _,⟨rfl,rfl,rfl,zab _,fun _ _ _=>rfl⟩⟩
     case round=>
      obtain⟨kk,t,R,rfl,rfl,ht,sI,CD,yV,x6,QA,Dh,aY⟩:=hrel;have kq:=qA Dh;have aH:=qA aY;have Iw:=qA yV;have jF:=qA x6;have Hr:=qA sI;have zv:=qA CD;obtain⟨wi,rfl⟩: ∃wi:World,wi=wr:=⟨_,rfl⟩;have mK: ∀j (hj:j<es.length),k+t+1≤j→R[j]'tO=es[j]:=fun j hj ii=>by
       have e1:(R.drop (k+t+1))[j-(k+t+1)]? =(es.drop (k+t+1))[j-(k+t+1)]? :=by rw[x6]
       rw[zaN,zaN,show k+t+1+(j-(k+t+1))=j by omega,zaf tO,zaf hj] at e1;injection e1
      have CW:=qA kq.out.free;by_cases mA:t+1<rem
      ·have aT:k+t+2<es.length:=tO;obtain⟨c0,c1,c2⟩:=kq.out.cellAt (k+t+2) tO;obtain⟨d0,d1,d2⟩:=kq.out.cellAt (k+t+1) tO;rw[mK (k+t+2) aT tO,show(k+t+2)*3=(k+1)*3+(t+1)*3 by omega] at c0 c1 c2;rw[mK (k+t+1) tO tO,show(k+t+1)*3=(k+1)*3+t*3 by omega] at d0 d1 d2;have tT:=fun w=>qHj es[k+t+2] es[k+t+1] w;unfold edV at tT;have j0:(0:Int)≤(t:Int):=tO;have j1:(t:Int)<(rem:Int):=tO;have j2:(t:Int)+1<(rem:Int):=tO;have j3:(0:Int)≤(t:Int)+1:=tO;have j4:((t:Int)+1).toNat=t+1:=tO;have j5:IntKind.i64.wrap ((t:Int)+1-1)=(t:Int):=by rw[IntKind.wrap_i64];omega
       have yv:Hid (R.drop (k+(t+1)+1)=es.drop (k+(t+1)+1)):=qA (by have h9:=congrArg (List.drop 1) x6;rw[zaZ,zaZ] at h9;rw[show k+(t+1)+1=k+t+1+1 by omega];exact h9);have bR:=qA (kq.out.2 _ (List.getElem_mem (show k+t+2<R.length by omega)));rw[mK (k+t+2) aT tO] at bR;by_cases mU:es[k+t+2]=es[k+t+1]
       ·have zz:=qA (qGO (es:=es) (j:=k+t+2) tO aT mU);rw[decide_eq_true mU,Bool.not_true] at tT;generalize es[k+t+1]=y2 at*;generalize es[k+t+2]=x2 at*;clear sI CD yV x6 Dh aY mK;go_wp2;go_quiet (fail)
        go_wp2;go_roundw
        case rel=>exact⟨kk,t+1,R,rfl,by go_num,tO,by rw[show k+(t+1)+2=k+t+2+1 by omega,zz.out];exact Hr.out,zv.out,by rw[show k+(t+1)+2=k+t+2+1 by omega,zz.out];exact Iw.out,yv.out,tO,kq.out.drew,aH.out.trans ⟨rfl,rfl,rfl,zab _,fun _ _ _=>rfl⟩⟩
        case measure=>simp[intOf];omega
       ·have zz:Hid (ddU es (k+(t+1)+2)=ddU es (k+t+2)++ [es[k+t+2]]):=qA (by rw[show k+(t+1)+2=k+t+2+1 by omega];exact qEe (es:=es) (j:=k+t+2) aT (fun _ e=>mU e));rw[decide_eq_false mU,Bool.not_false] at tT;have FZ:kk<R.length:=tO;have cK:=qA (qJy R kk es[k+t+2] FZ);have Pb:=qA (qJz R kk (k+(t+1)+1) es[k+t+2] tO);obtain⟨b0,b1,b2⟩:=kq.out.cellAt kk FZ;generalize R[kk]=o2 at b0 b1 b2;generalize es[k+t+1]=y2 at*;generalize es[k+t+2]=x2 at*;have bG:=qA (fun N=>(kq.out.drewN N).set kk FZ (x:=x2.1) (y:=x2.2.1) (z:=x2.2.2) bR.out.1 bR.out.2.1 bR.out.2.2);have f0:=CW.out (kk*3);have f1:=CW.out (kk*3+1);have f2:=CW.out (kk*3+2);have j6:(kk:Int)<(es.length:Int):=tO;have j7:(0:Int)≤(kk:Int):=tO;clear sI CD yV x6 Dh aY mK;go_wp2;go_quiet (fail)
        go_wp2;go_roundw
        case rel=>exact⟨kk+1,t+1,R.set kk x2,by go_num,by go_num,tO,by rw[zz.out,zaL,←Hr.out];rfl,by rw[List.length_set];exact zv.out,by rw[cK.out,zz.out,Iw.out],by rw[Pb.out];exact yv.out,tO,(bG.out nq).1,(aH.out.trans (show wi.grownBy (wi.drewN nq) (some g) from⟨rfl,rfl,rfl,zab _,fun _ _ _=>rfl⟩)).trans (bG.out nq).2⟩
        case measure=>simp[intOf];omega
      ·obtain rfl:rem=t+1:=tO
       have hn:k+t+2=es.length:=tO;have Hg:Hid (kk=(ddU es es.length).length∧R.take kk=ddU es es.length):=qA (by rw[←hn];exact⟨sI,yV⟩);have RO:kk<es.length:=tO;have MG:=qA (kq.out.head (k:=kk) tO);obtain⟨vs,cU⟩:=qGd wi g (kk*3) (es.length-kk) (cap-kk) tO (fun j hj=>by
        have hq:kk+j/3<R.length:=tO;obtain⟨g0,g1,g2⟩:=kq.out.cellAt (kk+j/3) hq;have:j%3=0∨j%3=1∨j%3=2:=tO
        rcases this with e | e | e
        ·rw[show kk*3+j=(kk+j/3)*3 by omega,g0];rfl
        ·rw[show kk*3+j=(kk+j/3)*3+1 by omega,g1];rfl
        ·rw[show kk*3+j=(kk+j/3)*3+2 by omega,g2];rfl) (fun j _=>CW.out _)
       have xL:=qA (qMa MG.out (zab _) vs (kk*3) (zab _));have j6:(kk:Int)≤(es.length:Int):=tO;have j7:(0:Int)≤(kk:Int):=tO;have j8: ¬cap=kk:=tO;have j9:(kk:Int)≤(cap:Int):=tO;clear sI CD yV x6 Dh aY mK;go_wp2;go_ret;refine⟨by rw[←Hg.out.1];rfl,?_,aH.out.trans xL.out.2⟩;have h1:=xL.out.1;rw[Hg.out.2] at h1;have h2:=Hg.out.1;rw[←h2];exact h1
    ·have Fk:Hid (ddU es (k+1+1)=es.take (k+1+1)):=qA (by rw[qEe ac (fun _ e=>he e),Ej.out,zai ac]);rw[decide_eq_false he] at iK;generalize es[k]=y at*;generalize es[k+1]=x at*;go_wp2;go_quiet (fail)
     go_wp2;go_roundw
     case rel=>exact⟨k+1,tO,by go_num,Fk.out,_,rfl⟩
     case measure=>simp[intOf];omega
   ·have du:k+1=es.length:=tO;have i2: ¬(k:Int)+1<(es.length:Int):=tO;have HD:Hid (ddU es es.length=es):=qA (by have:=Ej.out;rw[du,zae] at this;exact this);clear du;go_wp2;go_ret;rw[HD.out];exact⟨rfl,H.out.drewN q,⟨rfl,rfl,rfl,zab _,fun _ _ _=>rfl⟩⟩
theorem qEQ (v:Value) (es:List EdD) (w:World) (h:ArgE w v es) (hl:es.length≤1073741824):
  Calls Tryz.prog 173 #[v] w fun e w'=> ∃r,e= .returned r∧OwE w' w.heap.size r (srt cmpE es)∧Below w.heap.size w w':=by
 have H:=qA h;obtain⟨A,cap,rfl⟩:=h.form;clear h;go_enter Tryz.func173,Tryz.ntmps173
 go_wp2_with (at_builtin;refine qFN rfl (.tmp 4) (.tmp 5) rfl w.heap.size _ [] (qJM _ (zab _)) rfl _ es (H.out.alloc _) rfl (by simp;omega) (by simp) ?_;intro v1 w1 o1 g1 p1)
 have O1:Hid (OwE w1 w.heap.size v1 es):=qA (by simpa using o1);have B1:Hid (Below w.heap.size w w1):=qA (((zag _ _).alloc (zab _) _).grown g1 (by simp) (fun k hk=>by simp[zac] at hk;omega));obtain⟨g,ah,rfl⟩: ∃g ah,v1= .slice (some ⟨g,0,none⟩) es.length ah:=by
  obtain⟨A1,ah,rfl,_⟩:=O1.out.form;rcases O1.out.1.2 with ⟨hv,_⟩ | ⟨g',cap',cur,hv,_⟩
  ·rw[hv] at p1;simp[zac] at p1
  ·injection hv with e1 e2 e3
   subst e1;exact⟨g',ah,rfl⟩
 clear g1 o1 p1;refine(qJF g es.length ah w.heap.size es w1 O1.out hl).mono ?_
 rintro e w2 ⟨rfl,es',o2,hp,zU,g2⟩;have hE:ddU es' es'.length=srt cmpE es:=qOf (zU.imp fun h=>tO) fun x=>hp.mem_iff;have au:es'.length=es.length:=hp.length_eq;have O2:=qA o2;have B2:=qA (B1.out.grown g2 B1.out.size (fun k hk=>by cases hk;exact(O1.out.1.lt g rfl).1));have ky:=qA (fun k (hk:some g=some k)=>show w.heap.size≤k by cases hk;exact(O1.out.1.lt g rfl).1);have HE:=qA hE;have xD:es'.length≤1073741824:=tO;clear o2 g2 hp zU hE au;go_wp2_with fail;refine(qIm g _ _ w.heap.size es' w2 O2.out xD).mono ?_
 rintro e w3 ⟨rfl,o3,g3⟩;rw[HE.out] at o3⊢;have O3:=qA o3;have B3:=qA (B2.out.grown g3 B2.out.size ky.out);clear o3 g3;go_wp2;go_ret;exact⟨_,rfl,O3.out,B3.out⟩
end Go.Proofs.YtnjpoljbagfdnaaGreat
