/- Parts of the proof: AddS, Sch, AddF, DrawG, LatD, DrawH, DrawI, DrawJ, DrawK, DrawM, PowI, DrawL, CmpW, Rot, EqW, PowP, PowR, DrawR, DrawT, TwI, Lst, Quo, Frame, MarkG, MarkGS, QuoM, Conj, BasS, LawE, IdxW, IdxX, DrawU. -/
import Derived.Test.YtnjpoljbagfdnaaGreatP03
import Derived.Test.YtnjpoljbagfdnaaGreatP08
import Derived.Test.YtnjpoljbagfdnaaGreatP04
import Derived.Test.YtnjpoljbagfdnaaGreatP02
import Derived.Test.YtnjpoljbagfdnaaGreatP05
import Derived.Test.YtnjpoljbagfdnaaGreatP01
import Derived.Test.YtnjpoljbagfdnaaGreatP07
import Derived.Test.YtnjpoljbagfdnaaGreatP06
import Derived.Outline
import Derived.Deep.RegionHeld3
import Derived.ProofKit
import Derived.OpenShut
import Derived.ShutString
import Derived.ChangeOld
import Derived.Lib.SmallJoins
import Derived.Deep.DeepCutAuto
set_option maxRecDepth 100000
set_option maxHeartbeats 16000000
set_option linter.unusedVariables false
set_option linter.unusedSimpArgs false
namespace Go.Proofs.YtnjpoljbagfdnaaGreat
open Go.RowKit
open _root_.List renaming setIfInBounds_toArray→zaa,set_cons_zero→zab,set_cons_succ→zac,take_succ_eq_append_getElem→zah,mem_append→zal,take_length→zap,getElem_mem→zaq,length_append→zat,mem_singleton→zau,eq_nil_of_length_eq_zero→zax,map_cons→zay,getElem_append_right→zaz,all_eq_true→zaA,getElem_append_left→zaB,map_append→zaC,Pairwise→zaE,sum_cons→zaF,append_assoc→zaH,foldl_append→zaJ,length_take→zaL,append_nil→zaM,sum_append→zaN,mem_range→zaO
open _root_.Nat renaming le_refl→zad,le_trans→zao,zero_le→zar,lt_of_lt_of_le→zaG
open Go.RowKit.Below renaming refl→zae,heap_setCell→zak,heap_alloc→zaK
open Go.Act renaming put→zaf
open Go.World renaming cell?_of_block→zag,cell?_setCell_other→zai,frozen?_setCell→zaj,cell?_setCell_same→zas,frozen?_of_block→zav
open Go.Value renaming slice→zam,ownBlock→zan
open _root_.Bool renaming and_eq_true→zaw
open _root_.Array renaming getElem?_modify→zaD
open _root_.Int renaming toNat_natCast→zaI
theorem GBx.sz {w:World} {p base:Nat} {A:Option Addr} {c:Nat} {g:GrD} (h:GBx w p base A c g) {z:Int} (hz:I64 z):GBx (w.setCell ⟨p,1,none⟩ (.int .i64 z)) p base A c (g.1,z,g.2.2):=
 ⟨(zai _ _ _ _ (by simp)).trans h.c0,zas _ _ _ h.c1,(zai _ _ _ _ (by simp)).trans h.c2,fun j=>by rw[zaj];exact h.fz j,h.ow.keep fun b hb=>zak _ _ _ b (h.ne b hb),h.ne,h.i1,hz,by simpa using h.lt⟩
theorem qPS {v:Value} {es:List EdD} {w:World} (e:EdD) (x y z:Int) (h:ArgE w v es) (he:E64 e) (hl:es.length≤268435456) (hq:e=(x,y,z)):
  Calls Tryz.prog 166 #[v, .agg #[.int .i64 x, .int .i64 y, .int .i64 z]] w fun e' w'=> ∃r,e'= .returned r∧OwE w' w.heap.size r (insF cmpE es e)∧Below w.heap.size w w':=by
 subst hq;exact qCc v es (x,y,z) w h he hl
theorem qGB (v y:Value) (g:GrD) (a b:Int) (t:List Int) (w:World) (h:ArgG w v g) (ht:RdI w y t) (hg:grB g=true) (ha:0≤a∧a<g.2.1) (hb:0≤b∧b<g.2.1) (hw:qAi g.1 t=true) (h0:t.length≠0) (hl:t.length≤1073741824):
  Calls Tryz.prog 182 #[v, .int .i64 a,y, .int .i64 b] w fun x w'=> ∃r,x= .returned (.tuple #[r, .bool (qEv g t)])∧OwG w' w.heap.size r (if qEv g t=true then addG g a b t else g)∧Below w.heap.size w w':=by
 have HG:=qA h;have HY:=qA ht;have aH:=qA hg;have HW:=qA hw;have HA:=qA ha;have yR:=qA hb;obtain⟨li,fG,aQ,_⟩:=qB hg;obtain⟨s,rfl,aT,aS,aL⟩:=h;obtain⟨A,cap,rfl⟩:=aL.form;obtain⟨T,tc,rfl,_⟩:=ht.arg;obtain⟨g1,N,es⟩:=g;simp only at*
 clear aL hg hw ha hb;obtain⟨OK,Fj⟩: ∃o,o=qEv (g1,N,es) t:=⟨_,rfl⟩;rw[←Fj];obtain⟨RES,nz⟩: ∃R,R=(if OK=true then addG (g1,N,es) a b t else(g1,N,es)):=⟨_,rfl⟩;rw[←nz];have dD:=qA Fj;have iG:=qA nz;clear nz Fj;go_enter Tryz.func182,Tryz.ntmps182
 go_wp2_with fail;obtain⟨W1,an⟩: ∃W,W=w.alloc (.cells #[.int .i64 g1,.int .i64 N, .slice A es.length cap] 26):=⟨_,rfl⟩;rw[←an];obtain⟨aw,b1,aR,_⟩:=gbox an;obtain⟨W,hW⟩: ∃W,W=W1.alloc (.cells #[.int .i64 0,.int .i64 0, .slice none 0 0] 26):=⟨_,rfl⟩;rw[←hW];obtain⟨cT,b2,dg,a7⟩:=gbox hW;have aW:W.heap.size=w.heap.size+2:=tO;have bM:=qA aR;have cG:=qA dg;have fY:=qA a7;have nZ:=qA b1;have fH:=qA b2;have BX:Hid (Below w.heap.size w W):=qA (b1.trans (b2.mono tO));have bH:Hid (∀w',Below (w.heap.size+2) W w'→w'.cell? ⟨w.heap.size,0,none⟩=some (.int .i64 g1)∧w'.cell? ⟨w.heap.size,1,none⟩=some (.int .i64 N)∧w'.cell? ⟨w.heap.size,2,none⟩=some (.slice A es.length cap)):=qA fun w' hb=>bM.out w' ((fH.out.mono tO).trans (hb.mono tO));have k8:Hid (∀w',Below (w.heap.size+2) W w'→(w'.cell? ⟨w.heap.size+1,0,none⟩=some (.int .i64 0)∧w'.cell? ⟨w.heap.size+1,1,none⟩=some (.int .i64 0)∧w'.cell? ⟨w.heap.size+1,2,none⟩=some (.slice none 0 0))∧ ∀j,w'.frozen? ⟨w.heap.size+1,j,none⟩=false):=qA fun w' hb=>by
  have e:Below (W1.heap.size+1) W w':=hb.mono tO;have h1:=cG.out w' e;have h2:=fun j=>fY.out j w' e;rw[aw] at h1 h2;exact⟨h1,h2⟩
 have vz:Hid (∀w',Below (w.heap.size+2) W w'→ArgG w' (.agg #[.int .i64 g1, .int .i64 N, .slice A es.length cap]) (g1,N,es)):=qA fun w' hb=>HG.out.below (BX.out.trans (hb.mono tO));have kr:Hid (∀w',Below (w.heap.size+2) W w'→RdI w' (.slice T t.length tc) t):=qA fun w' hb=>HY.out.below (BX.out.trans (hb.mono tO));clear an hW aR dg a7 b1 b2 bM cG fY nZ fH aw cT;obtain⟨q0,q1,q2⟩:=bH.out W ((zae W.heap.size W).mono tO);refine(qBV _ (g1,N,es) W (vz.out W ((zae W.heap.size W).mono tO)) (by simp only;omega)).mono ?_
 clear q0 q1 q2;rintro e w5 ⟨r,rfl,o5,b5⟩;have gW:=b5.size;have B5:Hid (Below (w.heap.size+2) W w5):=qA (b5.mono tO);obtain⟨s1,rfl,_,_,bg⟩:=o5;obtain⟨A1,c1,rfl,_⟩:=bg.form;simp only at*
 clear b5;have pj:Below w5.heap.size w5 (w5.alloc (.cells #[.int .i64 g1,.int .i64 N, .slice A1 es.length c1] 26)):=(zae _ _).alloc (zad _) _;obtain⟨q0,q1,q2⟩:=bH.out _ (B5.out.trans (pj.mono tO));clear pj;go_wp2_with fail;clear q0 q1 q2;obtain⟨W6,dW⟩: ∃W,W=w5.alloc (.cells #[.int .i64 g1,.int .i64 N, .slice A1 es.length c1] 26):=⟨_,rfl⟩;have og:=qA (GBx.new (m:=(g1,N,es)) bg aT aS dW);obtain⟨iD,b6,_,_⟩:=gbox dW;rw[←dW];have B6:Hid (Below (w.heap.size+2) W W6):=qA (B5.out.trans (b6.mono tO));clear dW b6 bg;obtain⟨p,hp⟩: ∃p,p=w5.heap.size:=⟨_,rfl⟩;rw[←hp] at og⊢;have ym:w.heap.size+2≤p:=tO;have Kg:p<W6.heap.size:=tO;clear hp iD gW;have ju:=qA (qq _ (g1,N,es) W6 (vz.out W6 B6.out));rw[aH.out] at ju;refine ju.out.mono ?_;clear ju;rintro e w7 ⟨rfl,b7⟩;have B7:=qA (B6.out.trans (b7.mono (by have:=B6.out.size;omega)));have pw:=qA (og.out.below b7);clear b7;obtain⟨q0,q1,q2⟩:=bH.out w7 B7.out;have E1:inB a 0 (N-1)=true:=by unfold inB;simp;have:=HA.out;omega
 have E2:inB b 0 (N-1)=true:=by unfold inB;simp;have:=yR.out;omega
 have EW:=qA (qBZ g1 _ t w7 (kr.out w7 B7.out).arg tO);rw[HW.out] at EW;go_wp2_with (go_at_call 138;refine(ql _ _ _ _).mono ?_;rintro e w' ⟨rfl,rfl⟩)
 refine EW.out.mono ?_;clear EW E1 E2 q0 q1 q2;rintro e w8 ⟨rfl,nd,rfl⟩;obtain⟨w8,n4⟩: ∃W,W=w7.drewN nd:=⟨_,rfl⟩;rw[←n4];have B8:Hid (Below (w.heap.size+2) W w8):=qA (by rw[n4];exact qD B7.out _);have jT:Hid (GBx w8 p W.heap.size A1 c1 (g1,N,es)):=qA (by rw[n4];exact pw.out.below (qD (zae _ _) _));clear n4;obtain⟨q0,q1,q2⟩:=bH.out w8 B8.out;obtain⟨z0,z1,z2⟩:=jT.out.cs;simp only at z0 z1 z2
 obtain⟨⟨r0,r1,r2⟩,cF⟩:=k8.out w8 B8.out;have eu:=cF 0;have eE:=cF 1;have eG:=cF 2;have xe: ¬(t.length:Int)=0:=tO;have NI: ¬t= []:=fun q=>h0 (by rw[q];rfl);clear cF;by_cases hA:N+t.length-1≤40
 ·by_cases hE:(es.length:Int)+t.length≤120
  ·have af:qEv (g1,N,es) t=true:=decide_eq_true ⟨hA,hE⟩;have HK:Hid (OK=true∧RES=addG (g1,N,es) a b t):=qA (by have:=dD.out.trans af;exact⟨this,by rw[iG.out,this];rfl⟩);clear af;obtain⟨n,rfl⟩: ∃n:Nat,N=(n:Int):=⟨N.toNat,tO⟩;have Bs:srt cmpE es=es:=qNo (qHH aH.out);have ni:=qA Bs;clear Bs;have Qj:((t.length:Int)==0)=false:=beq_eq_false_iff_ne.2 xe;have u4: ¬40<(n:Int)+t.length-1:=tO;have OJ: ¬120<(es.length:Int)+t.length:=tO;go_wp2_with fail;clear q0 q1 q2 r0 r1 r2 eu eE eG z0 z1 z2 xe NI Qj u4 OJ;go_loopw [11,12] (fun q i wr=> ∃(k:Nat) (L:List EdD) (A2:Option Addr) (c2:Nat),k≤t.length∧i= .int .i64 k∧q= .int .i64 (atP n t.length a b k)∧Hid (L=srt cmpE (es++pthL n a b t k))∧L.length≤es.length+k∧GBx wr p (w.heap.size+2) A2 c2 (g1,((szP n t.length k:Nat):Int),L)∧Below (w.heap.size+2) W wr) (fun _ i _=>t.length-(intOf i).toNat)
   case atStart=>
    refine⟨0,es,A1,c1,zar _,rfl,rfl,qA ?_,zad _,?_,B8.out⟩
    ·show es=srt cmpE (es++ [])
     rw[zaM,ni.out]
    ·exact jT.out.mono tO
   case round=>
    obtain⟨k,L,A2,c2,hk,rfl,rfl,hL,sK,a8,aZ⟩:=hrel;obtain⟨wk,rfl⟩: ∃wk:World,wk=wr:=⟨_,rfl⟩;have HT:=qA (kr.out wk aZ);have aI:=qA a8;have dV:=qA aZ;have mQ:=a8.lt;obtain⟨z0,z1,z2⟩:=a8.cs;have fc:=a8.fz 1;have eJ:=a8.fz 2;simp only at z0 z1 z2
    clear a8 aZ;rcases Nat.lt_or_ge k t.length with ac | Pf
    ·have Im:=qId HW.out k ac;obtain⟨bt,off,rfl,K6,tM⟩:=HY.out.at tO;have Kz:Hid (∀W',Below (w.heap.size+2) W W'→W'.cell? ⟨bt,off+k,none⟩=some (.int .i64 t[k])):=qA fun W' hb=>((BX.out.trans (hb.mono tO)).cell (p:=⟨bt,off+k,none⟩) K6).trans (tM k ac);have cz:=Kz.out wk dV.out;have y9:Hid (pthL n a b t (k+1)=pthL n a b t k++ [stpE (atP n t.length a b k) t[k] (nxP n t.length b k)]):=qA (by rw[qMo];unfold pthE;rw[qLv ac]);have so:=qMN (N:=n) (len:=t.length) (j:=k) HA.out yR.out;have Jc:=qMX (N:=n) (len:=t.length) (j:=k) yR.out;have xW:=qA (qNt (N:=n) ac);have Pe:=qA (fun q=>qPM (N:=n) (len:=t.length) (j:=k) q);have cS:Hid (nxP n t.length b k=if k+1<t.length then((n+k:Nat):Int) else b):=qA rfl;have Ij:(srt cmpE (es++pthL n a b t k)).length≤es.length+k:=by rw[←hL];exact sK
     have Fr:Hid (atP n t.length a b (k+1)=nxP n t.length b k):=qA rfl;generalize t[k]=z at*;generalize atP n t.length a b k=q at*;generalize nxP n t.length b k=m at*;have HL:Hid (srt cmpE (es++pthL n a b t (k+1))=insF cmpE L (stpE q z m)):=qA (by rw[y9.out,←zaH,qMR,hL.out]);have io:Hid ((insF cmpE L (stpE q z m)).length≤es.length+(k+1)):=qA (by have:=qCM (c:=cmpE) L (stpE q z m);omega);clear tM HT y9 Ij;generalize aw:szP n t.length k=S1 at*;have QG:S1≤n+24:=by rw[←aw];unfold szP;have:=qIz HW.out;omega
     clear aw;have La:=qIz HW.out;have NH:p<wk.heap.size:=mQ;obtain⟨S2,DH⟩: ∃S,S=szP n t.length (k+1):=⟨_,rfl⟩;rw[←DH] at xW;have lH:=qA DH;clear DH;have mG:IntKind.i64.wrap (-z)= -z:=by rw[IntKind.wrap_i64];omega
     have Pq:IntKind.i64.wrap ((S1:Int)+1)=(S1:Int)+1:=by rw[IntKind.wrap_i64];omega
     have bR:Hid (E64 (stpE q z m)):=qA (by unfold stpE;split<;>exact⟨⟨by simp only;omega,by simp only;omega⟩,⟨by simp only;omega,by simp only;omega⟩,⟨by simp only;omega,by simp only;omega⟩⟩);have Li:L.length≤268435456:=tO;have uZ:Hid (L.length≤es.length+k):=qA sK;have cR:=qA hL.out;have Kc:=qA hk;have Q6:=qA (And.intro Im (And.intro so Jc));have vT:I64 ((S2:Nat):Int):=by
      have:S2≤S1+1:=by rw[xW.out];split<;>omega
      exact⟨tO,tO⟩
     have dL:=qA vT;clear hL sK Im so Jc vT;by_cases h1:k+1<t.length<;>by_cases h2:0<z
     all_goals
      have Dn:=qA (And.intro h1 h2);go_wp2_with fail;have we:=Kc.out;first
       | (have xp:k+1<t.length:=Dn.out.1
          obtain⟨wn,Bo⟩: ∃W,W=wk.setCell ⟨p,1,none⟩ (.int .i64 ((S1:Int)+1)):=⟨_,rfl⟩;rw[←Bo];have HM:Hid (m=(S1:Int)):=qA (by rw[cS.out,if_pos xp];have:=Pe.out xp;omega);have GBN:Hid (GBx wn p (w.heap.size+2) A2 c2 (g1,((S2:Nat):Int),L)):=qA (by
           have e:(S2:Int)=(S1:Int)+1:=by rw[xW.out,if_pos xp];rfl
           have hi:=dL.out;rw[e] at hi;rw[Bo,e];exact aI.out.sz hi)
          have BN:Hid (Below (w.heap.size+2) W wn):=qA (by rw[Bo];exact dV.out.setCell ym _);clear Bo)
       | (have xp: ¬k+1<t.length:=Dn.out.1
          obtain⟨wn,rfl⟩: ∃W,W=wk:=⟨_,rfl⟩;have HM:Hid (m=b):=qA (by rw[cS.out,if_neg xp]);have GBN:Hid (GBx wn p (w.heap.size+2) A2 c2 (g1,((S2:Nat):Int),L)):=qA (by rw[show S2=S1 by rw[xW.out,if_neg xp]];exact aI.out);have BN:Hid (Below (w.heap.size+2) W wn):=qA dV.out)
      clear h1 we z0 z1 z2 cz fc eJ mQ;have z2:=GBN.out.c2;simp only at z2
      have cz:=Kz.out wn BN.out;have pm:=GBN.out.lt;have Mo:bt<wn.heap.size:=tO;have f0:=BelW.cell z2 pm;have f1:=BelW.cell cz Mo;have Cq: ¬((k:Int)<0):=tO;have ll:(k:Int)<(t.length:Int):=tO;first | (have yf:0<z:=Dn.out.2;clear yf;(refine qBQ 9 tK tK tK tK (by rfl) (by rfl) ?_;dsimp only[dum3,dumO];(repeat(go_big_quiet_step (fail)));refine wpQuiet_nil ?_;refine⟨⟨_,fun _=>by rfl⟩,?_⟩;intro wq aA;obtain⟨pq,ae⟩:=aA;have bq:=pq.h;rw[←ae] at bq;clear ae pq;refine⟨_,_,by rfl,?_⟩)) | (refine qBQ 10 tK tK tK tK (by rfl) (by rfl) ?_;dsimp only[dum3,dumO];(repeat(go_big_quiet_step (fail)));refine wpQuiet_nil ?_;refine⟨⟨_,fun _=>by rfl⟩,?_⟩;intro wq aA;obtain⟨pq,ae⟩:=aA;have bq:=pq.h;rw[←ae] at bq;clear ae pq;refine⟨_,_,by rfl,?_⟩)
      clear f0 f1;try simp only[mG]
      simp only[List.map_toArray,zay,List.map_nil,Array.empty_append,Array.append_empty];refine(show Calls Tryz.prog 166 #[.slice A2 L.length c2, .agg #[.int .i64 _, .int .i64 _, .int .i64 _]] wq _ from ?_)
      refine(qPS (stpE q z m) _ _ _ (GBN.out.ow.below bq).arg bR.out Li (by unfold stpE;rw[HM.out];have hh:=Dn.out.2;first | rw[if_pos tO] | rw[if_neg tO])).mono ?_
      rintro e' w9 ⟨r9,rfl,o9,b9⟩;have B9:=qA (bq.trans (b9.mono bq.size));have qx:=(B9.out.cell (p:=⟨p,2,none⟩) pm).trans z2;have qf:=(B9.out.frozen (p:=⟨p,2,none⟩) pm).trans (GBN.out.fz 2);have s9:wn.heap.size≤w9.heap.size:=B9.out.size;have QT:=bq.size;have O9:=qA o9;obtain⟨A9,c9,rfl,_⟩:=o9.form;clear o9 b9 z2 cz;refine⟨_,rfl,?_⟩;simp only[zaf,zaa,zab,zac];go_wp2;go_roundw
      case rel=>
       exact⟨k+1,insF cmpE L (stpE q z m),A9,c9,by have:=Kc.out;omega,by go_num,by rw[Fr.out,HM.out],qA HL.out.symm,io.out,by rw[←lH.out];exact(GBN.out.below B9.out).put (O9.out.mono tO) (fun y hy=>by have:=(O9.out.1.lt y hy).1;omega),(BN.out.trans (B9.out.mono tO)).setCell ym _⟩
      case measure=>simp[intOf];omega
    ·have PL:k=t.length:=tO;subst PL;obtain⟨⟨r0,r1,r2⟩,cF⟩:=k8.out wk dV.out;have eu:=cF 0;have eE:=cF 1;have eG:=cF 2;have px:w.heap.size+1≠p:=tO;clear cF;have hR:RES=(g1,((szP n t.length t.length:Nat):Int),L):=by
      rw[HK.out.2,hL.out];show(g1,(((n:Int).toNat+(t.length-1):Nat):Int),srt cmpE (es++pthL (n:Int).toNat a b t t.length))=_
      rw[zaI,show szP n t.length t.length=n+(t.length-1) by unfold szP;omega]
     have HR:=qA hR;clear hR;go_wp2;obtain⟨e0,e1,e2⟩:=qi (.int .i64 g1) (.int .i64 ((szP n t.length t.length:Nat):Int)) (.slice A2 L.length c2) r0 r1 r2;have bw:Below w.heap.size w (((wk.setCell ⟨w.heap.size+1,0,none⟩ (.int .i64 g1)).setCell ⟨w.heap.size+1,1,none⟩ (.int .i64 ((szP n t.length t.length:Nat):Int))).setCell ⟨w.heap.size+1,2,none⟩ (.slice A2 L.length c2)):=qL _ _ _ (BX.out.trans (dV.out.mono tO)) tO;have ow:OwE (((wk.setCell ⟨w.heap.size+1,0,none⟩ (.int .i64 g1)).setCell ⟨w.heap.size+1,1,none⟩ (.int .i64 ((szP n t.length t.length:Nat):Int))).setCell ⟨w.heap.size+1,2,none⟩ (.slice A2 L.length c2)) (w.heap.size+2) (.slice A2 L.length c2) L:=aI.out.ow.keep fun b hb=>qK _ _ _ _ _ (by have:=(aI.out.ow.1.lt b hb).1;omega);exact bodyPost_ret (v:= .tuple #[.agg #[.int .i64 g1, .int .i64 ((szP n t.length t.length:Nat):Int), .slice A2 L.length c2], .bool true]) (by simp[results,Tryz.results182,go_sem,e0,e1,e2]) rfl ⟨_,by rw[HK.out.1],by rw[HR.out];exact⟨.slice A2 L.length c2,rfl,aT,aI.out.i2,ow.mono tO⟩,bw⟩
  ·have af:qEv (g1,N,es) t=false:=decide_eq_false fun q=>hE q.2;have HK:Hid (OK=false∧RES=(g1,N,es)):=qA (by have:=dD.out.trans af;exact⟨this,by rw[iG.out,this];rfl⟩);clear af;go_wp2;obtain⟨e0,e1,e2⟩:=qi (.int .i64 g1) (.int .i64 N) (.slice A1 es.length c1) r0 r1 r2;have bw:Below w.heap.size w (((w8.setCell ⟨w.heap.size+1,0,none⟩ (.int .i64 g1)).setCell ⟨w.heap.size+1,1,none⟩ (.int .i64 N)).setCell ⟨w.heap.size+1,2,none⟩ (.slice A1 es.length c1)):=qL _ _ _ (BX.out.trans (B8.out.mono tO)) tO;have ow:OwE (((w8.setCell ⟨w.heap.size+1,0,none⟩ (.int .i64 g1)).setCell ⟨w.heap.size+1,1,none⟩ (.int .i64 N)).setCell ⟨w.heap.size+1,2,none⟩ (.slice A1 es.length c1)) W.heap.size (.slice A1 es.length c1) es:=jT.out.ow.keep fun b hb=>qK _ _ _ _ _ (by have:=(jT.out.ow.1.lt b hb).1;omega);exact bodyPost_ret (v:= .tuple #[.agg #[.int .i64 g1, .int .i64 N, .slice A1 es.length c1], .bool false]) (by simp[results,Tryz.results182,go_sem,e0,e1,e2]) rfl ⟨_,by rw[HK.out.1],by rw[HK.out.2];exact⟨.slice A1 es.length c1,rfl,aT,aS,ow.mono tO⟩,bw⟩
 ·have af:qEv (g1,N,es) t=false:=decide_eq_false fun q=>hA q.1;have HK:Hid (OK=false∧RES=(g1,N,es)):=qA (by have:=dD.out.trans af;exact⟨this,by rw[iG.out,this];rfl⟩);clear af;go_wp2;obtain⟨e0,e1,e2⟩:=qi (.int .i64 g1) (.int .i64 N) (.slice A1 es.length c1) r0 r1 r2;have bw:Below w.heap.size w (((w8.setCell ⟨w.heap.size+1,0,none⟩ (.int .i64 g1)).setCell ⟨w.heap.size+1,1,none⟩ (.int .i64 N)).setCell ⟨w.heap.size+1,2,none⟩ (.slice A1 es.length c1)):=qL _ _ _ (BX.out.trans (B8.out.mono tO)) tO;have ow:OwE (((w8.setCell ⟨w.heap.size+1,0,none⟩ (.int .i64 g1)).setCell ⟨w.heap.size+1,1,none⟩ (.int .i64 N)).setCell ⟨w.heap.size+1,2,none⟩ (.slice A1 es.length c1)) W.heap.size (.slice A1 es.length c1) es:=jT.out.ow.keep fun b hb=>qK _ _ _ _ _ (by have:=(jT.out.ow.1.lt b hb).1;omega);exact bodyPost_ret (v:= .tuple #[.agg #[.int .i64 g1, .int .i64 N, .slice A1 es.length c1], .bool false]) (by simp[results,Tryz.results182,go_sem,e0,e1,e2]) rfl ⟨_,by rw[HK.out.1],by rw[HK.out.2];exact⟨.slice A1 es.length c1,rfl,aT,aS,ow.mono tO⟩,bw⟩
def Lt3 (x:Int):Prop:= -3≤x∧x≤3∧x≠0
theorem Lt3.b3 {x:Int} (h:Lt3 x): -3≤x∧x≤3:=⟨h.1,h.2.1⟩
def okR (es:List EdD) (v:Int):List Int→Prop
 | []=>True
 | [y]=>qF es v y<0∧Lt3 y
 | y::z::r=>y≠ -z∧Lt3 y∧okR es v (z::r)
def okS (g:GrD) (s:Int×List Int):Prop:=(0≤s.1∧s.1<g.2.1)∧okR g.2.2 s.1 s.2
section
variable {g:GrD} (hg:grB g=true) (hf:Fol g.2.2)
include hg
include hf
omit hf
include hf
end
def hE (e:EdD) (p x:Int):Prop:=(e.1=p∧e.2.1=x)∨(e.2.2=p∧e.2.1= -x)
section
variable {g:GrD} {u v:Int} {t:List Int}
theorem qOO {N:Nat} {e:EdD}:e∈pthL N u v t t.length↔ ∃j,j<t.length∧e=pthE N u v t j:=by
 unfold pthL;rw[List.mem_map];exact⟨fun ⟨j,h1,h2⟩=>⟨j,zaO.1 h1,h2.symm⟩,fun ⟨j,h1,h2⟩=>⟨j,zaO.2 h1,h2.symm⟩⟩
theorem qJP (h:qEv g t=true):g.2.1+t.length-1≤40∧(g.2.2.length:Int)+t.length≤120:=by
 unfold qEv at h;exact of_decide_eq_true h
theorem qLy (hg:grB g=true) (hu:0≤u∧u<g.2.1) (hv:0≤v∧v<g.2.1) (hw:qAi g.1 t=true) (h0:t.length≠0) {e:EdD} (he:e∈pthL g.2.1.toNat u v t t.length):
  (0≤e.1∧e.1<g.2.1+t.length-1)∧(1≤e.2.1∧e.2.1≤g.1)∧(0≤e.2.2∧e.2.2<g.2.1+t.length-1):=by
 obtain⟨j,hj,rfl⟩:=qOO.1 he;have hN:=(qB hg).2.1;have hx:=qId hw j hj;have ha:0≤atP g.2.1.toNat t.length u v j∧atP g.2.1.toNat t.length u v j<g.2.1+t.length-1:=by
  cases j with
  | zero=>show 0≤u∧u<_;omega
  | succ j=>rw[qNX];unfold nxP;split<;>omega
 have hn:0≤nxP g.2.1.toNat t.length v j∧nxP g.2.1.toNat t.length v j<g.2.1+t.length-1:=by
  unfold nxP;split<;>omega
 unfold pthE stpE;rw[qLv hj];split<;>(simp only;omega)
theorem qOY (hg:grB g=true) (hu:0≤u∧u<g.2.1) (hv:0≤v∧v<g.2.1) (hw:qAi g.1 t=true) (h0:t.length≠0) (af:qEv g t=true):grB (addG g u v t)=true:=by
 obtain⟨k1,k2⟩:=qJP af;obtain⟨h1,h2,h3,_⟩:=qB hg;have gF:=qAu qAD (g.2.2++pthL g.2.1.toNat u v t t.length);have hs:(addG g u v t).2.1=g.2.1+t.length-1:=by unfold addG;simp only;omega
 refine qFP h1 (by rw[hs];omega) ?_ gF.1 fun e he=> ?_
 ·have:=qCV (c:=cmpE) (g.2.2++pthL g.2.1.toNat u v t t.length)
  rw[zat,qJj] at this;show(srt cmpE (g.2.2++pthL g.2.1.toNat u v t t.length)).length≤120
  omega
 ·rw[hs];rcases zal.1 ((gF.2 e).1 he) with q | q
  ·have:=qI hg q
   exact⟨tO,this.2.1,tO⟩
  ·exact qLy hg hu hv hw h0 q
end
theorem OwE.trP {p base:Nat} {w w':World} {v:Value} {es:List EdD} (h:OwE w base v es) (ht:Tr p (p+1) w w') (hp:p<base):OwE w' base v es:=
 h.keep fun b hb=>ht.block b (h.1.lt b hb).2 (by have:=(h.1.lt b hb).1;omega)
theorem GBx.trP {p q base c:Nat} {A:Option Addr} {g:GrD} {w w':World} (h:GBx w q base A c g) (ht:Tr p (p+1) w w') (hp:p<base) (hq:p≠q):GBx w' q base A c g:=
 h.keep ht.size fun b hb=>by
  rcases hb with rfl | hb
  ·exact ht.block _ h.lt tO
  ·exact ht.block b (h.ow.1.lt b hb).2 (by have:=(h.ow.1.lt b hb).1;omega)
theorem CBx.trP {p q:Nat} {x y z:Value} {w w':World} (h:CBx w q x y z) (ht:Tr p (p+1) w w') (hq:p≠q):CBx w' q x y z:=by
 have hp:=ht.block q h.lt tO;exact⟨(zag (w:=w) hp).trans h.c0,(zag (w:=w) hp).trans h.c1,(zag (w:=w) hp).trans h.c2,fun j=>(zav (w:=w) hp).trans (h.fz j),zaG h.lt ht.size⟩
structure DrI (p:Nat) (A:Option Addr) (cap:Nat) (cs:List Int) (w0 W:World):Prop where
 tr:Tr p (p+1) w0 W
 cur:Cur p A cap cs W
section
variable {p cap:Nat} {A:Option Addr} {cs:List Int} {w0 W W':World}
theorem DrI.refl (h:Cur p A cap cs w0):DrI p A cap cs w0 w0:=⟨⟨rfl,rfl,rfl,zad _,fun _ _ _=>rfl⟩,h⟩
theorem DrI.to (h:DrI p A cap cs w0 W) (ht:Tr p (p+1) W W') (hc:Cur p A cap cs W'):DrI p A cap cs w0 W':=⟨h.tr.trans ht,hc⟩
theorem DrI.bel (h:DrI p A cap cs w0 W) (hb:Below W.heap.size W W'):DrI p A cap cs w0 W':=⟨h.tr.bel2 hb,h.cur.below hb⟩
theorem DrI.hi (h:DrI p A cap cs w0 W) (h0:Cur p A cap cs w0) {B:Nat} (hB:w0.heap.size≤B) (hb:Below B W W'):DrI p A cap cs w0 W':=by
 refine⟨⟨hb.os.trans h.tr.os,hb.tape.trans h.tr.tape,hb.output.trans h.tr.output,zao h.tr.size hb.size,fun k hk hn=>(hb.block k tO).trans (h.tr.block k hk hn)⟩,?_⟩;refine h.cur.tr (lo:=B) (hi:=W.heap.size) ⟨hb.os,hb.tape,hb.output,hb.size,fun k hk hn=>hb.block k tO⟩ (by have:=h0.lt;omega) fun hl b off e=> ?_;obtain⟨b',off',e',_,ac,_⟩:=h0.at_ hl;rw[e] at e';injection e' with e'
 injection e' with e1
 omega
theorem DrI.trans {w1:World} (h:DrI p A cap cs w0 w1) (h':DrI p A cap cs w1 W):DrI p A cap cs w0 W:=⟨h.tr.trans h'.tr,h'.cur⟩
end
theorem CBx.setv {w:World} {p:Nat} {x y z:Value} (h:CBx w p x y z) (a b c:Value):CBx (((w.setCell ⟨p,0,none⟩ a).setCell ⟨p,1,none⟩ b).setCell ⟨p,2,none⟩ c) p a b c:=by
 obtain⟨e0,e1,e2⟩:=qi a b c h.c0 h.c1 h.c2;exact⟨e0,e1,e2,fun j=>by rw[zaj,zaj,zaj];exact h.fz j,by simpa using h.lt⟩
theorem CBx.any {w:World} {p q:Nat} {x y z:Value} (h:CBx w p x y z) (a b c:Value): ∃x y z,CBx (((w.setCell ⟨q,0,none⟩ a).setCell ⟨q,1,none⟩ b).setCell ⟨q,2,none⟩ c) p x y z:=by
 by_cases e:p=q
 ·subst e;exact⟨_,_,_,h.setv a b c⟩
 ·exact⟨_,_,_,h.other e⟩
theorem qNy {g:GrD} {e:EdD} (hg:grB g=true) (he:(0≤e.1∧e.1<g.2.1)∧(1≤e.2.1∧e.2.1≤g.1)∧(0≤e.2.2∧e.2.2<g.2.1)) (hl:g.2.2.length<120):grB (g.1,g.2.1,insF cmpE g.2.2 e)=true:=by
 obtain⟨h1,h2,h3,h4⟩:=qB hg;have hs:=qHH hg;refine qFP h1 h2 (by have:=qCM (c:=cmpE) g.2.2 e;simp only;omega) ?_ fun x hx=> ?_
 ·simp only;rw[qES];exact qKc qAD e g.2.2 hs
 ·simp only at hx
  rw[qES] at hx;rcases(qFx e g.2.2 qAD x).1 hx with rfl | hx
  ·exact he
  ·exact qI hg hx
theorem qLR {r n:Int} {e:EdD} (hn:1≤n∧n≤40) (h:(0≤e.1∧e.1<n)∧(1≤e.2.1∧e.2.1≤r)∧(0≤e.2.2∧e.2.2<n)):qAa r n e=true:=by
 have hw:wrap64 (n-1)=n-1:=by unfold wrap64;omega
 obtain⟨⟨a1,a2⟩,⟨b1,b2⟩,c1,c2⟩:=h;unfold qAa;rw[hw];simp only[zaw];exact⟨⟨qAC.2 ⟨tO,tO⟩,qAC.2 ⟨tO,tO⟩⟩,qAC.2 ⟨tO,tO⟩⟩
theorem qJY (p:Nat) (A:Option Addr) (cap:Nat) (cs:List Int) (w:World) (h:Cur p A cap cs w):
  Calls Tryz.prog 225 #[.pointer (some ⟨p,0,none⟩)] w fun e w'=> ∃v g,e= .returned v∧OwG w' w.heap.size v g∧(grB g=true∧g.2.2.length≤8)∧Cur p A cap cs w'∧Tr p (p+1) w w':=by
 have H:=qA h;have hp:=h.lt;clear h;go_enter Tryz.func225,Tryz.ntmps225
 go_wp2_with fail;obtain⟨W0,am⟩: ∃W,W=w.alloc (.cells #[.int .i64 0,.int .i64 0, .slice none 0 0] 26):=⟨_,rfl⟩;rw[←am];obtain⟨xb,b0,s0⟩:=CBx.new am;clear am;have XB:=qA xb;have I0:Hid (DrI p A cap cs w W0):=qA ((DrI.refl H.out).bel b0);clear xb b0;have RA:Hid (RdI (W0.alloc (.cells #[.int .i64 1, .int .i64 2, .int .i64 2, .int .i64 2, .int .i64 3] 3)) (.slice (some ⟨W0.heap.size,0,none⟩) 5 5) [1,2,2,2,3]):=qA (qAE W0 [1,2,2,2,3] (by intro y hy;simp at hy;rcases hy with rfl | rfl | rfl<;>(unfold I64;omega)) (by simp) (zad _)).rd;have IA:=qA (I0.out.bel ((zae _ _).alloc (zad _) (.cells #[.int .i64 1, .int .i64 2, .int .i64 2, .int .i64 2, .int .i64 3] 3)));have XA:=qA (XB.out.below ((zae _ _).alloc (zad _) (.cells #[.int .i64 1, .int .i64 2, .int .i64 2, .int .i64 2, .int .i64 3] 3)));have eU:(zam (some ⟨W0.heap.size,0,none⟩) 5 5).ownBlock≠some p:=fun e=>by simp[zan] at e;omega
 rw[←s0];(with_reducible refine(qBR p A cap cs _ [1,2,2,2,3] _ IA.out.cur RA.out eU (by simp) (by simp)).mono ?_)
 rintro e w1 ⟨r,rfl,hr,c1,t1⟩;have I1:=qA (IA.out.to t1 c1);have X1:=qA (XA.out.trP t1 tO);have ka:1≤r:=by simp at hr;omega
 have dX:r≤3:=by simp at hr;omega
 clear c1 t1 IA RA hr eU XA I0 XB;go_wp2_with fail;refine(qAF p A cap cs 5 _ I1.out.cur tO tO).mono ?_
 rintro e w2 ⟨n0,rfl,⟨n1,n2⟩,c2,t2⟩;have I2:=qA (I1.out.to t2 c2);have X2:=qA (X1.out.trP t2 tO);obtain⟨N,hN⟩: ∃N,N=1+n0:=⟨_,rfl⟩;have l5:1≤N:=tO;have Mv:N≤5:=tO;have Gg:IntKind.i64.wrap (1+n0)=N:=by rw[IntKind.wrap_i64];omega
 clear c2 t2 I1 X1;go_wp2_with fail;rw[←hN];obtain⟨W3,lO⟩: ∃W,W=w2.alloc (.cells #[.int .i64 r,.int .i64 N, .slice none 0 0] 26):=⟨_,rfl⟩;have g3:GBx W3 w2.heap.size (w.heap.size+1) none 0 (r,N,[]):=GBx.new (base:=w.heap.size+1) (m:=(r,N,[])) OwE.nil (show I64 r from⟨tO,tO⟩) (show I64 N from⟨tO,tO⟩) lO;obtain⟨_,b3,s3⟩:=CBx.new lO;rw[←lO];have G3:=qA g3;have I3:=qA (I2.out.bel b3);have X3:=qA (X2.out.below b3);have cT:=X2.out.lt;have oN:grB (r,N,[])=true:=qFP ⟨ka,dX⟩ ⟨l5,by simp only;omega⟩ (by simp) zaE.nil (fun _ h=>by cases h);have uq:=qA oN;clear lO g3 b3 I2 X2 hN Gg oN;generalize hb:w2.heap.size=b at*;clear hb;refine(qAF p A cap cs 9 _ I3.out.cur tO tO).mono ?_
 rintro e w4 ⟨k0,rfl,⟨k1,k2⟩,c4,t4⟩;have I4:=qA (I3.out.to t4 c4);have X4:=qA (X3.out.trP t4 tO);have G4:=qA (G3.out.trP t4 tO tO);clear c4 t4 I3 X3 G3;go_wp2;go_loopw [4,5] (fun nv _ wr=> ∃(k:Int) (g:GrD) (Ar:Option Addr) (cr:Nat),nv= .int .i64 k∧0≤k∧k+g.2.2.length≤8∧grB g=true∧GBx wr b (w.heap.size+1) Ar cr g∧CBx wr w.heap.size (.int .i64 0) (.int .i64 0) (.slice none 0 0)∧DrI p A cap cs w wr) (fun nv _ _=>(intOf nv).toNat)
 case atStart=>exact⟨k0,_,none,0,rfl,k1,by simp;omega,uq.out,G4.out,X4.out,I4.out⟩
 case round=>
  obtain⟨k,⟨g1,M,es⟩,Ar,cr,rfl,we,ll,aY,hG,hX,hI⟩:=hrel;have aH:=qA aY;have HG:=qA hG;have HX:=qA hX;have HI:=qA hI;obtain⟨q1,q2,_,_⟩:=qB aY;simp only at q1 q2 ll
  have iC:=hI.tr.size;have aZ:=hG.lt;have CC:Hid (∀W',Tr p (p+1) wr W'→GBx W' b (w.heap.size+1) Ar cr (g1,M,es)):=qA fun W' ht=>hG.trP ht tO tO;obtain⟨x0,x1,x2⟩:=hX.cs;obtain⟨y0,y1,y2⟩:=hG.cs;have f0:=hX.fz 0;have f1:=hX.fz 1;have f2:=hX.fz 2;simp only at y0 y1 y2
  clear aY hG hX hI;by_cases ac:0<k
  ·clear x0 x1 x2 y0 y1 y2 f0 f1 f2;go_wp2_with fail;refine qAK [.val (.pointer (some ⟨p,0,none⟩)), .val (.pointer (some ⟨b,1,none⟩)), .val (.int .i64 M), .pur (fun _ v=> ∃x:Int,v= .int .i64 x∧0≤x∧x<M), .val (.pointer (some ⟨p,0,none⟩)), .val (.pointer (some ⟨b,0,none⟩)), .val (.int .i64 g1), .pur (fun _ v=> ∃x:Int,v= .int .i64 x∧0≤x∧x<g1), .pur (fun _ v=> ∃x:Int,v= .int .i64 x∧1≤x∧x≤g1), .val (.pointer (some ⟨p,0,none⟩)), .val (.pointer (some ⟨b,1,none⟩)), .val (.int .i64 M), .pur (fun _ v=> ∃x:Int,v= .int .i64 x∧0≤x∧x<M), .pur (fun _ v=> ∃x y z:Int,v= .agg #[.int .i64 x, .int .i64 y, .int .i64 z]∧(0≤x∧x<M)∧(1≤y∧y≤g1)∧(0≤z∧z<M)), .mem (fun _ W v=> ∃q x y z,v= .pointer (some ⟨q,0,none⟩)∧wr.heap.size≤q∧CBx W q x y z), .mem (fun us W _=> ∃(q:Nat) (x y z:Int),us 14= .pointer (some ⟨q,0,none⟩)∧wr.heap.size≤q∧CBx W q (.int .i64 x) (.int .i64 y) (.int .i64 z)∧(0≤x∧x<M)∧(1≤y∧y≤g1)∧(0≤z∧z<M))]
    [none,none,none,some (fun W W'=>Tr p (p+1) W W'∧Cur p A cap cs W'),none,none,none,some (fun W W'=>Tr p (p+1) W W'∧Cur p A cap cs W'),none,none,none,none,some (fun W W'=>Tr p (p+1) W W'∧Cur p A cap cs W'),none,some (fun W W'=>Below W.heap.size W W'),some (fun W W'=> ∃q x y z,wr.heap.size≤q∧W'=((W.setCell ⟨q,0,none⟩ x).setCell ⟨q,1,none⟩ y).setCell ⟨q,2,none⟩ z)]
    (DrI p A cap cs wr) [(14,3),(14,7),(14,12),(14,15)] tK tK (by rfl) (by rfl)
    ((DrI.refl HI.out.cur).bel (zae _ _).drew)
    ⟨fun _ _ h t=>h.to t.1 t.2,fun _ _ h t=>h.to t.1 t.2,fun _ _ h t=>h.to t.1 t.2,fun _ _ h t=>h.bel t,fun _ _ h ⟨q,x,y,z,hq,e⟩=>by rw[e];exact h.hi HI.out.cur (zad _) (qL x y z (zae _ _) hq),trivial⟩
    ⟨fun _ _ _ _ _ _ t ⟨q,x,y,z,e,hq,c⟩=>⟨q,x,y,z,e,hq,c.trP t.1 tO⟩,fun _ _ _ _ _ _ t ⟨q,x,y,z,e,hq,c⟩=>⟨q,x,y,z,e,hq,c.trP t.1 tO⟩,fun _ _ _ _ _ _ t ⟨q,x,y,z,e,hq,c⟩=>⟨q,x,y,z,e,hq,c.trP t.1 tO⟩,fun _ _ _ _ _ _ ⟨q',a,b,c',_,e'⟩ ⟨q,x,y,z,e,hq,c⟩=>(by rw[e'];obtain⟨x',y',z',h'⟩:=c.any (q:=q') a b c';exact⟨q,x',y',z',e,hq,h'⟩),trivial⟩ (fun vs=> ?_)
   refine⟨fun W' _ _ hI hD hK=> ?_,?_⟩
   ·skip;go_simp;exact hK.out _ _ rfl rfl
   simp only[zaf,zaa,zab,zac,Sg.pick,Nat.reduceAdd]
   iterate 2
    refine⟨fun W' _ _ hI hD hK=> ?_,?_⟩
    ·have z1:=(CC.out W' hI.out.tr).c1;go_simp;exact hK.out _ _ rfl rfl
    simp only[zaf,zaa,zab,zac,Sg.pick,Nat.reduceAdd]
   refine⟨fun W' _ _ hI hD hK=> ?_,?_⟩
   ·skip;go_simp;(refine(qAF p A cap cs M _ hI.out.cur tO tO).mono ?_;rintro e w' ⟨x,rfl,hx,c,t⟩;exact hK.out _ _ ⟨t,c⟩ ⟨x,rfl,hx⟩)
   simp only[zaf,zaa,zab,zac,Sg.pick,Nat.reduceAdd];refine⟨fun W' _ _ hI hD hK=> ?_,?_⟩
   ·skip;go_simp;exact hK.out _ _ rfl rfl
   simp only[zaf,zaa,zab,zac,Sg.pick,Nat.reduceAdd]
   iterate 2
    refine⟨fun W' _ _ hI hD hK=> ?_,?_⟩
    ·have z1:=(CC.out W' hI.out.tr).c0;go_simp;exact hK.out _ _ rfl rfl
    simp only[zaf,zaa,zab,zac,Sg.pick,Nat.reduceAdd]
   refine⟨fun W' _ _ hI hD hK=> ?_,?_⟩
   ·skip;go_simp;(refine(qAF p A cap cs g1 _ hI.out.cur tO tO).mono ?_;rintro e w' ⟨x,rfl,hx,c,t⟩;exact hK.out _ _ ⟨t,c⟩ ⟨x,rfl,hx⟩)
   simp only[zaf,zaa,zab,zac,Sg.pick,Nat.reduceAdd];refine⟨fun W' _ _ hI hD hK=> ?_,?_⟩
   ·obtain⟨x7,e7,h7⟩:=(show ∃x:Int,vs 7= .int .i64 x∧0≤x∧x<g1 from hD.out 7 tK);have xY:IntKind.i64.wrap (1+x7)=1+x7:=(by rw[IntKind.wrap_i64];omega);rw[e7] at hK⊢;go_simp;exact hK.out _ _ rfl ⟨1+x7,rfl,tO,tO⟩
   simp only[zaf,zaa,zab,zac,Sg.pick,Nat.reduceAdd];refine⟨fun W' _ _ hI hD hK=> ?_,?_⟩
   ·skip;go_simp;exact hK.out _ _ rfl rfl
   simp only[zaf,zaa,zab,zac,Sg.pick,Nat.reduceAdd]
   iterate 2
    refine⟨fun W' _ _ hI hD hK=> ?_,?_⟩
    ·have z1:=(CC.out W' hI.out.tr).c1;go_simp;exact hK.out _ _ rfl rfl
    simp only[zaf,zaa,zab,zac,Sg.pick,Nat.reduceAdd]
   refine⟨fun W' _ _ hI hD hK=> ?_,?_⟩
   ·skip;go_simp;(refine(qAF p A cap cs M _ hI.out.cur tO tO).mono ?_;rintro e w' ⟨x,rfl,hx,c,t⟩;exact hK.out _ _ ⟨t,c⟩ ⟨x,rfl,hx⟩)
   simp only[zaf,zaa,zab,zac,Sg.pick,Nat.reduceAdd];refine⟨fun W' _ _ hI hD hK=> ?_,?_⟩
   ·obtain⟨x3,e3,h3⟩:=(show ∃x:Int,vs 3= .int .i64 x∧0≤x∧x<M from hD.out 3 tK);obtain⟨x8,e8,h8⟩:=(show ∃x:Int,vs 8= .int .i64 x∧1≤x∧x≤g1 from hD.out 8 tK);obtain⟨Nc,Po,LW⟩:=(show ∃x:Int,vs 12= .int .i64 x∧0≤x∧x<M from hD.out 12 tK);rw[e3,e8,Po] at hK⊢;go_simp;exact hK.out _ _ rfl ⟨x3,x8,Nc,rfl,h3,h8,LW⟩
   simp only[zaf,zaa,zab,zac,Sg.pick,Nat.reduceAdd];refine⟨fun W' _ _ hI hD hK=> ?_,?_⟩
   ·skip;go_simp;exact hK.out _ _ ((zae _ _).alloc (zad _) _) ⟨_,_,_,_,rfl,hI.out.tr.size,(CBx.new rfl).1⟩
   simp only[zaf,zaa,zab,zac,Sg.pick,Nat.reduceAdd];refine⟨fun W' _ _ hI hD hK=> ?_,?_⟩
   ·obtain⟨q,a0,a1,a2,xK,hq,hc⟩:=(show ∃q x y z,vs 14= .pointer (some ⟨q,0,none⟩)∧wr.heap.size≤q∧CBx W' q x y z from hD.out 14 tK);obtain⟨x,y,z,Mq,hx⟩:=(show ∃x y z:Int,vs 13= .agg #[.int .i64 x, .int .i64 y, .int .i64 z]∧(0≤x∧x<M)∧(1≤y∧y≤g1)∧(0≤z∧z<M) from hD.out 13 tK);rw[Mq,xK] at hK⊢;obtain⟨z0,z1,z2⟩:=hc.cs;have u0:=hc.fz 0;have u1:=hc.fz 1;have u2:=hc.fz 2;go_simp;exact hK.out undef _ ⟨q,_,_,_,hq,rfl⟩ ⟨q,x,y,z,(qBv tK).trans xK,hq,hc.setv _ _ _,hx⟩
   simp only[zaf,zaa,zab,zac,Sg.pick,Nat.reduceAdd];intro W9 hI9 hD9;obtain⟨q,x,y,z,xK,hq,hc,hx,hy,hz⟩:=(show ∃(q:Nat) (x y z:Int),qAo _ 15 vs 14= .pointer (some ⟨q,0,none⟩)∧wr.heap.size≤q∧CBx W9 q (.int .i64 x) (.int .i64 y) (.int .i64 z)∧(0≤x∧x<M)∧(1≤y∧y≤g1)∧(0≤z∧z<M) from hD9.out 15 (by decide));rw[qBv tK] at xK;rw[xK];have G9:=qA (CC.out W9 hI9.out.tr);have X9:=qA (HX.out.trP hI9.out.tr tO);have Cx:=qA (qGC (.agg #[.int .i64 g1, .int .i64 M, .slice Ar es.length cr]) (g1,M,es) (x,y,z) W9 G9.out.arg ⟨⟨by simp only;omega,by simp only;omega⟩,⟨by simp only;omega,by simp only;omega⟩,⟨by simp only;omega,by simp only;omega⟩⟩ aH.out (qLR q2 ⟨hx,hy,hz⟩) (by simp only;omega));have GP:Hid (grB (g1,M,insF cmpE es (x,y,z))=true):=qA (qNy aH.out ⟨hx,hy,hz⟩ (by simp only;omega));have xD:(insF cmpE es (x,y,z)).length≤es.length+1:=qCM (c:=cmpE) es (x,y,z);unfold edV at Cx;simp only at Cx
   generalize insF cmpE es (x,y,z)=bk at*;generalize decide (es.length<bk.length)=dd at*;obtain⟨z0,z1,z2⟩:=G9.out.cs;obtain⟨v0,v1,v2⟩:=hc.cs;simp only at z0 z1 z2
   clear hD9 xK;go_wp2_with fail;refine Cx.out.mono ?_;rintro e d7 ⟨IJ,rfl,nH,gf⟩;obtain⟨M8,rfl,aT,aS,pB⟩:=nH;obtain⟨tQ,tF,rfl,_⟩:=pB.form;simp only at pB aT aS⊢
   clear z0 z1 z2 v0 v1 v2 Cx;have ut:=qA (G9.out.below gf);have Dx:=qA (X9.out.below gf);have DZ:=qA (HI.out.trans (hI9.out.bel gf));have kn:=hI9.out.tr.size;have Jd:=qA pB;obtain⟨z0,z1,z2⟩:=ut.out.cs;have f0:=ut.out.fz 0;have f1:=ut.out.fz 1;have f2:=ut.out.fz 2;simp only at z0 z1 z2
   have mQ:IntKind.i64.wrap (k-1)=k-1:=by rw[IntKind.wrap_i64];omega
   clear pB gf hI9;go_wp2;go_roundw
   case rel=>
    refine⟨k-1,(g1,M,bk),tQ,tF,by go_num,tO,by simp only;omega,GP.out,?_,Dx.out.other tO,?_⟩
    ·exact(ut.out.set (m:=(g1,M,bk)) Jd.out (fun b hb=>by have:=(Jd.out.1.lt b hb).1;omega) aT aS).mono tO
    ·exact DZ.out.hi H.out (zad _) (qL _ _ _ (zae _ _) tO)
   case measure=>(simp[intOf];omega)
  ·go_wp2;have XF:=HX.out.setv (.int .i64 g1) (.int .i64 M) (.slice Ar es.length cr);obtain⟨e0,e1,e2⟩:=XF.cs;have IF:=HI.out.hi H.out (zad _) (qL (.int .i64 g1) (.int .i64 M) (.slice Ar es.length cr) (zae _ _) (zad w.heap.size));exact bodyPost_ret (v:= .agg #[.int .i64 g1, .int .i64 M, .slice Ar es.length cr]) (by simp[results,Tryz.results225,go_sem,e0,e1,e2]) rfl ⟨_,rfl,g1,M,es,⟨_,rfl,HG.out.i1,HG.out.i2,(HG.out.ow.keep fun c hc=>qK _ _ _ _ _ (by have:=(HG.out.ow.1.lt c hc).1;omega)).mono tO⟩,⟨aH.out,tO⟩,IF.cur,IF.tr⟩
theorem GBx.rk {w:World} {p base:Nat} {A:Option Addr} {c:Nat} {g:GrD} (h:GBx w p base A c g) {z:Int} (hz:I64 z):GBx (w.setCell ⟨p,0,none⟩ (.int .i64 z)) p base A c (z,g.2.1,g.2.2):=
 ⟨zas _ _ _ h.c0,(zai _ _ _ _ (by simp)).trans h.c1,(zai _ _ _ _ (by simp)).trans h.c2,fun j=>by rw[zaj];exact h.fz j,h.ow.keep fun b hb=>zak _ _ _ b (h.ne b hb),h.ne,hz,h.i2,by simpa using h.lt⟩
theorem CBx.one {w:World} {p q j:Nat} {x y z v:Value} (h:CBx w p x y z) (ai:p≠q):CBx (w.setCell ⟨q,j,none⟩ v) p x y z:=by
 have hp:(w.setCell ⟨q,j,none⟩ v).heap[p]? =w.heap[p]? :=zak _ _ _ p ai;exact⟨(zag (w:=w) hp).trans h.c0,(zag (w:=w) hp).trans h.c1,(zag (w:=w) hp).trans h.c2,fun j=>(zav (w:=w) hp).trans (h.fz j),by simpa using h.lt⟩
theorem CBx.set2 {w:World} {p:Nat} {x y z:Value} (h:CBx w p x y z) (v:Value):CBx (w.setCell ⟨p,2,none⟩ v) p x y v:=
 ⟨(zai _ _ _ _ (by simp)).trans h.c0,(zai _ _ _ _ (by simp)).trans h.c1,zas _ _ _ h.c2,fun j=>by rw[zaj];exact h.fz j,by simpa using h.lt⟩
theorem CBx.grown {w w':World} {p:Nat} {x y z:Value} {row:Option Nat} (h:CBx w p x y z) (hg:w.grownBy w' row) (hr: ∀b,row=some b→b≠p):CBx w' p x y z:=by
 have hp:=hg.block p h.lt fun e=>hr p e.symm rfl;exact⟨(zag (w:=w) hp).trans h.c0,(zag (w:=w) hp).trans h.c1,(zag (w:=w) hp).trans h.c2,fun j=>(zav (w:=w) hp).trans (h.fz j),zaG h.lt hg.size⟩
theorem CBx.edC {w:World} {p:Nat} {x y z:Int} (h:CBx w p (.int .i64 x) (.int .i64 y) (.int .i64 z)): ∀j u,(edC (x,y,z))[j]? =some u→w.cell? ⟨p,j,none⟩=some u
 | 0,u,e=>by rw[h.c0];exact e
 | 1,u,e=>by rw[h.c1];exact e
 | 2,u,e=>by rw[h.c2];exact e
 | n+3,u,e=>by simp[Go.Proofs.YtnjpoljbagfdnaaGreat.edC] at e
theorem DrI.grow {p cap:Nat} {A:Option Addr} {cs:List Int} {w0 W W':World} {row:Option Nat} (h:DrI p A cap cs w0 W) (h0:Cur p A cap cs w0) (hg:W.grownBy W' row) (hr: ∀b,row=some b→w0.heap.size≤b):DrI p A cap cs w0 W':=⟨h.tr.grow2 hg hr,h.cur.new h0 hg hr⟩
theorem qMC (p:Nat) (A:Option Addr) (cap:Nat) (cs:List Int) (w:World) (h:Cur p A cap cs w):
  Calls Tryz.prog 185 #[.pointer (some ⟨p,0,none⟩)] w fun e w'=> ∃v g,e= .returned v∧OwG w' w.heap.size v g∧g.2.2.length≤9∧Cur p A cap cs w'∧Tr p (p+1) w w':=by
 have H:=qA h;have hp:=h.lt;clear h;go_enter Tryz.func185,Tryz.ntmps185
 go_wp2_with fail;obtain⟨W0,am⟩: ∃W,W=w.alloc (.cells #[.int .i64 0,.int .i64 0, .slice none 0 0] 26):=⟨_,rfl⟩;rw[←am];obtain⟨xb,b0,s0⟩:=CBx.new am;clear am;have XB:=qA xb;have I0:Hid (DrI p A cap cs w W0):=qA ((DrI.refl H.out).bel b0);clear xb b0;refine(qJY p A cap cs _ I0.out.cur).mono ?_
 rintro e w1 ⟨v1,⟨g1,M,es⟩,rfl,⟨s1,rfl,aT,aS,dG⟩,⟨_,dR⟩,c1,t1⟩;obtain⟨A1,ah,rfl,_⟩:=dG.form;simp only at aT aS dG dR⊢
 have I1:=qA (I0.out.to t1 c1);have X1:=qA (XB.out.trP t1 tO);have aw:=t1.size;have gP:=qA dG;clear c1 t1 dG I0 XB;go_wp2_with fail;obtain⟨W2,aD⟩: ∃W,W=w1.alloc (.cells #[.int .i64 g1,.int .i64 M, .slice A1 es.length ah] 26):=⟨_,rfl⟩;have g2:=GBx.new (m:=(g1,M,es)) gP.out aT aS aD;obtain⟨_,b2,s2⟩:=CBx.new aD;rw[←aD];rw[s0] at g2;have G2:=qA g2;have I2:=qA (I1.out.bel b2);have X2:=qA (X1.out.below b2);have CB:w.heap.size<w1.heap.size:=X1.out.lt;clear aD g2 b2 I1 X1 gP;generalize hb:w1.heap.size=b at*;clear hb;refine(qAF p A cap cs 14 _ I2.out.cur tO tO).mono ?_
 rintro e w3 ⟨y,rfl,⟨y0,y1⟩,c3,t3⟩;have I3:=qA (I2.out.to t3 c3);have X3:=qA (X2.out.trP t3 tO);have G3:=qA (G2.out.trP t3 tO tO);clear c3 t3 I2 X2 G2;have Px:y=0∨y=1∨y=2∨(¬y=0∧ ¬y=1∧ ¬y=2):=tO;rcases Px with rfl | rfl | rfl | ⟨n0,n1,n2⟩
 ·skip;have RA:Hid (RdI (w3.alloc (.cells #[.int .i64 (-1), .int .i64 0, .int .i64 1, .int .i64 41] 3)) (.slice (some ⟨w3.heap.size,0,none⟩) 4 4) [-1,0,1,41]):=qA (qAE w3 [-1,0,1,41] (by intro y hy;simp at hy;unfold I64;omega) (by simp) (zad _)).rd;have IA:=qA (I3.out.bel ((zae _ _).alloc (zad _) (.cells #[.int .i64 (-1), .int .i64 0, .int .i64 1, .int .i64 41] 3)));have XA:=qA (X3.out.below ((zae _ _).alloc (zad _) (.cells #[.int .i64 (-1), .int .i64 0, .int .i64 1, .int .i64 41] 3)));have GA:=qA (G3.out.below ((zae _ _).alloc (zad _) (.cells #[.int .i64 (-1), .int .i64 0, .int .i64 1, .int .i64 41] 3)));have eU:(zam (some ⟨w3.heap.size,0,none⟩) 4 4).ownBlock≠some p:=fun e=>by simp[zan] at e;have:=I3.out.tr.size;omega
  go_wp2_with fail;(with_reducible refine(qBR p A cap cs _ [-1,0,1,41] _ IA.out.cur RA.out eU (by simp) (by simp)).mono ?_)
  rintro e w4 ⟨z,rfl,hz,c4,t4⟩;have GJ:I64 z:=by simp at hz;unfold I64;omega
  have I4:=qA (IA.out.to t4 c4);have X4:=qA (XA.out.trP t4 tO);have G4:=qA (GA.out.trP t4 tO tO);clear c4 t4 hz IA XA GA RA eU;obtain⟨y0,y1,y2⟩:=G4.out.cs;simp only at y0 y1 y2
  have x0:=X4.out.c0;have f0:=X4.out.fz 0;have x1:=X4.out.c1;have f1:=X4.out.fz 1;have x2:=X4.out.c2;have f2:=X4.out.fz 2;have q0:=G4.out.fz 0;have q1:=G4.out.fz 1;go_wp2;have fW:GBx (w4.setCell ⟨b,1,none⟩ (.int .i64 z)) b (w.heap.size+1) A1 ah (g1,z,es):=G4.out.sz GJ;have X5:=qA (X4.out.one (q:=b) (j:=1) (v:= .int .i64 z) tO);have G5:=qA fW;have I5:=qA (I4.out.hi H.out (zad _) ((zae w.heap.size w4).setCell (p:=⟨b,1,none⟩) (by show w.heap.size≤b;omega) (.int .i64 z)));have XF:=X5.out.setv (.int .i64 g1) (.int .i64 z) (.slice A1 es.length ah);obtain⟨e0,e1,e2⟩:=XF.cs;have IF:=I5.out.hi H.out (zad _) (qL (.int .i64 g1) (.int .i64 z) (.slice A1 es.length ah) (zae _ _) (zad w.heap.size));exact bodyPost_ret (v:= .agg #[.int .i64 g1, .int .i64 z, .slice A1 es.length ah]) (by simp[results,Tryz.results185,go_sem,e0,e1,e2]) rfl ⟨_,(g1,z,es),rfl,⟨_,rfl,G5.out.i1,G5.out.i2,(G5.out.ow.keep fun c hc=>qK _ _ _ _ _ (by have:=(G5.out.ow.1.lt c hc).1;omega)).mono tO⟩,by simp only;omega,IF.cur,IF.tr⟩
 ·skip;have RA:Hid (RdI (w3.alloc (.cells #[.int .i64 0, .int .i64 1, .int .i64 4] 3)) (.slice (some ⟨w3.heap.size,0,none⟩) 3 3) [0,1,4]):=qA (qAE w3 [0,1,4] (by intro y hy;simp at hy;unfold I64;omega) (by simp) (zad _)).rd;have IA:=qA (I3.out.bel ((zae _ _).alloc (zad _) (.cells #[.int .i64 0, .int .i64 1, .int .i64 4] 3)));have XA:=qA (X3.out.below ((zae _ _).alloc (zad _) (.cells #[.int .i64 0, .int .i64 1, .int .i64 4] 3)));have GA:=qA (G3.out.below ((zae _ _).alloc (zad _) (.cells #[.int .i64 0, .int .i64 1, .int .i64 4] 3)));have eU:(zam (some ⟨w3.heap.size,0,none⟩) 3 3).ownBlock≠some p:=fun e=>by simp[zan] at e;have:=I3.out.tr.size;omega
  go_wp2_with fail;(with_reducible refine(qBR p A cap cs _ [0,1,4] _ IA.out.cur RA.out eU (by simp) (by simp)).mono ?_)
  rintro e w4 ⟨z,rfl,hz,c4,t4⟩;have GJ:I64 z:=by simp at hz;unfold I64;omega
  have I4:=qA (IA.out.to t4 c4);have X4:=qA (XA.out.trP t4 tO);have G4:=qA (GA.out.trP t4 tO tO);clear c4 t4 hz IA XA GA RA eU;obtain⟨y0,y1,y2⟩:=G4.out.cs;simp only at y0 y1 y2
  have x0:=X4.out.c0;have f0:=X4.out.fz 0;have x1:=X4.out.c1;have f1:=X4.out.fz 1;have x2:=X4.out.c2;have f2:=X4.out.fz 2;have q0:=G4.out.fz 0;have q1:=G4.out.fz 1;go_wp2;have fW:GBx (w4.setCell ⟨b,0,none⟩ (.int .i64 z)) b (w.heap.size+1) A1 ah (z,M,es):=G4.out.rk GJ;have X5:=qA (X4.out.one (q:=b) (j:=0) (v:= .int .i64 z) tO);have G5:=qA fW;have I5:=qA (I4.out.hi H.out (zad _) ((zae w.heap.size w4).setCell (p:=⟨b,0,none⟩) (by show w.heap.size≤b;omega) (.int .i64 z)));have XF:=X5.out.setv (.int .i64 z) (.int .i64 M) (.slice A1 es.length ah);obtain⟨e0,e1,e2⟩:=XF.cs;have IF:=I5.out.hi H.out (zad _) (qL (.int .i64 z) (.int .i64 M) (.slice A1 es.length ah) (zae _ _) (zad w.heap.size));exact bodyPost_ret (v:= .agg #[.int .i64 z, .int .i64 M, .slice A1 es.length ah]) (by simp[results,Tryz.results185,go_sem,e0,e1,e2]) rfl ⟨_,(z,M,es),rfl,⟨_,rfl,G5.out.i1,G5.out.i2,(G5.out.ow.keep fun c hc=>qK _ _ _ _ _ (by have:=(G5.out.ow.1.lt c hc).1;omega)).mono tO⟩,by simp only;omega,IF.cur,IF.tr⟩
 ·go_wp2_with fail;have DW:Hid (∀c,(zam A1 es.length ah).ownBlock=some c→w.heap.size+1≤c∧c<w3.heap.size):=qA fun c hc=>G3.out.ow.1.lt c hc;have RP:=G3.out.lt;have xn:=qA G3.out.ne;refine qBC [.val (.pointer (some ⟨b,2,none⟩)), .val (.slice A1 es.length ah), .val (.pointer (some ⟨p,0,none⟩)), .pur (fun _ v=> ∃x:Int,v= .int .i64 x∧0≤x∧x<4), .pur (fun _ v=> ∃x:Int,v= .agg #[.int .i64 x, .int .i64 1, .int .i64 0]∧0≤x∧x<4), .mem (fun _ W v=> ∃(q:Nat) (x:Int),v= .slice (some ⟨q,0,none⟩) 1 1∧w3.heap.size≤q∧CBx W q (.int .i64 x) (.int .i64 1) (.int .i64 0)∧0≤x∧x<4),
    .mem (fun _ W v=> ∃A' c' ms,v= .slice A' ms.length c'∧ms.length=es.length+1∧OwE W (w.heap.size+1) v ms∧(∀c,v.ownBlock=some c→c≠b)∧ ∃z,CBx W b (.int .i64 g1) (.int .i64 M) z), .val (.pointer (some ⟨b,2,none⟩)), .mem (fun _ W _=> ∃A' c' ms,ms.length=es.length+1∧GBx W b (w.heap.size+1) A' c' (g1,M,ms))]
   [none,none,none,some (fun W W'=>Tr p (p+1) W W'∧Cur p A cap cs W'),none,some (fun W W'=>Below W.heap.size W W'),some (fun W W'=>W.grownBy W' (zam A1 es.length ah).ownBlock),none,some (fun W W'=> ∃v,W'=W.setCell ⟨b,2,none⟩ v)]
   (fun W=>DrI p A cap cs w W∧w3.heap.size≤W.heap.size∧CBx W w.heap.size (.int .i64 0) (.int .i64 0) (.slice none 0 0)) (fun W=>GBx W b (w.heap.size+1) A1 ah (g1,M,es)) [6,8] [(5,6),(5,8),(6,8)] tK tK (by rfl) (by rfl)
   ⟨I3.out.bel (zae _ _).drew,zad _,X3.out.below (zae _ _).drew⟩ (G3.out.below (zae _ _).drew)
   ⟨fun _ _ h t=>⟨h.1.to t.1 t.2,zao h.2.1 t.1.size,h.2.2.trP t.1 tO⟩,fun _ _ h t=>⟨h.1.bel t,zao h.2.1 t.size,h.2.2.below t⟩,fun _ _ h t=>⟨h.1.grow H.out t (fun c hc=>by have:=(DW.out c hc).1;omega),zao h.2.1 t.size,h.2.2.grown t (fun c hc=>by have:=(DW.out c hc).1;omega)⟩,fun W _ h ⟨v,e⟩=>by subst e;exact⟨h.1.hi H.out (zad _) ((zae w.heap.size W).setCell (p:=⟨b,2,none⟩) (by show w.heap.size≤b;omega) v),by simpa using h.2.1,h.2.2.one tO⟩,trivial⟩
   ⟨.inr fun _ _ _ h t=>h.trP t.1 tO tO, .inr fun _ _ _ h t=>h.below t, .inl (by simp), .inl (by simp),trivial⟩
   ⟨fun _ _ _ _ _ _ t ⟨q,x,e,hq,c,hx⟩=>⟨q,x,e,hq,c.grown t (fun c' kZ=>by have:=(DW.out c' kZ).2;omega),hx⟩,fun _ _ _ _ _ _ ⟨u,t⟩ ⟨q,x,e,hq,c,hx⟩=>by subst t;exact⟨q,x,e,hq,c.one tO,hx⟩,fun _ _ _ _ _ _ ⟨u,t⟩ ⟨A',c',e,hv,hl,o,hn,z,c⟩=>by subst t;exact⟨A',c',e,hv,hl,o.keep fun d hd=>zak _ _ _ d (hn d hd),hn,_,c.set2 u⟩,trivial⟩ (fun vs=> ?_)
  refine⟨fun W' _ _ hI hD hK=> ?_,?_⟩
  ·skip;go_simp;exact hK.out _ _ rfl rfl
  simp only[zaf,zaa,zab,zac,Sg.pick,Nat.reduceAdd];refine⟨fun W' _ _ hI hD hK=> ?_,?_⟩
  ·have z2:=(hI.out.2 tK).c2;go_simp;exact hK.out _ _ rfl rfl
  simp only[zaf,zaa,zab,zac,Sg.pick,Nat.reduceAdd];refine⟨fun W' _ _ hI hD hK=> ?_,?_⟩
  ·skip;go_simp;exact hK.out _ _ rfl rfl
  simp only[zaf,zaa,zab,zac,Sg.pick,Nat.reduceAdd];refine⟨fun W' _ _ hI hD hK=> ?_,?_⟩
  ·skip;go_simp;(refine(qAF p A cap cs 4 _ hI.out.1.1.cur tO tO).mono ?_;rintro e w' ⟨x,rfl,hx,c,t⟩;exact hK.out _ _ ⟨t,c⟩ ⟨x,rfl,hx⟩)
  simp only[zaf,zaa,zab,zac,Sg.pick,Nat.reduceAdd];refine⟨fun W' _ _ hI hD hK=> ?_,?_⟩
  ·obtain⟨x3,e3,h3⟩:=(show ∃x:Int,vs 3= .int .i64 x∧0≤x∧x<4 from hD.out 3 tK);rw[e3] at hK⊢;go_simp;exact hK.out _ _ rfl ⟨x3,rfl,h3⟩
  simp only[zaf,zaa,zab,zac,Sg.pick,Nat.reduceAdd];refine⟨fun W' _ _ hI hD hK=> ?_,?_⟩
  ·obtain⟨x4,e4,h4⟩:=(show ∃x:Int,vs 4= .agg #[.int .i64 x, .int .i64 1, .int .i64 0]∧0≤x∧x<4 from hD.out 4 tK);rw[e4] at hK⊢;go_simp;exact hK.out _ _ ((zae _ _).alloc (zad _) _) ⟨_,x4,rfl,hI.out.1.2.1,(CBx.new rfl).1,h4⟩
  simp only[zaf,zaa,zab,zac,Sg.pick,Nat.reduceAdd];refine⟨fun W' _ _ hI hD hK=> ?_,?_⟩
  ·obtain⟨q5,x5,e5,IS,Ml,Rr⟩:=(show ∃(q:Nat) (x:Int),vs 5= .slice (some ⟨q,0,none⟩) 1 1∧w3.heap.size≤q∧CBx W' q (.int .i64 x) (.int .i64 1) (.int .i64 0)∧0≤x∧x<4 from hD.out 5 tK);rw[e5] at hK⊢;have hG:=hI.out.2 tK;refine qCO (.tmp 23) (.tmp 27) rfl (w.heap.size+1) _ es hG.ow rfl q5 (x5,1,0) rfl Ml.edC ⟨⟨by simp only;omega,by simp only;omega⟩,⟨by simp only;omega,by simp only;omega⟩,⟨by simp only;omega,by simp only;omega⟩⟩ tO (by have:=hI.out.1.2.1;omega) ?_;intro v' w' o g pl;obtain⟨A',c',rfl,_⟩:=o.form;exact hK.out _ _ g ⟨A',c',_,rfl,by simp,o,(fun c hc=>pl.elim (fun q=>xn.out c (q▸hc)) (fun q=>by rw[q] at hc;injection hc with hc;have:=hI.out.1.2.1;omega)),_,hG.cbx.grown g xn.out⟩
  simp only[zaf,zaa,zab,zac,Sg.pick,Nat.reduceAdd];refine⟨fun W' _ _ hI hD hK=> ?_,?_⟩
  ·skip;go_simp;exact hK.out _ _ rfl rfl
  simp only[zaf,zaa,zab,zac,Sg.pick,Nat.reduceAdd];refine⟨fun W' _ _ hI hD hK=> ?_,?_⟩
  ·obtain⟨A',c',e,e6,hl,o,hn,z,hc⟩:=(show ∃A' c' ms,vs 6= .slice A' ms.length c'∧ms.length=es.length+1∧OwE W' (w.heap.size+1) (vs 6) ms∧(∀c,(vs 6).ownBlock=some c→c≠b)∧ ∃z,CBx W' b (.int .i64 g1) (.int .i64 M) z from hD.out 6 tK);rw[e6] at hK o hn⊢;have HL:=qA hl;clear hl;have z2:=hc.c2;have u2:=hc.fz 2;go_simp;exact hK.out undef _ ⟨_,rfl⟩ ⟨A',c',e,HL.out,⟨(hc.set2 _).c0,(hc.set2 _).c1,(hc.set2 _).c2,(hc.set2 _).fz,o.keep fun d hd=>zak _ _ _ d (hn d hd),hn,G3.out.i1,G3.out.i2,(hc.set2 _).lt⟩⟩
  simp only[zaf,zaa,zab,zac,Sg.pick,Nat.reduceAdd];intro W9 hI9 hD9;obtain⟨A9,c9,ms,JZ,g9⟩:=(show ∃A' c' ms,ms.length=es.length+1∧GBx W9 b (w.heap.size+1) A' c' (g1,M,ms) from hD9.out 8 (by decide));have G9:=qA g9;have I9:=qA hI9.out.1.1;have X9:=qA hI9.out.1.2.2;have vZ:=qA JZ;clear hI9 hD9 g9 JZ;obtain⟨y0,y1,y2⟩:=G9.out.cs;simp only at y0 y1 y2
  have x0:=X9.out.c0;have f0:=X9.out.fz 0;have x1:=X9.out.c1;have f1:=X9.out.fz 1;have x2:=X9.out.c2;have f2:=X9.out.fz 2;go_wp2;have XF:=X9.out.setv (.int .i64 g1) (.int .i64 M) (.slice A9 ms.length c9);obtain⟨e0,e1,e2⟩:=XF.cs;have IF:=I9.out.hi H.out (zad _) (qL (.int .i64 g1) (.int .i64 M) (.slice A9 ms.length c9) (zae _ _) (zad w.heap.size));exact bodyPost_ret (v:= .agg #[.int .i64 g1, .int .i64 M, .slice A9 ms.length c9]) (by simp[results,Tryz.results185,go_sem,e0,e1,e2]) rfl ⟨_,rfl,g1,M,ms,⟨_,rfl,G9.out.i1,G9.out.i2,(G9.out.ow.keep fun c hc=>qK _ _ _ _ _ (by have:=(G9.out.ow.1.lt c hc).1;omega)).mono tO⟩,by have:=vZ.out;omega,IF.cur,IF.tr⟩
 ·skip;obtain⟨y0,y1,y2⟩:=G3.out.cs;simp only at y0 y1 y2
  have x0:=X3.out.c0;have f0:=X3.out.fz 0;have x1:=X3.out.c1;have f1:=X3.out.fz 1;have x2:=X3.out.c2;have f2:=X3.out.fz 2;go_wp2;have XF:=X3.out.setv (.int .i64 g1) (.int .i64 M) (.slice A1 es.length ah);obtain⟨e0,e1,e2⟩:=XF.cs;have IF:=I3.out.hi H.out (zad _) (qL (.int .i64 g1) (.int .i64 M) (.slice A1 es.length ah) (zae _ _) (zad w.heap.size));exact bodyPost_ret (v:= .agg #[.int .i64 g1, .int .i64 M, .slice A1 es.length ah]) (by simp[results,Tryz.results185,go_sem,e0,e1,e2]) rfl ⟨_,(g1,M,es),rfl,⟨_,rfl,G3.out.i1,G3.out.i2,(G3.out.ow.keep fun c hc=>qK _ _ _ _ _ (by have:=(G3.out.ow.1.lt c hc).1;omega)).mono tO⟩,by simp only;omega,IF.cur,IF.tr⟩
def qOP (w:World) (N:Nat):World:= {w with heap:=w.heap.extract 0 N}
theorem qKf (w:World) (N:Nat) (h:N≤w.heap.size):(qOP w N).heap.size=N:=by
 show(w.heap.extract 0 N).size=N
 simp;omega
theorem qKF (w:World) (N b:Nat) (hb:b<N) (h:N≤w.heap.size):(qOP w N).heap[b]? =w.heap[b]? :=by
 show(w.heap.extract 0 N)[b]? =w.heap[b]?
 rw[Array.getElem?_extract];simp;omega
theorem qMj {lo N:Nat} {w:World} {v:Value} {L:List (List Int)} {ops:Array Oper} {rest:List Oper} {o:Oper} {a:Act} {Q:Exit→Act→World→Prop} (dH:o.guard=none) (s x:Operand)
  (ho:o.op= .call {callee:= .builtin .append,args:= #[s,x],argTypes:= #[69,69]})
  (aa:OwII lo N v L w) (kj:lo≤N) (hN:N≤w.heap.size) (hs:a.eval s=v) (b:Nat) (z:Value) (d:List Int) {base:Nat} (hx:a.eval x= .slice (some ⟨b,0,none⟩) 1 1)
  (iH:OwI w base z d) (ao:N≤base) (hc:w.cell? ⟨b,0,none⟩=some z) (hz:z.oneCell'=true) (hl:L.length≤1073741824)
  (h: ∀v' w',OwII lo w'.heap.size v' (L++ [d]) w'→w.grownBy w' v.ownBlock→wpList Tryz.prog ops Q rest (a.put o.dst v') w'):
  wpList Tryz.prog ops Q (o::rest) a w:=by
 have aq:=qKf w N hN;refine qLn (w0:=qOP w N) dH s x ho (lo:=lo) ?_ (by rw[aq];exact kj) ?_ hs b z d hx iH (by rw[aq];exact ao) hc hz hl h
 ·rw[aq];exact aa.keep EI.stable fun b _ hb=>qKF w N b hb hN
 ·rw[aq];exact⟨rfl,rfl,rfl,by rw[aq];exact hN,fun b hb=>(qKF w N b hb hN).symm⟩
theorem OwII.trP {p lo hi:Nat} {w w':World} {v:Value} {L:List (List Int)} (h:OwII lo hi v L w) (ht:Tr p (p+1) w w') (hp:p<lo) (hh:hi≤w.heap.size):OwII lo hi v L w':=
 h.keep EI.stable fun b h1 h2=>ht.block b tO tO
theorem qMu {lo hi:Nat} {v:Value} {L:List (List Int)} {w:World} (h:OwII lo hi v L w): ∃A m c,v= .slice A m c:=by
 obtain⟨A,c,hv,_⟩:=h.len;exact⟨A,_,c,hv⟩
def WdL (r:Int) (n:Nat) (L:List (List Int)):Prop:= ∀x∈L,x.length≤n∧letR r x∧redP x
theorem qGh (p:Nat) (A:Option Addr) (cap:Nat) (cs:List Int) (r:Int) (w:World) (h:Cur p A cap cs w) (ka:1≤r) (dX:r≤3):
  Calls Tryz.prog 222 #[.pointer (some ⟨p,0,none⟩), .int .i64 r] w fun e w'=> ∃(v:Value) (L:List (List Int)),e= .returned v∧OwII w.heap.size w'.heap.size v L w'∧(L.length≤3∧WdL r 5 L)∧Cur p A cap cs w'∧Tr p (p+1) w w':=by
 have H:=qA h;have hp:=h.lt;clear h;have O1:Hid (OwII w.heap.size (w.heap.size+1) (.slice (some ⟨w.heap.size,0,none⟩) 0 0) [] (w.alloc (.cells #[] 37))):=qA (qKB w (zad _));have I1:Hid (DrI p A cap cs w (w.alloc (.cells #[] 37))):=qA ((DrI.refl H.out).bel ((zae _ _).alloc (zad _) _));go_enter Tryz.func222,Tryz.ntmps222
 go_wp2_with fail;refine(qAF p A cap cs 4 _ I1.out.cur tO tO).mono ?_
 rintro e w2 ⟨k0,rfl,⟨Le,Rh⟩,c2,t2⟩;have I2:=qA (I1.out.to t2 c2);have O2:=qA ((O1.out.trP t2 hp (by simp)).widen (zad _) (by have:=t2.size;simpa using this));clear c2 t2 O1 I1;go_wp2;go_loopw [5,6,7] (fun rv nv _ wr=> ∃(k:Int) (L:List (List Int)),nv= .int .i64 k∧0≤k∧k+L.length≤3∧WdL r 5 L∧OwII w.heap.size wr.heap.size rv L wr∧DrI p A cap cs w wr)
  (fun _ nv _ _=>(intOf nv).toNat)
 case atStart=>exact⟨k0,[],rfl,Le,by simp;omega,fun r hr=>(by cases hr),O2.out,I2.out⟩
 case round=>
  obtain⟨k,L,rfl,we,ji,hL,hO,hI⟩:=hrel;have HL:=qA hL;have HO:=qA hO;have HI:=qA hI;have aq:=hI.tr.size;obtain⟨Ar,cr,rfl,_⟩:=hO.len;clear hO hI hL;by_cases ac:0<k
  ·go_wp2_with fail;refine(qNC p A cap cs r 5 _ HI.out.cur ka dX tO tO).mono ?_
   rintro e w3 ⟨xv,xs,rfl,ox,⟨gR,fj,Hx⟩,c3,t3⟩;have I3:=qA (HI.out.to t3 c3);have O3:=qA (HO.out.trP t3 hp (zad _));have HX:Hid (xs.length≤5∧letR r xs∧redP xs):=qA ⟨tO,fj,Hx⟩;have V3:=qA ox;obtain⟨Av,mv,cv,rfl⟩:=ox.any2;have fS:=t3.size;have mQ:IntKind.i64.wrap (k-1)=k-1:=by rw[IntKind.wrap_i64];omega
   clear c3 t3 ox fj Hx gR;go_wp2_with (at_builtin;refine qMj rfl (.tmp 18) (.tmp 20) rfl (O3.out.keep (w':=w3.alloc (.cells #[.slice Av mv cv] 37)) EI.stable fun b _ hb=>zaK w3 _ b tO) aq (by simp;omega) rfl _ _ xs rfl (V3.out.alloc _) (zad _) (qa _ _ _) rfl tO ?_;intro v6 w6 o6 g6;have O6:=qA o6;have G6:=qA g6;obtain⟨A6,m6,c6,rfl⟩:=qMu o6;clear o6 g6)
   have I6:=qA ((I3.out.bel ((zae _ _).alloc (zad _) (.cells #[.slice Av mv cv] 37))).grow H.out G6.out fun b hb=>(HO.out.lt hb).1);go_roundw
   case rel=>
    refine⟨k-1,_,by go_num,tO,by simp;omega,fun r hr=> ?_,O6.out,I6.out⟩;rcases zal.1 hr with hr | hr
    ·exact HL.out r hr
    ·rw[zau] at hr;rw[hr];exact HX.out
   case measure=>(simp[intOf];omega)
  ·go_wp2;exact bodyPost_ret (v:= .slice Ar L.length cr) (by simp[results,Tryz.results222,go_sem]) rfl ⟨_,rfl,L,HO.out,⟨tO,HL.out⟩,HI.out.cur,HI.out.tr⟩
theorem qKj (L:List (List Int)) (k:Nat) (h:k<L.length):qAr (L.take (k+1))=qAr (L.take k)+L[k].length:=by
 unfold qAr;rw[zah h,zaC,zaN];simp only[zay,List.map_nil,zaF,List.sum_nil,Nat.add_zero]
theorem qJZ (L:List (List Int)) (k:Nat):qAr (L.take k)≤qAr L:=by
 unfold qAr;conv=>rhs;rw[←List.take_append_drop k L,zaC,zaN]
 omega
theorem qEO (v:Value) (L:List (List Int)) (w:World) (h:RdII w v L) (hl:L.length≤1073741824) (hn:qAr L≤1073741824):
  Calls Tryz.prog 275 #[v] w fun e w'=>e= .returned (.int .i64 (qAr L))∧w=w':=by
 have H:=qA h;obtain⟨A,cap,rfl,a6,hm,_⟩:=h.form;unfold maxLen at hm;clear h;go_enter Tryz.func275,Tryz.ntmps275
 go_wp2;go_loopw [3,4] (fun n i wr=> ∃k:Nat,k≤L.length∧i= .int .i64 k∧n= .int .i64 (qAr (L.take k))∧w=wr) (fun _ i _=>L.length-(intOf i).toNat)
 case atStart=>exact⟨0,zar _,rfl,rfl,rfl⟩
 case round=>
  obtain⟨k,hk,rfl,rfl,rfl⟩:=hrel;by_cases ac:k<L.length
  ·obtain⟨b,off,A1,ah,rfl,hb,hc,_,_,hr⟩:=H.out.at ac;have HS:=qA (qKj L k ac);have hs:=HS.out;have ht:=qJZ L (k+1);have mT:(k:Int)<(L.length:Int):=tO;clear hr;generalize L[k]=x at*;have MR:IntKind.i64.wrap ((qAr (L.take k):Int)+(x.length:Int))=((qAr (L.take k)+x.length:Nat):Int):=by rw[IntKind.wrap_i64];omega
   generalize qAr (L.take k)=m at*;clear hs ht;go_wp2;go_roundw
   case rel=>exact⟨k+1,tO,by go_num,by rw[HS.out];go_num,trivial⟩
   case measure=>(first | omega | (simp[intOf];omega))
  ·obtain rfl:k=L.length:=tO
   rw[zap];obtain⟨m,mj⟩: ∃m,m=qAr L:=⟨_,rfl⟩;rw[←mj];have HM:=qA mj;clear mj;go_wp2;exact bodyPost_ret (v:= .int .i64 m) (by simp[results,Tryz.results275,go_sem]) rfl ⟨by rw[HM.out],rfl⟩
def areW (r:Int) (L:List (List Int)):Bool:=L.all (qAi r)&&(inB r 1 3&&(decide (L.length≤6)&&decide (qAr L<40)))
theorem qFT (r:Int) (v:Value) (L:List (List Int)) (w:World) (h:RdII w v L) (hl:L.length≤1073741824) (hn:qAr L≤1073741824) (hx: ∀x∈L,x.length≤1073741824):
  Calls Tryz.prog 263 #[.int .i64 r,v] w fun e w'=>e= .returned (.bool (areW r L))∧ ∃n,w'=w.drewN n:=by
 have H:=qA h;have HX:=qA hx;obtain⟨A,cap,rfl,a6,hm,_⟩:=h.form;unfold maxLen at hm;have HR:Hid (areW r L=(L.all (qAi r)&&(inB r 1 3&&(decide (L.length≤6)&&decide (qAr L<40))))):=qA rfl;generalize areW r L=res at*;clear h hx;go_enter Tryz.func263,Tryz.ntmps263
 go_wp2;go_loopw [5] (fun i wr=> ∃k:Nat,k≤L.length∧i= .int .i64 k∧(∀x∈L.take k,qAi r x=true)∧ ∃n,wr=w.drewN n) (fun i _=>L.length-(intOf i).toNat)
 case atStart=>exact⟨0,zar _,rfl,by simp,0,rfl⟩
 case round=>
  obtain⟨k,hk,rfl,dE,n,rfl⟩:=hrel;have je:=qA dE;clear dE;by_cases ac:k<L.length
  ·obtain⟨b,off,A1,ah,rfl,hb,hc,_,_,hr⟩:=H.out.at ac;have HT:Hid (L.take (k+1)=L.take k++ [L[k]]):=qA (zah ac);have HM:=qA (zaq ac);have jF:=qA hr;have mT:(k:Int)<(L.length:Int):=tO;clear hr;generalize L[k]=x at*;have gR:=HX.out x HM.out;rcases e1:qAi r x with _ | _
   ·have HE:=qA fun w (h:ArgI w (.slice A1 x.length ah) x)=>qBZ r _ x w h gR;rw[e1] at HE;have HF:Hid (res=false):=qA (by
     rw[HR.out];have:L.all (qAi r)=false:=by
      rw[List.all_eq_false];exact⟨x,HM.out,by simp[e1]⟩
     rw[this];rfl)
    clear e1 gR;go_wp2_with (go_at_call 128;refine(HE.out _ (jF.out.drewN n).arg).mono ?_;rintro e w1 ⟨rfl,n1,rfl⟩)
    rw[HF.out];exact bodyPost_ret (v:= .bool false) (by simp[results,Tryz.results263,go_sem]) rfl ⟨rfl,_,rfl⟩
   ·have HE:=qA fun w (h:ArgI w (.slice A1 x.length ah) x)=>qBZ r _ x w h gR;rw[e1] at HE;have HW:=qA e1;clear e1 gR;go_wp2_with (go_at_call 128;refine(HE.out _ (jF.out.drewN n).arg).mono ?_;rintro e w1 ⟨rfl,n1,rfl⟩)
    go_roundw
    case rel=>exact⟨k+1,tO,by go_num,fun y hy=>by
     rw[HT.out] at hy;rcases zal.1 hy with hy | hy
     ·exact je.out y hy
     ·rw[zau.1 hy];exact HW.out,_,rfl⟩
    case measure=>(first | omega | (simp[intOf];omega))
  ·obtain rfl:k=L.length:=tO
   have HA:Hid (L.all (qAi r)=true):=qA (by rw[zaA];have:=je.out;rwa [zap] at this);have fO:Hid (res=(inB r 1 3&&(decide (L.length≤6)&&decide (qAr L<40)))):=qA (by rw[HR.out,HA.out,Bool.true_and]);rcases e1:inB r 1 3 with _ | _
   ·have HF:Hid (res=false):=qA (by rw[fO.out,e1];rfl);go_wp2_with (go_at_call 138;refine(ql _ _ _ _).mono ?_;rintro e w' ⟨rfl,rfl⟩)
    rw[HF.out];exact bodyPost_ret (v:= .bool false) (by simp[results,Tryz.results263,go_sem]) rfl ⟨rfl,_,rfl⟩
   ·by_cases h6:L.length≤6
    ·have HF:Hid (res=decide (qAr L<40)):=qA (by rw[fO.out,e1,decide_eq_true h6];rfl);have Ln:(L.length:Int)≤6:=tO;have zL:=qA (fun w (h:RdII w (.slice A L.length cap) L)=>qEO _ L w h hl hn);generalize qAr L=m at*;go_wp2_with (first | (go_at_call 138;refine(ql _ _ _ _).mono ?_;rintro e w' ⟨rfl,rfl⟩) | (go_at_call 275;refine(zL.out _ (H.out.drewN n)).mono ?_;rintro e w' ⟨rfl,rfl⟩))
     rw[HF.out];by_cases fG:m<40
     ·have kQ:(m:Int)<40:=tO;exact bodyPost_ret (v:= .bool true) (by simp[results,Tryz.results263,go_sem,kQ]) rfl ⟨by rw[decide_eq_true fG],_,rfl⟩
     ·have kQ: ¬(m:Int)<40:=tO;exact bodyPost_ret (v:= .bool false) (by simp[results,Tryz.results263,go_sem,kQ]) rfl ⟨by rw[decide_eq_false fG],_,rfl⟩
    ·have HF:Hid (res=false):=qA (by rw[fO.out,e1,decide_eq_false h6];rfl);have Ln: ¬(L.length:Int)≤6:=tO;go_wp2_with (go_at_call 138;refine(ql _ _ _ _).mono ?_;rintro e w' ⟨rfl,rfl⟩)
     rw[HF.out];exact bodyPost_ret (v:= .bool false) (by simp[results,Tryz.results263,go_sem]) rfl ⟨rfl,_,rfl⟩
theorem qGL (v y:Value) (g:GrD) (a b:Int) (w:World) (h:ArgG w v g) (ht:RdI w y []) (hg:grB g=true) (ha:0≤a∧a<g.2.1) (hb:0≤b∧b<g.2.1):
  Calls Tryz.prog 182 #[v, .int .i64 a,y, .int .i64 b] w fun x w'=> ∃r,x= .returned (.tuple #[r, .bool false])∧OwG w' w.heap.size r g∧Below w.heap.size w w':=by
 have HG:=qA h;have HY:=qA ht;have aH:=qA hg;have HW:=qA (show qAi g.1 []=true by unfold qAi;rw[qAC.2 (qB hg).1];rfl);have HA:=qA ha;have yR:=qA hb;obtain⟨li,fG,aQ,_⟩:=qB hg;obtain⟨s,rfl,aT,aS,aL⟩:=h;obtain⟨A,cap,rfl⟩:=aL.form;obtain⟨T,tc,rfl,_⟩:=ht.arg;obtain⟨g1,N,es⟩:=g;simp only at*
 clear aL hg ha hb;go_enter Tryz.func182,Tryz.ntmps182
 go_wp2_with fail;obtain⟨W1,an⟩: ∃W,W=w.alloc (.cells #[.int .i64 g1,.int .i64 N, .slice A es.length cap] 26):=⟨_,rfl⟩;rw[←an];obtain⟨aw,b1,aR,_⟩:=gbox an;obtain⟨W,hW⟩: ∃W,W=W1.alloc (.cells #[.int .i64 0,.int .i64 0, .slice none 0 0] 26):=⟨_,rfl⟩;rw[←hW];obtain⟨cT,b2,dg,a7⟩:=gbox hW;have aW:W.heap.size=w.heap.size+2:=tO;have bM:=qA aR;have cG:=qA dg;have fY:=qA a7;have nZ:=qA b1;have fH:=qA b2;have BX:Hid (Below w.heap.size w W):=qA (b1.trans (b2.mono tO));have bH:Hid (∀w',Below (w.heap.size+2) W w'→w'.cell? ⟨w.heap.size,0,none⟩=some (.int .i64 g1)∧w'.cell? ⟨w.heap.size,1,none⟩=some (.int .i64 N)∧w'.cell? ⟨w.heap.size,2,none⟩=some (.slice A es.length cap)):=qA fun w' hb=>bM.out w' ((fH.out.mono tO).trans (hb.mono tO));have k8:Hid (∀w',Below (w.heap.size+2) W w'→(w'.cell? ⟨w.heap.size+1,0,none⟩=some (.int .i64 0)∧w'.cell? ⟨w.heap.size+1,1,none⟩=some (.int .i64 0)∧w'.cell? ⟨w.heap.size+1,2,none⟩=some (.slice none 0 0))∧ ∀j,w'.frozen? ⟨w.heap.size+1,j,none⟩=false):=qA fun w' hb=>by
  have e:Below (W1.heap.size+1) W w':=hb.mono tO;have h1:=cG.out w' e;have h2:=fun j=>fY.out j w' e;rw[aw] at h1 h2;exact⟨h1,h2⟩
 have vz:Hid (∀w',Below (w.heap.size+2) W w'→ArgG w' (.agg #[.int .i64 g1, .int .i64 N, .slice A es.length cap]) (g1,N,es)):=qA fun w' hb=>HG.out.below (BX.out.trans (hb.mono tO));have kr:Hid (∀w',Below (w.heap.size+2) W w'→RdI w' (.slice T 0 tc) []):=qA fun w' hb=>HY.out.below (BX.out.trans (hb.mono tO));clear an hW aR dg a7 b1 b2 bM cG fY nZ fH aw cT;obtain⟨q0,q1,q2⟩:=bH.out W ((zae W.heap.size W).mono tO);refine(qBV _ (g1,N,es) W (vz.out W ((zae W.heap.size W).mono tO)) (by simp only;omega)).mono ?_
 clear q0 q1 q2;rintro e w5 ⟨r,rfl,o5,b5⟩;have gW:=b5.size;have B5:Hid (Below (w.heap.size+2) W w5):=qA (b5.mono tO);obtain⟨s1,rfl,_,_,bg⟩:=o5;obtain⟨A1,c1,rfl,_⟩:=bg.form;simp only at*
 clear b5;have pj:Below w5.heap.size w5 (w5.alloc (.cells #[.int .i64 g1,.int .i64 N, .slice A1 es.length c1] 26)):=(zae _ _).alloc (zad _) _;obtain⟨q0,q1,q2⟩:=bH.out _ (B5.out.trans (pj.mono tO));clear pj;go_wp2_with fail;clear q0 q1 q2;obtain⟨W6,dW⟩: ∃W,W=w5.alloc (.cells #[.int .i64 g1,.int .i64 N, .slice A1 es.length c1] 26):=⟨_,rfl⟩;have og:=qA (GBx.new (m:=(g1,N,es)) bg aT aS dW);obtain⟨iD,b6,_,_⟩:=gbox dW;rw[←dW];have B6:Hid (Below (w.heap.size+2) W W6):=qA (B5.out.trans (b6.mono tO));clear dW b6 bg;obtain⟨p,hp⟩: ∃p,p=w5.heap.size:=⟨_,rfl⟩;rw[←hp] at og⊢;have ym:w.heap.size+2≤p:=tO;have Kg:p<W6.heap.size:=tO;clear hp iD gW;have ju:=qA (qq _ (g1,N,es) W6 (vz.out W6 B6.out));rw[aH.out] at ju;refine ju.out.mono ?_;clear ju;rintro e w7 ⟨rfl,b7⟩;have B7:=qA (B6.out.trans (b7.mono (by have:=B6.out.size;omega)));have pw:=qA (og.out.below b7);clear b7;obtain⟨q0,q1,q2⟩:=bH.out w7 B7.out;have E1:inB a 0 (N-1)=true:=by unfold inB;simp;have:=HA.out;omega
 have E2:inB b 0 (N-1)=true:=by unfold inB;simp;have:=yR.out;omega
 have EW:=qA (qBZ g1 _ [] w7 (kr.out w7 B7.out).arg (by simp));rw[HW.out] at EW;go_wp2_with (go_at_call 138;refine(ql _ _ _ _).mono ?_;rintro e w' ⟨rfl,rfl⟩)
 refine EW.out.mono ?_;clear EW E1 E2 q0 q1 q2;rintro e w8 ⟨rfl,nd,rfl⟩;obtain⟨w8,n4⟩: ∃W,W=w7.drewN nd:=⟨_,rfl⟩;rw[←n4];have B8:Hid (Below (w.heap.size+2) W w8):=qA (by rw[n4];exact qD B7.out _);have jT:Hid (GBx w8 p W.heap.size A1 c1 (g1,N,es)):=qA (by rw[n4];exact pw.out.below (qD (zae _ _) _));clear n4;obtain⟨q0,q1,q2⟩:=bH.out w8 B8.out;obtain⟨z0,z1,z2⟩:=jT.out.cs;simp only at z0 z1 z2
 obtain⟨⟨r0,r1,r2⟩,cF⟩:=k8.out w8 B8.out;have eu:=cF 0;have eE:=cF 1;have eG:=cF 2;clear cF;go_wp2;obtain⟨e0,e1,e2⟩:=qi (.int .i64 g1) (.int .i64 N) (.slice A1 es.length c1) r0 r1 r2;have bw:Below w.heap.size w (((w8.setCell ⟨w.heap.size+1,0,none⟩ (.int .i64 g1)).setCell ⟨w.heap.size+1,1,none⟩ (.int .i64 N)).setCell ⟨w.heap.size+1,2,none⟩ (.slice A1 es.length c1)):=qL _ _ _ (BX.out.trans (B8.out.mono tO)) tO;have ow:OwE (((w8.setCell ⟨w.heap.size+1,0,none⟩ (.int .i64 g1)).setCell ⟨w.heap.size+1,1,none⟩ (.int .i64 N)).setCell ⟨w.heap.size+1,2,none⟩ (.slice A1 es.length c1)) W.heap.size (.slice A1 es.length c1) es:=jT.out.ow.keep fun b hb=>qK _ _ _ _ _ (by have:=(jT.out.ow.1.lt b hb).1;omega);exact bodyPost_ret (v:= .tuple #[.agg #[.int .i64 g1, .int .i64 N, .slice A1 es.length c1], .bool false]) (by simp[results,Tryz.results182,go_sem,e0,e1,e2]) rfl ⟨_,rfl,⟨.slice A1 es.length c1,rfl,aT,aS,ow.mono tO⟩,bw⟩
def petG (g:GrD) (t:List Int):GrD:=if t= [] then g else if qEv g t=true then addG g 0 0 t else g
def petB (g:GrD) (t:List Int):Bool:=if t= [] then false else qEv g t
theorem qOx {g:GrD} {t:List Int} (hg:grB g=true) (hw:qAi g.1 t=true):grB (petG g t)=true∧(petG g t).1=g.1∧(petG g t).2.2.length≤g.2.2.length+t.length:=by
 have hr:=(qB hg).2.1;unfold petG;split
 ·exact⟨hg,rfl,tO⟩
 ·rename_i h0
  have KN:t.length≠0:=fun q=>h0 (zax q);split
  ·rename_i af
   refine⟨qOY hg tO tO hw KN af,rfl,?_⟩;have h1:=qCV (c:=cmpE) (g.2.2++pthL g.2.1.toNat 0 0 t t.length);rw[zat,qJj] at h1;exact h1
  ·exact⟨hg,rfl,tO⟩
theorem qHx (v y:Value) (g:GrD) (t:List Int) (w:World) (h:ArgG w v g) (ht:RdI w y t) (hg:grB g=true) (hw:qAi g.1 t=true) (hl:t.length≤1073741824):
  Calls Tryz.prog 182 #[v, .int .i64 0,y, .int .i64 0] w fun x w'=> ∃r,x= .returned (.tuple #[r, .bool (petB g t)])∧OwG w' w.heap.size r (petG g t)∧Below w.heap.size w w':=by
 have hr:=(qB hg).2.1;by_cases h0:t= []
 ·subst h0;refine(qGL v y g 0 0 w h ht hg tO tO).mono fun x w' ⟨r,e,o,b⟩=>⟨r,e,?_,b⟩
  unfold petG;rw[if_pos rfl];exact o
 ·refine(qGB v y g 0 0 t w h ht hg tO tO hw (fun q=>h0 (zax q)) hl).mono fun x w' ⟨r,e,o,b⟩=>⟨r,?_,?_,b⟩
  ·unfold petB;rw[if_neg h0];exact e
  ·unfold petG;rw[if_neg h0];exact o
theorem qFU (v y:Value) (g:GrD) (t:List Int) (w:World) (h:ArgG w v g) (ht:RdI w y t) (hg:grB g=true) (hw:qAi g.1 t=true) (hl:t.length≤1073741824):
  Calls Tryz.prog 129 #[v,y] w fun x w'=> ∃r,x= .returned (.tuple #[r, .bool (petB g t)])∧OwG w' w.heap.size r (petG g t)∧Below w.heap.size w w':=by
 have HP:=qA (fun W v (h:ArgG W v g) (h':RdI W y t)=>qHx v y g t W h h' hg hw hl);generalize petG g t=pg at*;generalize petB g t=o at*;have HG:=qA h;have HY:=qA ht;obtain⟨s,rfl,aT,aS,aL⟩:=h;obtain⟨A,cap,rfl⟩:=aL.form;obtain⟨T,tc,rfl,_⟩:=ht.arg;obtain⟨g1,N,es⟩:=g;obtain⟨p1,p2,ps⟩:=pg;simp only at*
 clear aL hg hw;go_enter Tryz.func129,Tryz.ntmps129
 go_wp2_with fail;obtain⟨W1,an⟩: ∃W,W=w.alloc (.cells #[.int .i64 g1,.int .i64 N, .slice A es.length cap] 26):=⟨_,rfl⟩;rw[←an];obtain⟨_,b1,s1⟩:=CBx.new an;obtain⟨W2,aD⟩: ∃W,W=W1.alloc (.cells #[.int .i64 0,.int .i64 0, .slice none 0 0] 26):=⟨_,rfl⟩;rw[←aD];obtain⟨x2,b2,s2⟩:=CBx.new aD;rw[s1] at x2;have X2:=qA x2;have B2:Hid (Below w.heap.size w W2):=qA (b1.trans (b2.mono tO));clear an aD b1 b2 x2;refine(HP.out W2 _ (HG.out.below B2.out) (HY.out.below B2.out)).mono ?_
 rintro e w3 ⟨r,rfl,⟨s3,rfl,bV,ce,aU⟩,b3⟩;obtain⟨A3,c3,rfl,_⟩:=aU.form;simp only at bV ce aU⊢
 have O3:=qA aU;have X3:=qA (X2.out.below b3);have B3:=qA (B2.out.trans (b3.mono tO));have fS:=b3.size;clear aU b3 X2 B2;obtain⟨u0,u1,u2⟩:=X3.out.cs;have f0:=X3.out.fz 0;have f1:=X3.out.fz 1;have f2:=X3.out.fz 2;have ac:=X3.out.lt;go_wp2;have XF:=X3.out.setv (.int .i64 p1) (.int .i64 p2) (.slice A3 ps.length c3);have BF:=qL (.int .i64 p1) (.int .i64 p2) (.slice A3 ps.length c3) B3.out (show w.heap.size≤w.heap.size+1 by omega);have OF:OwE (((w3.setCell ⟨w.heap.size+1,0,none⟩ (.int .i64 p1)).setCell ⟨w.heap.size+1,1,none⟩ (.int .i64 p2)).setCell ⟨w.heap.size+1,2,none⟩ (.slice A3 ps.length c3)) W2.heap.size (.slice A3 ps.length c3) ps:=O3.out.keep fun c hc=>qK _ _ _ _ _ (by have:=(O3.out.1.lt c hc).1;omega);have RT:=qQ w3 (w.heap.size+1) (.int .i64 p1) (.int .i64 p2) (.slice A3 ps.length c3);generalize ((w3.setCell ⟨w.heap.size+1,0,none⟩ (.int .i64 p1)).setCell ⟨w.heap.size+1,1,none⟩ (.int .i64 p2)).setCell ⟨w.heap.size+1,2,none⟩ (.slice A3 ps.length c3)=w5 at*;have bz:Below w5.heap.size w5 (w5.alloc (.cells #[.int .i64 p1,.int .i64 p2, .slice A3 ps.length c3] 26)):=(zae _ _).alloc (zad _) _;obtain⟨e0,e1,e2⟩:=(XF.below bz).cs;exact bodyPost_ret (v:= .tuple #[.agg #[.int .i64 p1, .int .i64 p2, .slice A3 ps.length c3], .bool o]) (by simp[results,Tryz.results129,go_sem,e0,e1,e2]) rfl ⟨_,rfl,⟨_,rfl,bV,ce,(OF.below bz).mono tO⟩,BF.trans (bz.mono tO)⟩
def isT (W:World) (q:Nat) (t:TypeId):Prop:= ∃arr fr,W.heap[q]? =some (.cells arr t fr)
theorem isT.lt {W:World} {q:Nat} {t:TypeId} (h:isT W q t):q<W.heap.size:=by
 obtain⟨_,_,h⟩:=h;rcases Nat.lt_or_ge q W.heap.size with h' | h'
 ·exact h'
 ·rw[Array.getElem?_eq_none h'] at h;cases h
theorem isT.new (w:World) (arr:Array Value) (t:TypeId):isT (w.alloc (.cells arr t)) w.heap.size t:=⟨arr,(0,0),by show(w.heap.push _)[w.heap.size]? =_;simp⟩
theorem isT.below {W W':World} {q:Nat} {t:TypeId} (h:isT W q t) (hb:Below W.heap.size W W'):isT W' q t:=by
 have:=h.lt
 obtain⟨a,f,h⟩:=h;exact⟨a,f,(hb.block q this).trans h⟩
theorem isT.set {W:World} {q:Nat} {t:TypeId} (h:isT W q t) (a:Addr) (v:Value):isT (W.setCell a v) q t:=by
 obtain⟨c,f,h⟩:=h;by_cases e:a.block=q
 ·subst e;refine⟨if a.spot.isSome then c else c.setIfInBounds a.off v,f,?_⟩;show(W.heap.modify a.block _)[a.block]? =_
  rw[zaD,if_pos rfl,h];rfl
 ·refine⟨c,f,?_⟩;show(W.heap.modify a.block _)[q]? =_
  rw[zaD,if_neg e,h]
theorem OwE.notG {W:World} {base q:Nat} {v:Value} {es:List EdD} (h:OwE W base v es) (hq:isT W q 26): ∀b,v.ownBlock=some b→b≠q:=fun b hb e=>by
 subst e;obtain⟨c,f,hq⟩:=hq;rcases h.1.2 with ⟨hv,_⟩ | ⟨g,cap,cur,hv,_,hh,_⟩
 ·rw[hv] at hb;cases hb
 ·rw[hv] at hb;have:g=b:=by simpa[zan] using hb
  subst this;rw[hh] at hq;injection hq with hq
  injection hq with _ e2 _
  exact absurd e2 (by decide)
def floF (r:Int) (L:List (List Int)):GrD:=L.foldl petG (r,1,[])
theorem qHB {r:Int} {L:List (List Int)} (h:areW r L=true):(∀x∈L,qAi r x=true)∧(1≤r∧r≤3)∧L.length≤6∧qAr L<40:=by
 unfold areW at h;simp only[zaw,zaA,decide_eq_true_eq] at h;exact⟨h.1,qAC.1 h.2.1,h.2.2.1,h.2.2.2⟩
theorem qMp {r:Int} {L:List (List Int)} (hr:1≤r∧r≤3) (h: ∀x∈L,qAi r x=true): ∀k,k≤L.length→grB ((L.take k).foldl petG (r,1,[]))=true∧((L.take k).foldl petG (r,1,[])).1=r
 | 0,_=>⟨qFP hr ⟨show(1:Int)≤1 by decide,show(1:Int)≤40 by decide⟩ (by simp) zaE.nil (fun _ h=>by cases h),rfl⟩
 | k+1,hk=>by
   have ih:=qMp hr h k tO;rw[zah tO,zaJ];have hx:=h _ (zaq (show k<L.length by omega));rw[←ih.2] at hx;have:=qOx ih.1 hx
   exact⟨this.1,this.2.1.trans ih.2⟩
theorem isT.set3 {W:World} {q:Nat} {t:TypeId} (h:isT W q t) (p:Nat) (a b c:Value):isT (((W.setCell ⟨p,0,none⟩ a).setCell ⟨p,1,none⟩ b).setCell ⟨p,2,none⟩ c) q t:=((h.set _ _).set _ _).set _ _
theorem qGy {x:List Int}: ∀ {L:List (List Int)},x∈L→x.length≤qAr L
 | a::L,h=>by
   unfold qAr;simp only[zay,zaF];rcases List.mem_cons.1 h with rfl | h
   ·omega
   ·have:=qGy h
    unfold qAr at this;omega
theorem qFZ (r:Int) (v:Value) (L:List (List Int)) (w:World) (h:RdII w v L) (hW:areW r L=true):
  Calls Tryz.prog 238 #[.int .i64 r,v] w fun x w'=> ∃rv,x= .returned (.tuple #[rv, .bool true])∧OwG w' w.heap.size rv (floF r L)∧Below w.heap.size w w':=by
 obtain⟨yt,hr,QH,Lm⟩:=qHB hW;have au: ∀x∈L,x.length≤1073741824:=fun x hx=>by
  have:=qGy hx
  omega
 have yJ:=qA yt;have uZ:=qA au;have po:=qA (fun k hk=>qMp hr yt k hk);have ER:=qA (fun W (h:RdII W v L)=>qFT r v L W h tO tO au);rw[hW] at ER;have H:=qA h;have Jg:I64 r:=⟨tO,tO⟩;have Bm:inB r 1 3=true:=qAC.2 hr;have Dd:=qA (fun W=>qFV r W Jg);rw[Bm] at Dd;simp only[if_true] at Dd;obtain⟨A,cap,rfl,a6,hm,_⟩:=h.form;unfold maxLen at hm;clear h hW yt au Bm;go_enter Tryz.func238,Tryz.ntmps238
 go_wp2_with fail;obtain⟨W0,am⟩: ∃W,W=w.alloc (.cells #[.int .i64 0,.int .i64 0, .slice none 0 0] 26):=⟨_,rfl⟩;rw[←am];obtain⟨xb,b0,s0⟩:=CBx.new am;clear am;have XB:=qA xb;have B0:=qA b0;clear xb b0;refine(ER.out _ (H.out.below B0.out)).mono ?_
 rintro e w1 ⟨rfl,nd,rfl⟩;obtain⟨w1,fL⟩: ∃W,W=W0.drewN nd:=⟨_,rfl⟩;rw[←fL];have bd:Below W0.heap.size W0 w1:=by rw[fL];exact qD (zae _ _) _
 have X1:=qA (XB.out.below bd);have B1:=qA (B0.out.trans (bd.mono tO));have aw:=bd.size;clear fL bd XB B0 ER;go_wp2_with fail;refine(Dd.out w1).mono ?_
 rintro e w2 ⟨rfl,b2⟩;have X2:=qA (X1.out.below b2);have B2:=qA (B1.out.trans (b2.mono tO));have cT:=b2.size;clear b2 X1 B1 Dd;go_wp2_with fail;obtain⟨W3,lO⟩: ∃W,W=w2.alloc (.cells #[.int .i64 r,.int .i64 1, .slice none 0 0] 26):=⟨_,rfl⟩;have g3:GBx W3 w2.heap.size (w.heap.size+1) none 0 (r,1,[]):=GBx.new (base:=w.heap.size+1) (m:=(r,1,[])) OwE.nil Jg (show I64 1 from⟨tO,tO⟩) lO;obtain⟨_,b3,s3⟩:=CBx.new lO;rw[←lO];have G3:=qA g3;have X3:=qA (X2.out.below b3);have B3:=qA (B2.out.trans (b3.mono tO));clear lO g3 b3 X2 B2;generalize hb:w2.heap.size=b at*;have eX:w.heap.size+1≤b:=tO;clear hb cT aw;go_loopw [8] (fun nv wr=> ∃(k:Nat) (Ar:Option Addr) (cr:Nat),k≤L.length∧nv= .int .i64 k∧GBx wr b (w.heap.size+1) Ar cr ((L.take k).foldl petG (r,1,[]))∧CBx wr w.heap.size (.int .i64 0) (.int .i64 0) (.slice none 0 0)∧Below w.heap.size w wr) (fun nv _=>L.length-(intOf nv).toNat)
 case atStart=>exact⟨0,none,0,zar _,rfl,G3.out,X3.out,B3.out⟩
 case round=>
  obtain⟨k,Ar,cr,hk,rfl,hG,hX,hB⟩:=hrel;have GN:=qA (po.out k hk);have HG:=qA hG;have HX:=qA hX;have HB:=qA hB;have iC:=hB.size;have aZ:=hG.lt;clear hG hX hB;by_cases ac:k<L.length
  ·obtain⟨lb,off,A1,ah,rfl,mn,hc,_,_,aN⟩:=(H.out.below HB.out).at ac;have jF:=qA aN;have HC:=qA hc;have HT:Hid ((L.take (k+1)).foldl petG (r,1,[])=petG ((L.take k).foldl petG (r,1,[])) L[k]):=qA (by rw[zah ac,zaJ];rfl);have HM:=qA (zaq ac);have mT:(k:Int)<(L.length:Int):=tO;clear aN hc;generalize (L.take k).foldl petG (r,1,[])=g at*;generalize L[k]=x at*;have gR:=uZ.out x HM.out;have mu:=qA (fun W v (h:ArgG W v g) (h':RdI W (.slice A1 x.length ah) x)=>qFU v _ g x W h h' GN.out.1 (by rw[GN.out.2];exact yJ.out x HM.out) gR);generalize petG g x=pg at*;generalize petB g x=o at*;obtain⟨g1,M,es⟩:=g;obtain⟨p1,p2,ps⟩:=pg;simp only at*
   go_wp2_with fail;refine qAK [.val (.agg #[.int .i64 g1, .int .i64 M, .slice Ar es.length cr]), .val (.slice (some ⟨lb,off,none⟩) L.length cap), .val (.int .i64 k), .val (.pointer (some ⟨lb,off+k,none⟩)), .val (.slice A1 x.length ah),
     .mem (fun _ W v=> ∃A' c',v= .tuple #[.agg #[.int .i64 p1, .int .i64 p2, .slice A' ps.length c'], .bool o]∧I64 p1∧I64 p2∧OwE W wr.heap.size (.slice A' ps.length c') ps),
     .pur (fun us v=>v=us 5), .pur (fun us v=> ∃A' c',us 5= .tuple #[.agg #[.int .i64 p1, .int .i64 p2, .slice A' ps.length c'], .bool o]∧v= .agg #[.int .i64 p1, .int .i64 p2, .slice A' ps.length c']), .pur (fun _ v=>v= .bool o),
     .mem (fun _ W v=> ∃q x y z,v= .pointer (some ⟨q,0,none⟩)∧wr.heap.size≤q∧CBx W q x y z∧isT W q 26),
     .mem (fun us W _=> ∃q A' c',us 9= .pointer (some ⟨q,0,none⟩)∧wr.heap.size≤q∧us 5= .tuple #[.agg #[.int .i64 p1, .int .i64 p2, .slice A' ps.length c'], .bool o]∧CBx W q (.int .i64 p1) (.int .i64 p2) (.slice A' ps.length c')),
     .pur (fun _ v=>v= .bool o)]
    [none,none,none,none,none,some (fun W W'=>Below W.heap.size W W'),none,none,none,some (fun W W'=>Below W.heap.size W W'),some (fun W W'=> ∃q x y z,wr.heap.size≤q∧isT W q 26∧W'=((W.setCell ⟨q,0,none⟩ x).setCell ⟨q,1,none⟩ y).setCell ⟨q,2,none⟩ z),none]
    (fun W=>Below wr.heap.size wr W) [(5,9),(5,10),(9,5),(9,10)] tK tK (by rfl) (by rfl)
    (zae _ _).drew
    ⟨fun _ _ h t=>h.trans (t.mono h.size),fun _ _ h t=>h.trans (t.mono h.size),fun _ _ h ⟨q,x,y,z,hq,_,e⟩=>by rw[e];exact qL x y z h hq,trivial⟩
    ⟨fun _ _ _ _ _ _ t ⟨A',c',e,i1,i2,o⟩=>⟨A',c',e,i1,i2,o.below t⟩,
     fun _ _ _ _ _ _ ⟨q,_,_,_,_,hq,e'⟩ ⟨A',c',e,i1,i2,o⟩=>by rw[e'];exact⟨A',c',e,i1,i2,o.keep fun d hd=>qK _ _ _ _ _ (o.notG hq d hd)⟩,
     fun _ _ _ _ _ _ t ⟨q,x,y,z,e,hq,c,ht⟩=>⟨q,x,y,z,e,hq,c.below t,ht.below t⟩,
     fun _ _ _ _ _ _ ⟨q',a,b,c',_,_,e'⟩ ⟨q,x,y,z,e,hq,c,ht⟩=>(by rw[e'];obtain⟨x',y',z',h'⟩:=c.any (q:=q') a b c';exact⟨q,x',y',z',e,hq,h',ht.set3 _ _ _ _⟩),trivial⟩ (fun vs=> ?_)
   refine⟨fun W' _ _ hI hD hK=> ?_,?_⟩
   ·obtain⟨z0,z1,z2⟩:=(HG.out.below hI.out).cs;go_simp;exact hK.out _ _ rfl rfl
   simp only[zaf,zaa,zab,zac,Sg.pick,Nat.reduceAdd]
   iterate 3
    refine⟨fun W' _ _ hI hD hK=> ?_,?_⟩
    ·skip;go_simp;exact hK.out _ _ rfl rfl
    simp only[zaf,zaa,zab,zac,Sg.pick,Nat.reduceAdd]
   refine⟨fun W' _ _ hI hD hK=> ?_,?_⟩
   ·have z0:=(hI.out.cell (p:=⟨lb,off+k,none⟩) mn).trans HC.out;go_simp;exact hK.out _ _ rfl rfl
   simp only[zaf,zaa,zab,zac,Sg.pick,Nat.reduceAdd];refine⟨fun W' _ _ hI hD hK=> ?_,?_⟩
   ·skip;go_simp;refine(mu.out _ _ (HG.out.below hI.out).arg (jF.out.below hI.out)).mono ?_;rintro e w' ⟨rv,rfl,⟨s,rfl,i1,i2,oe⟩,b'⟩;obtain⟨A',c',rfl,_⟩:=oe.form;exact hK.out _ _ b' ⟨A',c',rfl,i1,i2,oe.mono hI.out.size⟩
   simp only[zaf,zaa,zab,zac,Sg.pick,Nat.reduceAdd];refine⟨fun W' _ _ hI hD hK=> ?_,?_⟩
   ·skip;go_simp;exact hK.out _ _ rfl rfl
   simp only[zaf,zaa,zab,zac,Sg.pick,Nat.reduceAdd];refine⟨fun W' _ _ hI hD hK=> ?_,?_⟩
   ·obtain⟨A',c',e5,_⟩:=(show ∃A' c',vs 5= .tuple #[.agg #[.int .i64 p1, .int .i64 p2, .slice A' ps.length c'], .bool o]∧I64 p1∧I64 p2∧OwE W' wr.heap.size (.slice A' ps.length c') ps from hD.out 5 tK);have e6:=(show vs 6=qAo _ 6 vs 5 from hD.out 6 tK);rw[qBv tK,e5] at e6;rw[e6,e5] at hK⊢;go_simp;exact hK.out _ _ rfl ⟨A',c',(qBv tK).trans e5,rfl⟩
   simp only[zaf,zaa,zab,zac,Sg.pick,Nat.reduceAdd];refine⟨fun W' _ _ hI hD hK=> ?_,?_⟩
   ·obtain⟨A',c',e5,_⟩:=(show ∃A' c',vs 5= .tuple #[.agg #[.int .i64 p1, .int .i64 p2, .slice A' ps.length c'], .bool o]∧I64 p1∧I64 p2∧OwE W' wr.heap.size (.slice A' ps.length c') ps from hD.out 5 tK);have e6:=(show vs 6=qAo _ 6 vs 5 from hD.out 6 tK);rw[qBv tK,e5] at e6;rw[e6,e5] at hK⊢;go_simp;exact hK.out _ _ rfl rfl
   simp only[zaf,zaa,zab,zac,Sg.pick,Nat.reduceAdd];refine⟨fun W' _ _ hI hD hK=> ?_,?_⟩
   ·skip;go_simp;exact hK.out _ _ ((zae _ _).alloc (zad _) _) ⟨_,_,_,_,rfl,hI.out.size,(CBx.new rfl).1,isT.new _ _ _⟩
   simp only[zaf,zaa,zab,zac,Sg.pick,Nat.reduceAdd];refine⟨fun W' _ _ hI hD hK=> ?_,?_⟩
   ·obtain⟨q,a0,a1,a2,e9,hq,hc,ht⟩:=(show ∃q x y z,vs 9= .pointer (some ⟨q,0,none⟩)∧wr.heap.size≤q∧CBx W' q x y z∧isT W' q 26 from hD.out 9 tK);obtain⟨A',c',e5,e7⟩:=(show ∃A' c',qAo _ 7 vs 5= .tuple #[.agg #[.int .i64 p1, .int .i64 p2, .slice A' ps.length c'], .bool o]∧vs 7= .agg #[.int .i64 p1, .int .i64 p2, .slice A' ps.length c'] from hD.out 7 tK);rw[qBv tK] at e5;rw[e7,e9,e5] at hK⊢;obtain⟨z0,z1,z2⟩:=hc.cs;have u0:=hc.fz 0;have u1:=hc.fz 1;have u2:=hc.fz 2;go_simp;exact hK.out undef _ ⟨q,_,_,_,hq,ht,rfl⟩ ⟨q,A',c',(qBv tK).trans e9,hq,(qBv tK).trans e5,hc.setv _ _ _⟩
   simp only[zaf,zaa,zab,zac,Sg.pick,Nat.reduceAdd];refine⟨fun W' _ _ hI hD hK=> ?_,?_⟩
   ·have e8:=(show vs 8= .bool o from hD.out 8 tK);rw[e8] at hK⊢;go_simp;exact hK.out _ _ rfl rfl
   simp only[zaf,zaa,zab,zac,Sg.pick,Nat.reduceAdd];intro W9 hI9 hD9;obtain⟨q,A9,c9,e9,hq,e5,hc⟩:=(show ∃q A' c',qAo _ 10 vs 9= .pointer (some ⟨q,0,none⟩)∧wr.heap.size≤q∧qAo _ 10 vs 5= .tuple #[.agg #[.int .i64 p1, .int .i64 p2, .slice A' ps.length c'], .bool o]∧CBx W9 q (.int .i64 p1) (.int .i64 p2) (.slice A' ps.length c') from hD9.out 10 (by decide));rw[qBv tK] at e9 e5;obtain⟨A',c',ze,i1,i2,oe⟩:=(show ∃A' c',vs 5= .tuple #[.agg #[.int .i64 p1, .int .i64 p2, .slice A' ps.length c'], .bool o]∧I64 p1∧I64 p2∧OwE W9 wr.heap.size (.slice A' ps.length c') ps from hD9.out 5 (by decide));rw[e5] at ze;injection ze with ze
   simp at ze
   obtain⟨rfl,rfl⟩:=ze;rw[e9];have I9:=qA hI9.out;have OE:=qA oe;have G9:=qA (HG.out.below I9.out);have X9:=qA (HX.out.below I9.out);clear hD9 hI9 oe e5 e9;obtain⟨z0,z1,z2⟩:=G9.out.cs;have f0:=G9.out.fz 0;have f1:=G9.out.fz 1;have f2:=G9.out.fz 2;obtain⟨v0,v1,v2⟩:=hc.cs;simp only at z0 z1 z2
   go_wp2;go_roundw
   case rel=>
    refine⟨k+1,A9,c9,tO,by go_num,?_,X9.out.other tO,qL _ _ _ (HB.out.trans (I9.out.mono iC)) tO⟩;rw[HT.out];exact(G9.out.set (m:=(p1,p2,ps)) OE.out (fun b' aJ=>by have:=(OE.out.1.lt b' aJ).1;omega) i1 i2).mono tO
   case measure=>(first | omega | (simp[intOf];omega))
  ·obtain rfl:k=L.length:=tO
   rw[zap] at HG GN;have HF:Hid (floF r L=L.foldl petG (r,1,[])):=qA rfl;generalize L.foldl petG (r,1,[])=g at*;obtain⟨g1,M,es⟩:=g;obtain⟨x0,x1,x2⟩:=HX.out.cs;have f0:=HX.out.fz 0;have f1:=HX.out.fz 1;have f2:=HX.out.fz 2;obtain⟨y0,y1,y2⟩:=HG.out.cs;simp only at y0 y1 y2
   go_wp2;have XF:=HX.out.setv (.int .i64 g1) (.int .i64 M) (.slice Ar es.length cr);obtain⟨e0,e1,e2⟩:=XF.cs;exact bodyPost_ret (v:= .tuple #[.agg #[.int .i64 g1, .int .i64 M, .slice Ar es.length cr], .bool true]) (by simp[results,Tryz.results238,go_sem,e0,e1,e2]) rfl ⟨_,rfl,by rw[HF.out];exact⟨_,rfl,HG.out.i1,HG.out.i2,(HG.out.ow.keep fun c hc=>qK _ _ _ _ _ (by have:=(HG.out.ow.1.lt c hc).1;omega)).mono tO⟩,qL _ _ _ HB.out (zad _)⟩
theorem qOs {r:Int} {L:List (List Int)} (h:areW r L=true):grB (floF r L)=true:=by
 obtain⟨yt,hr,_,_⟩:=qHB h;have:=(qMp hr yt L.length (zad _)).1
 rwa [zap] at this
theorem qLe {r:Int} {L:List (List Int)} (ka:1≤r) (dX:r≤3) (hl:L.length≤6) (h:WdL r 5 L):areW r L=true:=by
 unfold areW;rw[qAC.2 ⟨ka,dX⟩,decide_eq_true hl];have h1:L.all (qAi r)=true:=by
  rw[zaA];intro x hx;obtain⟨_,ri,Ei⟩:=h x hx;exact qGu (qAC.2 ⟨ka,dX⟩) (by have:=(h x hx).1;omega) fun i hi=>qNj Ei (fun y hy=>by
   obtain⟨y0,y1,y2⟩:=ri y hy;unfold letB;rw[show wrap64 (-r)= -r from IntWalk.wrap64_in _ ⟨tO,tO⟩,qAC.2 ⟨tO,y2⟩];simpa using y0) i hi
 have h2:qAr L≤5*L.length:=by
  unfold qAr;clear h1 hl;induction L with
  | nil=>simp
  | cons a l ih=>
    have h1:=(h a List.mem_cons_self).1;have h2:=ih fun x hx=>h x (List.mem_cons_of_mem _ hx);simp only[zay,zaF,List.length_cons];omega
 rw[h1,decide_eq_true tO];rfl
theorem qCP (r:Int) (v:Value) (L:List (List Int)) (w:World) (h:RdII w v L) (hW:areW r L=true):
  Calls Tryz.prog 223 #[.int .i64 r,v] w fun x w'=> ∃rv,x= .returned (.tuple #[rv, .bool true])∧OwG w' w.heap.size rv (qAj (floF r L))∧Below w.heap.size w w':=by
 have H:=qA h;have jk:=qA (fun W (h:RdII W v L)=>qFZ r v L W h hW);have aH:=qA (qOs hW);obtain⟨A,cap,rfl,a6,hm,_⟩:=h.form;clear h hW;generalize floF r L=pg at*;have kS:=qA (fun W v (h:ArgG W v pg)=>qAq v pg W h aH.out);generalize qAj pg=qg at*;obtain⟨p1,p2,ps⟩:=pg;obtain⟨q1,q2,qs⟩:=qg;go_enter Tryz.func223,Tryz.ntmps223
 go_wp2_with fail;obtain⟨W0,am⟩: ∃W,W=w.alloc (.cells #[.int .i64 0,.int .i64 0, .slice none 0 0] 26):=⟨_,rfl⟩;rw[←am];obtain⟨xb,b0,s0⟩:=CBx.new am;clear am;have XB:=qA xb;have B0:=qA b0;clear xb b0;refine(jk.out _ (H.out.below B0.out)).mono ?_
 rintro e w1 ⟨rv,rfl,⟨s1,rfl,i1,i2,dG⟩,b1⟩;obtain⟨A1,c1,rfl,_⟩:=dG.form;simp only at i1 i2 dG⊢
 have X1:=qA (XB.out.below b1);have B1:=qA (B0.out.trans (b1.mono tO));have gP:=qA dG;have aw:=b1.size;clear dG b1 XB B0 jk;go_wp2_with fail;obtain⟨W2,aD⟩: ∃W,W=w1.alloc (.cells #[.int .i64 p1,.int .i64 p2, .slice A1 ps.length c1] 26):=⟨_,rfl⟩;rw[←aD];have g2:=GBx.new (m:=(p1,p2,ps)) gP.out i1 i2 aD;obtain⟨_,b2,s2⟩:=CBx.new aD;have G2:=qA g2;have X2:=qA (X1.out.below b2);have B2:=qA (B1.out.trans (b2.mono tO));clear aD g2 b2 X1 B1 gP;refine(kS.out W2 _ G2.out.arg).mono ?_
 rintro e w3 ⟨rv,rfl,⟨s3,rfl,j1,j2,aU⟩,b3⟩;obtain⟨A3,c3,rfl,_⟩:=aU.form;simp only at j1 j2 aU⊢
 have X3:=qA (X2.out.below b3);have B3:=qA (B2.out.trans (b3.mono tO));have en:=qA aU;clear aU b3 X2 B2;obtain⟨u0,u1,u2⟩:=X3.out.cs;have f0:=X3.out.fz 0;have f1:=X3.out.fz 1;have f2:=X3.out.fz 2;go_wp2;have XF:=X3.out.setv (.int .i64 q1) (.int .i64 q2) (.slice A3 qs.length c3);obtain⟨e0,e1,e2⟩:=XF.cs;exact bodyPost_ret (v:= .tuple #[.agg #[.int .i64 q1, .int .i64 q2, .slice A3 qs.length c3], .bool true]) (by simp[results,Tryz.results223,go_sem,e0,e1,e2]) rfl ⟨_,rfl,⟨_,rfl,j1,j2,(en.out.keep fun c hc=>qK _ _ _ _ _ (by have:=(en.out.1.lt c hc).1;omega)).mono tO⟩,qL _ _ _ B3.out (zad _)⟩
def rgL (N:Int) (l:List Int):Prop:= ∀y∈l,0≤y∧y<N
theorem qCt (p:Nat) (A:Option Addr) (cap:Nat) (cs:List Int) (w:World) (h:Cur p A cap cs w):
  Calls Tryz.prog 156 #[.pointer (some ⟨p,0,none⟩)] w fun e w'=> ∃v g,e= .returned v∧OwG w' w.heap.size v g∧qR g=true∧Cur p A cap cs w'∧Tr p (p+1) w w':=by
 have H:=qA h;have hp:=h.lt;clear h;go_enter Tryz.func156,Tryz.ntmps156
 go_wp2_with fail;obtain⟨W0,am⟩: ∃W,W=w.alloc (.cells #[.int .i64 0,.int .i64 0, .slice none 0 0] 26):=⟨_,rfl⟩;rw[←am];obtain⟨xb,b0,s0⟩:=CBx.new am;clear am;have XB:=qA xb;have I0:Hid (DrI p A cap cs w W0):=qA ((DrI.refl H.out).bel b0);clear xb b0;have RA:Hid (RdI (W0.alloc (.cells #[.int .i64 1, .int .i64 2, .int .i64 2, .int .i64 2, .int .i64 3] 3)) (.slice (some ⟨W0.heap.size,0,none⟩) 5 5) [1,2,2,2,3]):=qA (qAE W0 [1,2,2,2,3] (by intro y hy;simp at hy;rcases hy with rfl | rfl | rfl<;>(unfold I64;omega)) (by simp) (zad _)).rd;have IA:=qA (I0.out.bel ((zae _ _).alloc (zad _) (.cells #[.int .i64 1, .int .i64 2, .int .i64 2, .int .i64 2, .int .i64 3] 3)));have XA:=qA (XB.out.below ((zae _ _).alloc (zad _) (.cells #[.int .i64 1, .int .i64 2, .int .i64 2, .int .i64 2, .int .i64 3] 3)));have eU:(zam (some ⟨W0.heap.size,0,none⟩) 5 5).ownBlock≠some p:=fun e=>by simp[zan] at e;omega
 rw[←s0];(with_reducible refine(qBR p A cap cs _ [1,2,2,2,3] _ IA.out.cur RA.out eU (by simp) (by simp)).mono ?_)
 rintro e w1 ⟨r,rfl,hr,c1,t1⟩;have I1:=qA (IA.out.to t1 c1);have X1:=qA (XA.out.trP t1 tO);have ka:1≤r:=by simp at hr;omega
 have dX:r≤3:=by simp at hr;omega
 clear c1 t1 IA RA hr eU XA I0 XB;go_wp2_with fail;refine(qAF p A cap cs 5 _ I1.out.cur tO tO).mono ?_
 rintro e w2 ⟨n0,rfl,⟨n1,n2⟩,c2,t2⟩;have I2:=qA (I1.out.to t2 c2);have X2:=qA (X1.out.trP t2 tO);obtain⟨N,hN⟩: ∃N,N=1+n0:=⟨_,rfl⟩;have l5:1≤N:=tO;have Mv:N≤5:=tO;have Gg:IntKind.i64.wrap (1+n0)=N:=by rw[IntKind.wrap_i64];omega
 clear c2 t2 I1 X1;go_wp2_with fail;rw[←hN];obtain⟨W3,lO⟩: ∃W,W=w2.alloc (.cells #[.int .i64 r,.int .i64 N, .slice none 0 0] 26):=⟨_,rfl⟩;have g3:GBx W3 w2.heap.size (w.heap.size+1) none 0 (r,N,[]):=GBx.new (base:=w.heap.size+1) (m:=(r,N,[])) OwE.nil (show I64 r from⟨tO,tO⟩) (show I64 N from⟨tO,tO⟩) lO;obtain⟨_,b3,s3⟩:=CBx.new lO;rw[←lO];have G3:=qA g3;have I3:=qA (I2.out.bel b3);have X3:=qA (X2.out.below b3);have cT:=X2.out.lt;have oN:grB (r,N,[])=true:=qFP ⟨ka,dX⟩ ⟨l5,by simp only;omega⟩ (by simp) zaE.nil (fun _ h=>by cases h);have uq:=qA oN;clear lO g3 b3 I2 X2 hN Gg oN;generalize hb:w2.heap.size=b at*;clear hb;go_loopw [6] (fun nv wr=> ∃(x:Int) (es:List EdD) (Ar:Option Addr) (cr:Nat),nv= .int .i64 x∧1≤x∧x≤r+1∧(es.length:Int)≤(x-1)*5∧grB (r,N,es)=true∧GBx wr b (w.heap.size+1) Ar cr (r,N,es)∧CBx wr w.heap.size (.int .i64 0) (.int .i64 0) (.slice none 0 0)∧DrI p A cap cs w wr) (fun nv _=>(r+1-intOf nv).toNat)
 case atStart=>exact⟨1,[],none,0,rfl,tO,tO,by simp,uq.out,G3.out,X3.out,I3.out⟩
 case round=>
  obtain⟨x,es,Ar,cr,rfl,fi,fj,iH,aY,hG,hX,hI⟩:=hrel;have aH:=qA aY;have HG:=qA hG;have HX:=qA hX;have HI:=qA hI;have iC:=hI.tr.size;have aZ:=hG.lt;clear aY hG hX hI;generalize wr=wo at*;by_cases ac:x≤r
  ·have O1:Hid (OwI (wo.alloc (.cells #[] 3)) wo.heap.size (.slice (some ⟨wo.heap.size,0,none⟩) 0 0) []):=qA (qAE wo [] qAT (by simp) (zad _));go_wp2;go_loopw [7,8] (fun lv nv wr=> ∃(k:Int) (l:List Int),nv= .int .i64 k∧0≤k∧k≤N∧(l.length:Int)=k∧rgL N l∧OwI wr wo.heap.size lv l∧Below wo.heap.size wo wr) (fun _ nv _=>(N-intOf nv).toNat)
   case atStart=>exact⟨0,[],rfl,tO,tO,rfl,(fun y hy=>by cases hy),O1.out,(zae _ _).alloc (zad _) _⟩
   case round=>
    obtain⟨k,l,rfl,we,Ns,dT,uL,hO,hB⟩:=hrel;have nc:=qA uL;have HO:=qA hO;have HB:=qA hB;have vA:=hB.size;obtain⟨Al,cl,rfl,cU,cV,yi,_⟩:=hO.form;clear uL hO hB;by_cases ll:k<N
    ·have N3:Hid (I64 k):=qA ⟨tO,tO⟩;go_wp2_with (at_builtin;refine qd rfl (.tmp 31) (.tmp 33) rfl _ _ _ (OwI.alloc HO.out _) rfl _ _ rfl (qa _ _ _) N3.out (by first | omega | (simp<;>omega)) (by first | omega | (simp<;>omega)) ?_;intro v1 oz o1 g1 p1)
     go_roundw
     case rel=>exact⟨k+1,l++ [k],by go_num,tO,tO,by simp;omega,(fun y hy=>by
      rcases zal.1 hy with hy | hy
      ·exact nc.out y hy
      ·rw[zau.1 hy];omega),o1,qe HB.out vA HO.out.1 (zad _) g1⟩
     case measure=>(simp[intOf];omega)
    ·obtain rfl:N=k:=tO
     have G4:=qA (HG.out.belowAt HB.out aZ (fun c hc=>(HG.out.ow.1.lt c hc).2));have X4:=qA (HX.out.belowAt HB.out tO);have I4:=qA (HI.out.bel HB.out);generalize wr=wq at*;go_wp2;go_loopw [7,9] (fun lv nv wr=> ∃(k:Int) (l:List Int) (es:List EdD) (Ar:Option Addr) (cr:Nat),nv= .int .i64 k∧0≤k∧k≤N∧(l.length:Int)=N-k∧rgL N l∧OwI wr wo.heap.size lv l∧(es.length:Int)≤(x-1)*5+k∧grB (r,N,es)=true∧GBx wr b (w.heap.size+1) Ar cr (r,N,es)∧CBx wr w.heap.size (.int .i64 0) (.int .i64 0) (.slice none 0 0)∧DrI p A cap cs w wr∧wo.heap.size≤wr.heap.size) (fun _ nv _=>(N-intOf nv).toNat)
     case atStart=>exact⟨0,l,es,Ar,cr,rfl,tO,tO,tO,nc.out,HO.out,tO,aH.out,G4.out,X4.out,I4.out,vA⟩
     case round=>
      clear G4 X4 I4 HO nc HB aH HG HX HI iH dT cU cV yi ll O1;obtain⟨k,l,es,Ar,cr,rfl,we,Ns,dT,uL,hO,iH,aY,hG,hX,hI,Cv⟩:=hrel;have nc:=qA uL;have HO:=qA hO;have aH:=qA aY;have HG:=qA hG;have HX:=qA hX;have HI:=qA hI;obtain⟨Al,cl,rfl,cU,cV,yi,db⟩:=hO.form;have kr:=qA db;have AT:=hG.lt;have Md:=qA dT;clear uL hO aY hG hX hI db;by_cases ll:k<N
      ·obtain⟨lg,rfl,ML,LQ⟩:=kr.out tO;have dR:0<(l.length:Int):=tO;have Ql:(l.length:Int)≤5:=tO;clear dT;go_wp2_with fail;refine(qAF p A cap cs l.length _ HI.out.cur tO tO).mono ?_
       rintro e w5 ⟨j0,rfl,hj,c5,t5⟩;obtain⟨j,rfl⟩: ∃j:Nat,j0=j:=⟨j0.toNat,tO⟩;have dS:j<l.length:=tO;have Ku:(j:Int)<(l.length:Int):=tO;have I5:=qA (HI.out.to t5 c5);have X5:=qA (HX.out.trP t5 tO);have G5:=qA (HG.out.trP t5 tO tO);have O5:=qA (HO.out.trP t5 tO);have gW:=t5.size;have IT:=O5.out.cellAt j dS;have HY:=qA (nc.out l[j] (zaq dS));have xJ:Hid (rgL N (l.take j++l.drop (j+1))):=qA fun y hy=>by
        rcases zal.1 hy with hy | hy
        ·exact nc.out y (List.mem_of_mem_take hy)
        ·exact nc.out y (List.mem_of_mem_drop hy)
       have io:Hid (((l.take j++l.drop (j+1)).length:Int)=l.length-1):=qA (by simp;omega);clear c5 t5 HI HX HG HO kr nc;generalize l[j]=y at*;have dk:=qA (fun W (h:ArgE W (.slice Ar es.length cr) es)=>qCc _ es (k,x,y) W h ⟨⟨by simp only;omega,by simp only;omega⟩,⟨by simp only;omega,by simp only;omega⟩,⟨by simp only;have:=HY.out;omega,by simp only;have:=HY.out;omega⟩⟩ tO);unfold edV at dk;simp only at dk
       have GP:Hid (grB (r,N,insF cmpE es (k,x,y))=true):=qA (qNy aH.out ⟨⟨by simp only;omega,by simp only;omega⟩,⟨by simp only;omega,by simp only;omega⟩,HY.out⟩ (by simp only;omega));have xD:(insF cmpE es (k,x,y)).length≤es.length+1:=qCM (c:=cmpE) es (k,x,y);generalize insF cmpE es (k,x,y)=bk at*;go_wp2_with fail;refine qBC [.val (.pointer (some ⟨b,2,none⟩)), .val (.slice Ar es.length cr), .val (.int .i64 k), .val (.int .i64 x), .val (.slice (some ⟨lg,0,none⟩) l.length cl), .val (.int .i64 j), .val (.pointer (some ⟨lg,j,none⟩)), .val (.int .i64 y), .val (.agg #[.int .i64 k, .int .i64 x, .int .i64 y]), .mem (fun _ W v=> ∃A' c',v= .slice A' bk.length c'∧OwE W w5.heap.size v bk), .val (.pointer (some ⟨b,2,none⟩)), .mem (fun us W _=> ∃Wp A' c',Below w5.heap.size w5 Wp∧OwE Wp w5.heap.size (.slice A' bk.length c') bk∧W=Wp.setCell ⟨b,2,none⟩ (.slice A' bk.length c'))]
        [none,none,none,none,none,none,none,none,none,some (fun W W'=>Below W.heap.size W W'),none,some (fun W W'=> ∃v,W'=W.setCell ⟨b,2,none⟩ v)]
        (fun _=>True) (fun W=>Below w5.heap.size w5 W) [11] [(9,11)] tK tK (by rfl) (by rfl)
        trivial (zae _ _).drew
        ⟨fun _ _ _ _=>trivial,fun _ _ _ _=>trivial,trivial⟩
        ⟨.inr fun _ _ _ h t=>h.trans (t.mono h.size), .inl (by simp),trivial⟩
        ⟨fun _ _ _ _ _ _ ⟨u,t⟩ ⟨A',c',e,o⟩=>by subst t;exact⟨A',c',e,o.keep fun d hd=>zak _ _ _ d (show d≠b by have:=(o.1.lt d hd).1;omega)⟩,trivial⟩ (fun vs=> ?_)
       refine⟨fun W' _ _ hI hD hK=> ?_,?_⟩
       ·skip;go_simp;exact hK.out _ _ rfl rfl
       simp only[zaf,zaa,zab,zac,Sg.pick,Nat.reduceAdd];refine⟨fun W' _ _ hI hD hK=> ?_,?_⟩
       ·have z2:=(G5.out.below (hI.out.2 tK)).c2;go_simp;exact hK.out _ _ rfl rfl
       simp only[zaf,zaa,zab,zac,Sg.pick,Nat.reduceAdd]
       iterate 5
        refine⟨fun W' _ _ hI hD hK=> ?_,?_⟩
        ·skip;go_simp;exact hK.out _ _ rfl rfl
        simp only[zaf,zaa,zab,zac,Sg.pick,Nat.reduceAdd]
       refine⟨fun W' _ _ hI hD hK=> ?_,?_⟩
       ·have z0:=((hI.out.2 tK).cell (p:=⟨lg,j,none⟩) (by show lg<_;omega)).trans IT;go_simp;exact hK.out _ _ rfl rfl
       simp only[zaf,zaa,zab,zac,Sg.pick,Nat.reduceAdd];refine⟨fun W' _ _ hI hD hK=> ?_,?_⟩
       ·skip;go_simp;exact hK.out _ _ rfl rfl
       simp only[zaf,zaa,zab,zac,Sg.pick,Nat.reduceAdd];refine⟨fun W' _ _ hI hD hK=> ?_,?_⟩
       ·skip;go_simp;refine(dk.out _ (G5.out.below (hI.out.2 tK)).ow.arg).mono ?_;rintro e w' ⟨rv,rfl,oe,b'⟩;obtain⟨A',c',rfl,_⟩:=oe.form;exact hK.out _ _ b' ⟨A',c',rfl,oe.mono (hI.out.2 tK).size⟩
       simp only[zaf,zaa,zab,zac,Sg.pick,Nat.reduceAdd];refine⟨fun W' _ _ hI hD hK=> ?_,?_⟩
       ·skip;go_simp;exact hK.out _ _ rfl rfl
       simp only[zaf,zaa,zab,zac,Sg.pick,Nat.reduceAdd];refine⟨fun W' _ _ hI hD hK=> ?_,?_⟩
       ·obtain⟨A',c',e9,o⟩:=(show ∃A' c',vs 9= .slice A' bk.length c'∧OwE W' w5.heap.size (vs 9) bk from hD.out 9 tK);rw[e9] at hK o⊢;have hG:=G5.out.below (hI.out.2 tK);have z2:=hG.c2;have u2:=hG.fz 2;go_simp;exact hK.out undef _ ⟨_,rfl⟩ ⟨W',A',c',hI.out.2 tK,o,rfl⟩
       simp only[zaf,zaa,zab,zac,Sg.pick,Nat.reduceAdd];intro W9 hI9 hD9;obtain⟨Wp,A9,c9,bp,op,DN⟩:=(show ∃Wp A' c',Below w5.heap.size w5 Wp∧OwE Wp w5.heap.size (.slice A' bk.length c') bk∧W9=Wp.setCell ⟨b,2,none⟩ (.slice A' bk.length c') from hD9.out 11 (by decide));have G9:=qA (((G5.out.below bp).put (ms:=bk) op (fun c hc=>by have:=(op.1.lt c hc).1;omega)).mono (show w.heap.size+1≤w5.heap.size by omega));have X9:=qA ((X5.out.below bp).one (q:=b) (j:=2) (v:= .slice A9 bk.length c9) tO);have I9:=qA ((I5.out.bel bp).hi H.out (zad _) ((zae w.heap.size Wp).setCell (p:=⟨b,2,none⟩) (by show w.heap.size≤b;omega) (.slice A9 bk.length c9)));have O9:=qA ((O5.out.below bp).far (p:=⟨b,2,none⟩) (by show b<wo.heap.size;exact aZ) (.slice A9 bk.length c9));have kn:w5.heap.size≤W9.heap.size:=by rw[DN];simpa using bp.size
       simp only at G9
       rw[←DN] at G9 X9 I9 O9;clear hI9 hD9 DN op bp G5 X5 I5 O5 dk IT;generalize W9=w9 at*;have HH:=qA (O9.out.rd.head (k:=j) rfl tO);have z1:(0:Int)≤(j:Int):=tO;have z2:(j:Int)≤(cl:Int):=tO;have z3:(j:Int)+1≤(l.length:Int):=tO;have z4:(j:Int)≤(l.length:Int):=tO;have z5:(0:Int)≤(j:Int)+1:=tO;have z6:(j:Int)+1≤(cl:Int):=tO;have z7:((j:Int)+1).toNat=j+1:=tO;have zw:IntKind.i64.wrap ((j:Int)+1)=(j:Int)+1:=by rw[IntKind.wrap_i64];omega
       have HD:Hid (RdI w9 (.slice (if cl=j+1 then some ⟨lg,0,none⟩ else some ⟨lg,j+1,none⟩) (l.length-(j+1)) (cl-(j+1))) (l.drop (j+1))):=qA (by
        have:=O9.out.rd.cut (k:=j+1) rfl tO
        simpa[Addr.add_lit] using this)
       have E9:Hid (OwI (w9.drew.alloc (.cells #[] 3)) w9.heap.size (.slice (some ⟨w9.heap.size,0,none⟩) 0 0) []):=qA (qAE w9.drew [] qAT (by simp) (zad _));have De:Hid (Below w9.heap.size w9 (w9.drew.alloc (.cells #[] 3))):=qA (((zae _ _).drew).alloc (zad _) (.cells #[] 3));have H6:=qA (HH.out.below De.out);have Ly:(l.take j).length=j:=by rw[zaL];omega
       have ue:(l.drop (j+1)).length=l.length-(j+1):=List.length_drop;have rA:=xJ.out;have pL:=io.out;have mL:l.length-(j+1)≤5:=tO;obtain⟨la,pO⟩: ∃a,a=l.take j:=⟨_,rfl⟩;obtain⟨lb,mn⟩: ∃a,a=l.drop (j+1):=⟨_,rfl⟩;rw[←pO] at HH H6 Ly rA pL;rw[←mn] at HD ue rA pL;have xJ:=qA rA;have io:=qA pL;clear pO mn rA pL;go_wp2_with fail;go_region_held3 (fun w'=>True) (trivial)
        (first
         | (refine qBD rfl (.tmp 55) (.tmp 58) rfl w9.heap.size _ [] E9.out (by rfl) _ la H6.out (by rfl) (by simp only[List.length_nil];omega) De.out.size ?_;intro va wa oa ga pa;rw[List.nil_append] at oa;have BA:Hid (Below w9.heap.size w9 wa):=qA (De.out.grown ga De.out.size (fun c hc=>(E9.out.1.lt c hc).1));have OA:=qA oa;clear oa ga pa)
         | (refine qBD rfl (.tmp 59) (.tmp 63) rfl w9.heap.size _ la OA.out (by rfl) _ lb (HD.out.below BA.out) (by rfl) tO BA.out.size ?_;intro vb wb ob gb pb;have BB:Hid (Below w9.heap.size w9 wb):=qA (BA.out.grown gb BA.out.size (fun c hc=>(OA.out.1.lt c hc).1));have OB:=qA ob;clear ob gb pb OA BA))
       obtain⟨Ab,mb,cb,rfl⟩:=OB.out.any2;go_wp2;go_roundw
       case rel=>exact⟨k+1,la++lb,bk,A9,c9,by go_num,tO,tO,by have:=io.out;have:=Md.out;omega,xJ.out,OB.out.mono tO,tO,GP.out,G9.out.below BB.out,X9.out.below BB.out,I9.out.bel BB.out,by have:=BB.out.size;omega⟩
       case measure=>(simp[intOf];omega)
      ·obtain rfl:k=N:=tO
       have Qd:IntKind.i64.wrap (x+1)=x+1:=by rw[IntKind.wrap_i64];omega
       go_wp2;go_roundw
       case rel=>exact⟨x+1,es,Ar,cr,by go_num,tO,tO,tO,aH.out,HG.out,HX.out,HI.out⟩
       case measure=>(simp[intOf];omega)
  ·have kS:=qA (fun W v (h:ArgG W v (r,N,es))=>qAq v (r,N,es) W h aH.out);have jv:=qA (qCq aH.out);generalize qAj (r,N,es)=qg at*;obtain⟨q1,q2,qs⟩:=qg;obtain⟨y0,y1,y2⟩:=HG.out.cs;simp only at y0 y1 y2
   go_wp2_with fail;refine(kS.out wo _ HG.out.arg).mono ?_
   rintro e w2 ⟨v2,rfl,⟨s2,rfl,j1,j2,cB⟩,b2⟩;obtain⟨A2,bF,rfl,_⟩:=cB.form;simp only at j1 j2 cB⊢
   have I2:=qA (HI.out.bel b2);have X2:=qA (HX.out.below b2);have eK:=qA cB;clear b2 cB;obtain⟨u0,u1,u2⟩:=X2.out.cs;have f0:=X2.out.fz 0;have f1:=X2.out.fz 1;have f2:=X2.out.fz 2;go_wp2;have XF:=X2.out.setv (.int .i64 q1) (.int .i64 q2) (.slice A2 qs.length bF);obtain⟨e0,e1,e2⟩:=XF.cs;have IF:=I2.out.hi H.out (zad _) (qL (.int .i64 q1) (.int .i64 q2) (.slice A2 qs.length bF) (zae _ _) (zad w.heap.size));exact bodyPost_ret (v:= .agg #[.int .i64 q1, .int .i64 q2, .slice A2 qs.length bF]) (by simp[results,Tryz.results156,go_sem,e0,e1,e2]) rfl ⟨_,rfl,q1,q2,qs,⟨_,rfl,j1,j2,(eK.out.keep fun c hc=>qK _ _ _ _ _ (by have:=(eK.out.1.lt c hc).1;omega)).mono tO⟩,jv.out,IF.cur,IF.tr⟩
theorem qJX {g:GrD} (h:qR g=true):qb g=true:=by
 unfold qR at h;simp only[zaw] at h;exact h.1.1
section
variable {g:GrD} (hg:grB g=true) (hf:Fol g.2.2) {w:List Int} (hw: ∀y∈w,Lt3 y) {s:Int×List Int} (hs:okS g s)
include hg hw
include hf
include hs
end
section
variable {g:GrD} (hg:grB g=true) (hf:Fol g.2.2)
include hg hf
end
section
variable {es:List EdD} {c:List Int} {v:Int}
end
theorem Tr.bw {p B:Nat} {w W W':World} (hb:Below B w W) (ht:Tr p (p+1) W W') (hp:B≤p) (hB:B≤W.heap.size):Below B w W':=
 ⟨ht.os.trans hb.os,ht.tape.trans hb.tape,ht.output.trans hb.output,zao hb.size ht.size,fun k hk=>(ht.block k tO tO).trans (hb.block k hk)⟩
theorem qFA {w W:World} {v:Value} {cs:List Int} (h:ArgC w v cs) (hb:Below w.heap.size w W):ArgC W v cs:=by
 obtain⟨A,cap,e,h1,h2,h3,h4⟩:=h;exact⟨A,cap,e,h1,h2,h3,fun h0=>by
  obtain⟨b,off,hA,hc⟩:=h4 h0;exact⟨b,off,hA,fun i hi=>(hb.cell (p:=⟨b,off+i,none⟩) (qJV (hc 0 h0))).trans (hc i hi)⟩⟩
section
open Go.ChangeShapes Go.WideShapes Go.ChangeAt Go.RowKit
theorem qOk:laidOutB Tryz.prog=true:=by kernel_rfl
theorem own:ownKnob Tryz.prog.godebug=none:=by kernel_rfl
end
def OE (lo hi:Nat) (v:Value) (es:List EdD) (w:World):Prop:=OwE w lo v es∧ ∀b,v.ownBlock=some b→b<hi
def misV (g:GrD) (v:Int) (ls:List Int):List EdD:=(ls.filter fun x=>decide (qF g.2.2 v x<0)).map fun x=>(v,x,-1)
def misU (g:GrD):Nat→List EdD
 | 0=> []
 | k+1=>misU g k++misV g (k:Int) (qG g.1.toNat)
def finB (g:GrD):Bool:=qR g&&decide ((misU g g.2.1.toNat).length=0)
theorem qLH (g:GrD) (v:Int) (ls:List Int) (j:Nat) (h:j<ls.length):misV g v (ls.take (j+1))=misV g v (ls.take j)++if qF g.2.2 v ls[j]<0 then [(v,ls[j],-1)] else []:=by
 unfold misV;rw[zah h,List.filter_append,zaC];congr 1
 split
 ·rename_i h1;simp[h1]
 ·rename_i h1;simp[h1]
theorem qJr (g:GrD) (v:Int) (ls:List Int):(misV g v ls).length≤ls.length:=by
 unfold misV;rw[List.length_map];exact List.length_filter_le _ _
theorem qJn (g:GrD): ∀k,(misU g k).length≤k*(2*g.1.toNat)
 | 0=>by simp[misU]
 | k+1=>by
   have h1:=qJn g k;have h2:=qJr g (k:Int) (qG g.1.toNat);rw[qy] at h2;unfold misU;rw[zat,Nat.succ_mul];omega
theorem qDx (v:Value) (g:GrD) (w:World) (h:ArgG w v g) (hf:qb g=true):
  Calls Tryz.prog 165 #[v] w fun e w'=> ∃r,e= .returned r∧OwE w' w.heap.size r (misU g g.2.1.toNat)∧Below w.heap.size w w':=by
 have HG:=qA h;have HF:=qA hf;have aY:=(qE hf).1;have ONE:=qA (qp (qE hf).2);obtain⟨li,fG,aQ,_⟩:=qB aY;obtain⟨n,hn⟩: ∃n:Nat,g.2.1=(n:Int):=⟨g.2.1.toNat,tO⟩;obtain⟨r,hr⟩: ∃r:Nat,g.1=(r:Int):=⟨g.1.toNat,tO⟩;obtain⟨s,rfl,aT,aS,ha⟩:=h;obtain⟨A,cap,rfl⟩:=ha.form;obtain⟨g1,N,es⟩:=g;simp only at*
 subst hn hr;have MO:Hid (∀k,misU ((r:Int),(n:Int),es) (k+1)=misU ((r:Int),(n:Int),es) k++misV ((r:Int),(n:Int),es) (k:Int) (qG r)):=qA fun k=>rfl;have ir:Hid (∀k,(misU ((r:Int),(n:Int),es) k).length≤k*(2*r)):=qA fun k=>qJn _ k;have io:=qA (qy r);have jQ:=qFO (n:=r) tO;have cR:=qA (fun W=>qAs r W tO);clear ha hf aY;simp only[zaI];generalize qG r=ls at*;have kJ:=qA jQ;clear jQ;go_enter Tryz.func165,Tryz.ntmps165
 go_wp2_with fail;obtain⟨W1,an⟩: ∃W,W=w.alloc (.cells #[.int .i64 (r:Int),.int .i64 (n:Int), .slice A es.length cap] 26):=⟨_,rfl⟩;obtain⟨aw,b1,aR,_⟩:=gbox an;obtain⟨W,hW⟩: ∃W,W=W1.alloc (.cells #[] 97):=⟨_,rfl⟩;have b2:Below W1.heap.size W1 W:=by rw[hW];exact(zae _ _).alloc (zad _) _
 have aW:W.heap.size=w.heap.size+2:=by rw[hW];simp;omega
 have o0:OwE W (w.heap.size+1) (.slice (some ⟨w.heap.size+1,0,none⟩) 0 0) []:=by rw[hW];exact qDm W1 (w.heap.size+1) aw (zad _)
 rw[←an,←hW];have BX:Hid (Below w.heap.size w W):=qA (b1.trans (b2.mono tO));have kD:=qA (b2.mono (show w.heap.size+1≤W1.heap.size by omega));have bM:=qA aR;have bH:Hid (∀w',Below (w.heap.size+1) W w'→w'.cell? ⟨w.heap.size,0,none⟩=some (.int .i64 (r:Int))∧w'.cell? ⟨w.heap.size,1,none⟩=some (.int .i64 (n:Int))∧w'.cell? ⟨w.heap.size,2,none⟩=some (.slice A es.length cap)):=qA fun w' hb=>bM.out w' (kD.out.trans hb);have HA:Hid (∀w',Below (w.heap.size+1) W w'→ArgG w' (.agg #[.int .i64 (r:Int), .int .i64 (n:Int), .slice A es.length cap]) ((r:Int),(n:Int),es)):=qA fun w' hb=>HG.out.below (BX.out.trans (hb.mono tO));have po:Hid (∀w',Below (w.heap.size+1) W w'→Calls Tryz.prog 148 #[.agg #[.int .i64 (r:Int), .int .i64 (n:Int), .slice A es.length cap]] w' fun e w''=>e= .returned (.bool true)∧Below w'.heap.size w' w''):=qA fun w' hb=>by
  have h:=qAI _ _ w' (HA.out w' hb);rw[HF.out] at h;exact h
 have O0:=qA o0;clear an hW aR b1 b2 bM o0;go_loopw [3,4] (fun vo i wr=> ∃k:Nat,k≤n∧i= .int .i64 k∧OwE wr (w.heap.size+1) vo (misU ((r:Int),(n:Int),es) k)∧Below (w.heap.size+1) W wr) (fun _ i _=>n-(intOf i).toNat)
 case atStart=>exact⟨0,zar _,rfl,O0.out,(zae W.heap.size W).mono tO⟩
 case round=>
  obtain⟨k,hk,rfl,ho,hb⟩:=hrel;have HO:=qA ho;have HB:=qA hb;obtain⟨wi,rfl⟩: ∃wi:World,wi=wr:=⟨_,rfl⟩;clear ho hb;have uX:=HB.out.size;obtain⟨q0,q1,q2⟩:=bH.out wi HB.out;obtain⟨Ao,co,rfl,_⟩:=OwE.form HO.out;by_cases ac:k<n
  ·have mT:(k:Int)<(n:Int):=tO;go_wp2_with fail;refine(po.out wi HB.out).mono ?_
   rintro e w3 ⟨rfl,b3⟩;have fS:=b3.size;have mx:=qA (HO.out.below b3);have aC:=qA (HB.out.trans (b3.mono tO));clear b3 q0 q1 q2;obtain⟨q0,q1,q2⟩:=bH.out w3 aC.out;go_wp2_with fail;refine(cR.out w3).mono ?_
   rintro e w4 ⟨rl,rfl,ol,b4⟩;have lZ:=b4.size;have sH:=qA (mx.out.below b4);have ch:=qA (aC.out.trans (b4.mono tO));obtain⟨Al,cl_,rfl,cU,cV,_,ko⟩:=OwI.form ol;have au:0<ls.length:=by have:=io.out;omega
   obtain⟨bl,rfl,jR,dw⟩:=ko au;unfold maxLen at cV;have OL:=qA ol.rd;have iP:Hid ((zam Ao (misU ((r:Int),(n:Int),es) k).length co).ownBlock≠some bl):=qA fun e=>by have:=(mx.out.1.lt bl e).2;omega
   have J8:=qA (ir.out k);have Gm:=qA (MO.out k);have Mb:k*(2*r)≤40*6:=Nat.mul_le_mul tO tO;generalize misU ((r:Int),(n:Int),es) k=L at*;have sK:L.length≤240:=by have:=J8.out;omega
   clear ol b4 ko q0 q1 q2 mx aC J8 Mb;go_wp2;go_loopw [3,6] (fun vo j wr=> ∃m:Nat,m≤ls.length∧j= .int .i64 m∧OwE wr (w.heap.size+1) vo (L++misV ((r:Int),(n:Int),es) (k:Int) (ls.take m))∧RdI wr (.slice (some ⟨bl,0,none⟩) ls.length cl_) ls∧vo.ownBlock≠some bl∧bl<wr.heap.size∧Below (w.heap.size+1) W wr) (fun _ j _=>ls.length-(intOf j).toNat)
   case atStart=>exact⟨0,zar _,rfl,by simpa[misV] using sH.out,OL.out,iP.out,dw,ch.out⟩
   case round=>
    obtain⟨m,hm,rfl,ho,aN,ai,bN,hb⟩:=hrel;have Bl:=qA ho;have Cb:=qA hb;have jF:=qA aN;have jj:=qA ai;obtain⟨wj,rfl⟩: ∃wj:World,wj=wr:=⟨_,rfl⟩;have IM:=Cb.out.size;have bm:w.heap.size<wj.heap.size:=tO;have ED:=qJr ((r:Int),(n:Int),es) (k:Int) (ls.take m);rw[zaL] at ED;by_cases al:m<ls.length
    ·have HS:=qA (qLH ((r:Int),(n:Int),es) (k:Int) ls m al);obtain⟨_,_,dp,_,nG⟩:=aN.at tO;obtain⟨rfl,rfl⟩:bl=_∧0=_:=by simpa using dp
     have c0:=nG m al;rw[Nat.zero_add] at c0;have mp:=qA (kJ.out ls[m] (by simp));obtain⟨p0,p1,p2⟩:=bH.out wj Cb.out;generalize ls[m]=x at c0 HS mp;generalize misV ((r:Int),(n:Int),es) (k:Int) (ls.take m)=LV at*;have RS:(L++LV).length≤1000:=by have:=io.out;rw[zat];omega
     generalize Db:L++LV=LO at*;have tH:=qA Db;obtain⟨A2,c2,rfl,_⟩:=OwE.form Bl.out;have cS:=qA (fun W' (h:ArgG W' (.agg #[.int .i64 (r:Int), .int .i64 (n:Int), .slice A es.length cap]) ((r:Int),(n:Int),es))=>qU _ ((r:Int),(n:Int),es) (k:Int) x W' h (ONE.out (k:Int) x));clear nG dp ho hb aN ai ED Db;go_wp2_with fail;have f0:=BelW.cell p0 bm;have f1:=BelW.cell p1 bm;have f2:=BelW.cell p2 bm;have f3:=BelW.cell c0 bN;(refine qH tK tK ?_;(repeat(go_big_quiet_step (first | (go_at_call 86;exact Calls.bel_of (cS.out _ (HA.out _ (Cb.out.trans ((BelW.h _).mono tO))))))));refine wpQuiet_nil ?_;intro wq aA;obtain⟨pq,ae⟩:=aA;have bq:=pq.h;rw[←ae] at bq;clear ae pq)
     clear f0 f1 f2 f3 p0 p1 p2;have sq:=bq.size;have c1:=(bq.cell (p:=⟨bl,m,none⟩) bN).trans c0;have HQ:=qA (Cb.out.trans (bq.mono tO));have gq:=qA (Bl.out.below bq);have iM:=qA (jF.out.below bq);clear bq c0;rcases ey:decide (qF es (k:Int) x<0) with _ | _
     ·have hy: ¬qF es (k:Int) x<0:=by simpa using ey
      have lH:Hid (L++misV ((r:Int),(n:Int),es) (k:Int) (ls.take (m+1))=LO):=qA (by rw[HS.out,if_neg hy,zaM];exact tH.out);clear hy;go_wp2;go_roundw
      case rel=>exact⟨m+1,tO,by go_num,by rw[lH.out];exact gq.out,iM.out,jj.out,tO,HQ.out⟩
      case measure=>simp[intOf];omega
     ·have hy:qF es (k:Int) x<0:=by simpa using ey
      have lH:Hid (L++misV ((r:Int),(n:Int),es) (k:Int) (ls.take (m+1))=LO++ [((k:Int),x,-1)]):=qA (by rw[HS.out,if_pos hy,←zaH,tH.out]);have bR:Hid (E64 ((k:Int),x,(-1:Int))):=qA ⟨(by show I64 (k:Int);unfold I64;omega),mp.out,(show I64 (-1) from⟨by decide,by decide⟩)⟩;clear hy;go_wp2_with (at_builtin;refine qBO rfl (.tmp 35) (.tmp 42) rfl (w.heap.size+1) _ _ (gq.out.alloc _) rfl _ ((k:Int),x,(-1:Int)) rfl (qCv _ _ _) bR.out (by first | omega | (simp;omega)) (by first | omega | (simp;omega)) ?_;intro v2 wv2 o2 g2 p2;have cj:=g2.size;simp at cj;have O2:=qA o2;have B2:=qA (qBA HQ.out (show w.heap.size+1≤wq.heap.size by omega) gq.out (zad _) g2);have R2:=qA ((iM.out.alloc (.cells #[.int .i64 (k:Int),.int .i64 x,.int .i64 (-1)] 97)).grown g2 (fun b hb aJ=>by simp[zan] at hb;subst hb;exact jj.out aJ));have N2:Hid (v2.ownBlock≠some bl):=qA fun e=>(by rcases p2 with p2 | p2<;>rw[p2] at e<;>first | exact jj.out e | (simp at e;done) | (simp at e;omega));clear o2 g2 p2)
      go_roundw
      case rel=>exact⟨m+1,tO,by go_num,by rw[lH.out];exact O2.out,R2.out,N2.out,tO,B2.out⟩
      case measure=>simp[intOf];omega
    ·obtain rfl:m=ls.length:=tO
     rw[zap] at Bl;have ki:Hid (OwE wj (w.heap.size+1) _ (misU ((r:Int),(n:Int),es) (k+1))):=qA (by rw[Gm.out];exact Bl.out);obtain⟨A2,c2,rfl,_⟩:=OwE.form Bl.out;clear ho hb aN ai ED;go_wp2;go_roundw
     case rel=>exact⟨k+1,tO,by go_num,ki.out,Cb.out⟩
     case measure=>simp[intOf];omega
  ·obtain rfl:k=n:=tO
   have aj:Hid (Below w.heap.size w wi):=qA (BX.out.trans (HB.out.mono tO));go_wp2;go_ret;exact⟨_,rfl,HO.out.mono tO,aj.out⟩
theorem qDb (v:Value) (g:GrD) (w:World) (h:ArgG w v g):
  Calls Tryz.prog 88 #[v] w fun e w'=>e= .returned (.bool (finB g))∧Below w.heap.size w w':=by
 have HG:=qA h;obtain⟨s,rfl,aT,aS,ha⟩:=h;obtain⟨A,cap,rfl⟩:=ha.form;obtain⟨g1,N,es⟩:=g;simp only at*
 clear ha;go_enter Tryz.func88,Tryz.ntmps88
 go_wp2_with fail;obtain⟨W,hW⟩: ∃W,W=w.alloc (.cells #[.int .i64 g1,.int .i64 N, .slice A es.length cap] 26):=⟨_,rfl⟩;obtain⟨aW,b1,aR,_⟩:=gbox hW;rw[←hW];have BX:=qA b1;have bH:=qA aR;have HA:Hid (∀w',Below (w.heap.size+1) W w'→ArgG w' (.agg #[.int .i64 g1, .int .i64 N, .slice A es.length cap]) (g1,N,es)):=qA fun w' hb=>HG.out.below (BX.out.trans (hb.mono tO));clear hW b1 aR;refine(qAH _ (g1,N,es) W (HA.out W ((zae W.heap.size W).mono tO))).mono ?_
 rintro e w2 ⟨rfl,b2⟩;have cT:=b2.size;have B2:Hid (Below (w.heap.size+1) W w2):=qA (b2.mono tO);clear b2;obtain⟨q0,q1,q2⟩:=bH.out w2 B2.out;rcases ec:qR (g1,N,es) with _ | _
 ·have F:Hid (finB (g1,N,es)=false):=qA (by unfold finB;rw[ec];rfl);have aj:Hid (Below w.heap.size w w2):=qA (BX.out.trans (B2.out.mono tO));clear ec;go_wp2;go_ret;exact⟨qM F.out.symm,aj.out⟩
 ·have jH:qb (g1,N,es)=true:=by have h:=ec;unfold qR at h;simp only[zaw] at h;exact h.1.1
  have F:Hid (finB (g1,N,es)=decide ((misU (g1,N,es) N.toNat).length=0)):=qA (by unfold finB;rw[ec];rfl);have ir:=qA (qDx _ (g1,N,es) w2 (HA.out w2 B2.out) jH);clear ec jH;go_wp2_with fail;refine ir.out.mono ?_;rintro e w3 ⟨r3,rfl,o3,b3⟩;have fS:=b3.size;have aj:Hid (Below w.heap.size w w3):=qA (BX.out.trans ((B2.out.trans (b3.mono tO)).mono tO));obtain⟨A3,c3,rfl,_⟩:=o3.form;simp only at*
  generalize (misU (g1,N,es) N.toNat).length=M at*;clear o3 b3 q0 q1 q2 ir;rcases eM:decide (M=0) with _ | _
  ·have hM: ¬M=0:=by simpa using eM
   have K7: ¬(M:Int)=0:=tO;clear hM;go_wp2;go_ret;exact⟨qM (by rw[F.out,eM];simpa using K7),aj.out⟩
  ·obtain rfl:M=0:=by simpa using eM
   go_wp2;go_ret;exact⟨qM (by rw[F.out,eM]),aj.out⟩
theorem qOl (v:Value) (cs:List Int) (w:World) (h:ArgC w v cs):
  Calls Tryz.prog 7 #[v] w fun e w'=>e= .returned (.bool (decide ((1048576:Int)<cs.length)))∧w=w':=by
 obtain⟨A,cap,rfl,_⟩:=h;go_enter Tryz.func7,Tryz.ntmps7
 go_wp2;exact bodyPost_ret (v:= .bool (decide ((1048576:Int)<cs.length))) (by simp[results,Tryz.results7,go_sem]) rfl ⟨rfl,rfl⟩
def idxO (g:GrD):Int:=if finB g=true then g.2.1 else-1
theorem qBz (v:Value) (g:GrD) (w:World) (h:ArgG w v g):
  Calls Tryz.prog 15 #[v] w fun e w'=>e= .returned (.int .i64 (idxO g))∧Below w.heap.size w w':=by
 have HG:=qA h;have HI:Hid (idxO g=if finB g=true then g.2.1 else-1):=qA rfl;generalize idxO g=n at*;obtain⟨s,rfl,aT,aS,ha⟩:=h;obtain⟨A,cap,rfl⟩:=ha.form;obtain⟨g1,N,es⟩:=g;simp only at*
 clear ha;go_enter Tryz.func15,Tryz.ntmps15
 go_wp2_with fail;obtain⟨W,hW⟩: ∃W,W=w.alloc (.cells #[.int .i64 g1,.int .i64 N, .slice A es.length cap] 26):=⟨_,rfl⟩;rw[←hW];obtain⟨xb,b0,s0⟩:=CBx.new hW;clear hW;refine(qDb _ (g1,N,es) W (HG.out.below b0)).mono ?_
 rintro e w1 ⟨rfl,b1⟩;have X1:=xb.below b1;have B1:=qA (b0.trans (b1.mono tO));have u1:=X1.c1;clear xb b0 b1 X1;rcases e1:finB (g1,N,es) with _ | _
 ·rw[e1] at HI;have dL:Hid (n= -1):=qA (by rw[HI.out];rfl);go_wp2;exact bodyPost_ret (v:= .int .i64 (-1)) (by simp[results,Tryz.results15,go_sem]) rfl ⟨by rw[dL.out],B1.out⟩
 ·rw[e1] at HI;have dL:Hid (n=N):=qA (by rw[HI.out];rfl);go_wp2;exact bodyPost_ret (v:= .int .i64 N) (by simp[results,Tryz.results15,go_sem]) rfl ⟨by rw[dL.out],B1.out⟩
theorem OwII.belowL {lo hi:Nat} {w w':World} {v:Value} {L:List (List Int)} (h:OwII lo hi v L w) (hh:hi≤w.heap.size) (hb:Below w.heap.size w w'):OwII lo w'.heap.size v L w':=
 (OwnL.keep h EI.stable fun b _ h2=>hb.block b tO).widen (zad _) (zao hh hb.size)
theorem qIv {w:World} {ops:Array Oper} {rest:List Oper} {o:Oper} {a:Act} {Q:Exit→Act→World→Prop} (dH:o.guard=none) (s x:Operand)
  (ho:o.op= .call {callee:= .builtin .append,args:= #[s,x],argTypes:= #[69,69]})
  (base:Nat) (v:Value) (n:Nat) (vs:List Value) (aa:w.ownsRow base 37 1 v n vs) (hs:a.eval s=v) (b m cap:Nat) (ds:List Value) (hm:ds.length=m) (hx:a.eval x= .slice (some ⟨b,0,none⟩) m cap)
  (hc: ∀j y,ds[j]? =some y→w.cell? ⟨b,j,none⟩=some y) (h1: ∀u∈ds,u.oneCell'=true) (hl:n+m≤1099511627776) (ao:base≤w.heap.size)
  (h: ∀v' w',w'.ownsRow base 37 1 v' (n+m) (vs++ds)→w.grownBy w' v.ownBlock→(v'.ownBlock=v.ownBlock∨v'.ownBlock=some w.heap.size)→wpList Tryz.prog ops Q rest (a.put o.dst v') w'):
  wpList Tryz.prog ops Q (o::rest) a w:=by
 obtain⟨i0,cE,cD,bI,cj⟩:=info_parts qGo;refine wpList_append_own_at _ dH s x 69 ho base 37 i0 (.slice none 0 0) 1 24 Tryz.underlying69 cE cD bI cj rfl (by decide) v n vs hs aa ⟨b,0,none⟩ m cap ds hx (by rw[hm,Nat.mul_one]) ?_ h1 (by unfold maxLen;omega) tO ao ?_
 ·intro j u hj;rw[Addr.add_lit,Nat.zero_add];exact hc j u hj
 ·intro v' w' h1 h2 h3 h5;exact h v' w' h1 h2 h5
theorem OwII.vals {lo hi:Nat} {v:Value} {L:List (List Int)} {w:World} (h:OwII lo hi v L w): ∃vs:List Value,vs.length=L.length∧w.ownsRow 0 37 1 v L.length vs∧
  ∀i (eR:i<vs.length) (h':i<L.length),OwI w 0 vs[i] L[i]∧ ∀c,vs[i].ownBlock=some c→(lo≤c∧c<hi)∧v.ownBlock≠some c:=by
 obtain⟨F,⟨es,h1,h2,h3,rfl⟩,eL,hF⟩:=h;have hl:es.length=L.length:=by rw[←h1];simp
 rw[hl] at h3;obtain⟨f1,f2⟩:=qIc es fun e he=>(h2 e he).1;refine⟨(es.map (·.1)).flatten,by rw[f1,hl],h3,fun i eR h'=> ?_⟩;have EA:i<es.length:=tO;obtain⟨s,hs,ho,hf⟩:=(h2 es[i] (by simp)).2;have e:=f2 i EA eR;rw[hs] at e;injection e with e
 rw[←e];have e2:es[i].2.1=L[i]:=by simp[←h1]
 rw[←e2];refine⟨ho,fun c hc=> ?_⟩;have hm:c∈(es.map (·.2.2)).flatten:=List.mem_flatten.2 ⟨es[i].2.2,List.mem_map.2 ⟨es[i],by simp,rfl⟩,by rw[hf,hc];simp⟩;refine⟨hF c (zal.2 (.inr hm)),fun hv=> ?_⟩;rw[hv] at eL;simp only[Option.toList_some,List.singleton_append,List.nodup_cons] at eL;exact eL.1 hm
theorem qOh {lo hi:Nat} {w:World} {v:Value} {L:List (List Int)} {ops:Array Oper} {rest:List Oper} {o:Oper} {a:Act} {Q:Exit→Act→World→Prop} (dH:o.guard=none) (s x:Operand)
  (ho:o.op= .call {callee:= .builtin .append,args:= #[s,x],argTypes:= #[69,69]})
  (aa:OwII lo hi v L w) (hs:a.eval s=v) (b:Nat) (z:Value) (d:List Int) (hx:a.eval x= .slice (some ⟨b,0,none⟩) 1 1)
  (iH:RdI w z d) (hc:w.cell? ⟨b,0,none⟩=some z) (hz:z.oneCell'=true) (ai: ∀c,z.ownBlock=some c→v.ownBlock≠some c) (hl:L.length≤1073741824)
  (h: ∀v' w',RdII w' v' (L++ [d])→w.grownBy w' v.ownBlock→wpList Tryz.prog ops Q rest (a.put o.dst v') w'):
  wpList Tryz.prog ops Q (o::rest) a w:=by
 obtain⟨vs,Hq,m9,xV⟩:=aa.vals;refine qIv dH s x ho 0 v L.length vs m9 hs b 1 1 [z] rfl hx (fun j y hj=> ?_) (fun u hu=>by simp at hu;subst hu;exact hz) tO (zar _) fun v' w' o' g' _=> ?_
 ·match j,hj with
  | 0,hj=>simp at hj;subst hj;exact hc
 ·refine h v' w' ⟨vs++ [z],by simp[Hq],?_,fun i hi eR=> ?_⟩ g'
  ·have:=RdV.of_own o'
   simpa using this
  ·by_cases q:i<L.length
   ·have q':i<vs.length:=tO;rw[zaB q',zaB q];obtain⟨h1,h2⟩:=xV i q' q;exact h1.rd.grown g' fun c hc kZ=>(h2 c hc).2 kZ
   ·have e1:(vs++ [z])[i]=z:=by
     rw[zaz tO];simp
    have e2:(L++ [d])[i]=d:=by
     rw[zaz tO];simp
    rw[e1,e2];exact iH.grown g' fun c hc kZ=>ai c hc kZ
theorem qLO (p:Nat) (A:Option Addr) (cap:Nat) (cs:List Int) (w:World) (h:Cur p A cap cs w):
  Calls Tryz.prog 183 #[.pointer (some ⟨p,0,none⟩)] w fun e w'=> ∃av bv a b,e= .returned (.tuple #[av,bv])∧OwG w' w.heap.size av a∧OwG w' w.heap.size bv b∧Cur p A cap cs w'∧Tr p (p+1) w w':=by
 have H:=qA h;have hp:=h.lt;clear h;go_enter Tryz.func183,Tryz.ntmps183
 go_wp2_with fail;obtain⟨W0,am⟩: ∃W,W=w.alloc (.cells #[.int .i64 0,.int .i64 0, .slice none 0 0] 26):=⟨_,rfl⟩;rw[←am];obtain⟨xb,b0,s0⟩:=CBx.new am;clear am;obtain⟨W1,an⟩: ∃W,W=W0.alloc (.cells #[.int .i64 0,.int .i64 0, .slice none 0 0] 26):=⟨_,rfl⟩;rw[←an];obtain⟨yb,b1,s1⟩:=CBx.new an;clear an;rw[s0] at yb s1;have XB:=qA (xb.below b1);have YB:=qA yb;have I0:Hid (DrI p A cap cs w W1):=qA (((DrI.refl H.out).bel b0).bel b1);clear xb yb b0 b1;have RA:Hid (RdI (W1.alloc (.cells #[.int .i64 1, .int .i64 2, .int .i64 2, .int .i64 2, .int .i64 2, .int .i64 3] 3)) (.slice (some ⟨W1.heap.size,0,none⟩) 6 6) [1,2,2,2,2,3]):=qA (qAE W1 [1,2,2,2,2,3] (by intro y hy;simp at hy;rcases hy with rfl | rfl | rfl<;>(unfold I64;omega)) (by simp) (zad _)).rd;have IA:=qA (I0.out.bel ((zae _ _).alloc (zad _) (.cells #[.int .i64 1, .int .i64 2, .int .i64 2, .int .i64 2, .int .i64 2, .int .i64 3] 3)));have XA:=qA (XB.out.below ((zae _ _).alloc (zad _) (.cells #[.int .i64 1, .int .i64 2, .int .i64 2, .int .i64 2, .int .i64 2, .int .i64 3] 3)));have YA:=qA (YB.out.below ((zae _ _).alloc (zad _) (.cells #[.int .i64 1, .int .i64 2, .int .i64 2, .int .i64 2, .int .i64 2, .int .i64 3] 3)));have eU:(zam (some ⟨W1.heap.size,0,none⟩) 6 6).ownBlock≠some p:=fun e=>by simp[zan] at e;omega
 rw[←s1];(with_reducible refine(qBR p A cap cs _ [1,2,2,2,2,3] _ IA.out.cur RA.out eU (by simp) (by simp)).mono ?_)
 rintro e w2 ⟨r,rfl,hr,c2,t2⟩;have I2:=qA (IA.out.to t2 c2);have X2:=qA (XA.out.trP t2 tO);have Y2:=qA (YA.out.trP t2 tO);have ka:1≤r:=by simp at hr;omega
 have dX:r≤3:=by simp at hr;omega
 clear c2 t2 IA RA hr eU XA YA I0 XB YB s1 s0;go_wp2_with fail;refine(qGh p A cap cs r _ I2.out.cur ka dX).mono ?_
 rintro e w3 ⟨v3,L,rfl,o3,⟨Qy,D9⟩,c3,t3⟩;have yJ:=qA D9;have hW:=qLe ka dX tO D9;have gH:=qA (qCP r v3 L w3 o3.rd hW);have I3:=qA (I2.out.to t3 c3);have X3:=qA (X2.out.trP t3 tO);have Y3:=qA (Y2.out.trP t3 tO);have Q5:=Y2.out.lt;obtain⟨AL,cL,e3,_⟩:=o3.len;subst e3;have OL:=qA o3;have fS:=t3.size;clear c3 t3 o3 D9 hW I2 X2 Y2;generalize qAj (floF r L)=qg at*;obtain⟨q1,q2,qs⟩:=qg;go_wp2_with fail;refine gH.out.mono ?_;rintro e w4 ⟨rv,rfl,⟨s4,rfl,j1,j2,rh⟩,b4⟩;obtain⟨A4,c4,rfl,_⟩:=rh.form;simp only at j1 j2 rh⊢
 have X4:=qA (X3.out.below b4);have Y4:=qA (Y3.out.below b4);have I4:=qA (I3.out.bel b4);have Ia:=qA (OL.out.belowL (zad _) b4);have wX:=qA rh;have lZ:=b4.size;clear rh b4 X3 Y3 I3 gH OL;obtain⟨W5,Cw⟩: ∃W,W=w4.alloc (.cells #[.int .i64 q1,.int .i64 q2, .slice A4 qs.length c4] 26):=⟨_,rfl⟩;have g5:=GBx.new (m:=(q1,q2,qs)) wX.out j1 j2 Cw;obtain⟨_,b5,s5⟩:=CBx.new Cw;have X5:=qA (X4.out.below b5);have Y5:=qA (Y4.out.below b5);have I5:=qA (I4.out.bel b5);have G5:=qA g5;have aI:=qA (fun b hb=>(g5.ow.1.lt b hb).2);have vC:=qA (Ia.out.belowL (zad _) b5);go_wp2_with fail;rw[←Cw];clear Cw g5 b5 X4 Y4 I4 wX Ia;generalize Dm:w4.heap.size=ba at*;refine(qGh p A cap cs r _ I5.out.cur ka dX).mono ?_
 rintro e w6 ⟨v6,M,rfl,o6,⟨RD,Hi⟩,c6,t6⟩;have I6:=qA (I5.out.to t6 c6);have X6:=qA (X5.out.trP t6 tO);have Y6:=qA (Y5.out.trP t6 tO);have G6:=qA (G5.out.trP t6 tO tO);have JV:=qA (vC.out.trP t6 tO (zad _));have Kq:=qA o6;have Ds:=qA Hi;obtain⟨AM,cM,e6,_⟩:=o6.len;subst e6;have iD:=t6.size;clear c6 t6 o6 Hi I5 X5 Y5 G5 vC;go_upto_region 5 with fail
 go_cut [32] (fun s wx=> ∃bb:Bool,s= .bool bb∧(bb=true→0<L.length)∧Cur p A cap cs wx∧Tr p (p+1) w6 wx)
 case first=>
  clear yJ Ds X6 Y6 G6;go_wp2_with fail;refine(qDu p A cap cs 3 _ I6.out.cur tO tO).mono ?_
  rintro e w7 ⟨x,rfl,c7,t7⟩;cases x
  ·go_wp2_with fail;go_meet;exact⟨false,rfl,(fun h=>nomatch h),c7,t7⟩
  ·by_cases h0:0<L.length
   ·have xe:(0:Int)<(L.length:Int):=tO;have Hh:decide ((0:Int)<(L.length:Int))=true:=decide_eq_true xe;go_wp2_with fail;go_meet;exact⟨true,by simp[h0],fun _=>h0,c7,t7⟩
   ·have xe: ¬(0:Int)<(L.length:Int):=tO;have Hh:decide ((0:Int)<(L.length:Int))=false:=decide_eq_false xe;go_wp2_with fail;go_meet;exact⟨false,by simp[h0],(fun h=>nomatch h),c7,t7⟩
 case rest=>
 obtain⟨bb,rfl,cA,c7,t7⟩:=hcut;rename World=>w7
 have I7:=qA (I6.out.to t7 c7);have X7:=qA (X6.out.trP t7 tO);have Y7:=qA (Y6.out.trP t7 tO);have G7:=qA (G6.out.trP t7 tO tO);have Cu:=qA (JV.out.trP t7 tO tO);have tu:=qA (Kq.out.trP t7 tO (zad _));have lB:=t7.size;clear c7 t7 I6 X6 Y6 G6 JV Kq;go_upto_if 32 with fail
 go_cut [8] (fun mv wx=> ∃N:List (List Int),∃AN cN,mv= .slice AN N.length cN∧RdII wx mv N∧(N.length≤4∧WdL r 5 N)∧DrI p A cap cs w wx∧(∃x y z,CBx wx w.heap.size x y z)∧(∃x y z,CBx wx (w.heap.size+1) x y z)∧GBx wx ba w3.heap.size A4 c4 (q1,q2,qs)∧w7.heap.size≤wx.heap.size)
 case first=>
  cases bb
  ·go_wp2_with fail;go_meet;exact⟨M,AM,cM,rfl,tu.out.rd,⟨tO,Ds.out⟩,I7.out,⟨_,_,_,X7.out⟩,⟨_,_,_,Y7.out⟩,G7.out,zad _⟩
  ·have h0:=cA rfl;obtain⟨vs,Hq,m9,xV⟩:=Cu.out.vals;have lP:0<vs.length:=tO;obtain⟨hz,FB⟩:=xV 0 lP h0;obtain⟨gL,ko⟩: ∃g,AL=some ⟨g,0,none⟩:=by
    obtain⟨A',c',e,_,_,_,hx⟩:=Cu.out.len;obtain⟨g,hg,_⟩:=hx h0;injection e with e
    exact⟨g,e.trans hg⟩
   subst ko;have cU:w7.cell? ⟨gL,0,none⟩=some vs[0]:=(World.ownsRow.cellAt m9 0 tO).trans (List.getElem?_eq_getElem lP);obtain⟨Az,cz,ez,_⟩:=hz.form;rw[ez] at cU hz FB;have ZR:=qA hz.rd;have Og:=qA FB;have Ll:=qA (yJ.out L[0] (zaq h0));clear hz FB xV m9;generalize L[0]=d0 at*;go_wp2_with (at_builtin;refine qOh rfl (.tmp 33) (.tmp 37) rfl (tu.out.keep (w':=w7.alloc (.cells #[.slice Az d0.length cz] 37)) EI.stable fun b _ hb=>zaK w7 _ b tO) rfl _ _ d0 rfl (ZR.out.alloc _) (qa _ _ _) rfl (fun c hc hv=>by have h1:=(Og.out c hc).1;have h2:=(tu.out.lt hv).1;omega) tO ?_;intro v8 w8 o8 g8;have O8:=qA o8;have G8:=qA g8;clear o8 g8)
   have B8:Below w7.heap.size w7 (w7.alloc (.cells #[.slice Az d0.length cz] 37)):=(zae _ _).alloc (zad _) _;have mz: ∀b,(zam AM M.length cM).ownBlock=some b→W5.heap.size≤b:=fun b hb=>(tu.out.lt hb).1;obtain⟨AN,cN,eN,_⟩:=O8.out.form;have vE:=G8.out.size;have xy:(w7.alloc (.cells #[.slice Az d0.length cz] 37)).heap.size=w7.heap.size+1:=by simp
   go_meet;exact⟨M++ [d0],AN,cN,eN,O8.out,⟨by simp;omega,fun y hy=>(zal.1 hy).elim (Ds.out y) fun h=>by rw[zau.1 h];exact Ll.out⟩,(I7.out.bel B8).grow H.out G8.out (fun b hb=>by have:=mz b hb;omega),⟨_,_,_,(X7.out.below B8).grown G8.out fun b hb=>by have:=mz b hb;omega⟩,⟨_,_,_,(Y7.out.below B8).grown G8.out fun b hb=>by have:=mz b hb;omega⟩,(G7.out.below B8).grown G8.out (fun b hb=>by have h1:=mz b hb;exact⟨tO,fun e=>by have h2:=aI.out b e;omega⟩),tO⟩
 case rest=>
  obtain⟨N,AN,cN,rfl,hN,⟨QU,KG⟩,hI,⟨x1,y1,z1,hX⟩,⟨x2,y2,z2,hY⟩,hG,vE⟩:=hcut;rename World=>w8
  have hW:=qLe ka dX tO KG;have gH:=qA (qCP r _ N w8 hN hW);have I8:=qA hI;have X8:=qA hX;have Y8:=qA hY;have G8:=qA hG;clear hI hX hY hG hN hW KG I7 X7 Y7 G7 Cu tu yJ Ds;generalize qAj (floF r N)=pg at*;obtain⟨p1,p2,ps⟩:=pg;go_wp2_with fail;refine gH.out.mono ?_;rintro e w9 ⟨rv,rfl,⟨s9,rfl,k1,k2,pM⟩,b9⟩;obtain⟨A9,c9,rfl,_⟩:=pM.form;simp only at k1 k2 pM⊢
  have X9:=qA (X8.out.below b9);have Y9:=qA (Y8.out.below b9);have G9:=qA (G8.out.below b9);have I9:=qA (I8.out.bel b9);have zQ:=qA pM;have kn:=b9.size;clear pM b9 X8 Y8 G8 I8 gH;obtain⟨Rn,q6⟩: ∃W,W=w9.alloc (.cells #[.int .i64 p1,.int .i64 p2, .slice A9 ps.length c9] 26):=⟨_,rfl⟩;have Ja:=GBx.new (m:=(p1,p2,ps)) zQ.out k1 k2 q6;obtain⟨_,gf,M8⟩:=CBx.new q6;have Dx:=qA (X9.out.below gf);have KY:=qA (Y9.out.below gf);have FJ:=qA (G9.out.below gf);have DZ:=qA (I9.out.bel gf);have GK:=qA Ja;go_wp2_with fail;rw[←q6];clear q6 Ja gf X9 Y9 G9 I9 zQ;generalize cA:w9.heap.size=bb at*;refine qAK [.val (.agg #[.int .i64 q1, .int .i64 q2, .slice A4 qs.length c4]), .val (.agg #[.int .i64 p1, .int .i64 p2, .slice A9 ps.length c9]), .mem (fun _ W _=>CBx W w.heap.size (.int .i64 q1) (.int .i64 q2) (.slice A4 qs.length c4)), .mem (fun _ W _=>CBx W (w.heap.size+1) (.int .i64 p1) (.int .i64 p2) (.slice A9 ps.length c9))]
   [none,none,some (fun W W'=> ∃x y z,W'=((W.setCell ⟨w.heap.size,0,none⟩ x).setCell ⟨w.heap.size,1,none⟩ y).setCell ⟨w.heap.size,2,none⟩ z),some (fun W W'=> ∃x y z,W'=((W.setCell ⟨(w.heap.size+1),0,none⟩ x).setCell ⟨(w.heap.size+1),1,none⟩ y).setCell ⟨(w.heap.size+1),2,none⟩ z)]
   (fun W=>(DrI p A cap cs w W)∧GBx W ba w3.heap.size A4 c4 (q1,q2,qs)∧GBx W bb w8.heap.size A9 c9 (p1,p2,ps)∧(∃x y z,CBx W w.heap.size x y z)∧ ∃x y z,CBx W (w.heap.size+1) x y z) [(2,3)] tK tK (by rfl) (by rfl)
   ⟨DZ.out.bel (zae _ _).drew,FJ.out.below (zae _ _).drew,GK.out.below (zae _ _).drew,⟨_,_,_,Dx.out.below (zae _ _).drew⟩,_,_,_,KY.out.below (zae _ _).drew⟩
   ⟨fun W _ h t=>by
      obtain⟨x,y,z,e⟩:=t;subst e;obtain⟨h1,h2,h3,⟨x1,y1,z1,h4⟩,x2,y2,z2,h5⟩:=h;exact⟨h1.hi H.out (zad _) (qL _ _ _ (zae _ _) tO),h2.keep (by rw[qQ];exact zad _) fun c hc=>qK _ _ _ _ _ (hc.elim (fun e=>tO) fun e=>by have:=(h2.ow.1.lt c e).1;omega),h3.keep (by rw[qQ];exact zad _) fun c hc=>qK _ _ _ _ _ (hc.elim (fun e=>tO) fun e=>by have:=(h3.ow.1.lt c e).1;omega),h4.any _ _ _,h5.any _ _ _⟩,
     fun W _ h t=>by
      obtain⟨x,y,z,e⟩:=t;subst e;obtain⟨h1,h2,h3,⟨x1,y1,z1,h4⟩,x2,y2,z2,h5⟩:=h;exact⟨h1.hi H.out (zad _) (qL _ _ _ (zae _ _) tO),h2.keep (by rw[qQ];exact zad _) fun c hc=>qK _ _ _ _ _ (hc.elim (fun e=>tO) fun e=>by have:=(h2.ow.1.lt c e).1;omega),h3.keep (by rw[qQ];exact zad _) fun c hc=>qK _ _ _ _ _ (hc.elim (fun e=>tO) fun e=>by have:=(h3.ow.1.lt c e).1;omega),h4.any _ _ _,h5.any _ _ _⟩,trivial⟩
   ⟨fun _ _ _ _ _ _ t h=>by obtain⟨x,y,z,e⟩:=t;subst e;exact h.other tO,trivial⟩ (fun vs=> ?_)
  refine⟨fun W' _ _ hI hD hK=> ?_,?_⟩
  ·obtain⟨z0,z1,z2⟩:=hI.out.2.1.cs;go_simp;exact hK.out _ _ rfl rfl
  simp only[zaf,zaa,zab,zac,Sg.pick,Nat.reduceAdd];refine⟨fun W' _ _ hI hD hK=> ?_,?_⟩
  ·obtain⟨z0,z1,z2⟩:=hI.out.2.2.1.cs;go_simp;exact hK.out _ _ rfl rfl
  simp only[zaf,zaa,zab,zac,Sg.pick,Nat.reduceAdd];refine⟨fun W' _ _ hI hD hK=> ?_,?_⟩
  ·obtain⟨x',y',z',hx⟩:=hI.out.2.2.2.1;obtain⟨z0,z1,z2⟩:=hx.cs;have u0:=hx.fz 0;have u1:=hx.fz 1;have u2:=hx.fz 2;go_simp;exact hK.out undef _ ⟨_,_,_,rfl⟩ (hx.setv _ _ _)
  simp only[zaf,zaa,zab,zac,Sg.pick,Nat.reduceAdd];refine⟨fun W' _ _ hI hD hK=> ?_,?_⟩
  ·obtain⟨x',y',z',hx⟩:=hI.out.2.2.2.2;obtain⟨z0,z1,z2⟩:=hx.cs;have u0:=hx.fz 0;have u1:=hx.fz 1;have u2:=hx.fz 2;go_simp;exact hK.out undef _ ⟨_,_,_,rfl⟩ (hx.setv _ _ _)
  simp only[zaf,zaa,zab,zac,Sg.pick,Nat.reduceAdd];intro W9 hI9 hD9;have ev:=(show CBx W9 w.heap.size (.int .i64 q1) (.int .i64 q2) (.slice A4 qs.length c4) from hD9.out 2 (by decide));have eH:=(show CBx W9 (w.heap.size+1) (.int .i64 p1) (.int .i64 p2) (.slice A9 ps.length c9) from hD9.out 3 (by decide));have J9:=qA hI9.out.1;have eD:=qA hI9.out.2.1;have eo:=qA hI9.out.2.2.1;obtain⟨e0,e1,e2⟩:=ev.cs;obtain⟨e3,e4,e5⟩:=eH.cs;clear hI9 hD9;go_wp2;exact bodyPost_ret (v:= .tuple #[.agg #[.int .i64 q1, .int .i64 q2, .slice A4 qs.length c4], .agg #[.int .i64 p1, .int .i64 p2, .slice A9 ps.length c9]]) (by simp[results,Tryz.results183,go_sem,e0,e1,e2,e3,e4,e5]) rfl ⟨_,_,(q1,q2,qs),(p1,p2,ps),rfl,⟨_,rfl,eD.out.i1,eD.out.i2,eD.out.ow.mono tO⟩,⟨_,rfl,eo.out.i1,eo.out.i2,eo.out.ow.mono tO⟩,J9.out.cur,J9.out.tr⟩
theorem qKv (v:Value) (cs:List Int) (w:World) (h:ArgC w v cs) (hl:cs.length≤1048576):
  Calls Tryz.prog 113 #[v] w fun e w'=> ∃av bv a b,e= .returned (.tuple #[av,bv])∧OwG w' w.heap.size av a∧OwG w' w.heap.size bv b∧Below w.heap.size w w':=by
 have HN:=qA (fun W (h:ArgC W v cs)=>qIb v cs W h hl);have cJ:=qA (fun W (hb:Below w.heap.size w W)=>qFA h hb);go_enter Tryz.func113,Tryz.ntmps113
 go_wp2_with fail;obtain⟨W0,am⟩: ∃W,W=w.alloc (.cells #[.int .i64 0,.int .i64 0, .slice none 0 0] 26):=⟨_,rfl⟩;rw[←am];obtain⟨xb,b0,s0⟩:=CBx.new am;clear am;obtain⟨W1,an⟩: ∃W,W=W0.alloc (.cells #[.int .i64 0,.int .i64 0, .slice none 0 0] 26):=⟨_,rfl⟩;rw[←an];obtain⟨yb,b1,s1⟩:=CBx.new an;clear an;rw[s0] at yb s1;have X0:=qA (xb.below b1);have Y0:=qA yb;have B0:=qA (b0.trans (b1.mono tO));clear xb yb b0 b1;refine(HN.out W1 (cJ.out _ B0.out)).mono ?_
 rintro e w1 ⟨p,A,cap,rfl,c1,hp,b1⟩;have X1:=qA (X0.out.below b1);have Y1:=qA (Y0.out.below b1);have B1:=qA (B0.out.trans (b1.mono tO));have aw:=b1.size;have lC:=c1.lt;have C1:=qA c1;clear b1 c1 X0 Y0 B0 HN cJ s0;go_wp2_with fail;refine(qLO p A cap cs w1 C1.out).mono ?_
 rintro e w2 ⟨av,bv,⟨q1,q2,qs⟩,⟨r1,r2,rs⟩,rfl,⟨s2,rfl,j1,j2,cB⟩,⟨s3,rfl,k1,k2,aU⟩,c2,t2⟩;obtain⟨A2,bF,rfl,_⟩:=cB.form;obtain⟨A3,cQ,rfl,_⟩:=aU.form;simp only at j1 j2 cB k1 k2 aU⊢
 have X2:=qA (X1.out.trP t2 tO);have Y2:=qA (Y1.out.trP t2 tO);have C2:=qA c2;have BZ:=qA (Tr.bw B1.out t2 tO tO);have eK:=qA cB;have en:=qA aU;have cT:=t2.size;clear c2 t2 cB aU X1 Y1 C1 B1;obtain⟨WA,dK⟩: ∃W,W=w2.alloc (.cells #[.int .i64 q1,.int .i64 q2, .slice A2 qs.length bF] 26):=⟨_,rfl⟩;have gA:=GBx.new (m:=(q1,q2,qs)) eK.out j1 j2 dK;obtain⟨-,bA,sA⟩:=CBx.new dK;obtain⟨WB,dY⟩: ∃W,W=WA.alloc (.cells #[.int .i64 r1,.int .i64 r2, .slice A3 rs.length cQ] 26):=⟨_,rfl⟩;have gB:=GBx.new (m:=(r1,r2,rs)) (en.out.below bA) k1 k2 dY;obtain⟨-,bB,sB⟩:=CBx.new dY;have G:=qA (gA.below bB);have K:=qA gB;rw[sA] at K;replace X2:=qA ((X2.out.below bA).below bB);replace Y2:=qA ((Y2.out.below bA).below bB);replace C2:=qA ((C2.out.below bA).below bB);replace BZ:=qA ((BZ.out.trans (bA.mono BZ.out.size)).trans (bB.mono (by have:=BZ.out.size;omega)));go_wp2_with fail;rw[←dK,←dY];clear dK dY gA gB bA bB eK en;generalize Dm:w2.heap.size=ba at*;refine(qAF p A cap cs 6 WB C2.out tO tO).mono ?_
 rintro e w3 ⟨x,rfl,hx,c3,t3⟩;replace X2:=qA (X2.out.trP t3 tO);replace Y2:=qA (Y2.out.trP t3 tO);replace G:=qA (G.out.trP t3 tO tO);replace K:=qA (K.out.trP t3 tO tO);replace BZ:=qA (Tr.bw BZ.out t3 tO tO);replace C2:=qA c3;have fS:=t3.size;clear c3 t3;by_cases h0:x=0
 ·subst h0;go_wp2_with fail;refine qBC [.val (.agg #[.int .i64 q1, .int .i64 q2, .slice A2 qs.length bF]), .val (.pointer (some ⟨p,0,none⟩)), .mem (fun _ W v=>(∃(d1 d2:Int) (ds:List EdD) (Ad:Option Addr) (cd:Nat),v= .agg #[.int .i64 d1, .int .i64 d2, .slice Ad ds.length cd]∧OwE W w1.heap.size (.slice Ad ds.length cd) ds∧I64 d1∧I64 d2)), .mem (fun _ W _=>CBx W w.heap.size (.int .i64 q1) (.int .i64 q2) (.slice A2 qs.length bF)), .mem (fun us W _=>(∃(d1 d2:Int) (ds:List EdD) (Ad:Option Addr) (cd:Nat),us 2= .agg #[.int .i64 d1, .int .i64 d2, .slice Ad ds.length cd]∧CBx W (w.heap.size+1) (.int .i64 d1) (.int .i64 d2) (.slice Ad ds.length cd)∧OwE W w1.heap.size (.slice Ad ds.length cd) ds∧I64 d1∧I64 d2))]
   [none,none,some (fun W W'=>Tr p (p+1) W W'∧Cur p A cap cs W'),some (fun W W'=> ∃x y z,W'=((W.setCell ⟨w.heap.size,0,none⟩ x).setCell ⟨w.heap.size,1,none⟩ y).setCell ⟨w.heap.size,2,none⟩ z),some (fun W W'=> ∃x y z,W'=((W.setCell ⟨(w.heap.size+1),0,none⟩ x).setCell ⟨(w.heap.size+1),1,none⟩ y).setCell ⟨(w.heap.size+1),2,none⟩ z)]
   (fun W=>Below w.heap.size w W∧GBx W ba w1.heap.size A2 bF (q1,q2,qs)∧w1.heap.size≤W.heap.size∧(∃x y z,CBx W w.heap.size x y z)∧ ∃x y z,CBx W (w.heap.size+1) x y z) (fun W=>Cur p A cap cs W) [3,4] [(2,3),(2,4),(3,4)] tK tK (by rfl) (by rfl)
   ⟨BZ.out.drew,G.out.below (zae _ _).drew,(show w1.heap.size≤w3.heap.size by omega),⟨_,_,_,X2.out.below (zae _ _).drew⟩,_,_,_,Y2.out.below (zae _ _).drew⟩ (C2.out.below (zae _ _).drew)
   ⟨fun _ _ h t=>⟨Tr.bw h.1 t.1 tO (by have:=h.2.2.1;omega),h.2.1.trP t.1 tO tO,zao h.2.2.1 t.1.size,by obtain⟨x,y,z,hx⟩:=h.2.2.2.1;exact⟨x,y,z,hx.trP t.1 tO⟩,by obtain⟨x,y,z,hx⟩:=h.2.2.2.2;exact⟨x,y,z,hx.trP t.1 tO⟩⟩,
     fun W _ h t=>by
      obtain⟨x,y,z,e⟩:=t;subst e;obtain⟨h1,h2,h3,⟨x1,y1,z1,h4⟩,x2,y2,z2,h5⟩:=h;exact⟨qL _ _ _ h1 tO,h2.keep (by rw[qQ];exact zad _) fun c hc=>qK _ _ _ _ _ (hc.elim (fun e=>tO) fun e=>by have:=(h2.ow.1.lt c e).1;omega),by rw[qQ];exact h3,h4.any _ _ _,h5.any _ _ _⟩,
     fun W _ h t=>by
      obtain⟨x,y,z,e⟩:=t;subst e;obtain⟨h1,h2,h3,⟨x1,y1,z1,h4⟩,x2,y2,z2,h5⟩:=h;exact⟨qL _ _ _ h1 tO,h2.keep (by rw[qQ];exact zad _) fun c hc=>qK _ _ _ _ _ (hc.elim (fun e=>tO) fun e=>by have:=(h2.ow.1.lt c e).1;omega),by rw[qQ];exact h3,h4.any _ _ _,h5.any _ _ _⟩,trivial⟩
   ⟨.inr fun _ _ _ h t=>t.2, .inl (by simp), .inl (by simp),trivial⟩
   ⟨fun _ _ _ _ _ _ t h=>by obtain⟨x,y,z,e⟩:=t;subst e;obtain⟨d1,d2,ds,Ad,cd,e,o,i,j⟩:=h;exact⟨d1,d2,ds,Ad,cd,e,o.keep fun c hc=>qK _ _ _ _ _ (by have:=(o.1.lt c hc).1;omega),i,j⟩,
    fun _ _ _ _ _ _ t h=>by obtain⟨x,y,z,e⟩:=t;subst e;obtain⟨d1,d2,ds,Ad,cd,e,o,i,j⟩:=h;exact⟨d1,d2,ds,Ad,cd,e,o.keep fun c hc=>qK _ _ _ _ _ (by have:=(o.1.lt c hc).1;omega),i,j⟩,
    fun _ _ _ _ _ _ t h=>by obtain⟨x,y,z,e⟩:=t;subst e;exact h.other tO,trivial⟩ (fun vs=> ?_)
  refine⟨fun W' _ _ hI hD hK=> ?_,?_⟩
  ·obtain⟨z0,z1,z2⟩:=hI.out.1.2.1.cs;go_simp;exact hK.out _ _ rfl rfl
  simp only[zaf,zaa,zab,zac,Sg.pick,Nat.reduceAdd];refine⟨fun W' _ _ hI hD hK=> ?_,?_⟩
  ·skip;go_simp;exact hK.out _ _ rfl rfl
  simp only[zaf,zaa,zab,zac,Sg.pick,Nat.reduceAdd];refine⟨fun W' _ _ hI hD hK=> ?_,?_⟩
  ·skip;go_simp;refine(qMC p A cap cs _ (hI.out.2 tK)).mono ?_;rintro e w' ⟨wv,⟨d1,d2,ds⟩,rfl,⟨s,rfl,i1,i2,od⟩,-,c,t⟩;obtain⟨Ad,cd,rfl,_⟩:=od.form;exact hK.out _ _ ⟨t,c⟩ ⟨d1,d2,ds,Ad,cd,rfl,od.mono hI.out.1.2.2.1,i1,i2⟩
  simp only[zaf,zaa,zab,zac,Sg.pick,Nat.reduceAdd];refine⟨fun W' _ _ hI hD hK=> ?_,?_⟩
  ·obtain⟨x',y',z',hx⟩:=hI.out.1.2.2.2.1;obtain⟨z0,z1,z2⟩:=hx.cs;have u0:=hx.fz 0;have u1:=hx.fz 1;have u2:=hx.fz 2;go_simp;exact hK.out undef _ ⟨_,_,_,rfl⟩ (hx.setv _ _ _)
  simp only[zaf,zaa,zab,zac,Sg.pick,Nat.reduceAdd];refine⟨fun W' _ _ hI hD hK=> ?_,?_⟩
  ·obtain⟨d1,d2,ds,Ad,cd,e2,o2,i2,j2⟩:=(show(∃(d1 d2:Int) (ds:List EdD) (Ad:Option Addr) (cd:Nat),vs 2= .agg #[.int .i64 d1, .int .i64 d2, .slice Ad ds.length cd]∧OwE W' w1.heap.size (.slice Ad ds.length cd) ds∧I64 d1∧I64 d2) from hD.out 2 tK);rw[e2] at hK⊢;obtain⟨x',y',z',hx⟩:=hI.out.1.2.2.2.2;obtain⟨z0,z1,z2⟩:=hx.cs;have u0:=hx.fz 0;have u1:=hx.fz 1;have u2:=hx.fz 2;go_simp;exact hK.out undef _ ⟨_,_,_,rfl⟩ ⟨d1,d2,ds,Ad,cd,(qBv tK).trans e2,hx.setv _ _ _,o2.keep fun c hc=>qK _ _ _ _ _ (by have:=(o2.1.lt c hc).1;omega),i2,j2⟩
  simp only[zaf,zaa,zab,zac,Sg.pick,Nat.reduceAdd];intro W9 hI9 hD9;obtain⟨d1,d2,ds,Ad,cd,ed,hd,od,id_,jd⟩:=(show(∃(d1 d2:Int) (ds:List EdD) (Ad:Option Addr) (cd:Nat),qAo _ 4 vs 2= .agg #[.int .i64 d1, .int .i64 d2, .slice Ad ds.length cd]∧CBx W9 (w.heap.size+1) (.int .i64 d1) (.int .i64 d2) (.slice Ad ds.length cd)∧OwE W9 w1.heap.size (.slice Ad ds.length cd) ds∧I64 d1∧I64 d2) from hD9.out 4 (by decide));have hb:=(show CBx W9 w.heap.size (.int .i64 q1) (.int .i64 q2) (.slice A2 qs.length bF) from hD9.out 3 (by decide));have J9:=qA hI9.out.1.1;have wh:=qA hI9.out.1.2.1;have OD:=qA od;obtain⟨e0,e1,e2⟩:=hd.cs;obtain⟨e3,e4,e5⟩:=hb.cs;clear hI9 hD9 ed hd hb od;go_wp2;exact bodyPost_ret (v:= .tuple #[.agg #[.int .i64 q1, .int .i64 q2, .slice A2 qs.length bF], .agg #[.int .i64 d1, .int .i64 d2, .slice Ad ds.length cd]]) (by simp[results,Tryz.results113,go_sem,e0,e1,e2,e3,e4,e5]) rfl ⟨_,_,(q1,q2,qs),(d1,d2,ds),rfl,⟨_,rfl,wh.out.i1,wh.out.i2,wh.out.ow.mono tO⟩,⟨_,rfl,id_,jd,OD.out.mono tO⟩,J9.out⟩
 ·by_cases h1:x=1
  ·subst h1;go_wp2_with fail;refine qBC [.val (.pointer (some ⟨p,0,none⟩)), .mem (fun _ W v=>(∃(d1 d2:Int) (ds:List EdD) (Ad:Option Addr) (cd:Nat),v= .agg #[.int .i64 d1, .int .i64 d2, .slice Ad ds.length cd]∧OwE W w1.heap.size (.slice Ad ds.length cd) ds∧I64 d1∧I64 d2)), .val (.agg #[.int .i64 r1, .int .i64 r2, .slice A3 rs.length cQ]), .mem (fun us W _=>(∃(d1 d2:Int) (ds:List EdD) (Ad:Option Addr) (cd:Nat),us 1= .agg #[.int .i64 d1, .int .i64 d2, .slice Ad ds.length cd]∧CBx W w.heap.size (.int .i64 d1) (.int .i64 d2) (.slice Ad ds.length cd)∧OwE W w1.heap.size (.slice Ad ds.length cd) ds∧I64 d1∧I64 d2)), .mem (fun _ W _=>CBx W (w.heap.size+1) (.int .i64 r1) (.int .i64 r2) (.slice A3 rs.length cQ))]
    [none,some (fun W W'=>Tr p (p+1) W W'∧Cur p A cap cs W'),none,some (fun W W'=> ∃x y z,W'=((W.setCell ⟨w.heap.size,0,none⟩ x).setCell ⟨w.heap.size,1,none⟩ y).setCell ⟨w.heap.size,2,none⟩ z),some (fun W W'=> ∃x y z,W'=((W.setCell ⟨(w.heap.size+1),0,none⟩ x).setCell ⟨(w.heap.size+1),1,none⟩ y).setCell ⟨(w.heap.size+1),2,none⟩ z)]
    (fun W=>Below w.heap.size w W∧GBx W (ba+1) w1.heap.size A3 cQ (r1,r2,rs)∧w1.heap.size≤W.heap.size∧(∃x y z,CBx W w.heap.size x y z)∧ ∃x y z,CBx W (w.heap.size+1) x y z) (fun W=>Cur p A cap cs W) [3,4] [(1,3),(1,4),(3,4)] tK tK (by rfl) (by rfl)
    ⟨BZ.out.drew,K.out.below (zae _ _).drew,(show w1.heap.size≤w3.heap.size by omega),⟨_,_,_,X2.out.below (zae _ _).drew⟩,_,_,_,Y2.out.below (zae _ _).drew⟩ (C2.out.below (zae _ _).drew)
    ⟨fun _ _ h t=>⟨Tr.bw h.1 t.1 tO (by have:=h.2.2.1;omega),h.2.1.trP t.1 tO tO,zao h.2.2.1 t.1.size,by obtain⟨x,y,z,hx⟩:=h.2.2.2.1;exact⟨x,y,z,hx.trP t.1 tO⟩,by obtain⟨x,y,z,hx⟩:=h.2.2.2.2;exact⟨x,y,z,hx.trP t.1 tO⟩⟩,
      fun W _ h t=>by
       obtain⟨x,y,z,e⟩:=t;subst e;obtain⟨h1,h2,h3,⟨x1,y1,z1,h4⟩,x2,y2,z2,h5⟩:=h;exact⟨qL _ _ _ h1 tO,h2.keep (by rw[qQ];exact zad _) fun c hc=>qK _ _ _ _ _ (hc.elim (fun e=>tO) fun e=>by have:=(h2.ow.1.lt c e).1;omega),by rw[qQ];exact h3,h4.any _ _ _,h5.any _ _ _⟩,
      fun W _ h t=>by
       obtain⟨x,y,z,e⟩:=t;subst e;obtain⟨h1,h2,h3,⟨x1,y1,z1,h4⟩,x2,y2,z2,h5⟩:=h;exact⟨qL _ _ _ h1 tO,h2.keep (by rw[qQ];exact zad _) fun c hc=>qK _ _ _ _ _ (hc.elim (fun e=>tO) fun e=>by have:=(h2.ow.1.lt c e).1;omega),by rw[qQ];exact h3,h4.any _ _ _,h5.any _ _ _⟩,trivial⟩
    ⟨.inr fun _ _ _ h t=>t.2, .inl (by simp), .inl (by simp),trivial⟩
    ⟨fun _ _ _ _ _ _ t h=>by obtain⟨x,y,z,e⟩:=t;subst e;obtain⟨d1,d2,ds,Ad,cd,e,o,i,j⟩:=h;exact⟨d1,d2,ds,Ad,cd,e,o.keep fun c hc=>qK _ _ _ _ _ (by have:=(o.1.lt c hc).1;omega),i,j⟩,
     fun _ _ _ _ _ _ t h=>by obtain⟨x,y,z,e⟩:=t;subst e;obtain⟨d1,d2,ds,Ad,cd,e,o,i,j⟩:=h;exact⟨d1,d2,ds,Ad,cd,e,o.keep fun c hc=>qK _ _ _ _ _ (by have:=(o.1.lt c hc).1;omega),i,j⟩,
     fun _ _ _ _ _ _ t h=>by obtain⟨x,y,z,e⟩:=t;subst e;obtain⟨d1,d2,ds,Ad,cd,e,h,o,i,j⟩:=h;exact⟨d1,d2,ds,Ad,cd,e,h.other tO,o.keep fun c hc=>qK _ _ _ _ _ (by have:=(o.1.lt c hc).1;omega),i,j⟩,trivial⟩ (fun vs=> ?_)
   refine⟨fun W' _ _ hI hD hK=> ?_,?_⟩
   ·skip;go_simp;exact hK.out _ _ rfl rfl
   simp only[zaf,zaa,zab,zac,Sg.pick,Nat.reduceAdd];refine⟨fun W' _ _ hI hD hK=> ?_,?_⟩
   ·skip;go_simp;refine(qCt p A cap cs _ (hI.out.2 tK)).mono ?_;rintro e w' ⟨wv,⟨d1,d2,ds⟩,rfl,⟨s,rfl,i1,i2,od⟩,-,c,t⟩;obtain⟨Ad,cd,rfl,_⟩:=od.form;exact hK.out _ _ ⟨t,c⟩ ⟨d1,d2,ds,Ad,cd,rfl,od.mono hI.out.1.2.2.1,i1,i2⟩
   simp only[zaf,zaa,zab,zac,Sg.pick,Nat.reduceAdd];refine⟨fun W' _ _ hI hD hK=> ?_,?_⟩
   ·obtain⟨z0,z1,z2⟩:=hI.out.1.2.1.cs;go_simp;exact hK.out _ _ rfl rfl
   simp only[zaf,zaa,zab,zac,Sg.pick,Nat.reduceAdd];refine⟨fun W' _ _ hI hD hK=> ?_,?_⟩
   ·obtain⟨d1,d2,ds,Ad,cd,e2,o2,i2,j2⟩:=(show(∃(d1 d2:Int) (ds:List EdD) (Ad:Option Addr) (cd:Nat),vs 1= .agg #[.int .i64 d1, .int .i64 d2, .slice Ad ds.length cd]∧OwE W' w1.heap.size (.slice Ad ds.length cd) ds∧I64 d1∧I64 d2) from hD.out 1 tK);rw[e2] at hK⊢;obtain⟨x',y',z',hx⟩:=hI.out.1.2.2.2.1;obtain⟨z0,z1,z2⟩:=hx.cs;have u0:=hx.fz 0;have u1:=hx.fz 1;have u2:=hx.fz 2;go_simp;exact hK.out undef _ ⟨_,_,_,rfl⟩ ⟨d1,d2,ds,Ad,cd,(qBv tK).trans e2,hx.setv _ _ _,o2.keep fun c hc=>qK _ _ _ _ _ (by have:=(o2.1.lt c hc).1;omega),i2,j2⟩
   simp only[zaf,zaa,zab,zac,Sg.pick,Nat.reduceAdd];refine⟨fun W' _ _ hI hD hK=> ?_,?_⟩
   ·obtain⟨x',y',z',hx⟩:=hI.out.1.2.2.2.2;obtain⟨z0,z1,z2⟩:=hx.cs;have u0:=hx.fz 0;have u1:=hx.fz 1;have u2:=hx.fz 2;go_simp;exact hK.out undef _ ⟨_,_,_,rfl⟩ (hx.setv _ _ _)
   simp only[zaf,zaa,zab,zac,Sg.pick,Nat.reduceAdd];intro W9 hI9 hD9;obtain⟨d1,d2,ds,Ad,cd,ed,hd,od,id_,jd⟩:=(show(∃(d1 d2:Int) (ds:List EdD) (Ad:Option Addr) (cd:Nat),qAo _ 3 vs 1= .agg #[.int .i64 d1, .int .i64 d2, .slice Ad ds.length cd]∧CBx W9 w.heap.size (.int .i64 d1) (.int .i64 d2) (.slice Ad ds.length cd)∧OwE W9 w1.heap.size (.slice Ad ds.length cd) ds∧I64 d1∧I64 d2) from hD9.out 3 (by decide));have hb:=(show CBx W9 (w.heap.size+1) (.int .i64 r1) (.int .i64 r2) (.slice A3 rs.length cQ) from hD9.out 4 (by decide));have J9:=qA hI9.out.1.1;have wh:=qA hI9.out.1.2.1;have OD:=qA od;obtain⟨e0,e1,e2⟩:=hd.cs;obtain⟨e3,e4,e5⟩:=hb.cs;clear hI9 hD9 ed hd hb od;go_wp2;exact bodyPost_ret (v:= .tuple #[.agg #[.int .i64 d1, .int .i64 d2, .slice Ad ds.length cd], .agg #[.int .i64 r1, .int .i64 r2, .slice A3 rs.length cQ]]) (by simp[results,Tryz.results113,go_sem,e0,e1,e2,e3,e4,e5]) rfl ⟨_,_,(d1,d2,ds),(r1,r2,rs),rfl,⟨_,rfl,id_,jd,OD.out.mono tO⟩,⟨_,rfl,wh.out.i1,wh.out.i2,wh.out.ow.mono tO⟩,J9.out⟩
  ·have Hh:(x==0)=false:=by rw[beq_eq_false_iff_ne];exact h0
   have Qp:(x==1)=false:=by rw[beq_eq_false_iff_ne];exact h1
   go_wp2_with fail;refine qAK [.val (.agg #[.int .i64 q1, .int .i64 q2, .slice A2 qs.length bF]), .val (.agg #[.int .i64 r1, .int .i64 r2, .slice A3 rs.length cQ]), .mem (fun _ W _=>CBx W w.heap.size (.int .i64 q1) (.int .i64 q2) (.slice A2 qs.length bF)), .mem (fun _ W _=>CBx W (w.heap.size+1) (.int .i64 r1) (.int .i64 r2) (.slice A3 rs.length cQ))]
    [none,none,some (fun W W'=> ∃x y z,W'=((W.setCell ⟨w.heap.size,0,none⟩ x).setCell ⟨w.heap.size,1,none⟩ y).setCell ⟨w.heap.size,2,none⟩ z),some (fun W W'=> ∃x y z,W'=((W.setCell ⟨(w.heap.size+1),0,none⟩ x).setCell ⟨(w.heap.size+1),1,none⟩ y).setCell ⟨(w.heap.size+1),2,none⟩ z)]
    (fun W=>(Below w.heap.size w W)∧GBx W ba w1.heap.size A2 bF (q1,q2,qs)∧GBx W (ba+1) w1.heap.size A3 cQ (r1,r2,rs)∧(∃x y z,CBx W w.heap.size x y z)∧ ∃x y z,CBx W (w.heap.size+1) x y z) [(2,3)] tK tK (by rfl) (by rfl)
    ⟨BZ.out.drew,G.out.below (zae _ _).drew,K.out.below (zae _ _).drew,⟨_,_,_,X2.out.below (zae _ _).drew⟩,_,_,_,Y2.out.below (zae _ _).drew⟩
    ⟨fun W _ h t=>by
       obtain⟨x,y,z,e⟩:=t;subst e;obtain⟨h1,h2,h3,⟨x1,y1,z1,h4⟩,x2,y2,z2,h5⟩:=h;exact⟨qL _ _ _ h1 tO,h2.keep (by rw[qQ];exact zad _) fun c hc=>qK _ _ _ _ _ (hc.elim (fun e=>tO) fun e=>by have:=(h2.ow.1.lt c e).1;omega),h3.keep (by rw[qQ];exact zad _) fun c hc=>qK _ _ _ _ _ (hc.elim (fun e=>tO) fun e=>by have:=(h3.ow.1.lt c e).1;omega),h4.any _ _ _,h5.any _ _ _⟩,
      fun W _ h t=>by
       obtain⟨x,y,z,e⟩:=t;subst e;obtain⟨h1,h2,h3,⟨x1,y1,z1,h4⟩,x2,y2,z2,h5⟩:=h;exact⟨qL _ _ _ h1 tO,h2.keep (by rw[qQ];exact zad _) fun c hc=>qK _ _ _ _ _ (hc.elim (fun e=>tO) fun e=>by have:=(h2.ow.1.lt c e).1;omega),h3.keep (by rw[qQ];exact zad _) fun c hc=>qK _ _ _ _ _ (hc.elim (fun e=>tO) fun e=>by have:=(h3.ow.1.lt c e).1;omega),h4.any _ _ _,h5.any _ _ _⟩,trivial⟩
    ⟨fun _ _ _ _ _ _ t h=>by obtain⟨x,y,z,e⟩:=t;subst e;exact h.other tO,trivial⟩ (fun vs=> ?_)
   refine⟨fun W' _ _ hI hD hK=> ?_,?_⟩
   ·obtain⟨z0,z1,z2⟩:=hI.out.2.1.cs;go_simp;exact hK.out _ _ rfl rfl
   simp only[zaf,zaa,zab,zac,Sg.pick,Nat.reduceAdd];refine⟨fun W' _ _ hI hD hK=> ?_,?_⟩
   ·obtain⟨z0,z1,z2⟩:=hI.out.2.2.1.cs;go_simp;exact hK.out _ _ rfl rfl
   simp only[zaf,zaa,zab,zac,Sg.pick,Nat.reduceAdd];refine⟨fun W' _ _ hI hD hK=> ?_,?_⟩
   ·obtain⟨x',y',z',hx⟩:=hI.out.2.2.2.1;obtain⟨z0,z1,z2⟩:=hx.cs;have u0:=hx.fz 0;have u1:=hx.fz 1;have u2:=hx.fz 2;go_simp;exact hK.out undef _ ⟨_,_,_,rfl⟩ (hx.setv _ _ _)
   simp only[zaf,zaa,zab,zac,Sg.pick,Nat.reduceAdd];refine⟨fun W' _ _ hI hD hK=> ?_,?_⟩
   ·obtain⟨x',y',z',hx⟩:=hI.out.2.2.2.2;obtain⟨z0,z1,z2⟩:=hx.cs;have u0:=hx.fz 0;have u1:=hx.fz 1;have u2:=hx.fz 2;go_simp;exact hK.out undef _ ⟨_,_,_,rfl⟩ (hx.setv _ _ _)
   simp only[zaf,zaa,zab,zac,Sg.pick,Nat.reduceAdd];intro W9 hI9 hD9;have ev:=(show CBx W9 w.heap.size (.int .i64 q1) (.int .i64 q2) (.slice A2 qs.length bF) from hD9.out 2 (by decide));have eH:=(show CBx W9 (w.heap.size+1) (.int .i64 r1) (.int .i64 r2) (.slice A3 rs.length cQ) from hD9.out 3 (by decide));have J9:=qA hI9.out.1;have eD:=qA hI9.out.2.1;have eo:=qA hI9.out.2.2.1;obtain⟨e0,e1,e2⟩:=ev.cs;obtain⟨e3,e4,e5⟩:=eH.cs;clear hI9 hD9;go_wp2;exact bodyPost_ret (v:= .tuple #[.agg #[.int .i64 q1, .int .i64 q2, .slice A2 qs.length bF], .agg #[.int .i64 r1, .int .i64 r2, .slice A3 rs.length cQ]]) (by simp[results,Tryz.results113,go_sem,e0,e1,e2,e3,e4,e5]) rfl ⟨_,_,(q1,q2,qs),(r1,r2,rs),rfl,⟨_,rfl,eD.out.i1,eD.out.i2,eD.out.ow.mono tO⟩,⟨_,rfl,eo.out.i1,eo.out.i2,eo.out.ow.mono tO⟩,J9.out⟩
end Go.Proofs.YtnjpoljbagfdnaaGreat
