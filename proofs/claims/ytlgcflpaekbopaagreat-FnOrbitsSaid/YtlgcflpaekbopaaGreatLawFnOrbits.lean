/- The law FnOrbits. -/
import Derived.Test.YtlgcflpaekbopaaGreatV09
import Derived.Test.YtlgcflpaekbopaaGreatV10
import Derived.Test.YtlgcflpaekbopaaGreatV06
import Derived.Test.YtlgcflpaekbopaaGreatV04
import Derived.Test.YtlgcflpaekbopaaGreatV03
import Derived.Test.YtlgcflpaekbopaaGreatRows
import Derived.Test.YtlgcflpaekbopaaGreatCloFnOrbits
import Derived.Lib.SmallJoins
import Derived.Deep.DeepCutAuto
import Derived.Deep.CutBlock
namespace Go.Proofs.YtlgcflpaekbopaaGreat.fnOrbits
open _root_.List renaming setIfInBounds_toArray→zaa,set_cons_zero→zab,set_cons_succ→zac,all_eq_true→zae,getElem_mem→zag,mem_range→zak
open Go.Act renaming put→zad
open Go.RowKit.Below renaming refl→zaf
open _root_.Nat renaming le_refl→zah,zero_le→zai
open _root_.Bool renaming and_eq_true→zaj
set_option maxRecDepth 20000
set_option linter.unusedVariables false
set_option linter.unusedSimpArgs false
open Go.ChangeShapes Go.WideShapes Go.ChangeAt Go.RowKit
open Go.ChangeMaps (open_string shut_string)
def WsR (w:World) (v:Value) (L:List (List Int)):Prop:= ∃lo hi,OwII lo hi v L w∧hi≤w.heap.size
theorem WsR.below {w w':World} {v:Value} {L:List (List Int)} (h:WsR w v L) (hb:Below w.heap.size w w'):WsR w' v L:=by
 obtain⟨lo,hi,h,hh⟩:=h;exact⟨lo,hi,h.keep EI.stable fun b _ aE=>hb.block b tO,Nat.le_trans hh hb.size⟩
theorem WsR.form {w:World} {v:Value} {L:List (List Int)} (h:WsR w v L): ∃A c,v= .slice A L.length c:=by
 obtain⟨lo,hi,h,hh⟩:=h;obtain⟨A,c,e,_⟩:=OwnL.len h;exact⟨A,c,e⟩
theorem sameWs (v u:Value) (L:List (List Int)) (w:World) (h:WsR w v L) (h':WsR w u L):
  Calls Tryz.prog 41 #[v,u] w fun e w'=>e= .returned (.bool true)∧Below w.heap.size w w':=by
 obtain⟨lo,hi,h,hh⟩:=h;obtain⟨lo',db,h',pW⟩:=h';refine(qHk v u L L w h h' hh pW).mono ?_
 rintro e w' ⟨rfl,b⟩;exact⟨by simp,b⟩
def MsR (w:World) (v:Value) (L:List MoD):Prop:= ∃lo hi,OMS lo hi v L w∧hi≤w.heap.size
theorem MsR.below {w w':World} {v:Value} {L:List MoD} (h:MsR w v L) (hb:Below w.heap.size w w'):MsR w' v L:=by
 obtain⟨lo,hi,h,hh⟩:=h;exact⟨lo,hi,OwnL.keep h EM.stable fun b _ aE=>hb.block b tO,Nat.le_trans hh hb.size⟩
theorem MsR.form {w:World} {v:Value} {L:List MoD} (h:MsR w v L): ∃A c,v= .slice A L.length c:=by
 obtain⟨lo,hi,h,hh⟩:=h;obtain⟨A,c,e,_⟩:=OwnL.len h;exact⟨A,c,e⟩
theorem MsR.at {w:World} {A:Option Addr} {m c:Nat} {L:List MoD} (h:MsR w (.slice A m c) L) {k:Nat} (hk:k<L.length):
  ∃g s,A=some ⟨g,0,none⟩∧g<w.heap.size∧w.cell? ⟨g,k*2,none⟩=some (.int .i64 L[k].1)∧w.cell? ⟨g,k*2+1,none⟩=some s∧RdII w s L[k].2:=by
 obtain⟨lo,hi,h,hh⟩:=h;exact qQF h k hk
set_option maxRecDepth 100000 in
theorem relF_chk:((List.range 4).all fun n=>(relF n).all fun m=>surB m&&(decide (m.1=n)&&(decide (m.2.length≤3)&&(decide (qu m.2≤9)&&m.2.all fun x=>decide (x.length≤3)))))=true:=by kernel_rfl
theorem relF_ok {q:Int} {m:MoD} (h:m∈relF q):surB m=true∧I64 m.1∧m.2.length≤3∧qu m.2≤9∧ ∀x∈m.2,x.length≤3:=by
 rcases e:inB q 1 3 with _ | _
 ·have:relF q= []:=by unfold relF;rw[e];rfl
  rw[this] at h;cases h
 ·have hb:=qP.1 e;obtain⟨n,rfl⟩: ∃n:Nat,q=n:=⟨q.toNat,tO⟩;have h1:=zae.1 (zae.1 relF_chk n (zak.2 tO)) m h;simp only[zaj,decide_eq_true_eq,zae] at h1;exact⟨h1.1,by rw[h1.2.1];exact⟨tO,tO⟩,h1.2.2.1,h1.2.2.2.1,h1.2.2.2.2⟩
theorem all2_len:(qh 2).length=16:=by kernel_rfl
theorem app2 {d:WhD} {z:List Int} (h:d∈qh 2) (hz:qY 2 z=true):appF (whM 2 d) z=(expL (whM 2 d).2 z,true):=by
 have hw:=qHr h;have cJ:(whM 2 d).1=2:=by unfold whM;rw[if_pos hw]
 have hs:=qQU hw;unfold surB at hs;rw[zaj] at hs;unfold appF;rw[hs.1,cJ,hz];rfl
set_option maxRecDepth 100000 in
set_option maxHeartbeats 16000000 in
theorem walk (v0:Value) (x0:List Int) (w:World) (h0:ArgC w v0 x0):
  Calls Tryz.prog 4 #[v0] w fun e w'=>e= .returned (.bool true)∧Below w.heap.size w w':=by
 have k9:=qA (qPf v0 x0 w h0);have V:=qA h0;obtain⟨A0,c0,rfl,_⟩:=h0;by_cases hl:(1048576:Int)<x0.length
 ·have hd:decide ((1048576:Int)<x0.length)=true:=decide_eq_true hl;rw[hd] at k9;clear hd hl;go_enter Tryz.func4,Tryz.ntmps4
  go_wp2_with fail;refine k9.out.mono ?_;rintro e w1 ⟨rfl,rfl⟩;go_wp2;go_ret;exact⟨rfl,zaf _ _⟩
 have hd:decide ((1048576:Int)<x0.length)=false:=decide_eq_false hl;rw[hd] at k9;have fC:x0.length≤1048576:=tO;clear hd hl;go_enter Tryz.func4,Tryz.ntmps4
 go_wp2_with fail;refine k9.out.mono ?_;rintro e w1 ⟨rfl,rfl⟩;go_wp2_with fail;refine(qJn _ x0 _ V.out fC).mono ?_
 rintro e w1 ⟨r,uv,xs,rfl,hr,ou,⟨cX,fE⟩,b⟩;obtain⟨Au,cu,rfl,_⟩:=ou.form;have U:=qA ou.rd;have BZ:=qA b;have cY:=qA fE;replace V:=qA (V.out.below b);have mO:I64 r:=⟨tO,tO⟩;clear b ou fE k9;have nl:=qA (fun W (h:RdI W (.slice Au xs.length cu) xs)=>qAr r _ xs W mO h tO);have jN:=qA (fun W (h:RdI W (.slice Au xs.length cu) xs)=>qBO r _ xs W mO h tO);have fK:=qA (fun W (h:RdI W (.slice Au xs.length cu) xs)=>qDP r _ xs W mO h tO);have rO:=qA (fun W (h:RdI W (.slice Au xs.length cu) xs)=>qDW r _ xs W mO h tO);have iQ:=qA (fun W (h:RdI W (.slice Au xs.length cu) xs)=>qDs r _ xs W mO h tO);have aw:=qA (fun W (h:RdI W (.slice Au xs.length cu) xs)=>qDz r _ xs W mO h tO);have ia:Hid ((orbF r xs).2=true→r=2→qY 2 xs=true∧(∀d∈qh 2,(expL (whM 2 d).2 xs).length≤24→orbF 2 (expL (whM 2 d).2 xs)=orbF r xs)∧(∀y∈(levF r xs).1,(y.length:Int)=orbN r xs)):=qA (fun hi h2=>by
  subst h2;exact⟨qKQ hi,qPu cY.out tO hi⟩)
 clear cY;have jB:=qOV r xs;generalize levF r xs=lf at*;generalize orbN r xs=on at*;obtain⟨of,mX⟩: ∃p,orbF r xs=p:=⟨_,rfl⟩;rw[mX] at nl jN ia;clear mX;obtain⟨ox,is⟩:=of;obtain⟨lv,two⟩:=lf;simp only at nl jN fK rO ia jB
 go_wp2_with fail;refine(nl.out _ U.out).mono ?_
 rintro e w2 ⟨xv,rfl,yz,b⟩;obtain⟨Ax,cx,rfl,_⟩:=yz.form;have X:=qA yz.rd;replace U:=qA (U.out.below b);replace V:=qA (V.out.below b);replace BZ:=qA (BZ.out.trans (b.mono BZ.out.size));clear yz b nl;go_wp2_with fail;refine(jN.out _ U.out).mono ?_
 rintro e w3 ⟨yv,rfl,AL,b⟩;obtain⟨Ay,cy,rfl,_⟩:=AL.form;have Y:=qA AL.rd;replace U:=qA (U.out.below b);replace V:=qA (V.out.below b);replace X:=qA (X.out.below b);replace BZ:=qA (BZ.out.trans (b.mono BZ.out.size));clear AL b jN;go_wp2_with fail;refine(fK.out _ U.out).mono ?_
 rintro e w4 ⟨t4,rfl,ol,b⟩;have l1:WsR w4 t4 lv:=⟨_,_,ol,zah _⟩;obtain⟨Al,cl,rfl⟩:=l1.form;have L1:=qA l1;replace U:=qA (U.out.below b);replace V:=qA (V.out.below b);replace X:=qA (X.out.below b);replace Y:=qA (Y.out.below b);replace BZ:=qA (BZ.out.trans (b.mono BZ.out.size));clear ol l1 b fK;go_wp2_with fail;refine(rO.out _ U.out).mono ?_
 rintro e w5 ⟨t5,rfl,ol,b⟩;have l2:WsR w5 t5 lv:=⟨_,_,ol,zah _⟩;obtain⟨Am,cm,rfl⟩:=l2.form;have L2:=qA l2;replace U:=qA (U.out.below b);replace V:=qA (V.out.below b);replace X:=qA (X.out.below b);replace Y:=qA (Y.out.below b);replace L1:=qA (L1.out.below b);replace BZ:=qA (BZ.out.trans (b.mono BZ.out.size));clear ol l2 b rO;go_wp2_with fail;refine(qQg _ _ ox ox _ X.out Y.out).mono ?_
 rintro e w6 ⟨rfl,b⟩;replace U:=qA (U.out.below b);replace V:=qA (V.out.below b);replace Y:=qA (Y.out.below b);replace L1:=qA (L1.out.below b);replace L2:=qA (L2.out.below b);replace BZ:=qA (BZ.out.trans (b.mono BZ.out.size));clear b X;simp only[decide_true];go_wp2_with fail;refine(sameWs _ _ lv _ L1.out L2.out).mono ?_
 rintro e w7 ⟨rfl,b⟩;replace U:=qA (U.out.below b);replace V:=qA (V.out.below b);replace Y:=qA (Y.out.below b);replace L2:=qA (L2.out.below b);replace BZ:=qA (BZ.out.trans (b.mono BZ.out.size));clear b L1;go_wp2_with fail;refine(iQ.out _ U.out).mono ?_
 rintro e w8 ⟨rfl,b⟩;replace U:=qA (U.out.below b);replace V:=qA (V.out.below b);replace Y:=qA (Y.out.below b);replace L2:=qA (L2.out.below b);replace BZ:=qA (BZ.out.trans (b.mono BZ.out.size));clear b;go_wp2_with fail;refine(aw.out _ U.out).mono ?_
 rintro e w9 ⟨rfl,b⟩;replace U:=qA (U.out.below b);replace V:=qA (V.out.below b);replace Y:=qA (Y.out.below b);replace L2:=qA (L2.out.below b);replace BZ:=qA (BZ.out.trans (b.mono BZ.out.size));clear b aw;go_upto_region 10 with fail
 go_cut [96] (fun s wx=>s= .bool (is&&decide (r=2))∧w9=wx)
 case first=>as_aux_lemma=>
  clear ia iQ U V Y L2 BZ;cases is
  ·go_wp2_with fail;go_meet;exact⟨by simp,rfl⟩
  ·by_cases h2:r=2
   ·subst h2;go_wp2_with fail;go_meet;exact⟨by simp,rfl⟩
   ·go_wp2_with fail;go_meet;exact⟨by simp[h2],rfl⟩
 case rest=>as_aux_lemma=>
 obtain⟨rfl,rfl⟩:=hcut;obtain⟨bb,ka⟩: ∃b,b=(is&&decide (r=2)):=⟨_,rfl⟩;rw[←ka];have BR:=qA ka;clear ka;go_upto_if 96 with fail
 go_cut [13,14,15,16,17,18,19,20] (fun _ _ _ _ _ _ _ _ wx=>Below w9.heap.size w9 wx)
 case first=>as_aux_lemma=>
  cases bb
  ·go_wp2_with fail;go_meet;exact zaf _ _
  ·by_cases h2:r=2
   ·have jF:is=true:=by have:=BR.out;simp at this;exact this.1
    obtain⟨jI,DR,fe⟩:=ia.out jF h2;subst h2 jF;have tV:=qA jI;have vN:=qA DR;have eu:=qA fe;clear jI DR fe ia;go_wp2_with fail;refine(qAR 2 _).mono ?_
    rintro e wa ⟨av,rfl,oa,b⟩;obtain⟨Aa,ca,rfl,Ds,Ev⟩:=oa.len;have OA:=qA oa;have BC:=qA b;replace U:=qA (U.out.below b);replace V:=qA (V.out.below b);replace Y:=qA (Y.out.below b);replace L2:=qA (L2.out.below b);unfold maxLen at Ev;have Kg:=all2_len;have fl:Hid (∀d∈qh 2,appF (whM 2 d) xs=(expL (whM 2 d).2 xs,true)∧d.2.length≤4∧((expL (whM 2 d).2 xs).length≤24→orbF 2 (expL (whM 2 d).2 xs)=(ox,true))):=qA fun d hd=>by
     have h1:=zae.1 qGU 2 (zak.2 tO);have h2:=zae.1 h1 d hd;exact⟨app2 hd tV.out,of_decide_eq_true h2,vN.out d hd⟩
    clear oa b vN;generalize qh 2=L at*;go_wp2_with fail;refine(qMb _ x0 11 _ V.out fC tO).mono ?_
    rintro e wb ⟨k,rfl,⟨k0,k1⟩,rfl⟩;have Kf:Int.tmod k 16=k%16:=Int.tmod_eq_emod_of_nonneg k0;obtain⟨j,hj⟩: ∃j:Nat,k%16=j:=⟨(k%16).toNat,tO⟩;have dW:j<L.length:=tO;have vw:(j:Int)<(L.length:Int):=tO;obtain⟨g,s,rfl,hg,q0,q1,hi,ho⟩:=qPO OA.out dW;obtain⟨BG,Ht,Dh⟩:=fl.out _ (zag dW);have xp:=qA BG;have ff:=qA Dh;obtain⟨As,cs',rfl,_⟩:=ho.form;have SW:Hid (RdI wa (.slice As L[j].2.length cs') L[j].2):=qA ho.rd;clear OA fl ho BG Dh;generalize L[j]=d at*;obtain⟨d1,ds⟩:=d;simp only at q0 q1 SW hi Ht
    have rC:=qEn 2 (d1,ds);have nY:=qA (qKL (r:=2) (d1,ds) ⟨tO,tO⟩);obtain⟨W2,aV⟩: ∃W,W=wa.alloc (.cells #[.int .i64 d1, .slice As ds.length cs'] 26):=⟨_,rfl⟩;obtain⟨D6,pI,FL⟩:=MBx.new aV;have T:=qA D6;replace U:=qA (U.out.below pI);replace V:=qA (V.out.below pI);replace Y:=qA (Y.out.below pI);replace L2:=qA (L2.out.below pI);replace SW:=qA (SW.out.below pI);replace BC:=qA (BC.out.trans (pI.mono BC.out.size));clear D6 pI FL;go_wp2_with fail;rw[←aV];clear aV q0 q1;generalize wa.heap.size=qT at*;refine(qy 2 _ (d1,ds) _ ⟨tO,tO⟩ ⟨_,rfl,hi,SW.out.arg⟩ (by simp only;omega)).mono ?_
    rintro e wc ⟨sm,rfl,om,b⟩;obtain⟨A5,c5,rfl,_⟩:=om.len;have M5:=qA om.rd;replace U:=qA (U.out.below b);replace V:=qA (V.out.below b);replace Y:=qA (Y.out.below b);replace L2:=qA (L2.out.below b);replace BC:=qA (BC.out.trans (b.mono BC.out.size));clear om b T SW;generalize whM 2 (d1,ds)=mo at*;obtain⟨m1,B⟩:=mo;simp only at xp ff rC nY M5⊢
    obtain⟨W4,zC⟩: ∃W,W=wc.alloc (.cells #[.int .i64 m1, .slice A5 B.length c5] 31):=⟨_,rfl⟩;obtain⟨GM,nW,ID⟩:=MBx.new zC;replace U:=qA (U.out.below nW);replace V:=qA (V.out.below nW);replace Y:=qA (Y.out.below nW);replace L2:=qA (L2.out.below nW);replace M5:=qA (M5.out.below nW);replace BC:=qA (BC.out.trans (nW.mono BC.out.size));clear GM nW ID;go_wp2_with fail;rw[←zC];clear zC;generalize wc.heap.size=qM at*;refine(qDD _ _ (m1,B) xs _ ⟨_,rfl,nY.out,M5.out⟩ U.out (by simp only;omega) (fun x hx=>by have:=rC.2 x hx;omega) tO).mono ?_
    rintro e wd ⟨zv,rfl,oz,b⟩;rw[xp.out] at oz⊢;simp only at oz⊢
    obtain⟨Az,cz,rfl,_⟩:=oz.form;have Z:=qA oz.rd;replace U:=qA (U.out.below b);replace V:=qA (V.out.below b);replace Y:=qA (Y.out.below b);replace L2:=qA (L2.out.below b);replace BC:=qA (BC.out.trans (b.mono BC.out.size));clear oz b M5 xp;generalize expL B xs=zs at*;by_cases h24:zs.length≤24
    ·have zn:(zs.length:Int)≤24:=tO;have kH:=qA (ff.out h24);clear ff;go_wp2_with fail;refine(qAr 2 _ zs _ ⟨tO,tO⟩ Z.out tO).mono ?_
     rintro e we ⟨tv,rfl,ot,b⟩;rw[kH.out] at ot⊢;simp only at ot⊢
     obtain⟨At,ct,rfl,_⟩:=ot.form;have X2:=qA ot.rd;replace U:=qA (U.out.below b);replace V:=qA (V.out.below b);replace Y:=qA (Y.out.below b);replace L2:=qA (L2.out.below b);replace BC:=qA (BC.out.trans (b.mono BC.out.size));clear ot b Z;go_wp2_with fail;refine(qQg _ _ ox ox _ X2.out Y.out).mono ?_
     rintro e wf ⟨rfl,b⟩;replace U:=qA (U.out.below b);replace V:=qA (V.out.below b);replace L2:=qA (L2.out.below b);replace BC:=qA (BC.out.trans (b.mono BC.out.size));clear b X2 Y;simp only[decide_true];go_wp2_with fail;go_loopw [20] (fun iv wr=> ∃i:Nat,i≤lv.length∧iv= .int .i64 i∧Below wf.heap.size wf wr) (fun iv _=>lv.length-(intOf iv).toNat)
     case atStart=>exact⟨0,zai _,rfl,zaf _ _⟩
     case round=>
      obtain⟨i,jj,rfl,hB⟩:=hrel;have gN:=hB.size;have BL:=qA hB;replace U:=qA (U.out.below hB);replace L2:=qA (L2.out.below hB);clear hB;by_cases ac:i<lv.length
      ·have bT:(i:Int)<(lv.length:Int):=tO;obtain⟨gb,off,A2,c2,rfl,eZ,y0,-,-,-⟩:=(show RdII wr (.slice Am lv.length cm) lv by obtain⟨_,_,h,_⟩:=L2.out;exact OwII.rd h).at ac;have dO:=qA (eu.out lv[i] (zag ac));have jp:IntKind.i64.wrap ((i:Int)+1)=((i+1:Nat):Int):=by rw[IntKind.wrap_i64];omega
       generalize lv[i]=y at*;go_wp2_with fail;refine qAI [] [.val (.slice (some ⟨gb,off,none⟩) lv.length cm), .val (.int .i64 i), .val (.pointer (some ⟨gb,off+i,none⟩)), .val (.slice A2 y.length c2), .val (.int .i64 y.length), .val (.int .i64 2), .val (.slice Au xs.length cu), .val (.int .i64 y.length), .val (.bool false)]
        [none,none,none,none,none,none,none,some (fun W W'=>Below W.heap.size W W'),none]
        (fun W=>Below wr.heap.size wr W) (fun _=>True) [] [] tK tK tK
        trivial (by rfl) (by rfl) (zaf _ _).drew trivial
        ⟨fun _ _ h t=>h.trans (t.mono h.size),trivial⟩ (qCI _ 0)
        trivial (fun vs=> ?_)
       iterate 3
        refine⟨fun W' _ _ hI hD hK=> ?_,?_⟩
        ·skip;go_simp;exact hK.out _ _ rfl rfl
        simp only[zad,zaa,zab,zac,Sg.pick,Nat.reduceAdd]
       refine⟨fun W' _ _ hI hD hK=> ?_,?_⟩
       ·have z0:=(hI.out.1.cell (p:=⟨gb,off+i,none⟩) eZ).trans y0;go_simp;exact hK.out _ _ rfl rfl
       simp only[zad,zaa,zab,zac,Sg.pick,Nat.reduceAdd]
       iterate 3
        refine⟨fun W' _ _ hI hD hK=> ?_,?_⟩
        ·skip;go_simp;exact hK.out _ _ rfl rfl
        simp only[zad,zaa,zab,zac,Sg.pick,Nat.reduceAdd]
       refine⟨fun W' _ _ hI hD hK=> ?_,?_⟩
       ·skip;go_simp;refine(iQ.out _ (U.out.below hI.out.1)).mono ?_;rintro e w' ⟨rfl,b⟩;rw[←dO.out];exact hK.out _ _ b rfl
       simp only[zad,zaa,zab,zac,Sg.pick,Nat.reduceAdd];refine⟨fun W' _ _ hI hD hK=> ?_,?_⟩
       ·skip;go_simp;exact hK.out _ _ rfl rfl
       simp only[zad,zaa,zab,zac,Sg.pick,Nat.reduceAdd];intro W9 hI9 hD9;have I9:=qA hI9.out.1;clear hI9 hD9;replace BL:=qA (BL.out.trans (I9.out.mono gN));go_wp2;go_roundw
       case rel=>exact⟨i+1,tO,by go_num,BL.out⟩
       case measure=>(simp[intOf];omega)
      ·have bT: ¬(i:Int)<(lv.length:Int):=tO;go_wp2_with fail;go_meet;exact BC.out.trans (BL.out.mono BC.out.size)
    ·have zn: ¬(zs.length:Int)≤24:=tO;clear ff;go_wp2_with fail;go_loopw [20] (fun iv wr=> ∃i:Nat,i≤lv.length∧iv= .int .i64 i∧Below wd.heap.size wd wr) (fun iv _=>lv.length-(intOf iv).toNat)
     case atStart=>exact⟨0,zai _,rfl,zaf _ _⟩
     case round=>
      obtain⟨i,jj,rfl,hB⟩:=hrel;have gN:=hB.size;have BL:=qA hB;replace U:=qA (U.out.below hB);replace L2:=qA (L2.out.below hB);clear hB;by_cases ac:i<lv.length
      ·have bT:(i:Int)<(lv.length:Int):=tO;obtain⟨gb,off,A2,c2,rfl,eZ,y0,-,-,-⟩:=(show RdII wr (.slice Am lv.length cm) lv by obtain⟨_,_,h,_⟩:=L2.out;exact OwII.rd h).at ac;have dO:=qA (eu.out lv[i] (zag ac));have jp:IntKind.i64.wrap ((i:Int)+1)=((i+1:Nat):Int):=by rw[IntKind.wrap_i64];omega
       generalize lv[i]=y at*;go_wp2_with fail;refine qAI [] [.val (.slice (some ⟨gb,off,none⟩) lv.length cm), .val (.int .i64 i), .val (.pointer (some ⟨gb,off+i,none⟩)), .val (.slice A2 y.length c2), .val (.int .i64 y.length), .val (.int .i64 2), .val (.slice Au xs.length cu), .val (.int .i64 y.length), .val (.bool false)]
        [none,none,none,none,none,none,none,some (fun W W'=>Below W.heap.size W W'),none]
        (fun W=>Below wr.heap.size wr W) (fun _=>True) [] [] tK tK tK
        trivial (by rfl) (by rfl) (zaf _ _).drew trivial
        ⟨fun _ _ h t=>h.trans (t.mono h.size),trivial⟩ (qCI _ 0)
        trivial (fun vs=> ?_)
       iterate 3
        refine⟨fun W' _ _ hI hD hK=> ?_,?_⟩
        ·skip;go_simp;exact hK.out _ _ rfl rfl
        simp only[zad,zaa,zab,zac,Sg.pick,Nat.reduceAdd]
       refine⟨fun W' _ _ hI hD hK=> ?_,?_⟩
       ·have z0:=(hI.out.1.cell (p:=⟨gb,off+i,none⟩) eZ).trans y0;go_simp;exact hK.out _ _ rfl rfl
       simp only[zad,zaa,zab,zac,Sg.pick,Nat.reduceAdd]
       iterate 3
        refine⟨fun W' _ _ hI hD hK=> ?_,?_⟩
        ·skip;go_simp;exact hK.out _ _ rfl rfl
        simp only[zad,zaa,zab,zac,Sg.pick,Nat.reduceAdd]
       refine⟨fun W' _ _ hI hD hK=> ?_,?_⟩
       ·skip;go_simp;refine(iQ.out _ (U.out.below hI.out.1)).mono ?_;rintro e w' ⟨rfl,b⟩;rw[←dO.out];exact hK.out _ _ b rfl
       simp only[zad,zaa,zab,zac,Sg.pick,Nat.reduceAdd];refine⟨fun W' _ _ hI hD hK=> ?_,?_⟩
       ·skip;go_simp;exact hK.out _ _ rfl rfl
       simp only[zad,zaa,zab,zac,Sg.pick,Nat.reduceAdd];intro W9 hI9 hD9;have I9:=qA hI9.out.1;clear hI9 hD9;replace BL:=qA (BL.out.trans (I9.out.mono gN));go_wp2;go_roundw
       case rel=>exact⟨i+1,tO,by go_num,BL.out⟩
       case measure=>(simp[intOf];omega)
      ·have bT: ¬(i:Int)<(lv.length:Int):=tO;go_wp2_with fail;go_meet;exact BC.out.trans (BL.out.mono BC.out.size)
   ·exact absurd (by have:=BR.out;simp at this;exact this.2) h2
 case rest=>as_aux_lemma=>
  have b:=hcut;clear hcut ia iQ U Y L2;replace V:=qA (V.out.below b);replace BZ:=qA (BZ.out.trans (b.mono BZ.out.size));clear b;rename World=>wf
  go_wp2_with fail;refine(qJy _ x0 _ V.out fC).mono ?_
  rintro e w3 ⟨uv,zv,us,zs,rfl,hu,hz,⟨Dc,J6⟩,b⟩;obtain⟨Au,cu,rfl,_⟩:=hu.arg;obtain⟨Az,cz,rfl,_⟩:=hz.arg;have U:=qA hu;have Z:=qA hz;replace V:=qA (V.out.below b);replace BZ:=qA (BZ.out.trans (b.mono BZ.out.size));clear b hu hz;have nl:=qA (fun W (h:RdI W (.slice Au us.length cu) us) (h':RdI W (.slice Az zs.length cz) zs)=>qCx 2 _ _ us zs W ⟨tO,tO⟩ h h' tO tO);have jN:=qA (fun W (h:RdI W (.slice Au us.length cu) us) (h':RdI W (.slice Az zs.length cz) zs)=>qCy 2 _ _ us zs W ⟨tO,tO⟩ h h' tO tO);generalize autF 2 us zs=af at*;obtain⟨a1,a2⟩:=af;simp only at nl jN
  go_wp2_with fail;refine(nl.out _ U.out Z.out).mono ?_
  rintro e w4 ⟨rfl,b⟩;replace U:=qA (U.out.below b);replace Z:=qA (Z.out.below b);replace V:=qA (V.out.below b);replace BZ:=qA (BZ.out.trans (b.mono BZ.out.size));clear b nl;go_wp2_with fail;refine(jN.out _ U.out Z.out).mono ?_
  rintro e w5 ⟨rfl,b⟩;replace V:=qA (V.out.below b);replace BZ:=qA (BZ.out.trans (b.mono BZ.out.size));clear b jN U Z;go_wp2_with fail;refine(qJr _ x0 _ V.out fC).mono ?_
  rintro e w6 ⟨q,rfl,⟨dN,D1⟩,b⟩;replace BZ:=qA (BZ.out.trans (b.mono BZ.out.size));clear b V;have vp:=qA (fun W=>qBD q W ⟨tO,tO⟩);have jP:=qA (fun W=>qBH q W ⟨tO,tO⟩);have sk:=qA (fun m (h:m∈relF q)=>relF_ok h);have uV:=qFm q;generalize relF q=LL at*;go_wp2_with fail;refine(vp.out _).mono ?_
  rintro e w7 ⟨t4,rfl,ot,b⟩;have t1:MsR w7 t4 LL:=⟨_,_,ot,zah _⟩;obtain⟨A5,c5,rfl⟩:=t1.form;have T1:=qA t1;replace BZ:=qA (BZ.out.trans (b.mono BZ.out.size));clear ot b vp t1;go_wp2_with fail;refine(jP.out _).mono ?_
  rintro e w8 ⟨t5,rfl,ot,b⟩;have t2:MsR w8 t5 LL:=⟨_,_,ot,zah _⟩;obtain⟨A7,c7,rfl⟩:=t2.form;have T2:=qA t2;replace T1:=qA (T1.out.below b);replace BZ:=qA (BZ.out.trans (b.mono BZ.out.size));clear ot b jP t2;go_wp2_with fail;go_loopw [31] (fun iv wr=> ∃i:Nat,i≤LL.length∧iv= .int .i64 i∧Below w8.heap.size w8 wr) (fun iv _=>LL.length-(intOf iv).toNat)
  case atStart=>exact⟨0,zai _,rfl,zaf _ _⟩
  case round=>
   obtain⟨i,jj,rfl,hB⟩:=hrel;have gN:=hB.size;have BL:=qA hB;replace T1:=qA (T1.out.below hB);replace T2:=qA (T2.out.below hB);replace BZ:=qA (BZ.out.trans (hB.mono BZ.out.size));clear hB;by_cases ac:i<LL.length
   ·have bT:(i:Int)<(LL.length:Int):=tO;obtain⟨g1,s1,rfl,fd,y0,y1,r1⟩:=T1.out.at ac;obtain⟨g2,s2,rfl,dC,CA,CK,r2⟩:=T2.out.at ac;obtain⟨h1,h2,h3,h4,h5⟩:=sk.out _ (zag ac);have R1:=qA r1;have R2:=qA r2;have jl:=qA h1;have nY:=qA h2;have ax:=qA h5;have jp:IntKind.i64.wrap ((i:Int)+1)=((i+1:Nat):Int):=by rw[IntKind.wrap_i64];omega
    clear r1 r2 h1 h2 h5;generalize LL[i]=d at*;obtain⟨m1,B⟩:=d;simp only at y0 y1 CA CK R1 R2 nY ax h3 h4
    obtain⟨A3,d3,rfl,_⟩:=R1.out.form;obtain⟨A4,d4,rfl,_⟩:=R2.out.form;have bN:=qA (fun W (h:RdII W (.slice A3 B.length d3) B) (h':RdII W (.slice A4 B.length d4) B)=>qCw _ _ (m1,B) (m1,B) W ⟨_,rfl,nY.out,h⟩ ⟨_,rfl,nY.out,h'⟩);have DO:=qA (fun W (h:RdII W (.slice A3 B.length d3) B)=>qDh _ (m1,B) W ⟨_,rfl,nY.out,h⟩ (by simp only;omega) (by simp only;omega) (fun x hx=>by have:=ax.out x hx;omega));rw[jl.out] at DO;go_wp2_with fail;refine qAI [] [.val (.slice (some ⟨g1,0,none⟩) LL.length c5), .val (.int .i64 i), .val (.pointer (some ⟨g1,i*2,none⟩)), .val (.agg #[.int .i64 m1, .slice A3 B.length d3]), .val (.slice (some ⟨g2,0,none⟩) LL.length c7), .val (.int .i64 i), .val (.pointer (some ⟨g2,i*2,none⟩)), .val (.agg #[.int .i64 m1, .slice A4 B.length d4]), .val (.bool true), .val (.bool false), .val (.bool false), .val (.slice (some ⟨g1,0,none⟩) LL.length c5), .val (.int .i64 i), .val (.pointer (some ⟨g1,i*2,none⟩)), .val (.agg #[.int .i64 m1, .slice A3 B.length d3]), .val (.bool true), .val (.bool false), .val (.bool false)]
     [none,none,none,none,none,none,none,none,some (fun W W'=>Below W.heap.size W W'),none,none,none,none,none,none,some (fun W W'=>Below W.heap.size W W'),none,none]
     (fun W=>Below wr.heap.size wr W) (fun _=>True) [] [] tK tK tK
     trivial (by rfl) (by rfl) (zaf _ _).drew trivial
     ⟨fun _ _ h t=>h.trans (t.mono h.size),fun _ _ h t=>h.trans (t.mono h.size),trivial⟩ (qCI _ 0)
     trivial (fun vs=> ?_)
    iterate 3
     refine⟨fun W' _ _ hI hD hK=> ?_,?_⟩
     ·skip;go_simp;exact hK.out _ _ rfl rfl
     simp only[zad,zaa,zab,zac,Sg.pick,Nat.reduceAdd]
    refine⟨fun W' _ _ hI hD hK=> ?_,?_⟩
    ·have z0:=(hI.out.1.cell (p:=⟨g1,i*2,none⟩) fd).trans y0;have z1:=(hI.out.1.cell (p:=⟨g1,i*2+1,none⟩) fd).trans y1;go_simp;exact hK.out _ _ rfl rfl
    simp only[zad,zaa,zab,zac,Sg.pick,Nat.reduceAdd]
    iterate 3
     refine⟨fun W' _ _ hI hD hK=> ?_,?_⟩
     ·skip;go_simp;exact hK.out _ _ rfl rfl
     simp only[zad,zaa,zab,zac,Sg.pick,Nat.reduceAdd]
    refine⟨fun W' _ _ hI hD hK=> ?_,?_⟩
    ·have z0:=(hI.out.1.cell (p:=⟨g2,i*2,none⟩) dC).trans CA;have z1:=(hI.out.1.cell (p:=⟨g2,i*2+1,none⟩) dC).trans CK;go_simp;exact hK.out _ _ rfl rfl
    simp only[zad,zaa,zab,zac,Sg.pick,Nat.reduceAdd];refine⟨fun W' _ _ hI hD hK=> ?_,?_⟩
    ·skip;go_simp;refine(bN.out _ (R1.out.below hI.out.1) (R2.out.below hI.out.1)).mono ?_;rintro e w' ⟨rfl,b⟩;simp only[decide_true];exact hK.out _ _ b rfl
    simp only[zad,zaa,zab,zac,Sg.pick,Nat.reduceAdd]
    iterate 5
     refine⟨fun W' _ _ hI hD hK=> ?_,?_⟩
     ·skip;go_simp;exact hK.out _ _ rfl rfl
     simp only[zad,zaa,zab,zac,Sg.pick,Nat.reduceAdd]
    refine⟨fun W' _ _ hI hD hK=> ?_,?_⟩
    ·have z0:=(hI.out.1.cell (p:=⟨g1,i*2,none⟩) fd).trans y0;have z1:=(hI.out.1.cell (p:=⟨g1,i*2+1,none⟩) fd).trans y1;go_simp;exact hK.out _ _ rfl rfl
    simp only[zad,zaa,zab,zac,Sg.pick,Nat.reduceAdd];refine⟨fun W' _ _ hI hD hK=> ?_,?_⟩
    ·skip;go_simp;refine(DO.out _ (R1.out.below hI.out.1)).mono ?_;rintro e w' ⟨rfl,b⟩;exact hK.out _ _ b rfl
    simp only[zad,zaa,zab,zac,Sg.pick,Nat.reduceAdd]
    iterate 2
     refine⟨fun W' _ _ hI hD hK=> ?_,?_⟩
     ·skip;go_simp;exact hK.out _ _ rfl rfl
     simp only[zad,zaa,zab,zac,Sg.pick,Nat.reduceAdd]
    intro W9 hI9 hD9;have I9:=qA hI9.out.1;clear hI9 hD9;replace BL:=qA (BL.out.trans (I9.out.mono gN));go_wp2;go_roundw
    case rel=>exact⟨i+1,tO,by go_num,BL.out⟩
    case measure=>(simp[intOf];omega)
   ·have bT: ¬(i:Int)<(LL.length:Int):=tO;go_wp2;go_ret;exact⟨rfl,BZ.out⟩
set_option maxRecDepth 100000 in
theorem lifted (os:Os) (started:os.Started) (H:Type) (enc:TypeId×Value→H):
  ReturnsInHanded {} Tryz.checked os 4 .any (Rows.fnOrbitsSpec.pre6 enc Tryz.prog Tryz.f4 Rows.fnOrbitsRow.domain false) (Rows.fnOrbitsSpec.post enc Tryz.prog Tryz.f4 false true false false):=by
 refine returnsInHanded_of_change (C:=Tryz.checked) own started tK Tryz.func4
  (ChangeSpec.witness6 (enc:=enc) (C:=Tryz.checked) false ⟨#[],#[.slice none 0 0],[]⟩ 8 tK tK tK tK) ?_
 intro W base args ds gs before hval0 hW hcnd _;have lY: ∀(j:Nat) t v,Tryz.f4.params[j]? =some t→args[j]? =some v→Value.okWide Tryz.prog W .any base t v:=hval0;have Ep:=hW;obtain⟨p,q,uX,hV,rfl,dE,fJ⟩:=hW;have hA:DataW.TrodAll enc Tryz.prog W 0 (fun _=>true) true Tryz.f4.params.toList args.toList ds p:=uX;rw[Tryz.params4] at hA lY;obtain⟨v0,IY,d0,Ko,p0,q0,DB,rfl,rfl,h0,r0⟩:=trodAll_cons hA;obtain⟨rfl,rfl,rfl⟩:=trodAll_nil r0;obtain rfl:args= #[v0]:=by cases args;simp_all
 obtain⟨rfl,rfl⟩:=trodVars_none hV;have k0:=h0;have EV: ∀x∈p0,x.block<W.heap.size:=by obtain⟨m,hm⟩:=k0;exact DataW.trod_lt m _ _ _ hm
 obtain⟨x0,a0⟩:=qMI (lY 0 22 v0 rfl rfl) h0;clear uX hval0;refine(walk v0 x0 W a0).mono fun e W' ⟨he,bel⟩=> ?_
 subst he;exact⟨_,rfl,_,_,_,[],_,[],Ep,trodAll_mk1 (shut_bool Tryz.underlying4 _),(trodAll_cons_mk (Below.trod qPn tK (of_decide_eq_true tK) k0 bel EV) trodAll_mk0),rfl,bel.frame _,fun h=>by cases h⟩
theorem proved:Rows.FnOrbitsSaid:=
 OpenClaim.holds_of_wide 4 Tryz.f4 rfl rfl rfl rfl rfl rfl rfl ⟨rfl,rfl,rfl,rfl,rfl⟩ rfl rfl rfl rfl rfl (by as_aux_lemma=>kernel_rfl) Tryz.func4 closed
  (of_decide_eq_true (by as_aux_lemma=>kernel_rfl)) (by unfold Func.isWrapper;first | (rw[if_pos (by decide+kernel)];kernel_rfl) | (rw[if_neg (by decide+kernel)];exact⟨rfl,rfl⟩))
  (fun os started H enc _=>lifted os started H enc)
#print axioms proved
end Go.Proofs.YtlgcflpaekbopaaGreat.fnOrbits
