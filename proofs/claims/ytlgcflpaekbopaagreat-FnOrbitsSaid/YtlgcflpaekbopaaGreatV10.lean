/- Parts of the proof: SurI, WhtG, LawE, Frame, FrameB. -/
import Derived.Test.YtlgcflpaekbopaaGreatV06
import Derived.Test.YtlgcflpaekbopaaGreatV09
import Derived.Test.YtlgcflpaekbopaaGreatV08
import Derived.Test.YtlgcflpaekbopaaGreatV01
import Derived.Test.YtlgcflpaekbopaaGreatV02
import Derived.ProofKit
import Derived.OpenShut
import Derived.ShutString
import Derived.ChangeOld
set_option maxRecDepth 100000
set_option maxHeartbeats 16000000
set_option linter.unusedVariables false
set_option linter.unusedSimpArgs false
namespace Go.Proofs.YtlgcflpaekbopaaGreat
open Go.RowKit
open _root_.List renaming take_length→zaa,take_succ_eq_append_getElem→zac,getElem_mem→zad,all_eq_true→zag
open _root_.Nat renaming le_refl→zab,zero_le→zae
open Go.Value renaming slice→zaf
open Go.RowKit.Below renaming refl→zah
open Go.World renaming drewN_drewN→zai
theorem qEC (v:Value) (L:List (List Int)) (w:World) (h:RdII w v L) (hl:L.length≤1073741824) (hn:qu L≤1073741824):
  Calls Tryz.prog 148 #[v] w fun e w'=>e= .returned (.int .i64 (qu L))∧w=w':=by
 have H:=qA h;obtain⟨A,cap,rfl,aj,hm,_⟩:=h.form;unfold maxLen at hm;clear h;go_enter Tryz.func148,Tryz.ntmps148
 go_wp2;go_loopw [3,8] (fun n i wr=> ∃k:Nat,k≤L.length∧i= .int .i64 k∧n= .int .i64 (qu (L.take k))∧w=wr) (fun _ i _=>L.length-(intOf i).toNat)
 case atStart=>exact⟨0,zae _,rfl,rfl,rfl⟩
 case round=>
  obtain⟨k,hk,rfl,rfl,rfl⟩:=hrel;by_cases ac:k<L.length
  ·obtain⟨b,off,A1,ah,rfl,hb,hc,_,_,hr⟩:=H.out.at ac;have HS:=qA (qHZ L k ac);have hs:=HS.out;have ht:=qGH L (k+1);have eL:(k:Int)<(L.length:Int):=tO;clear hr;generalize L[k]=x at*;have Gj:IntKind.i64.wrap ((qu (L.take k):Int)+(x.length:Int))=((qu (L.take k)+x.length:Nat):Int):=by rw[IntKind.wrap_i64];omega
   generalize qu (L.take k)=m at*;clear hs ht;go_wp2;go_roundw
   case rel=>exact⟨k+1,tO,by go_num,by rw[HS.out];go_num,trivial⟩
   case measure=>(first | omega | (simp[intOf];omega))
  ·obtain rfl:k=L.length:=tO
   rw[zaa];obtain⟨m,ch⟩: ∃m,m=qu L:=⟨_,rfl⟩;rw[←ch];have HM:=qA ch;clear ch;go_wp2;exact bodyPost_ret (v:= .int .i64 m) (by simp[results,Tryz.results148,go_sem]) rfl ⟨by rw[HM.out],rfl⟩
theorem qFe (r:Int) (v:Value) (L:List (List Int)) (w:World) (h:RdII w v L) (hl:L.length≤1073741824) (hn:qu L≤1073741824) (hx: ∀x∈L,x.length≤1073741824):
  Calls Tryz.prog 124 #[.int .i64 r,v] w fun e w'=>e= .returned (.bool (areW r L))∧w=w':=by
 have H:=qA h;have HX:=qA hx;obtain⟨A,cap,rfl,aj,hm,_⟩:=h.form;unfold maxLen at hm;have HR:Hid (areW r L=(L.all (qY r)&&(inB r 1 3&&(decide (L.length≤6)&&decide (qu L<40))))):=qA rfl;generalize areW r L=res at*;clear h hx;have cM:=qA (fun W=>qX r 1 3 W);rcases e1:inB r 1 3 with _ | _
 ·rw[e1] at cM;have HF:Hid (res=false):=qA (by rw[HR.out,e1];simp);clear e1;go_enter Tryz.func124,Tryz.ntmps124
  go_wp2_with (go_at_call 56;refine(cM.out _).mono ?_;rintro e w' ⟨rfl,rfl⟩)
  rw[HF.out];exact bodyPost_ret (v:= .bool false) (by simp[results,Tryz.results124,go_sem]) rfl ⟨rfl,rfl⟩
 rw[e1] at cM;by_cases h6:L.length≤6
 ·have sY: ¬(6:Int)<(L.length:Int):=tO;have jP:Hid (res=(L.all (qY r)&&decide (qu L<40))):=qA (by rw[HR.out,e1,decide_eq_true h6];simp);clear e1;go_enter Tryz.func124,Tryz.ntmps124
  go_wp2_with (go_at_call 56;refine(cM.out _).mono ?_;rintro e w' ⟨rfl,rfl⟩)
  go_loopw [17] (fun i wr=> ∃k:Nat,k≤L.length∧i= .int .i64 k∧(∀x∈L.take k,qY r x=true)∧w=wr) (fun i _=>L.length-(intOf i).toNat)
  case atStart=>exact⟨0,zae _,rfl,by simp,rfl⟩
  case round=>
   obtain⟨k,hk,rfl,dy,rfl⟩:=hrel;have di:=qA dy;clear dy;by_cases ac:k<L.length
   ·obtain⟨b,off,A1,ah,rfl,hb,hc,_,_,hr⟩:=H.out.at ac;have HT:Hid (L.take (k+1)=L.take k++ [L[k]]):=qA (zac ac);have HM:=qA (zad ac);have gR:=qA hr;have eL:(k:Int)<(L.length:Int):=tO;clear hr;generalize L[k]=x at*;have cX:=HX.out x HM.out;rcases e1:qY r x with _ | _
    ·have HE:=qA fun w (h:ArgI w (.slice A1 x.length ah) x)=>qz r _ x w h cX;rw[e1] at HE;have HF:Hid (res=false):=qA (by
      rw[jP.out];have:L.all (qY r)=false:=by
       rw[List.all_eq_false];exact⟨x,HM.out,by simp[e1]⟩
      rw[this];rfl)
     clear e1 cX;go_wp2_with (go_at_call 72;refine(HE.out _ gR.out.arg).mono ?_;rintro e w1 ⟨rfl,rfl⟩)
     rw[HF.out];exact bodyPost_ret (v:= .bool false) (by simp[results,Tryz.results124,go_sem]) rfl ⟨rfl,rfl⟩
    ·have HE:=qA fun w (h:ArgI w (.slice A1 x.length ah) x)=>qz r _ x w h cX;rw[e1] at HE;have HW:=qA e1;clear e1 cX;go_wp2_with (go_at_call 72;refine(HE.out _ gR.out.arg).mono ?_;rintro e w1 ⟨rfl,rfl⟩)
     go_roundw
     case rel=>exact⟨k+1,tO,by go_num,fun y hy=>by
      rw[HT.out] at hy;rcases List.mem_append.1 hy with hy | hy
      ·exact di.out y hy
      ·rw[List.mem_singleton.1 hy];exact HW.out,trivial⟩
     case measure=>(first | omega | (simp[intOf];omega))
   ·obtain rfl:k=L.length:=tO
    have HA:Hid (L.all (qY r)=true):=qA (by rw[zag];have:=di.out;rwa [zaa] at this);have HF:Hid (res=decide (qu L<40)):=qA (by rw[jP.out,HA.out,Bool.true_and]);have Ad:=qA (fun w (h:RdII w (.slice A L.length cap) L)=>qEC _ L w h hl hn);clear HA HR jP;generalize qu L=m at*;go_wp2_with (go_at_call 148;refine(Ad.out _ H.out).mono ?_;rintro e w' ⟨rfl,rfl⟩)
    rw[HF.out];by_cases jn:m<40
    ·have il:(m:Int)<40:=tO;exact bodyPost_ret (v:= .bool true) (by simp[results,Tryz.results124,go_sem,il]) rfl ⟨by rw[decide_eq_true jn],rfl⟩
    ·have il: ¬(m:Int)<40:=tO;exact bodyPost_ret (v:= .bool false) (by simp[results,Tryz.results124,go_sem,il]) rfl ⟨by rw[decide_eq_false jn],rfl⟩
 ·have sY:(6:Int)<(L.length:Int):=tO;have HF:Hid (res=false):=qA (by rw[HR.out,decide_eq_false h6];simp);clear e1;go_enter Tryz.func124,Tryz.ntmps124
  go_wp2_with (go_at_call 56;refine(cM.out _).mono ?_;rintro e w' ⟨rfl,rfl⟩)
  rw[HF.out];exact bodyPost_ret (v:= .bool false) (by simp[results,Tryz.results124,go_sem]) rfl ⟨rfl,rfl⟩
theorem qFc (r:Int) (w:World) (hr:1≤r∧r≤3):
  Calls Tryz.prog 125 #[.int .i64 r] w fun x w'=> ∃rv,x= .returned (.tuple #[rv, .bool true])∧OwG w' w.heap.size rv (r,1,[])∧Below w.heap.size w w':=by
 have cM:=qA (fun W=>qX r 1 3 W);rw[qP.2 hr] at cM;go_enter Tryz.func125,Tryz.ntmps125
 go_wp2_with (go_at_call 56;refine(cM.out _).mono ?_;rintro e w' ⟨rfl,rfl⟩)
 refine bodyPost_ret (v:= .tuple #[.agg #[.int .i64 r, .int .i64 1, .slice none 0 0], .bool true]) (by simp[results,Tryz.results125,go_sem]) rfl ⟨_,rfl,⟨_,rfl,⟨tO,tO⟩,⟨by show _≤(1:Int);omega,by show(1:Int)≤_;omega⟩,OwE.nil⟩,(by repeat(first | exact .refl _ _ | (refine BxS ?_ _) | (refine qB ?_ _) | (refine Below.drew ?_) | (refine BxA ?_ _)))⟩
theorem qFY (v y:Value) (g:GrD) (t:List Int) (w:World) (h:ArgG w v g) (ht:RdI w y t) (hg:grB g=true) (hw:qY g.1 t=true) (h0:t.length≠0) (hl:t.length≤1073741824):
  Calls Tryz.prog 126 #[v,y] w fun x w'=> ∃r b,x= .returned (.tuple #[r, .bool b])∧OwG w' w.heap.size r (petG g t)∧Below w.heap.size w w':=by
 have hn:=(qR hg).2.1;have HP:Hid ((if qCU g t=true then addG g 0 0 t else g)=petG g t):=qA (by
  have:petG g t=if qCU g t=true then addG g 0 0 t else g:=by
   unfold petG;rw[if_neg (show ¬t= [] from fun e=>h0 (by rw[e];rfl))]
  exact this.symm)
 have HA:=qA (fun W v y (h:ArgG W v g) (ht:RdI W y t)=>qGc v y g 0 0 t W h ht hg ⟨tO,tO⟩ ⟨tO,tO⟩ hw h0 hl);rw[HP.out] at HA;have HG:=qA h;have HY:=qA ht;obtain⟨s,rfl,bg,bH,ha⟩:=h;obtain⟨A,c,rfl⟩:=ha.form;obtain⟨A',c',rfl,_⟩:=ht.arg;obtain⟨g1,g2,gs⟩:=g;simp only at*
 generalize qCU (g1,g2,gs) t=ok at*;generalize petG (g1,g2,gs) t=pg at*;clear ha ht hg hw h0 hn HP;obtain⟨w1,aL⟩: ∃W,W=w.alloc (.cells #[.int .i64 g1,.int .i64 g2, .slice A gs.length c] 82):=⟨_,rfl⟩;obtain⟨x1,b1,s1⟩:=CBx.new aL;obtain⟨w2,nG⟩: ∃W,W=w1.alloc (.cells #[.int .i64 0,.int .i64 0, .slice none 0 0] 82):=⟨_,rfl⟩;obtain⟨x2,b2,s2⟩:=CBx.new nG;rw[s1] at x2;have BW:=qA (b1.trans (b2.mono b1.size));have X2:=qA x2;replace HG:=qA (HG.out.below BW.out);replace HY:=qA (HY.out.below BW.out);clear x1 x2 b1 b2 s1 s2;go_enter Tryz.func126,Tryz.ntmps126
 go_wp2_with fail;rw[←aL,←nG];clear aL nG;refine(HA.out _ _ _ HG.out HY.out).mono ?_
 rintro e w3 ⟨rv,rfl,⟨s3,rfl,i1,i2,o3⟩,b3⟩;have hs:=BW.out.size;obtain⟨A3,c3,rfl,_⟩:=o3.form;have O3:=qA (o3.mono hs);obtain⟨p1,p2,ps⟩:=pg;simp only at*
 have X3:=X2.out.below b3;obtain⟨e0,e1,e2⟩:=X3.cs;have f0:=X3.fz;have ac:=X3.lt;have bk:Hid (∀b,(zaf A3 ps.length c3).ownBlock=some b→b≠w.heap.size+1):=qA fun b hb=>by
  have:=(o3.1.lt b hb).1
  have:=X2.out.lt
  omega
 have B3:=qA (BW.out.trans (b3.mono hs));clear o3 b3 X3;go_wp2;refine bodyPost_ret (v:= .tuple #[.agg #[.int .i64 p1, .int .i64 p2, .slice A3 ps.length c3], .bool ok]) (by simp[results,Tryz.results126,go_sem,e0,e1,e2,ac]) rfl ⟨_,_,rfl,⟨_,rfl,i1,i2,?_⟩,qp _ _ _ B3.out tO⟩;exact O3.out.keep fun b hb=>qAP _ _ _ _ _ (bk.out b hb)
theorem qFd (r:Int) (v:Value) (L:List (List Int)) (w:World) (h:RdII w v L) (hl:L.length≤1073741824) (hn:qu L≤1073741824) (hx: ∀x∈L,x.length≤1073741824) (hr:I64 r):
  Calls Tryz.prog 104 #[.int .i64 r,v] w fun x w'=> ∃rv,x= .returned (.tuple #[rv, .bool (areW r L)])∧OwG w' w.heap.size rv (if areW r L=true then floF r L else(0,0,[]))∧Below w.heap.size w w':=by
 have iC:=qA (fun W (h:RdII W v L)=>qFe r v L W h hl hn hx);obtain⟨w1,aL⟩: ∃W,W=w.alloc (.cells #[.int .i64 0,.int .i64 0, .slice none 0 0] 82):=⟨_,rfl⟩;obtain⟨x1,b1,s1⟩:=CBx.new aL;have X1:=qA x1;have BW:=qA b1;have H:=qA (h.below b1);have H0:=qA h;obtain⟨A,cap,rfl,aj,hm,_⟩:=h.form;unfold maxLen at hm;obtain⟨e0,e1,e2⟩:=x1.cs;have f0:=x1.fz;have eY:=x1.lt;have pV:w.heap.size≤w1.heap.size:=tO;clear h x1 b1 s1;rcases ea:areW r L with _ | _
 ·rw[ea] at iC;clear ea;go_enter Tryz.func104,Tryz.ntmps104
  go_wp2_with fail;rw[←aL];clear aL;refine(iC.out _ H.out).mono ?_
  rintro e w2 ⟨rfl,rfl⟩;go_wp2;exact bodyPost_ret (v:= .tuple #[.agg #[.int .i64 0, .int .i64 0, .slice none 0 0], .bool false]) (by simp[results,Tryz.results104,go_sem,e0,e1,e2,eY]) rfl ⟨_,rfl,⟨_,rfl,⟨by show _≤(0:Int);omega,by show(0:Int)≤_;omega⟩,⟨by show _≤(0:Int);omega,by show(0:Int)≤_;omega⟩,OwE.nil⟩,qp _ _ _ BW.out (zab _)⟩
 rw[ea] at iC;obtain⟨jI,cS,IV,zI⟩:=qFL ea;clear ea;have tV:=qA jI;have jH:=qA (fun k hk=>qKR cS jI k hk);have rb:=qA (fun W=>qFc r W cS);clear jI;go_enter Tryz.func104,Tryz.ntmps104
 go_wp2_with fail;rw[←aL];clear aL;refine(iC.out _ H.out).mono ?_
 rintro e w2 ⟨rfl,rfl⟩;clear e0 e1 e2 f0;go_wp2_with fail;refine(rb.out _).mono ?_
 rintro e w2 ⟨rv,rfl,⟨s2,rfl,i1,i2,o2⟩,b2⟩;obtain⟨A2,c2,rfl,_⟩:=o2.form;simp only at*
 obtain⟨w3,fX⟩: ∃W,W=w2.alloc (.cells #[.int .i64 r,.int .i64 1, .slice A2 0 c2] 82):=⟨_,rfl⟩;have g3:=GBx.new (m:=(r,1,[])) o2 i1 i2 fX;obtain⟨-,b3,s3⟩:=CBx.new fX;have bK:=b2.size;have G3:=qA (g3.mono (base':=w.heap.size+1) eY);replace X1:=qA ((X1.out.below b2).below b3);replace H:=qA ((H.out.below b2).below b3);replace BW:=qA ((BW.out.trans (b2.mono pV)).trans (b3.mono tO));clear o2 i1 i2 b2 b3 g3;go_wp2_with fail;rw[←fX];clear fX;have Df:w.heap.size<w2.heap.size:=tO;have dd:w2.heap.size<w3.heap.size:=tO;clear s3;generalize w2.heap.size=p at*;go_loopw [22] (fun iv wr=> ∃(k:Nat) (A':Option Addr) (c':Nat),k≤L.length∧iv= .int .i64 k∧GBx wr p (w.heap.size+1) A' c' ((L.take k).foldl petG (r,1,[]))∧Below p w3 wr∧w3.heap.size≤wr.heap.size)
  (fun iv _=>L.length-(intOf iv).toNat)
 case atStart=>exact⟨0,A2,c2,zae _,rfl,by simpa using G3.out,zah _ _,zab _⟩
 case round=>
  obtain⟨k,A5,c5,hk,rfl,bn,bC,tL⟩:=hrel;have G5:=qA bn;have B5:=qA bC;have dl:=qA (BW.out.trans (bC.mono tO));replace X1:=qA (X1.out.belowAt bC tO);clear bn bC;by_cases ac:k<L.length
  ·have bT:(k:Int)<(L.length:Int):=tO;obtain⟨bF,uc⟩:=jH.out k hk;have HW:=tV.out _ (zad ac);have cX:=hx _ (zad ac);have HS:Hid ((L.take (k+1)).foldl petG (r,1,[])=petG ((L.take k).foldl petG (r,1,[])) L[k]):=qA (by
    rw[zac ac,List.foldl_append];rfl)
   obtain⟨b,off,A1,ah,rfl,hb,hc,_,_,d8⟩:=(H0.out.below dl.out).at ac;have RD:=qA d8;clear d8;generalize L[k]=t at*;generalize (L.take k).foldl petG (r,1,[])=g at*;obtain⟨g1,g2,gs⟩:=g;obtain⟨u0,u1,u2⟩:=G5.out.cs;have Ga:=G5.out.lt;simp only at u0 u1 u2 uc
   subst uc;have jp:IntKind.i64.wrap ((k:Int)+1)=((k+1:Nat):Int):=by rw[IntKind.wrap_i64];omega
   by_cases h0:t.length=0
   ·have ht:t= []:=List.eq_nil_of_length_eq_zero h0;have kM:Hid ((L.take (k+1)).foldl petG (g1,1,[])=(g1,g2,gs)):=qA (by rw[HS.out];unfold petG;rw[if_pos ht]);have kP: ¬(0:Int)<(t.length:Int):=tO;clear HS ht bF;go_wp2;go_roundw
    case rel=>exact⟨k+1,A5,c5,tO,by go_num,by rw[kM.out];exact G5.out,B5.out,tL⟩
    case measure=>(first | omega | (simp[intOf];omega))
   ·have kP:(0:Int)<(t.length:Int):=tO;have HP:=qA (fun W u (h:ArgG W u (g1,g2,gs)) (h':RdI W (.slice A1 t.length ah) t)=>qFY u _ (g1,g2,gs) t W h h' bF HW h0 cX);clear bF;go_wp2_with fail;refine(HP.out _ _ G5.out.arg RD.out).mono ?_
    rintro e w6 ⟨rv,bb,rfl,⟨s6,rfl,i1,i2,o6⟩,b6⟩;obtain⟨A6,c6,rfl,_⟩:=o6.form;have G6:=qA (G5.out.below b6);have fU:=b6.size;have bk:Hid (∀b,(zaf A6 (petG (g1,g2,gs) t).2.2.length c6).ownBlock=some b→b≠p):=qA fun b hb=>by
     have:=(o6.1.lt b hb).1
     omega
    have O6:=qA (o6.mono (base':=w.heap.size+1) tO);have B6:=qA (B5.out.trans (b6.mono tO));clear o6 b6 u0 u1 u2 HP;generalize petG (g1,g2,gs) t=pg at*;obtain⟨p1,p2,ps⟩:=pg;simp only at*
    obtain⟨u0,u1,u2⟩:=G6.out.cs;have uf:=G6.out.fz;have jh:=G6.out.lt;simp only at u0 u1 u2
    go_wp2;go_roundw
    case rel=>exact⟨k+1,A6,c6,tO,by go_num,by rw[HS.out];exact GBx.set (m:=(p1,p2,ps)) G6.out O6.out bk.out i1 i2,qp _ _ _ B6.out (zab _),by simp;omega⟩
    case measure=>(first | omega | (simp[intOf];omega))
  ·obtain rfl:k=L.length:=tO
   have bT: ¬(L.length:Int)<(L.length:Int):=tO;rw[zaa] at G5;have HF:Hid (L.foldl petG (r,1,[])=floF r L):=qA rfl;generalize L.foldl petG (r,1,[])=g at*;obtain⟨g1,g2,gs⟩:=g;obtain⟨u0,u1,u2⟩:=G5.out.cs;simp only at u0 u1 u2
   obtain⟨e0,e1,e2⟩:=X1.out.cs;have ef:=X1.out.fz;have eY:=X1.out.lt;have D9: ∀b,(zaf A5 gs.length c5).ownBlock=some b→b≠w.heap.size:=fun b hb=>by
    have:=(G5.out.ow.1.lt b hb).1
    omega
   have Iv:=qA D9;clear D9;go_wp2;refine bodyPost_ret (v:= .tuple #[.agg #[.int .i64 g1, .int .i64 g2, .slice A5 gs.length c5], .bool true]) (by simp[results,Tryz.results104,go_sem,e0,e1,e2,eY]) rfl ⟨_,rfl,⟨_,by rw[←HF.out],by rw[←HF.out];exact G5.out.i1,by rw[←HF.out];exact G5.out.i2,?_⟩,qp _ _ _ dl.out (zab _)⟩;rw[←HF.out];exact(G5.out.ow.mono (Nat.le_succ _)).keep fun b hb=>qAP _ _ _ _ _ (Iv.out b hb)
def subF (r:Int) (L:List (List Int)):GrD:=if areW r L=true then qGv (floF r L) else(0,0,[])
theorem qEH (r:Int) (v:Value) (L:List (List Int)) (w:World) (h:RdII w v L) (hl:L.length≤1073741824) (hn:qu L≤1073741824) (hx: ∀x∈L,x.length≤1073741824) (hr:I64 r):
  Calls Tryz.prog 67 #[.int .i64 r,v] w fun x w'=> ∃rv,x= .returned (.tuple #[rv, .bool (areW r L)])∧OwG w' w.heap.size rv (subF r L)∧Below w.heap.size w w':=by
 have ll:=qA (fun W (h:RdII W v L)=>qFd r v L W h hl hn hx hr);obtain⟨w1,aL⟩: ∃W,W=w.alloc (.cells #[.int .i64 0,.int .i64 0, .slice none 0 0] 82):=⟨_,rfl⟩;obtain⟨x1,b1,s1⟩:=CBx.new aL;have X1:=qA x1;have BW:=qA b1;have H:=qA (h.below b1);obtain⟨A,cap,rfl,_⟩:=h.form;have eY:=x1.lt;have pV:w.heap.size≤w1.heap.size:=tO;clear h x1 b1 s1;have HS:Hid (subF r L=if areW r L=true then qGv (floF r L) else(0,0,[])):=qA rfl;have aD:Hid (areW r L=true→grB (floF r L)=true):=qA qMw;generalize subF r L=sg at*;generalize areW r L=ok at*;go_enter Tryz.func67,Tryz.ntmps67
 go_wp2_with fail;rw[←aL];clear aL;refine(ll.out _ H.out).mono ?_
 rintro e w2 ⟨rv,rfl,⟨s2,rfl,i1,i2,o2⟩,b2⟩;obtain⟨A2,c2,rfl,_⟩:=o2.form;have bK:=b2.size;have O2:=qA o2;replace X1:=qA (X1.out.below b2);replace BW:=qA (BW.out.trans (b2.mono pV));clear o2 b2 ll H;cases ok
 ·simp only[Bool.false_eq_true,if_false,List.length_nil] at i1 i2 O2 HS⊢;clear aD;obtain⟨w3,fX⟩: ∃W,W=w2.alloc (.cells #[.int .i64 0,.int .i64 0, .slice A2 0 c2] 82):=⟨_,rfl⟩;obtain⟨x3,b3,s3⟩:=CBx.new fX;have e:=X1.out.below b3;obtain⟨e0,e1,e2⟩:=e.cs;have ef:=e.fz;have elt:=e.lt;have Db:=qA (BW.out.trans (b3.mono tO));rw[fX] at e0 e1 e2 ef elt Db;clear x3 b3 s3 e i1 i2 O2 X1 fX;go_wp2;exact bodyPost_ret (v:= .tuple #[.agg #[.int .i64 0, .int .i64 0, .slice none 0 0], .bool false]) (by simp[results,Tryz.results67,go_sem,e0,e1,e2,elt]) rfl ⟨_,rfl,by rw[HS.out];exact⟨_,rfl,⟨by show _≤(0:Int);omega,by show(0:Int)≤_;omega⟩,⟨by show _≤(0:Int);omega,by show(0:Int)≤_;omega⟩,OwE.nil⟩,qp _ _ _ Db.out (zab _)⟩
 ·simp only[if_true] at i1 i2 O2 HS⊢;have bF:=aD.out rfl;clear aD;have jD:=qA (fun W u (h:ArgG W u (floF r L))=>qFM u _ W h bF);clear bF;generalize qGv (floF r L)=cg at*;generalize floF r L=fg at*;obtain⟨g1,g2,gs⟩:=fg;simp only at*
  obtain⟨w3,fX⟩: ∃W,W=w2.alloc (.cells #[.int .i64 g1,.int .i64 g2, .slice A2 gs.length c2] 82):=⟨_,rfl⟩;have g3:=GBx.new (m:=(g1,g2,gs)) O2.out i1 i2 fX;obtain⟨-,b3,s3⟩:=CBx.new fX;have G3:=qA g3;replace X1:=qA (X1.out.below b3);replace BW:=qA (BW.out.trans (b3.mono tO));clear g3 b3 s3 i1 i2 O2;go_wp2_with fail;rw[←fX];clear fX;obtain⟨u0,u1,u2⟩:=G3.out.cs;simp only at u0 u1 u2
  go_wp2_with fail;refine(jD.out _ _ G3.out.arg).mono ?_
  rintro e w4 ⟨rv,rfl,⟨s4,rfl,i1,i2,o4⟩,b4⟩;obtain⟨A4,c4,rfl,_⟩:=o4.form;have mV:=BW.out.size;have O4:=qA (o4.mono mV);have bk:Hid (∀b,(zaf A4 cg.2.2.length c4).ownBlock=some b→b≠w.heap.size):=qA fun b hb=>by
   have:=(o4.1.lt b hb).1
   have:=X1.out.lt
   omega
  have e:=X1.out.below b4;obtain⟨e0,e1,e2⟩:=e.cs;have ef:=e.fz;have elt:=e.lt;have Gq:=qA (BW.out.trans (b4.mono mV));clear o4 b4 e u0 u1 u2 jD;obtain⟨p1,p2,ps⟩:=cg;simp only at*
  go_wp2;refine bodyPost_ret (v:= .tuple #[.agg #[.int .i64 p1, .int .i64 p2, .slice A4 ps.length c4], .bool true]) (by simp[results,Tryz.results67,go_sem,e0,e1,e2,elt]) rfl ⟨_,rfl,by rw[HS.out];exact⟨_,rfl,i1,i2,O4.out.keep fun b hb=>qAP _ _ _ _ _ (bk.out b hb)⟩,qp _ _ _ Gq.out (zab _)⟩
def surB (d:MoD):Bool:=morB d&&(areW d.1 d.2&&qCA (subF d.1 d.2))
theorem qDh (v:Value) (d:MoD) (w:World) (h:ArgM w v d) (hl:d.2.length≤1073741824) (hn:qu d.2≤1073741824) (hx: ∀x∈d.2,x.length≤1073741824):
  Calls Tryz.prog 16 #[v] w fun e w'=>e= .returned (.bool (surB d))∧Below w.heap.size w w':=by
 have HM:=qA (fun W (h:ArgM W v d)=>qEN v d W h hx);have H:=qA h;obtain⟨s,rfl,hr,ha⟩:=h;obtain⟨r,L⟩:=d;have HL:=qA ha;obtain⟨A,c,rfl,_⟩:=ha.form;simp only at hr HL
 have jl:=qA (fun W (h:RdII W (.slice A L.length c) L)=>qEH r _ L W h hl hn hx hr);obtain⟨w1,aL⟩: ∃W,W=w.alloc (.cells #[.int .i64 r,zaf A L.length c] 31):=⟨_,rfl⟩;obtain⟨x1,b1,s1⟩:=MBx.new aL;have X:=qA x1;have BW:=qA b1;replace H:=qA (H.out.below b1);replace HL:=qA (HL.out.below b1);have F:Hid (surB (r,L)=(morB (r,L)&&(areW r L&&qCA (subF r L)))):=qA rfl;have e0:=x1.c0;have e1:=x1.c1;clear ha x1 b1 s1 hr;generalize surB (r,L)=res at*;generalize morB (r,L)=mb at*;cases mb
 ·go_enter Tryz.func16,Tryz.ntmps16
  go_wp2_with fail;rw[←aL];clear aL;refine(HM.out _ H.out).mono ?_
  rintro e w2 ⟨rfl,b2⟩;have B2:=qA (BW.out.trans (b2.mono BW.out.size));clear b2;go_wp2;go_ret;exact⟨qC (by rw[F.out];rfl),B2.out⟩
 ·go_enter Tryz.func16,Tryz.ntmps16
  go_wp2_with fail;rw[←aL];clear aL;refine(HM.out _ H.out).mono ?_
  rintro e w2 ⟨rfl,b2⟩;have B2:=qA (BW.out.trans (b2.mono BW.out.size));replace X:=qA (X.out.below b2);replace HL:=qA (HL.out.below b2);clear b2 e0 e1 HM H;have e0:=X.out.c0;have e1:=X.out.c1;go_wp2_with fail;refine(jl.out _ HL.out).mono ?_
  rintro e w3 ⟨rv,rfl,⟨s3,rfl,i1,i2,o3⟩,b3⟩;obtain⟨A3,c3,rfl,_⟩:=o3.form;have O3:=qA o3;have B3:=qA (B2.out.trans (b3.mono B2.out.size));have zg:=qA (fun W u (h:ArgG W u (subF r L))=>qGD u _ W h);generalize subF r L=sg at*;generalize areW r L=ok at*;clear o3 b3 e0 e1 jl X HL;obtain⟨g1,g2,gs⟩:=sg;simp only at*
  obtain⟨w4,je⟩: ∃W,W=w3.alloc (.cells #[.int .i64 g1,.int .i64 g2, .slice A3 gs.length c3] 82):=⟨_,rfl⟩;have g4:=GBx.new (m:=(g1,g2,gs)) O3.out i1 i2 je;obtain⟨-,b4,s4⟩:=CBx.new je;have G4:=qA g4;have B4:=qA (B3.out.trans (b4.mono B3.out.size));clear g4 b4 s4 i1 i2 O3;cases ok
  ·go_wp2_with fail;rw[←je];clear je;go_wp2;go_ret;exact⟨qC (by rw[F.out];rfl),B4.out⟩
  ·obtain⟨u0,u1,u2⟩:=G4.out.cs;simp only at u0 u1 u2
   rw[je] at u0 u1 u2;go_wp2_with fail;rw[←je];refine(zg.out _ _ G4.out.arg).mono ?_
   rintro e w5 ⟨rfl,b5⟩;have B5:=qA (B4.out.trans (b5.mono B4.out.size));clear b5 u0 u1 u2 je;generalize qCA (g1,g2,gs)=wb at*;go_wp2;go_ret;exact⟨qC (by rw[F.out];rfl),B5.out⟩
def chkS (n:Nat) (d:WhD):Bool:=surB ((n:Int),qAi d n)
theorem qOj:(List.range 4).all (fun n=>(qh n).all (chkS n))=true:=by kernel_rfl
theorem qQU {r:Int} {d:WhD} (h:whB r d=true):surB (whM r d)=true:=by
 obtain⟨n,rfl,h1,h3,hl⟩:=qQJ h;have hn:n∈List.range 4:=List.mem_range.2 tO;have ht:=zag.1 (zag.1 qOj n hn) _ (qQH h1 h3 hl);unfold chkS at ht;rw[qNW (n:=n) (d:=d) (e:=twin n d) rfl (fun x hx=>qOA h hx) n (zab _)] at ht;unfold whM;rw[if_pos h,Int.toNat_natCast];exact ht
theorem qOE {w:World} {b o:Nat} {v:Value} (h:w.cell? ⟨b,o,none⟩=some v):b<w.heap.size:=by
 rcases Nat.lt_or_ge b w.heap.size with h' | h'
 ·exact h'
 ·simp[World.cell?,Array.getElem?_eq_none h'] at h
theorem ArgC.below {w w':World} {v:Value} {cs:List Int} (h:ArgC w v cs) (hb:Below w.heap.size w w'):ArgC w' v cs:=by
 obtain⟨A,cap,hv,h1,h2,h3,h4⟩:=h;refine⟨A,cap,hv,h1,h2,h3,fun h0=> ?_⟩;obtain⟨b,off,hA,hc⟩:=h4 h0;exact⟨b,off,hA,fun i hi=>(World.cell?_of_block (w:=w) (hb.block b (qOE (hc 0 h0)))).trans (hc i hi)⟩
theorem qFV (v u:Value) (xs ys:List Int) (w:World) (h:ArgI w v xs) (h':ArgI w u ys):
  Calls Tryz.prog 23 #[v,u] w fun e w'=>e= .returned (.bool (decide (xs=ys)))∧ ∃n,w'=w.drewN n:=by
 obtain⟨A,cap,rfl,aj,hm,hr,hb⟩:=h;obtain⟨A',cap',rfl,cV,ch,mW,aE⟩:=h';unfold maxLen at hm ch;by_cases ai:xs.length=ys.length
 ·have hd:((xs.length:Int) != (ys.length:Int))=false:=by simp[ai]
  have bk:=qA ai;clear ai;go_enter Tryz.func23,Tryz.ntmps23
  go_wp2;go_loopw [5] (fun i wr=> ∃k:Nat,k≤xs.length∧i= .int .i64 k∧xs.take k=ys.take k∧ ∃n,wr=w.drewN n) (fun i _=>xs.length-(intOf i).toNat)
  case atStart=>exact⟨0,zae _,rfl,by simp,0,rfl⟩
  case round=>
   obtain⟨k,hk,rfl,cP,n,rfl⟩:=hrel;have bN:=qA cP;clear cP;by_cases ac:k<xs.length
   ·obtain⟨b,off,rfl,hc⟩:=hb tO;have an:k<ys.length:=by have:=bk.out;omega
    obtain⟨b',off',rfl,cH⟩:=aE tO;have ae:=hc k ac;have aB:=cH k an;clear hc cH hb aE;by_cases hx:xs[k]=ys[k]
    ·have aQ:(xs[k] != ys[k])=false:=by simp[hx]
     have HX:=qA hx;clear hx;go_wp2;go_quiet (fail)
     go_wp2;go_roundw
     case rel=>exact⟨k+1,tO,by go_num,qAn bN.out ac an HX.out,_,rfl⟩
     case measure=>simp[intOf];omega
    ·have aQ:(xs[k] != ys[k])=true:=by simp[hx]
     go_wp2;go_quiet (fail)
     go_wp2;go_ret;exact⟨qC (by symm;rw[decide_eq_false_iff_not];rintro rfl;exact hx rfl),_,zai _ _ _⟩
   ·obtain rfl:k=xs.length:=tO
    go_wp2;go_ret;refine⟨qC ?_,n,rfl⟩;have h1:=bN.out;rw[zaa,bk.out,zaa] at h1;simp[h1]
 ·have hd:((xs.length:Int) != (ys.length:Int))=true:=by simp;omega
  go_enter Tryz.func23,Tryz.ntmps23
  go_wp2;go_ret;exact⟨qC (by symm;rw[decide_eq_false_iff_not];rintro rfl;exact ai rfl),0,rfl⟩
theorem qHk (v u:Value) (ds ds':List (List Int)) (w:World) {lo hi lo' db:Nat} (h:OIIs lo hi v ds w) (h':OIIs lo' db u ds' w) (hh:hi≤w.heap.size) (pW:db≤w.heap.size):
  Calls Tryz.prog 41 #[v,u] w fun e w'=>e= .returned (.bool (decide (ds=ds')))∧Below w.heap.size w w':=by
 obtain⟨A,cap,rfl,aj,hm,_⟩:=h.len;obtain⟨A',cap',rfl,cV,ch,_⟩:=h'.len;have H:=qA h;have H':=qA h';unfold maxLen at hm ch;clear h h';by_cases ai:ds.length=ds'.length
 ·have hd:((ds.length:Int) != (ds'.length:Int))=false:=by simp[ai]
  have bk:=qA ai;clear ai;go_enter Tryz.func41,Tryz.ntmps41
  go_wp2;go_loopw [5] (fun i wr=> ∃k:Nat,k≤ds.length∧i= .int .i64 k∧ds.take k=ds'.take k∧Below w.heap.size w wr) (fun i _=>ds.length-(intOf i).toNat)
  case atStart=>exact⟨0,zae _,rfl,by simp,zah _ _⟩
  case round=>
   obtain⟨k,hk,rfl,cP,aa⟩:=hrel;have bN:=qA cP;have HB:=qA aa;have ak:=aa.size;by_cases ac:k<ds.length
   ·have an:k<ds'.length:=by have:=bk.out;omega
    obtain⟨g,cs,Fe,rfl,_,hg,hE,gO,_,_,hc,_⟩:=(H.out.keep EI.stable (w':=wr) fun b _ hb=>aa.block b tO).focus EI.stable ac;obtain⟨g',cs',Fe',rfl,_,CQ,l5,FH,_,_,cH,_⟩:=(H'.out.keep EI.stable (w':=wr) fun b _ hb=>aa.block b tO).focus EI.stable an;obtain⟨s,rfl,ho,_⟩:=hE;obtain⟨s',rfl,bi,_⟩:=l5;have c0:=hc 0 (by simp);have vY:=cH 0 (by simp);simp only[List.getElem_cons_zero,Nat.add_zero,Nat.mul_one] at c0 vY;have HQ:Hid (ds.take (k+1)=ds'.take (k+1)↔ds[k]=ds'[k]):=qA ⟨fun e=>by
     have:=congrArg (fun l=>l[k]?) e
     simpa[ac,an] using this,fun e=>qAn bN.out ac an e⟩
    have HN:Hid (ds[k]≠ds'[k]→ds≠ds'):=qA (fun e1 e2=>by subst e2;exact e1 rfl);have X1:=qA ho;have X2:=qA bi;have mE:g<wr.heap.size:=tO;have GJ:g'<wr.heap.size:=tO;clear hc cH cP aa ho bi;generalize ds[k]=d at*;generalize ds'[k]=d' at*;obtain⟨A2,c2,rfl,_⟩:=OwI.form X1.out;obtain⟨A3,c3,rfl,_⟩:=OwI.form X2.out;go_wp2_with fail;go_quiet ((go_at_call 23;exact(qFV _ _ d d' _ (X1.out.arg.drewN _) (X2.out.arg.drewN _)).mono fun _ _ ⟨he,n,hn⟩=>⟨he,by rw[hn];exact⟨_,zai _ _ _⟩⟩))
    rcases e2:decide (d=d') with _ | _
    ·go_wp2;go_ret;exact⟨qC (by symm;rw[decide_eq_false_iff_not];exact HN.out (by simpa using e2)),qB HB.out _⟩
    ·go_wp2;go_roundw
     case rel=>exact⟨k+1,tO,by go_num,HQ.out.2 (by simpa using e2),qB HB.out _⟩
     case measure=>simp[intOf];omega
   ·obtain rfl:k=ds.length:=tO
    go_wp2;go_ret;refine⟨qC ?_,HB.out⟩;have h1:=bN.out;rw[zaa,bk.out,zaa] at h1;simp[h1]
 ·have hd:((ds.length:Int) != (ds'.length:Int))=true:=by simp;omega
  go_enter Tryz.func41,Tryz.ntmps41
  go_wp2;go_ret;exact⟨qC (by symm;rw[decide_eq_false_iff_not];rintro rfl;exact ai rfl),zah _ _⟩
theorem qMb (v:Value) (cs:List Int) (i:Nat) (w:World) (h:ArgC w v cs) (hl:cs.length≤1048576) (hi:i≤1000):
  Calls Tryz.prog 18 #[v, .int .i64 i] w fun e w'=> ∃x:Int,e= .returned (.int .i64 x)∧(0≤x∧x≤255)∧w=w':=by
 obtain⟨A,cap,rfl,aj,hm,jK,a8⟩:=h;unfold maxLen at hm;by_cases ac:i<cs.length
 ·obtain⟨b,off,rfl,hc⟩:=a8 tO;have ae:=hc i ac;have hz:=jK _ (zad ac);generalize cs[i]=z at*;have BT:IntKind.i64.wrap z=z:=by rw[IntKind.wrap_i64];omega
  clear hc jK a8;go_enter Tryz.func18,Tryz.ntmps18
  go_wp2;exact bodyPost_ret (v:= .int .i64 z) (by simp[results,Tryz.results18,go_sem]) rfl ⟨z,rfl,hz,rfl⟩
 ·clear jK a8;have h1:IntKind.i64.wrap ((i:Int)*37)=(i:Int)*37:=by rw[IntKind.wrap_i64];omega
  have h2:IntKind.i64.wrap ((cs.length:Int)*11)=(cs.length:Int)*11:=by rw[IntKind.wrap_i64];omega
  have h3:IntKind.i64.wrap ((i:Int)*37+(cs.length:Int)*11)=(i:Int)*37+(cs.length:Int)*11:=by rw[IntKind.wrap_i64];omega
  go_enter Tryz.func18,Tryz.ntmps18
  go_wp2;exact bodyPost_ret (v:= .int .i64 (((i:Int)*37+(cs.length:Int)*11)%256)) (by simp[results,Tryz.results18,go_sem]) rfl ⟨_,rfl,⟨Int.emod_nonneg _ (by decide),by have:=Int.emod_lt_of_pos ((i:Int)*37+(cs.length:Int)*11) (b:=256) (by decide);omega⟩,rfl⟩
theorem qQg (v u:Value) (xs ys:List Int) (w:World) (h:RdI w v xs) (h':RdI w u ys):
  Calls Tryz.prog 23 #[v,u] w fun e w'=>e= .returned (.bool (decide (xs=ys)))∧Below w.heap.size w w':=
 (qFV v u xs ys w h.arg h'.arg).mono fun _ _ ⟨he,n,hn⟩=>⟨he,by rw[hn];exact qB (zah _ _) _⟩
theorem qPf (v:Value) (cs:List Int) (w:World) (h:ArgC w v cs):
  Calls Tryz.prog 5 #[v] w fun e w'=>e= .returned (.bool (decide ((1048576:Int)<cs.length)))∧w=w':=by
 obtain⟨A,cap,rfl,_⟩:=h;go_enter Tryz.func5,Tryz.ntmps5
 go_wp2;exact bodyPost_ret (v:= .bool (decide ((1048576:Int)<cs.length))) (by simp[results,Tryz.results5,go_sem]) rfl ⟨rfl,rfl⟩
section
open Go.ChangeShapes Go.WideShapes Go.ChangeAt Go.RowKit
theorem qPn:laidOutB Tryz.prog=true:=by kernel_rfl
theorem own:ownKnob Tryz.prog.godebug=none:=by kernel_rfl
end
section
open Go.ChangeShapes Go.WideShapes Go.ChangeAt Go.RowKit
theorem qMI {H:Type} {enc:TypeId×Value→H} {W:World} {base:Nat} {spare:Nat→Bool} {held:Bool} {v:Value} {d:DataW H} {p:List MemPlace}
  (hv:Value.okWide Tryz.prog W .any base 22 v) (h:DataW.Trod enc Tryz.prog W 0 spare held 22 v d p): ∃xs,ArgC W v xs:=by
 obtain⟨a,len,cap,rfl⟩:=okWide_slice Tryz.underlying22 hv;obtain⟨fuel,hf⟩:=h;have hf:DataW.trod enc Tryz.prog W 0 spare held fuel 22 [.slice a len cap]=some (d,p):=by simpa[Value.cells] using hf
 rcases open_ints Tryz.underlying22 Tryz.underlying5 tK hf with ⟨eR,_⟩ | ⟨x,l,c,zs,eR,_,hl,hm,hz,_,ae,hwz⟩
 ·simp at eR
  obtain⟨rfl,rfl,rfl⟩:=eR;exact⟨[],none,0,rfl,by simp,by simp[maxLen],by simp,by simp⟩
 ·simp at eR
  obtain⟨rfl,rfl,rfl⟩:=eR;have Ks:len≤zs.length:=by rw[hz];split<;>omega
  have aH:(zs.take len).length=len:=by simp;omega
  refine⟨zs.take len,_,cap,by rw[aH],tO,hm,fun n hn=> ?_,fun h0=> ?_⟩
  ·have:=hwz n (List.mem_of_mem_take hn)
   simpa[Lit.wf,IntKind.min,IntKind.max,IntKind.signed,IntKind.bits] using this
  ·obtain⟨b,off,sp⟩:=x;have iN:sp=none:=by simpa[Addr.add] using World.cell?_spot (ae 0 tO)
   subst iN;refine⟨b,off,rfl,fun i hi=> ?_⟩;have:=ae i tO
   rw[Addr.add_lit] at this;rw[this];simp[List.getD,show i<zs.length by omega]
end
end Go.Proofs.YtlgcflpaekbopaaGreat
