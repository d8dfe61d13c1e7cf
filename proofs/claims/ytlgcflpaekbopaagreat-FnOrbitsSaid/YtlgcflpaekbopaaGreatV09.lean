/- Parts of the proof: LevI, Orb, LatD, Who, DrawH, DrawI, DrawJ, DrawK, DrawB, ConW, OrbP, AddI. -/
import Derived.Test.YtlgcflpaekbopaaGreatV08
import Derived.Test.YtlgcflpaekbopaaGreatV01
import Derived.Test.YtlgcflpaekbopaaGreatV02
import Derived.Test.YtlgcflpaekbopaaGreatV06
set_option maxRecDepth 100000
set_option maxHeartbeats 16000000
set_option linter.unusedVariables false
set_option linter.unusedSimpArgs false
namespace Go.Proofs.YtlgcflpaekbopaaGreat
open Go.RowKit
open _root_.List renaming setIfInBounds_toArray→zaa,set_cons_zero→zab,set_cons_succ→zac,length_append→zaf,all_eq_true→zag,getElem_mem→zai,take_succ_eq_append_getElem→zaj,append_assoc→zak,eq_nil_of_length_eq_zero→zal,mem_singleton→zan,mem_append→zao,mem_of_mem_take→zaq,take_length→zar,range→zas,mem_cons→zat,getD_eq_getElem?_getD→zau,getElem?_eq_getElem→zaw,length_map→zaA,length_set→zaB,mem_of_mem_drop→zaC,nil_append→zaD,append_nil→zaE,mem_range→zaF,getElem?_eq_some_iff→zaH,map_append→zaJ,take_of_length_le→zaK,flatMap_singleton→zaL,length_singleton→zaN,take_append_drop→zaP,foldl_append→zaV,flatten_cons→zaW,length_cons→zaX,flatten_nil→zaY,sum_append→zaZ,getD→za1,map_cons→za2,sum_cons→za3
open _root_.Nat renaming le_refl→zad,zero_le→zam,lt_of_lt_of_le→zav,le_trans→zax,le_of_lt→zaS,eq_zero_or_pos→zaT,lt_or_ge→zaU,mod_lt→za0
open Go.RowKit.Below renaming refl→zae,heap_setCell→zaG,heap_alloc→zaI
open Go.Act renaming put→zah
open Go.World renaming cell?_of_block→zap,frozen?_of_block→zaM
open Go.Value renaming slice→zay,ownBlock→zaO
open _root_.Bool renaming and_eq_true→zaz,true_and→zaR
open _root_.Array renaming getElem?_modify→zaQ
theorem qMi {w w':World} (h:Below w.heap.size w w'):w.grownBy w' none:=⟨h.os,h.tape,h.output,h.size,fun b hb _=>h.block b hb⟩
def qHG (w:World) (N:Nat):World:= {w with heap:=w.heap.extract 0 N}
theorem qGe (w:World) (N:Nat) (h:N≤w.heap.size):(qHG w N).heap.size=N:=by
 show(w.heap.extract 0 N).size=N
 simp;omega
theorem qEq (w:World) (N b:Nat) (hb:b<N) (h:N≤w.heap.size):(qHG w N).heap[b]? =w.heap[b]? :=by
 show(w.heap.extract 0 N)[b]? =w.heap[b]?
 rw[Array.getElem?_extract];simp;omega
theorem qLz {N:Nat} {w:World} {v:Value} {L:List (List Int)} {F:List Nat} {ops:Array Oper} {rest:List Oper} {o:Oper} {a:Act} {Q:Exit→Act→World→Prop} (bO:o.guard=none) (s x:Operand)
  (ho:o.op= .call {callee:= .builtin .append,args:= #[s,x],argTypes:= #[29,29]})
  (ab:OwLf EI 24 1 w v L F) (cF:F.Nodup) (hF: ∀b∈F,b<N) (hN:N≤w.heap.size) (hs:a.eval s=v) (b:Nat) (z:Value) (d:List Int) {base:Nat} (hx:a.eval x= .slice (some ⟨b,0,none⟩) 1 1)
  (hel:OwI w base z d) (aq:N≤base) (hc:w.cell? ⟨b,0,none⟩=some z) (hz:z.oneCell'=true) (hl:L.length≤1073741824)
  (h: ∀v' w' F',OwLf EI 24 1 w' v' (L++ [d]) F'→F'.Nodup→(∀b∈F',(b∈F∨N≤b)∧b<w'.heap.size)→w.grownBy w' v.ownBlock→wpList Tryz.prog ops Q rest (a.put o.dst v') w'):
  wpList Tryz.prog ops Q (o::rest) a w:=by
 have ak:=qGe w N hN;refine qHY (w0:=qHG w N) bO s x ho (ab.stable EI.stable fun b hb=>qEq w N b (hF b hb) hN) cF (fun b hb=>by rw[ak];exact hF b hb) ?_ hs b z d hx hel (by rw[ak];exact aq) hc hz hl ?_
 ·rw[ak];exact⟨rfl,rfl,rfl,by rw[ak];exact hN,fun b hb=>(qEq w N b hb hN).symm⟩
 ·rw[ak];exact h
theorem qDP (r:Int) (v:Value) (xs:List Int) (w:World) (hr:I64 r) (h:RdI w v xs) (hl:xs.length≤1048576):
  Calls Tryz.prog 39 #[.int .i64 r,v] w fun e w'=> ∃s,e= .returned (.tuple #[s, .bool (levF r xs).2])∧OwII w.heap.size w'.heap.size s (levF r xs).1 w'∧Below w.heap.size w w':=by
 have HR:=qA hr;have HX:=qA h;obtain⟨A,cap,rfl,aj,hm,_⟩:=h.arg;unfold maxLen at hm;have gT:=qA fun W (h:RdI W (.slice A xs.length cap) xs)=>qBl r _ xs W HR.out h hl;have ib:=qA fun W (h:ArgI W (.slice A xs.length cap) xs)=>qz r _ xs W h tO;clear h hr;rcases eb:qY r xs with _ | _
 ·have F:=qA (qES (r:=r) (w:=xs) (by rw[eb];simp));rw[eb] at ib;clear eb;go_enter Tryz.func39,Tryz.ntmps39
  go_wp2_with (go_at_call 72;(with_reducible refine(ib.out _ HX.out.arg).mono ?_);rintro e w2 ⟨rfl,rfl⟩)
  refine bodyPost_ret (v:= .tuple #[.slice (some ⟨w.heap.size,0,none⟩) 0 0, .bool false]) (by simp[results,Tryz.results39,go_sem]) rfl ⟨_,by rw[F.out],?_,(by repeat(first | exact .refl _ _ | (refine BxS ?_ _) | (refine qB ?_ _) | (refine Below.drew ?_) | (refine BxA ?_ _)))⟩;rw[F.out];have:=qCe w (lo:=w.heap.size) (zad _)
  exact this.widen (zad _) (by simp)
 ·by_cases h6:(redF r xs).1.length≤6
  ·have F:=qA (qKC ⟨eb,h6⟩);have wQ:=qA (qLE eb h6);have lB:inB r 1 3=true:=qP.2 (qDc eb);have oU:=qA lB;have pp:=qA (qNd lB);have wL:=qA (qGX r);have fY:=qA (qFm r);have Bf:Hid (∀d∈qh r,d.2.length≤1073741824):=qA (qCQ r).2;have cd:Hid (movF r=relF r++(qh r).map (whM r)):=qA rfl;have Cg:=qA fun W=>qBD r W HR.out;have iC:=qA fun W=>qBh r W;rw[eb] at ib;clear eb lB;generalize (redF r xs).1=X at*;generalize movF r=M at*;have sY: ¬(6:Int)<(X.length:Int):=tO;go_enter Tryz.func39,Tryz.ntmps39
   go_wp2_with (first
    | (go_at_call 72;(with_reducible refine(ib.out _ HX.out.arg).mono ?_);rintro e w2 ⟨rfl,rfl⟩)
    | (go_at_call 21;(with_reducible refine(gT.out _ HX.out).mono ?_);rintro e w1 ⟨s1,t1,rfl,o1,o2,b1⟩;have B1:=qA b1;have O1:=qA o1;obtain⟨A1,c1,rfl,_⟩:=o1.form;obtain⟨A2,c2,rfl,_⟩:=o2.len;clear o1 o2 b1)
    | (go_at_call 48;(with_reducible refine(Cg.out _).mono ?_);rintro e wA ⟨vA,rfl,oA,bA⟩;have OA:=qA oA;have BA:=qA bA;obtain⟨AA,mA,cA,rfl⟩:=oA.any;clear oA bA)
    | (go_at_call 32;(with_reducible refine(iC.out _).mono ?_);rintro e wB ⟨vB,rfl,oB,bB⟩;have OB:=qA oB;have BB:=qA bB;obtain⟨AB,capB,rfl,_⟩:=oB.len;clear oB bB))
   have aA:=B1.out.size;have kn:=BA.out.size;have wE:=BB.out.size;obtain⟨FA,u4,fZ,sE⟩:=OA.out;have H0:=qA u4;have q6:=qA fZ;have en:=qA sE;clear u4 fZ sE OA;have lg:=wL.out;generalize qh r=L at*;have De:=fY.out;generalize relF r=R at*;go_loopw [8,39] (fun out i wr=> ∃k:Nat,k≤L.length∧i= .int .i64 k∧ ∃F',OwLf EM 31 2 wr out (R++(L.take k).map (whM r)) F'∧F'.Nodup∧(∀b∈F',(b∈FA∨wB.heap.size≤b)∧b<wr.heap.size)∧FrN FA wB wr)
    (fun _ i _=>L.length-(intOf i).toNat)
   case atStart=>
    exact⟨0,zam _,rfl,FA,by simpa using H0.out.stable EM.stable fun b hb=>BB.out.block b (en.out b hb).2,q6.out,fun b hb=>⟨.inl hb,zav (en.out b hb).2 wE⟩,FrN.refl _ _⟩
   case round=>
    obtain⟨k,hk,rfl,F',x1,x2,x3,x4⟩:=hrel;have X1:=qA x1;have X2:=qA x2;have X3:=qA x3;have X4:=qA x4;obtain⟨Ao,mo,co,rfl⟩:=OwLf.formR x1;have fL:=x4.size;clear x1 x2 x3 x4;by_cases ac:k<L.length
    ·obtain⟨g,cs,Fe,rfl,fd,dC,hE,gO,ci,fJ,hc,dE,iE,kc⟩:=(OB.out.keep EWh.stable (w':=wr) fun b h1 h2=>X4.out.block b h2 fun hb=>by have:=en.out b hb;omega).focus EWh.stable ac;obtain⟨s,rfl,hd,ho,_⟩:=EWh.at hE;have c0:=hc 0 (by simp);have c1:=hc 1 (by simp);simp only[List.getElem_cons_zero,List.getElem_cons_succ,Nat.add_zero] at c0 c1;obtain⟨As,cs',rfl,_⟩:=ho.form;have HA:Hid (qCv (wr.alloc (.cells #[.int .i64 L[k].1, .slice As L[k].2.length cs'] 26)) (.agg #[.int .i64 L[k].1, .slice As L[k].2.length cs']) L[k]):=qA ⟨_,rfl,hd,(ho.alloc _).arg⟩;have pG:=qA (fun (W:World) (h:qCv W (.agg #[.int .i64 L[k].1, .slice As L[k].2.length cs']) L[k])=>qAw r (.agg #[.int .i64 L[k].1, .slice As L[k].2.length cs']) L[k] W HR.out h (Bf.out _ (zai ac)));have iM:Hid (R++(L.take (k+1)).map (whM r)=(R++(L.take k).map (whM r))++ [whM r L[k]]):=qA (by rw[zaj ac,zaJ,←zak];rfl);have rp:(R++(L.take k).map (whM r)).length≤1073741824:=by rw[zaf,zaA,List.length_take];omega
     have eL:(k:Int)<(L.length:Int):=tO;have cY:=qA (qKL L[k] HR.out);clear hc dE kc ci fJ hE ho hd gO fd dC;generalize R++(L.take k).map (whM r)=Q0 at*;generalize L[k]=d at*;obtain⟨d1,d2⟩:=d;simp only at c0 c1 HA pG
     have mE:g<wr.heap.size:=iE;go_wp2_with fail;refine(pG.out _ HA.out).mono ?_
     rintro e w3 ⟨sm,rfl,o3,b3⟩;have O3:=qA o3;have B3:Hid (Below wr.heap.size wr w3):=qA (((zae wr.heap.size wr).alloc (zad _) _).trans (b3.mono (by simp)));obtain⟨A3,m3,c3,rfl⟩:=o3.any;have dd:=B3.out.size;clear o3 b3;obtain⟨M0,hM⟩: ∃M0:MoD,M0=whM r (d1,d2):=⟨_,rfl⟩;rw[←hM] at O3 cY iM;rw[←hM];have rC:=cY.out;have bv:Hid (Below wr.heap.size wr ((w3.alloc (.cells #[.int .i64 M0.1, .slice A3 m3 c3] 31)).alloc (.cells #[.int .i64 M0.1, .slice A3 m3 c3] 31))):=qA ((B3.out.alloc dd _).alloc (by simp;omega) _);have jZ:Hid (∀j u,[Value.int .i64 M0.1, .slice A3 m3 c3][j]? =some u→((w3.alloc (.cells #[.int .i64 M0.1, .slice A3 m3 c3] 31)).alloc (.cells #[.int .i64 M0.1, .slice A3 m3 c3] 31)).cell? ⟨w3.heap.size+1,j,none⟩=some u):=qA fun j u hj=>by
      match j,hj with
      | 0,hj=>simp at hj;subst hj;simp[go_sem]
      | 1,hj=>simp at hj;subst hj;simp[go_sem]
     have sJ:Hid (OwII (wr.alloc (.cells #[.int .i64 d1, .slice As d2.length cs'] 26)).heap.size w3.heap.size (.slice A3 m3 c3) M0.2 ((w3.alloc (.cells #[.int .i64 M0.1, .slice A3 m3 c3] 31)).alloc (.cells #[.int .i64 M0.1, .slice A3 m3 c3] 31))):=qA (O3.out.keep EI.stable fun b _ hb=>(zaI _ _ b (by simp;omega)).trans (zaI w3 _ b hb));have gE:Hid (∀b∈F',b<wr.heap.size):=qA fun b hb=>(X3.out b hb).2;have ee:wr.heap.size≤(wr.alloc (.cells #[.int .i64 d1, .slice As d2.length cs'] 26)).heap.size:=by simp
     clear hM pG;go_wp2_with (at_builtin;refine qHo rfl (.tmp 49) (.tmp 51) rfl X1.out X2.out gE.out bv.out rfl _ _ M0 rfl sJ.out rC ee (by simp;omega) jZ.out rfl rp ?_;intro vz wz Fz oz1 oz2 oz3 gz;obtain⟨Av,mv,cv,rfl⟩:=OwLf.formR oz1;have pF:=qA oz1;have pT:=qA oz2;have lN:=qA oz3;have GZ:=qA gz;clear oz1 oz2 oz3 gz)
     have pX:=bv.out.size;have iE:=GZ.out.size;go_roundw
     case rel=>
      refine⟨k+1,tO,by go_num,Fz,by rw[iM.out];exact pF.out,pT.out,fun y hy=>⟨?_,(lN.out y hy).2⟩,⟨?_,?_,?_,tO,fun y h1 h2=> ?_⟩⟩
      ·rcases(lN.out y hy).1 with h | h
       ·exact(X3.out y h).1
       ·exact .inr tO
      ·exact GZ.out.os.trans (bv.out.os.trans X4.out.os)
      ·exact GZ.out.tape.trans (bv.out.tape.trans X4.out.tape)
      ·exact GZ.out.output.trans (bv.out.output.trans X4.out.output)
      ·refine(GZ.out.block y tO fun e=> ?_).trans ((bv.out.block y tO).trans (X4.out.block y h1 h2))
       rcases(X3.out y (X1.out.mem e.symm)).1 with h | h
       ·exact h2 h
       ·omega
     case measure=>(first | omega | (simp[intOf];omega))
    ·obtain rfl:k=L.length:=tO
     obtain⟨w2,rfl⟩: ∃W:World,W=wr:=⟨_,rfl⟩;have kJ:Hid (OMS w1.heap.size w2.heap.size (.slice Ao mo co) M w2):=qA (by
      have h:=X1.out;rw[zar,←cd.out] at h;exact OwnL.of_f h X2.out fun b hb=>⟨by
       rcases(X3.out b hb).1 with h | h
       ·exact(en.out b h).1
       ·omega,(X3.out b hb).2⟩)
     have au:Hid (Below w1.heap.size w1 w2):=qA ((BA.out.trans (BB.out.mono kn)).trans ⟨X4.out.os,X4.out.tape,X4.out.output,X4.out.size,fun b hb=>X4.out.block b tO fun h=>by have:=(en.out b h).1;omega⟩);have u6:Hid (M.length≤2000):=qA (by rw[cd.out,zaf,zaA];omega);clear X1 X2 X3 X4 H0 q6 en OB BB BA lg De wL fY Bf Cg iC cd;obtain⟨Am,cm,uB,fB,zf,_⟩:=kJ.out.len;injection uB with lD hv2 hv3
     subst lD hv2 hv3;have bK:=au.out.size;have Gn:=u6.out;clear fL kn wE ac hk;have Hw:Hid (okT X):=qA (qMc oU.out (wQ.out.el X (by simp)).2);have sJ:=qA fun W (h:ArgI W (.slice A1 X.length c1) X)=>qBz _ X W h tO;have D8:Hid (keyOf Tryz.prog 9 (.string ⟨(fmtW X).toArray⟩)=some (.string (fmtW X))):=qA (qIK tO);have xr:Hid (MapQ ((DataW.map []).put (.string (fmtW X)) (.lit (.int .i64 1))) [X]):=qA (by have:=MapQ.nil.put Hw.out tO;simpa using this);unfold str at sJ;generalize fmtW X=tx at*;obtain⟨W3,fh⟩: ∃W3:World,W3=w2.alloc (.cells #[.slice A1 X.length c1] 24):=⟨_,rfl⟩;have dd:W3.heap.size=w2.heap.size+1:=by rw[fh];simp
     have ax:Hid (Below w2.heap.size w2 W3):=qA (by rw[fh];exact(zae _ _).alloc (zad _) _);have cU:=qQa (O1.out.below au.out) W3 fh;obtain⟨F0,ix⟩: ∃F0:List Nat,F0=w2.heap.size::(zay A1 X.length c1).ownBlock.toList:=⟨_,rfl⟩;rw[←ix] at cU;have lX:=qA cU.1;have oX:=qA cU.2;have jJ:Hid (∀b∈F0,w.heap.size≤b∧b<W3.heap.size∧ ¬(w1.heap.size≤b∧b<w2.heap.size)):=qA fun b hb=>by
      rw[ix] at hb;rcases zat.1 hb with rfl | hb
      ·omega
      ·have:=O1.out.1.lt b (by simpa using hb)
       omega
     have zf:= @run_makeMap Tryz.prog;have Bp:Hid ((W3.alloc (.map #[] 0)).ownsMap Tryz.prog 9 (plainElem (H:=Unit) Tryz.prog 3) (w2.heap.size+1) 0 (.map [])):=qA (by
      have h:=World.ownsMap_made W3 Tryz.prog 9 (plainElem (H:=Unit) Tryz.prog 3);rw[dd] at h;exact h)
     have Cz:Hid (ArgI (W3.alloc (.map #[] 0)) (.slice A1 X.length c1) X):=qA ((((O1.out.below au.out).below ax.out).alloc _).arg);have ji:=qA fh;have lU:=qA dd;clear cU ix fh dd;obtain⟨RES,dg⟩: ∃RES,RES=lvGo M X.length 60 0 [X]:=⟨_,rfl⟩;rw[←dg] at F;have eI:=qA dg;clear dg;go_wp2_with fail;rw[←ji.out];refine(sJ.out _ Cz.out).mono ?_
     rintro e wX ⟨rfl,rfl⟩;go_wp2_with (refine qLn _ rfl _ _ _ 97 rfl 9 3 strK Tryz.underlying97 _ (w2.heap.size+1) 0 _ rfl Bp.out (by unfold maxLen;omega) _ _ (.string tx) rfl rfl D8.out _ [] (plainElem_int Tryz.underlying3 (by decide)) ?_;intro w5 hown5 hgrow5)
     have eQ:w2.heap.size+1<w5.heap.size:=by
      have h1:=hgrow5.size;have h2:=lU.out;have h3:(W3.alloc (.map #[] 0)).heap.size=W3.heap.size+1:=by simp
      omega
     have yH:W3.heap.size<w5.heap.size:=by have:=lU.out;omega
     have aI:Hid (Below (w2.heap.size+1) W3 w5):=qA (by
      have h:=(((zae W3.heap.size W3).alloc (zad _) (.map #[] 0)).mono (B':=w2.heap.size+1) (by have:=lU.out;omega));exact h.grown hgrow5 (by have:=lU.out;simp;omega) (fun j hj=>by cases hj;exact zad _))
     have yJ:=qA hown5;have rG:Hid (∀b∈F0,w.heap.size≤b∧b<w2.heap.size+1∧ ¬(w1.heap.size≤b∧b<w2.heap.size)):=qA fun b hb=>by have:=jJ.out b hb;have:=lU.out;omega
     have Hv:Hid (OwLf EI 24 1 w5 (.slice (some ⟨w2.heap.size,0,none⟩) 1 1) [X] F0):=qA (lX.out.stable EI.stable fun b hb=>aI.out.block b (rG.out b hb).2.1);clear hown5 hgrow5;have dl:Hid (∀W,FrN ((w2.heap.size+1)::F0) w5 W→Below w.heap.size w W):=qA fun W hf=>((B1.out.trans (au.out.mono aA)).trans ((ax.out.mono tO).trans (aI.out.mono tO))).trans ⟨hf.os,hf.tape,hf.output,hf.size,fun b hb=>hf.block b tO fun h=>by
      rcases zat.1 h with h | h
      ·omega
      ·have:=(rG.out b h).1;omega⟩
     have EA:Hid (∀W,FrN ((w2.heap.size+1)::F0) w5 W→OMS w1.heap.size w2.heap.size (.slice Ao M.length co) M W):=qA fun W hf=>kJ.out.keep EM.stable fun b h1 h2=>(hf.block b tO fun hb=>by
      rcases zat.1 hb with h | h
      ·omega
      ·exact(rG.out b h).2.2 ⟨h1,h2⟩).trans ((aI.out.block b tO).trans (ax.out.block b h2))
     clear ax aI lX jJ Bp Cz sJ D8 kJ zf yH;generalize IB:w2.heap.size+1=mb at*;have JD:Hid (w2.heap.size<mb):=qA tO;have l8:w.heap.size≤w5.heap.size:=tO;clear IB;have Hl:(X.length:Int)≤6:=tO;have DP:Hid (∀b∈F0,b≠mb∧b<w5.heap.size):=qA fun b hb=>by have:=rG.out b hb;omega
     go_loopw [13,15] (fun qv i wr=> ∃(k:Nat) (q:List (List Int)) (G:List Nat) (D:DataW Unit),i= .int .i64 k∧k≤q.length∧0<q.length∧Que r X.length q∧RES=lvGo M X.length (60-k) k q∧OwLf EI 24 1 wr qv q G∧G.Nodup∧(∀b∈G,(b∈F0∨w5.heap.size≤b)∧b<wr.heap.size)∧wr.ownsMap Tryz.prog 9 (plainElem (H:=Unit) Tryz.prog 3) mb q.length D∧MapQ D q∧FrN (mb::F0) w5 wr)
      (fun _ i _=>61-(intOf i).toNat)
     case atStart=>exact⟨0,[X],F0,_,rfl,by simp,by simp,wQ.out,eI.out,Hv.out,oX.out,fun b hb=>⟨.inl hb,(DP.out b hb).2⟩,yJ.out,xr.out,FrN.refl _ _⟩
     case round=>
      obtain⟨k,q,G,D,rfl,hk,d5,hq,ez,x1,x2,x3,x5,x6,x4⟩:=hrel;have eU:=qA hq;have gy:=qA ez;have X1:=qA x1;have X2:=qA x2;have X3:=qA x3;have X4:=qA x4;have X5:=qA x5;have X6:=qA x6;have ic:=hq.len;obtain⟨Aq,cq,rfl,_,_,_,CD⟩:=(OwnL.of_f (lo:=0) (hi:=wr.heap.size) x1 x2 fun b hb=>⟨zam _,(x3 b hb).2⟩).len;obtain⟨gq,rfl,_,xo⟩:=CD d5;have fL:=x4.size;clear x1 x2 x3 x4 x5 x6 hq ez;by_cases ac:k<q.length
      ·have pm:Hid (RES=lvR M X.length q[k] 0 k q):=qA (gy.out.trans (qJc M X.length k q ac ic));have iZ:Hid (q[k]? =some q[k]):=qA (zaw ac);have zt:=qA (eU.out.el _ (zai ac));have eL:(k:Int)<(q.length:Int):=tO;generalize q[k]=u at*;go_wp2_with fail;go_loopw [13,68] (fun qv j wr=> ∃(m:Nat) (q:List (List Int)) (G:List Nat) (D:DataW Unit),j= .int .i64 m∧m≤M.length∧Que r X.length q∧q[k]? =some u∧RES=lvR M X.length u m k q∧OwLf EI 24 1 wr qv q G∧G.Nodup∧(∀b∈G,(b∈F0∨w5.heap.size≤b)∧b<wr.heap.size)∧wr.ownsMap Tryz.prog 9 (plainElem (H:=Unit) Tryz.prog 3) mb q.length D∧MapQ D q∧FrN (mb::F0) w5 wr)
        (fun _ j _=>M.length-(intOf j).toNat)
       case atStart=>exact⟨0,q,G,D,rfl,zam _,eU.out,iZ.out,pm.out,X1.out,X2.out,X3.out,X5.out,X6.out,X4.out⟩
       case round=>
        clear eU gy X1 X2 X3 X4 X5 X6 pm iZ ic eL ac hk fL d5 CD xo;obtain⟨m,q,G,D,rfl,hm,hq,mm,ez,x1,x2,x3,x5,x6,x4⟩:=hrel;have eU:=qA hq;have gy:=qA ez;have iZ:=qA mm;have X1:=qA x1;have X2:=qA x2;have X3:=qA x3;have X4:=qA x4;have X5:=qA x5;have X6:=qA x6;have ic:=hq.len;obtain⟨Aq,cq,rfl,_⟩:=(OwnL.of_f (lo:=0) (hi:=wr.heap.size) x1 x2 fun b hb=>⟨zam _,(x3 b hb).2⟩).len;have fL:=x4.size;have td:k<q.length:=(zaH.1 mm).1;have eB:q[k]=u:=(zaH.1 mm).2;clear x1 x2 x3 x4 x5 x6 hq ez mm;by_cases ac:m<M.length
        ·have zd:u.length≤6:=by have:=zt.out.1;omega
         obtain⟨gm,s,rfl,rB,c0,dX,nM⟩:=qQF (EA.out _ X4.out) m ac;obtain⟨As,cs,rfl,_⟩:=nM.form;obtain⟨b,off,rR,ey,uN,hb,aZ,_,_,lK⟩:=(qGq X1.out X2.out).at td;subst uN;rw[eB] at aZ lK;have fG:=qA (pp.out M[m] (zai ac));have mD:=qA (qPK fG.out u zd);have vd:=qA (qPN oU.out fG.out u);have kM:Hid (¬((yF M[m] u).length=X.length∧yF M[m] u∉q)→RES=lvR M X.length u (m+1) k q):=qA fun hc=>gy.out.trans (qLD ac hc);have mS:Hid ((yF M[m] u).length=X.length∧yF M[m] u∉q→60≤q.length→RES=none):=qA fun hc h60=>gy.out.trans (qLd ac hc h60);have mg:Hid ((yF M[m] u).length=X.length∧yF M[m] u∉q→ ¬60≤q.length→RES=lvR M X.length u (m+1) k (q++ [yF M[m] u])):=qA fun hc h60=>gy.out.trans (qLL ac hc h60);have gR:=qA nM;have od:=qA lK;have uS:=qA fun W (h:RdII W (.slice As M[m].2.length cs) M[m].2) (h':RdI W (.slice rR u.length ey) u)=>qCr _ _ M[m].2 u W h h' (by have:=fG.out.1;omega) (fun b hb=>by have:=(fG.out.2.2 b hb).1;omega) tO;have jR:=qA fun W v (h:RdI W v (expL M[m].2 u))=>qBJ v (expL M[m].2 u) W h (by have:=mD.out.1;omega);have sZ:Hid (cycF (expL M[m].2 u)=yF M[m] u):=qA rfl;rw[sZ.out] at jR;have AY:(m:Int)<(M.length:Int):=tO;have eL:(k:Int)<(q.length:Int):=tO;have BK:Hid (okT (yF M[m] u)):=qA (qMc oU.out vd.out);generalize yF M[m] u=y at*;generalize expL M[m].2 u=E at*;obtain⟨m1,cJ⟩: ∃m1:Int,m1=M[m].1:=⟨_,rfl⟩;rw[←cJ] at c0;clear cJ;generalize M[m].2=B at*;clear sZ nM lK;have FN:y.length≤18:=mD.out.2;have yL:Hid (keyOf Tryz.prog 9 (.string ⟨(fmtW y).toArray⟩)=some (.string (fmtW y))):=qA (qIK tO);have gP:=qA (X6.out.at_ y BK.out);have E5:=qA (X6.out.put BK.out (y:=y) tO);have vJ:=qA fun W v (h:ArgI W v y)=>qBz v y W h tO;unfold str at vJ;generalize fmtW y=ty at*;obtain⟨wb,uE⟩: ∃wb:World,wb=wr.alloc (.cells #[.int .i64 m1, .slice As B.length cs] 31):=⟨_,rfl⟩;have yK:Hid (Below wr.heap.size wr wb):=qA (by rw[uE];exact(zae _ _).alloc (zad _) _);have gN:wr.heap.size<wb.heap.size:=by rw[uE];simp
         have D7:wb.cell? ⟨wr.heap.size,1,none⟩=some (.slice As B.length cs):=by rw[uE];simp[go_sem]
         have u9:=(yK.out.cell (p:=⟨b,off+k,none⟩) hb).trans aZ;have ka:b<wb.heap.size:=tO;have gZ:Hid (Below wr.heap.size wr wb.drew):=qA yK.out.drew;have AM:Hid (Below wb.heap.size wb wb.drew):=qA (zae _ _).drew;have xE:=qA uE;clear uE;go_wp2_with fail;rw[←xE.out];go_region_held3 (fun w'=>w'.cell? ⟨wr.heap.size,1,none⟩=some (.slice As B.length cs)∧w'.cell? ⟨b,off+k,none⟩=some (.slice rR u.length ey))
          (first | go_keep | exact⟨s0,s1⟩)
          (first
           | (go_at_call 66;(with_reducible refine(uS.out _ (gR.out.below gZ.out) (od.out.below gZ.out)).mono ?_);rintro e FV ⟨r5,rfl,o5,b5⟩;have vg:Hid (Below wb.heap.size wb FV):=qA (AM.out.trans (b5.mono AM.out.size));have fm:=qA (o5.mono AM.out.size);have tU:=vg.out.size;have s0:=(vg.out.cell (p:=⟨wr.heap.size,1,none⟩) gN).trans D7;have s1:=(vg.out.cell (p:=⟨b,off+k,none⟩) ka).trans u9;clear o5 b5)
           | (go_at_call 73;(with_reducible refine(jR.out _ _ fm.out.rd).mono ?_);rintro e w6 ⟨r6,rfl,o6,b6⟩;have AN:Hid (Below wb.heap.size wb w6):=qA (vg.out.trans (b6.mono tU));have bR:Hid (Below wr.heap.size wr w6):=qA (yK.out.trans (AN.out.mono (zaS gN)));have fj:=qA (o6.mono (zax (zaS gN) tU));have fU:=bR.out.size;have s0:=(AN.out.cell (p:=⟨wr.heap.size,1,none⟩) gN).trans D7;have s1:=(AN.out.cell (p:=⟨b,off+k,none⟩) ka).trans u9;clear o6 b6))
         obtain⟨A6,c6,rfl,_⟩:=fj.out.form;have iA:=qA (X4.out.bel bR.out);have mQ:Hid (OwLf EI 24 1 w6 (.slice (some ⟨b,off,none⟩) q.length cq) q G):=qA (X1.out.stable EI.stable fun b hb=>bR.out.block b (X3.out b hb).2);have eV:Hid (∀b∈G,(b∈F0∨w5.heap.size≤b)∧b<w6.heap.size):=qA fun b hb=>⟨(X3.out b hb).1,zav (X3.out b hb).2 fU⟩;have kg:Hid (w6.ownsMap Tryz.prog 9 (plainElem (H:=Unit) Tryz.prog 3) mb q.length D):=qA (X5.out.kept (qMi bR.out) (by simp));clear s0 s1;rcases e1:((y.length:Int) != (X.length:Int)) with _ | _
         ·have uQ:y.length=X.length:=Int.ofNat_inj.1 (by simpa using e1);have py:=qA uQ;obtain⟨c,ce,a8,_⟩:=kg.out.lookup_int strK Tryz.underlying97 Tryz.underlying3 (qQf _) yL.out;have oH:c=if y∈q then 1 else 0:=by
           have h:=gP.out;rw[a8] at h;injection h with h
           injection h
          clear uQ a8;by_cases bQ:y∈q
          ·have eH:Hid (RES=lvR M X.length u (m+1) k q):=qA (kM.out fun h=>h.2 bQ);rw[if_pos bQ] at oH;subst oH;clear bQ eB;go_wp2_with (go_at_call 85;(with_reducible refine(vJ.out _ _ fj.out.arg).mono ?_);rintro e w7 ⟨rfl,rfl⟩)
           go_roundw
           case rel=>exact⟨m+1,q,G,D,by go_num,tO,eU.out,iZ.out,eH.out,mQ.out,X2.out,eV.out,kg.out,X6.out,iA.out⟩
           case measure=>(simp[intOf];omega)
          ·rw[if_neg bQ] at oH;subst oH;have mR:=qA bQ;clear bQ;by_cases h60:60≤q.length
           ·have eH:Hid (RES=none):=qA (mS.out ⟨py.out,mR.out⟩ h60);have EC:((q.length:Int)==60)=true:=by simp;omega
            clear eB;go_wp2_with (go_at_call 85;(with_reducible refine(vJ.out _ _ fj.out.arg).mono ?_);rintro e w7 ⟨rfl,rfl⟩)
            refine bodyPost_ret (v:= .tuple #[.slice (some ⟨w6.heap.size,0,none⟩) 0 0, .bool false]) (by simp[results,Tryz.results39,go_sem]) rfl ⟨_,by rw[F.out,eH.out],?_,?_⟩
            ·rw[F.out,eH.out];have:=qCe w6 (lo:=w.heap.size) tO
             exact this.widen (zad _) (by simp)
            ·exact(dl.out w6 iA.out).alloc tO _
           ·have eH:Hid (RES=lvR M X.length u (m+1) k (q++ [y])):=qA (mg.out ⟨py.out,mR.out⟩ h60);have EC:((q.length:Int)==60)=false:=by simp;omega
            have yE:Hid (Que r X.length (q++ [y])):=qA (eU.out.push py.out vd.out mR.out h60);have Ag:Hid ((q++ [y])[k]? =some u):=qA (by rw[List.getElem?_append_left td];exact iZ.out);have kz:q.length≤1073741824:=tO;have rM:Hid (∀b∈G,b≠mb):=qA fun b hb=>by
             rcases(X3.out b hb).1 with h | h
             ·exact(DP.out b h).1
             ·omega
            have xK:mb<wr.heap.size:=X5.out.lt;clear eB ce;have ce:=(kg.out.lookup_int strK Tryz.underlying97 Tryz.underlying3 (qQf _) yL.out);obtain⟨c',ce,a8,_⟩:=ce;obtain rfl:c'=0:=by
             have h:=gP.out;rw[a8,if_neg mR.out] at h;injection h with h
             injection h
            clear a8;go_wp2_with (first
             | (go_at_call 85;(with_reducible refine(vJ.out _ _ fj.out.arg).mono ?_);rintro e w7 ⟨rfl,rfl⟩)
             | (at_mapUpdate;refine wpList_mapUpdate_own _ rfl _ _ _ 97 rfl 9 3 strK Tryz.underlying97 _ mb q.length D rfl kg.out (by unfold maxLen;omega) _ _ (.string ty) rfl rfl yL.out _ [] (plainElem_int Tryz.underlying3 (by decide)) ?_;intro w8 hown8 hgrow8;have GT:=qA hown8;have Fo:=qA hgrow8;have pb:Hid (OwLf EI 24 1 w8 (.slice (some ⟨b,off,none⟩) q.length cq) q G):=qA (mQ.out.stable EI.stable fun c hc=>hgrow8.block c (eV.out c hc).2 (fun e=>rM.out c hc (by injection e)));have uY:=hgrow8.size;have GS:Hid (OwI w8 wr.heap.size (.slice A6 y.length c6) y):=qA ⟨qZ fj.out.1 fun c hc=>hgrow8.block c (fj.out.1.lt c hc).2 (fun e=>by injection e with e;have:=(fj.out.1.lt c hc).1;omega),fj.out.2⟩;clear hown8 hgrow8)
             | (at_builtin;refine qLz (N:=wr.heap.size) rfl (.tmp 99) (.tmp 101) rfl (pb.out.stable EI.stable fun c hc=>zaI w8 _ c (zav (eV.out c hc).2 uY)) X2.out (fun c hc=>(X3.out c hc).2) (by simp;omega) rfl _ _ y rfl (GS.out.alloc _) (zad _) (qG _ _ _) rfl kz ?_;intro vz wz Gz oz nz fz gz;obtain⟨Az,mz,cz,rfl⟩:=OwLf.formR oz;have OZ:=qA oz;have NZ:=qA nz;have FZ:=qA fz;have GZ:=qA gz;clear oz nz fz gz))
            have tF:=GZ.out.size;have xm:w8.heap.size<wz.heap.size:=by simp at tF;omega
            have Gu:Hid (wz.ownsMap Tryz.prog 9 (plainElem (H:=Unit) Tryz.prog 3) mb (q.length+1) (D.put (.string ty) (.lit (.int .i64 1)))):=qA ((GT.out.alloc _).kept GZ.out (fun e=>rM.out mb (pb.out.mem e.symm) rfl));have Il:Hid (FrN (mb::F0) w5 w8):=qA (iA.out.trans (FrN.grown Fo.out fun b hb=>by injection hb with hb;subst hb;simp));have rP:Hid (FrN (mb::F0) w5 (w8.alloc (.cells #[.slice A6 y.length c6] 24))):=qA (Il.out.bel ((zae _ _).alloc (zad _) _));go_roundw
            case rel=>
             refine⟨m+1,q++ [y],Gz,_,by go_num,tO,yE.out,Ag.out,eH.out,OZ.out,NZ.out,fun c hc=>⟨?_,(FZ.out c hc).2⟩,by rw[zaf,zaN];exact Gu.out,E5.out,⟨GZ.out.os.trans rP.out.os,GZ.out.tape.trans rP.out.tape,GZ.out.output.trans rP.out.output,zax rP.out.size tF,fun c h1 h2=>(GZ.out.block c (zav h1 rP.out.size) fun e=> ?_).trans (rP.out.block c h1 h2)⟩⟩
             ·rcases(FZ.out c hc).1 with h | h
              ·exact(X3.out c h).1
              ·exact .inr tO
             ·rcases(X3.out c (pb.out.mem e.symm)).1 with h | h
              ·exact h2 (by simp[h])
              ·omega
            case measure=>(simp[intOf];omega)
         ·have ai: ¬y.length=X.length:=fun e=>by rw[e] at e1;simp at e1
          have eH:Hid (RES=lvR M X.length u (m+1) k q):=qA (kM.out fun h=>ai h.1);clear ai eB;go_wp2;go_roundw
          case rel=>exact⟨m+1,q,G,D,by go_num,tO,eU.out,iZ.out,eH.out,mQ.out,X2.out,eV.out,kg.out,X6.out,iA.out⟩
          case measure=>(simp[intOf];omega)
        ·obtain rfl:m=M.length:=tO
         have sk:Hid (RES=lvGo M X.length (60-(k+1)) (k+1) q):=qA (gy.out.trans (qMd M X.length u k q));clear eB;go_wp2;go_roundw
         case rel=>exact⟨k+1,q,G,D,by go_num,tO,tO,eU.out,sk.out,X1.out,X2.out,X3.out,X5.out,X6.out,X4.out⟩
         case measure=>(simp[intOf];omega)
      ·obtain rfl:k=q.length:=tO
       have jE:Hid (RES=some q):=qA (gy.out.trans (qKy M X.length _ q));have E7:=qA (qNc gq q.length cq q G wr X1.out X2.out (fun b hb=>(X3.out b hb).2) eU.out.nd (eU.out.small oU.out) tO (by rintro rfl;simp at d5));have Fa:=qA (X1.out.mem (b:=gq) rfl);go_wp2_with (go_at_call 86;(with_reducible refine E7.out.mono ?_);rintro e w9 ⟨rfl,G9,o9,n9,f9,g9⟩;have O9:=qA o9;have N9:=qA n9;have F9:=qA f9;have Cn:=qA g9;clear o9 n9 f9 g9)
       have FY:w.heap.size≤gq:=by
        rcases(X3.out gq Fa.out).1 with h | h
        ·exact(rG.out gq h).1
        ·omega
       have uA:=Cn.out.size;refine bodyPost_ret (v:= .tuple #[.slice (some ⟨gq,0,none⟩) q.length cq, .bool true]) (by simp[results,Tryz.results39,go_sem]) rfl ⟨_,by rw[F.out,jE.out],?_,(dl.out wr X4.out).grown Cn.out tO (fun j hj=>by cases hj;exact FY)⟩;rw[F.out,jE.out];exact OwnL.of_f O9.out N9.out fun b hb=>⟨by
        rcases(X3.out b (F9.out b hb)).1 with h | h
        ·exact(rG.out b h).1
        ·omega,by have:=(X3.out b (F9.out b hb)).2;omega⟩
  ·have F:=qA (qES (r:=r) (w:=xs) (by simp[h6]));rw[eb] at ib;clear eb;generalize (redF r xs).1=X at*;have sY:(6:Int)<(X.length:Int):=tO;go_enter Tryz.func39,Tryz.ntmps39
   go_wp2_with (first
    | (go_at_call 72;(with_reducible refine(ib.out _ HX.out.arg).mono ?_);rintro e w2 ⟨rfl,rfl⟩)
    | (go_at_call 21;(with_reducible refine(gT.out _ HX.out).mono ?_);rintro e w1 ⟨s1,t1,rfl,o1,o2,b1⟩;have B1:=qA b1;obtain⟨A1,c1,rfl,_⟩:=o1.form;obtain⟨A2,c2,rfl,_⟩:=o2.len;clear o1 o2 b1))
   refine bodyPost_ret (v:= .tuple #[.slice (some ⟨w1.heap.size,0,none⟩) 0 0, .bool false]) (by simp[results,Tryz.results39,go_sem]) rfl ⟨_,by rw[F.out],?_,?_⟩
   ·rw[F.out];have:=qCe w1 (lo:=w.heap.size) B1.out.size
    exact this.widen (zad _) (by simp)
   ·exact B1.out.alloc (by exact B1.out.size) _
def orbF (r:Int) (w:List Int):List Int×Bool:=if(levF r w).2 then((levF r w).1.headD [],true) else([],false)
def autF (r:Int) (u v:List Int):Bool×Bool:=if(orbF r u).2=true∧(orbF r v).2=true then(decide ((orbF r u).1=(orbF r v).1),true) else(false,false)
theorem qHc (n:Nat) (u:List Int): ∀(M:List MoD) (q q':List (List Int)),lvK n u M q=some q'→q.length≤q'.length∧ ∀w∈q',w∈q∨w.length=n
 | [],q,q',h=>by simp[lvK] at h;subst h;exact⟨zad _,fun w hw=> .inl hw⟩
 | m::M,q,q',h=>by
   rw[lvK] at h;split at h
   ·rename_i hc
    split at h
    ·cases h
    ·obtain⟨h1,h2⟩:=qHc n u M _ q' h;rw[zaf] at h1;refine⟨tO,fun w hw=> ?_⟩;rcases h2 w hw with h3 | h3
     ·rcases zao.1 h3 with h4 | h4
      ·exact .inl h4
      ·rw[zan] at h4;subst h4;exact .inr hc.1
     ·exact .inr h3
   ·exact qHc n u M q q' h
theorem qJb (M:List MoD) (n:Nat): ∀(f i:Nat) (q q':List (List Int)),lvGo M n f i q=some q'→q.length≤q'.length∧ ∀w∈q',w∈q∨w.length=n
 | 0,_,q,q',h=>by simp[lvGo] at h;subst h;exact⟨zad _,fun w hw=> .inl hw⟩
 | f+1,i,q,q',h=>by
   by_cases hi:i<q.length
   ·rw[qGd M n f i q hi] at h;split at h
    ·cases h
    ·rename_i q2 h2
     obtain⟨a1,a2⟩:=qHc n _ M q q2 h2;obtain⟨b1,b2⟩:=qJb M n f (i+1) q2 q' h;refine⟨tO,fun w hw=> ?_⟩;rcases b2 w hw with h3 | h3
     ·exact a2 w h3
     ·exact .inr h3
   ·rw[lvGo,dif_neg hi] at h;injection h with h
    subst h;exact⟨zad _,fun w hw=> .inl hw⟩
theorem qEh {r:Int} {w:List Int} (h:(levF r w).2=true):0<(levF r w).1.length∧ ∀u∈(levF r w).1,u.length≤6:=by
 unfold levF at h⊢;split
 ·rename_i hc
  rw[if_pos hc] at h;split at h
  ·cases h
  ·rename_i q hq
   obtain⟨h1,h2⟩:=qJb _ _ _ _ _ _ hq;have hm:=(qCG qDp q).2;refine⟨?_,fun u hu=> ?_⟩
   ·rcases zaT (srt cK q).length with e | e
    ·have e0:=zal e;match q,h1 with
     | x::l,_=>
       have:=(hm x).2 (by simp)
       rw[e0] at this;cases this
    ·exact e
   ·rcases h2 u ((hm u).1 hu) with h3 | h3
    ·rw[zan] at h3;subst h3;exact hc.2
    ·have:=hc.2;omega
 ·rename_i hc
  rw[if_neg hc] at h;cases h
theorem qKK (n:Nat) (u:List Int): ∀(M:List MoD) (q q':List (List Int)),q.length≤60→lvK n u M q=some q'→q'.length≤60
 | [],q,q',hq,h=>by simp[lvK] at h;subst h;exact hq
 | m::M,q,q',hq,h=>by
   rw[lvK] at h;split at h
   ·split at h
    ·cases h
    ·exact qKK n u M _ q' (by rw[zaf,zaN];omega) h
   ·exact qKK n u M q q' hq h
theorem qKX (M:List MoD) (n:Nat): ∀(f i:Nat) (q q':List (List Int)),q.length≤60→lvGo M n f i q=some q'→q'.length≤60
 | 0,_,q,q',hq,h=>by simp[lvGo] at h;subst h;exact hq
 | f+1,i,q,q',hq,h=>by
   by_cases hi:i<q.length
   ·rw[qGd M n f i q hi] at h;split at h
    ·cases h
    ·rename_i q2 h2
     exact qKX M n f (i+1) q2 q' (qKK n _ M q q2 hq h2) h
   ·rw[lvGo,dif_neg hi] at h;injection h with h
    subst h;exact hq
theorem qOV (r:Int) (w:List Int):(levF r w).1.length≤60:=by
 unfold levF;split
 ·split
  ·simp
  ·rename_i q hq
   have h1:=qKX _ _ _ _ _ _ (by simp) hq;have h2:=qDT (c:=cK) q;simp only
   omega
 ·simp
theorem qFn (r:Int) (w:List Int):(orbF r w).1.length≤6:=by
 unfold orbF;split
 ·rename_i h
  obtain⟨h1,h2⟩:=qEh h;match hl:(levF r w).1,h1 with
  | x::l,_=>exact h2 x (by rw[hl];simp)
 ·simp
theorem qBO (r:Int) (v:Value) (xs:List Int) (w:World) (hr:I64 r) (h:RdI w v xs) (hl:xs.length≤1048576):
  Calls Tryz.prog 38 #[.int .i64 r,v] w fun e w'=> ∃s,e= .returned (.tuple #[s, .bool (orbF r xs).2])∧OwI w' w.heap.size s (orbF r xs).1∧Below w.heap.size w w':=by
 have iP:=qA (qDW r v xs w hr h hl);obtain⟨A,cap,rfl,_⟩:=h.arg;rcases e:(levF r xs).2 with _ | _
 ·have F:Hid (orbF r xs=([],false)):=qA (by unfold orbF;rw[e];rfl);rw[e] at iP;clear h e hr;go_enter Tryz.func38,Tryz.ntmps38
  go_wp2_with (go_at_call 40;(with_reducible refine iP.out.mono ?_);rintro e w1 ⟨s1,rfl,o1,b1⟩;have B1:=qA b1;obtain⟨A1,m1,c1,rfl⟩:=o1.any;clear o1 b1)
  have hs:=B1.out.size;refine bodyPost_ret (v:= .tuple #[.slice (some ⟨w1.heap.size,0,none⟩) 0 0, .bool false]) (by simp[results,Tryz.results38,go_sem]) rfl ⟨_,by rw[F.out],?_,B1.out.alloc hs _⟩;rw[F.out];exact qW w1 [] qS (by simp) hs
 ·have h0:=(qEh e).1;have h6:=(qEh e).2;have F:Hid (orbF r xs=((levF r xs).1[0],true)):=qA (by
   unfold orbF;rw[e,if_pos rfl];match hl:(levF r xs).1,h0 with
   | x::l,_=>simp[hl])
  rw[e] at iP;have Ku:=h6 _ (zai h0);generalize (levF r xs).1=L at*;clear h e hr h6;go_enter Tryz.func38,Tryz.ntmps38
  go_wp2_with (first
   | (go_at_call 40;(with_reducible refine iP.out.mono ?_);rintro e w1 ⟨s1,rfl,o1,b1⟩;have B1:=qA b1;obtain⟨A1,c1,rfl,_⟩:=o1.len;obtain⟨b,off,A2,c2,rfl,hb,hc,_,_,hr⟩:=o1.rd.at h0;have aZ:w1.cell? ⟨b,off,none⟩=some (.slice A2 L[0].length c2):=hc;have q5:=qA hr;have ev:(w1.alloc (.cells #[] 3)).cell? ⟨b,off,none⟩=some (.slice A2 L[0].length c2):=(World.cell?_alloc_past _ _ _ hb).trans aZ;have kP:(0:Int)<(L.length:Int):=tO;clear o1 b1 hr hc;generalize L[0]=x at*)
   | (at_builtin;refine qi rfl (.tmp 17) (.tmp 20) rfl w1.heap.size _ [] (qW w1 [] qS (by simp) (zad _)) rfl _ x (q5.out.alloc _) rfl (by simp;omega) (by simp) ?_;intro v2 w2 o2 g2 p2;have O2:Hid (OwI w2 w1.heap.size v2 x):=qA (by simpa using o2);have B2:Hid (Below w1.heap.size w1 w2):=qA (((zae _ _).alloc (zad _) _).grown g2 (by simp) (fun k hk=>by simp[zaO] at hk;omega));obtain⟨A3,m3,c3,rfl⟩:=o2.any;clear o2 g2 p2))
  have hs:=B1.out.size;refine bodyPost_ret (v:= .tuple #[.slice A3 m3 c3, .bool true]) (by simp[results,Tryz.results38,go_sem]) rfl ⟨_,by rw[F.out],?_,B1.out.trans (B2.out.mono hs)⟩;rw[F.out];exact O2.out.mono hs
theorem qAr (r:Int) (v:Value) (xs:List Int) (w:World) (hr:I64 r) (h:RdI w v xs) (hl:xs.length≤1048576):
  Calls Tryz.prog 37 #[.int .i64 r,v] w fun e w'=> ∃s,e= .returned (.tuple #[s, .bool (orbF r xs).2])∧OwI w' w.heap.size s (orbF r xs).1∧Below w.heap.size w w':=by
 have iP:=qA (qDP r v xs w hr h hl);obtain⟨A,cap,rfl,_⟩:=h.arg;rcases e:(levF r xs).2 with _ | _
 ·have F:Hid (orbF r xs=([],false)):=qA (by unfold orbF;rw[e];rfl);rw[e] at iP;clear h e hr;go_enter Tryz.func37,Tryz.ntmps37
  go_wp2_with (go_at_call 39;(with_reducible refine iP.out.mono ?_);rintro e w1 ⟨s1,rfl,o1,b1⟩;have B1:=qA b1;obtain⟨A1,m1,c1,rfl⟩:=o1.any;clear o1 b1)
  have hs:=B1.out.size;refine bodyPost_ret (v:= .tuple #[.slice (some ⟨w1.heap.size,0,none⟩) 0 0, .bool false]) (by simp[results,Tryz.results37,go_sem]) rfl ⟨_,by rw[F.out],?_,B1.out.alloc hs _⟩;rw[F.out];exact qW w1 [] qS (by simp) hs
 ·have h0:=(qEh e).1;have F:Hid (orbF r xs=((levF r xs).1[0],true)):=qA (by
   unfold orbF;rw[e,if_pos rfl];match hl:(levF r xs).1,h0 with
   | x::l,_=>simp[hl])
  rw[e] at iP;generalize (levF r xs).1=L at*;clear h e hr;go_enter Tryz.func37,Tryz.ntmps37
  go_wp2_with (go_at_call 39;(with_reducible refine iP.out.mono ?_);rintro e w1 ⟨s1,rfl,o1,b1⟩;have B1:=qA b1;obtain⟨A1,c1,rfl,_⟩:=o1.len;obtain⟨g,cs,Fe,rfl,_,_,hE,_,ci,_,hc,_,iE,_⟩:=o1.focus EI.stable h0;obtain⟨s,rfl,ho,rfl⟩:=hE;have aZ:w1.cell? ⟨g,0,none⟩=some s:=(by have:=hc 0 (by simp);simpa using this);have HO:Hid (OwI w1 w.heap.size s L[0]):=qA (ho.alone fun b hb=>(ci b (by rw[hb];simp)).1);obtain⟨A2,m2,c2,rfl⟩:=ho.any;have kP:(0:Int)<(L.length:Int):=tO;clear o1 b1 hc ci ho;generalize L[0]=x at*)
  refine bodyPost_ret (v:= .tuple #[.slice A2 m2 c2, .bool true]) (by simp[results,Tryz.results37,go_sem]) rfl ⟨_,by rw[F.out],?_,B1.out⟩;rw[F.out];exact HO.out
theorem qCy (r:Int) (u v:Value) (xs ys:List Int) (w:World) (hr:I64 r) (h:RdI w u xs) (h':RdI w v ys) (hl:xs.length≤1048576) (fC:ys.length≤1048576):
  Calls Tryz.prog 46 #[.int .i64 r,u,v] w fun e w'=>e= .returned (.tuple #[.bool (autF r xs ys).1, .bool (autF r xs ys).2])∧Below w.heap.size w w':=by
 have H1:=qA (qBO r u xs w hr h hl);have H2:=qA fun W (h:RdI W v ys)=>qBO r v ys W hr h fC;have HV:=qA h';have zX:=qFn r xs;have II:=qFn r ys;have ju:Hid (autF r xs ys=if(orbF r xs).2=true∧(orbF r ys).2=true then(decide ((orbF r xs).1=(orbF r ys).1),true) else(false,false)):=qA rfl;generalize orbF r xs=P1 at*;generalize orbF r ys=P2 at*;obtain⟨x,p1⟩:=P1;obtain⟨y,p2⟩:=P2;simp only at*
 clear h h' hr;rcases p1 with _ | _
 ·have F:Hid (autF r xs ys=(false,false)):=qA (by rw[ju.out];simp);clear ju;go_enter Tryz.func46,Tryz.ntmps46
  go_wp2_with (first
   | (go_at_call 38;(with_reducible refine H1.out.mono ?_);rintro e w1 ⟨s1,rfl,o1,b1⟩;have B1:=qA b1;obtain⟨A1,c1,rfl,_⟩:=o1.form;have O1:=qA o1;clear o1 b1)
   | (go_at_call 38;(with_reducible refine(H2.out _ (HV.out.below B1.out)).mono ?_);rintro e w2 ⟨s2,rfl,o2,b2⟩;have B2:=qA b2;obtain⟨A2,c2,rfl,_⟩:=o2.form;have O2:=qA o2;clear o2 b2))
  have hs:=B1.out.size;exact bodyPost_ret (v:= .tuple #[.bool false, .bool false]) (by simp[results,Tryz.results46,go_sem]) rfl ⟨by rw[F.out],B1.out.trans (B2.out.mono hs)⟩
 ·rcases p2 with _ | _
  ·have F:Hid (autF r xs ys=(false,false)):=qA (by rw[ju.out];simp);clear ju;go_enter Tryz.func46,Tryz.ntmps46
   go_wp2_with (first
    | (go_at_call 38;(with_reducible refine H1.out.mono ?_);rintro e w1 ⟨s1,rfl,o1,b1⟩;have B1:=qA b1;obtain⟨A1,c1,rfl,_⟩:=o1.form;have O1:=qA o1;clear o1 b1)
    | (go_at_call 38;(with_reducible refine(H2.out _ (HV.out.below B1.out)).mono ?_);rintro e w2 ⟨s2,rfl,o2,b2⟩;have B2:=qA b2;obtain⟨A2,c2,rfl,_⟩:=o2.form;have O2:=qA o2;clear o2 b2))
   have hs:=B1.out.size;exact bodyPost_ret (v:= .tuple #[.bool false, .bool false]) (by simp[results,Tryz.results46,go_sem]) rfl ⟨by rw[F.out],B1.out.trans (B2.out.mono hs)⟩
  ·have F:Hid (autF r xs ys=(decide (x=y),true)):=qA (by rw[ju.out];simp);clear ju;go_enter Tryz.func46,Tryz.ntmps46
   go_wp2_with (first
    | (go_at_call 38;(with_reducible refine H1.out.mono ?_);rintro e w1 ⟨s1,rfl,o1,b1⟩;have B1:=qA b1;obtain⟨A1,c1,rfl,_⟩:=o1.form;have O1:=qA o1;clear o1 b1)
    | (go_at_call 38;(with_reducible refine(H2.out _ (HV.out.below B1.out)).mono ?_);rintro e w2 ⟨s2,rfl,o2,b2⟩;have B2:=qA b2;obtain⟨A2,c2,rfl,_⟩:=o2.form;have O2:=qA o2;clear o2 b2)
    | (go_at_call 96;(with_reducible refine(qAj _ _ x y _ (O1.out.below B2.out).arg O2.out.arg).mono ?_);rintro e w3 ⟨rfl,n3,rfl⟩))
   have hs:=B1.out.size;exact bodyPost_ret (v:= .tuple #[.bool (decide (x=y)), .bool true]) (by simp[results,Tryz.results46,go_sem]) rfl ⟨by rw[F.out],qB (B1.out.trans (B2.out.mono hs)) n3⟩
theorem qCx (r:Int) (u v:Value) (xs ys:List Int) (w:World) (hr:I64 r) (h:RdI w u xs) (h':RdI w v ys) (hl:xs.length≤1048576) (fC:ys.length≤1048576):
  Calls Tryz.prog 45 #[.int .i64 r,u,v] w fun e w'=>e= .returned (.tuple #[.bool (autF r xs ys).1, .bool (autF r xs ys).2])∧Below w.heap.size w w':=by
 have H1:=qA (qAr r u xs w hr h hl);have H2:=qA fun W (h:RdI W v ys)=>qAr r v ys W hr h fC;have HV:=qA h';have zX:=qFn r xs;have II:=qFn r ys;have ju:Hid (autF r xs ys=if(orbF r xs).2=true∧(orbF r ys).2=true then(decide ((orbF r xs).1=(orbF r ys).1),true) else(false,false)):=qA rfl;generalize orbF r xs=P1 at*;generalize orbF r ys=P2 at*;obtain⟨x,p1⟩:=P1;obtain⟨y,p2⟩:=P2;simp only at*
 clear h h' hr;rcases p1 with _ | _
 ·have F:Hid (autF r xs ys=(false,false)):=qA (by rw[ju.out];simp);clear ju;go_enter Tryz.func45,Tryz.ntmps45
  go_wp2_with (first
   | (go_at_call 37;(with_reducible refine H1.out.mono ?_);rintro e w1 ⟨s1,rfl,o1,b1⟩;have B1:=qA b1;obtain⟨A1,c1,rfl,_⟩:=o1.form;have O1:=qA o1;clear o1 b1)
   | (go_at_call 37;(with_reducible refine(H2.out _ (HV.out.below B1.out)).mono ?_);rintro e w2 ⟨s2,rfl,o2,b2⟩;have B2:=qA b2;obtain⟨A2,c2,rfl,_⟩:=o2.form;have O2:=qA o2;clear o2 b2))
  have hs:=B1.out.size;exact bodyPost_ret (v:= .tuple #[.bool false, .bool false]) (by simp[results,Tryz.results45,go_sem]) rfl ⟨by rw[F.out],B1.out.trans (B2.out.mono hs)⟩
 ·rcases p2 with _ | _
  ·have F:Hid (autF r xs ys=(false,false)):=qA (by rw[ju.out];simp);clear ju;go_enter Tryz.func45,Tryz.ntmps45
   go_wp2_with (first
    | (go_at_call 37;(with_reducible refine H1.out.mono ?_);rintro e w1 ⟨s1,rfl,o1,b1⟩;have B1:=qA b1;obtain⟨A1,c1,rfl,_⟩:=o1.form;have O1:=qA o1;clear o1 b1)
    | (go_at_call 37;(with_reducible refine(H2.out _ (HV.out.below B1.out)).mono ?_);rintro e w2 ⟨s2,rfl,o2,b2⟩;have B2:=qA b2;obtain⟨A2,c2,rfl,_⟩:=o2.form;have O2:=qA o2;clear o2 b2))
   have hs:=B1.out.size;exact bodyPost_ret (v:= .tuple #[.bool false, .bool false]) (by simp[results,Tryz.results45,go_sem]) rfl ⟨by rw[F.out],B1.out.trans (B2.out.mono hs)⟩
  ·have F:Hid (autF r xs ys=(decide (x=y),true)):=qA (by rw[ju.out];simp);clear ju;go_enter Tryz.func45,Tryz.ntmps45
   go_wp2_with (first
    | (go_at_call 37;(with_reducible refine H1.out.mono ?_);rintro e w1 ⟨s1,rfl,o1,b1⟩;have B1:=qA b1;obtain⟨A1,c1,rfl,_⟩:=o1.form;have O1:=qA o1;clear o1 b1)
    | (go_at_call 37;(with_reducible refine(H2.out _ (HV.out.below B1.out)).mono ?_);rintro e w2 ⟨s2,rfl,o2,b2⟩;have B2:=qA b2;obtain⟨A2,c2,rfl,_⟩:=o2.form;have O2:=qA o2;clear o2 b2)
    | (go_at_call 95;(with_reducible refine(qEI _ _ x y _ (O1.out.below B2.out).arg O2.out.arg).mono ?_);rintro e w3 ⟨rfl,n3,rfl⟩))
   have hs:=B1.out.size;exact bodyPost_ret (v:= .tuple #[.bool (decide (x=y)), .bool true]) (by simp[results,Tryz.results45,go_sem]) rfl ⟨by rw[F.out],qB (B1.out.trans (B2.out.mono hs)) n3⟩
theorem OwII.trP {p lo hi:Nat} {w w':World} {v:Value} {L:List (List Int)} (h:OwII lo hi v L w) (ht:Tr p (p+1) w w') (hp:p<lo) (hh:hi≤w.heap.size):OwII lo hi v L w':=
 h.keep EI.stable fun b h1 h2=>ht.block b tO tO
def qCA (g:GrD):Bool:=qGP g&&decide (g.2.1=1)&&decide ((g.2.2.length:Int)=g.1)
theorem qGu (v:Value) (g:GrD) (w:World) (h:ArgG w v g):
  Calls Tryz.prog 123 #[v] w fun e w'=>e= .returned (.bool (qCA g))∧Below w.heap.size w w':=by
 have HG:=qA h;obtain⟨s,rfl,bg,bH,ha⟩:=h;obtain⟨A,cap,rfl⟩:=ha.form;obtain⟨g1,N,es⟩:=g;simp only at*
 clear ha;go_enter Tryz.func123,Tryz.ntmps123
 go_wp2_with fail;obtain⟨W,hW⟩: ∃W,W=w.alloc (.cells #[.int .i64 g1,.int .i64 N, .slice A es.length cap] 82):=⟨_,rfl⟩;obtain⟨cI,b1,aC⟩:=qQb hW;rw[←hW];have BX:=qA b1;have bZ:=qA aC;have HA:Hid (∀w',Below (w.heap.size+1) W w'→ArgG w' (.agg #[.int .i64 g1, .int .i64 N, .slice A es.length cap]) (g1,N,es)):=qA fun w' hb=>HG.out.below (BX.out.trans (hb.mono tO));clear hW b1 aC;refine(qEM _ (g1,N,es) W (HA.out W ((zae W.heap.size W).mono tO))).mono ?_
 rintro e w2 ⟨rfl,b2⟩;have bK:=b2.size;have B2:Hid (Below (w.heap.size+1) W w2):=qA (b2.mono tO);clear b2;obtain⟨q0,q1,q2⟩:=bZ.out w2 B2.out;have bP:Hid (Below w.heap.size w w2):=qA (BX.out.trans (B2.out.mono tO));rcases ec:qGP (g1,N,es) with _ | _
 ·have F:Hid (qCA (g1,N,es)=false):=qA (by unfold qCA;rw[ec];rfl);clear ec;go_wp2;go_ret;exact⟨qC F.out.symm,bP.out⟩
 ·have F:Hid (qCA (g1,N,es)=((N==1)&&((es.length:Int)==g1))):=qA (by unfold qCA;rw[ec];simp only[zaR];rfl);clear ec;rcases e1:(N==1) with _ | _
  ·rw[e1] at F;go_wp2;go_ret;exact⟨qC F.out.symm,bP.out⟩
  ·rw[e1] at F;rcases e2:((es.length:Int)==g1) with _ | _
   ·rw[e2] at F;go_wp2;go_ret;exact⟨qC F.out.symm,bP.out⟩
   ·rw[e2] at F;go_wp2;go_ret;exact⟨qC F.out.symm,bP.out⟩
theorem qGD (v:Value) (g:GrD) (w:World) (h:ArgG w v g):
  Calls Tryz.prog 68 #[v] w fun e w'=>e= .returned (.bool (qCA g))∧Below w.heap.size w w':=by
 have HG:=qA h;obtain⟨s,rfl,bg,bH,ha⟩:=h;obtain⟨A,cap,rfl⟩:=ha.form;obtain⟨g1,N,es⟩:=g;simp only at*
 clear ha;go_enter Tryz.func68,Tryz.ntmps68
 go_wp2_with fail;obtain⟨W,hW⟩: ∃W,W=w.alloc (.cells #[.int .i64 g1,.int .i64 N, .slice A es.length cap] 82):=⟨_,rfl⟩;obtain⟨cI,b1,aC⟩:=qQb hW;rw[←hW];have BX:=qA b1;have bZ:=qA aC;have HA:Hid (∀w',Below (w.heap.size+1) W w'→ArgG w' (.agg #[.int .i64 g1, .int .i64 N, .slice A es.length cap]) (g1,N,es)):=qA fun w' hb=>HG.out.below (BX.out.trans (hb.mono tO));clear hW b1 aC;refine(qHB _ (g1,N,es) W (HA.out W ((zae W.heap.size W).mono tO))).mono ?_
 rintro e w2 ⟨rfl,b2⟩;have bK:=b2.size;have B2:Hid (Below (w.heap.size+1) W w2):=qA (b2.mono tO);clear b2;obtain⟨q0,q1,q2⟩:=bZ.out w2 B2.out;have bP:Hid (Below w.heap.size w w2):=qA (BX.out.trans (B2.out.mono tO));rcases ec:qGP (g1,N,es) with _ | _
 ·have F:Hid (qCA (g1,N,es)=false):=qA (by unfold qCA;rw[ec];rfl);clear ec;go_wp2;go_ret;exact⟨qC F.out.symm,bP.out⟩
 ·have F:Hid (qCA (g1,N,es)=((N==1)&&((es.length:Int)==g1))):=qA (by unfold qCA;rw[ec];simp only[zaR];rfl);clear ec;rcases e1:(N==1) with _ | _
  ·rw[e1] at F;go_wp2;go_ret;exact⟨qC F.out.symm,bP.out⟩
  ·rw[e1] at F;rcases e2:((es.length:Int)==g1) with _ | _
   ·rw[e2] at F;go_wp2;go_ret;exact⟨qC F.out.symm,bP.out⟩
   ·rw[e2] at F;go_wp2;go_ret;exact⟨qC F.out.symm,bP.out⟩
theorem qHZ (L:List (List Int)) (k:Nat) (h:k<L.length):qu (L.take (k+1))=qu (L.take k)+L[k].length:=by
 unfold qu;rw[zaj h,zaJ,zaZ];simp only[za2,List.map_nil,za3,List.sum_nil,Nat.add_zero]
theorem qGH (L:List (List Int)) (k:Nat):qu (L.take k)≤qu L:=by
 unfold qu;conv=>rhs;rw[←zaP k L,zaJ,zaZ]
 omega
theorem qEE (v:Value) (L:List (List Int)) (w:World) (h:RdII w v L) (hl:L.length≤1073741824) (hn:qu L≤1073741824):
  Calls Tryz.prog 179 #[v] w fun e w'=>e= .returned (.int .i64 (qu L))∧w=w':=by
 have H:=qA h;obtain⟨A,cap,rfl,aj,hm,_⟩:=h.form;unfold maxLen at hm;clear h;go_enter Tryz.func179,Tryz.ntmps179
 go_wp2;go_loopw [3,4] (fun n i wr=> ∃k:Nat,k≤L.length∧i= .int .i64 k∧n= .int .i64 (qu (L.take k))∧w=wr) (fun _ i _=>L.length-(intOf i).toNat)
 case atStart=>exact⟨0,zam _,rfl,rfl,rfl⟩
 case round=>
  obtain⟨k,hk,rfl,rfl,rfl⟩:=hrel;by_cases ac:k<L.length
  ·obtain⟨b,off,A1,ah,rfl,hb,hc,_,_,hr⟩:=H.out.at ac;have HS:=qA (qHZ L k ac);have hs:=HS.out;have ht:=qGH L (k+1);have eL:(k:Int)<(L.length:Int):=tO;clear hr;generalize L[k]=x at*;have Gj:IntKind.i64.wrap ((qu (L.take k):Int)+(x.length:Int))=((qu (L.take k)+x.length:Nat):Int):=by rw[IntKind.wrap_i64];omega
   generalize qu (L.take k)=m at*;clear hs ht;go_wp2;go_roundw
   case rel=>exact⟨k+1,tO,by go_num,by rw[HS.out];go_num,trivial⟩
   case measure=>(first | omega | (simp[intOf];omega))
  ·obtain rfl:k=L.length:=tO
   rw[zar];obtain⟨m,ch⟩: ∃m,m=qu L:=⟨_,rfl⟩;rw[←ch];have HM:=qA ch;clear ch;go_wp2;exact bodyPost_ret (v:= .int .i64 m) (by simp[results,Tryz.results179,go_sem]) rfl ⟨by rw[HM.out],rfl⟩
def areW (r:Int) (L:List (List Int)):Bool:=L.all (qY r)&&(inB r 1 3&&(decide (L.length≤6)&&decide (qu L<40)))
theorem qFg (r:Int) (v:Value) (L:List (List Int)) (w:World) (h:RdII w v L) (hl:L.length≤1073741824) (hn:qu L≤1073741824) (hx: ∀x∈L,x.length≤1073741824):
  Calls Tryz.prog 163 #[.int .i64 r,v] w fun e w'=>e= .returned (.bool (areW r L))∧ ∃n,w'=w.drewN n:=by
 have H:=qA h;have HX:=qA hx;obtain⟨A,cap,rfl,aj,hm,_⟩:=h.form;unfold maxLen at hm;have HR:Hid (areW r L=(L.all (qY r)&&(inB r 1 3&&(decide (L.length≤6)&&decide (qu L<40))))):=qA rfl;generalize areW r L=res at*;clear h hx;go_enter Tryz.func163,Tryz.ntmps163
 go_wp2;go_loopw [5] (fun i wr=> ∃k:Nat,k≤L.length∧i= .int .i64 k∧(∀x∈L.take k,qY r x=true)∧ ∃n,wr=w.drewN n) (fun i _=>L.length-(intOf i).toNat)
 case atStart=>exact⟨0,zam _,rfl,by simp,0,rfl⟩
 case round=>
  obtain⟨k,hk,rfl,dy,n,rfl⟩:=hrel;have di:=qA dy;clear dy;by_cases ac:k<L.length
  ·obtain⟨b,off,A1,ah,rfl,hb,hc,_,_,hr⟩:=H.out.at ac;have HT:Hid (L.take (k+1)=L.take k++ [L[k]]):=qA (zaj ac);have HM:=qA (zai ac);have gR:=qA hr;have eL:(k:Int)<(L.length:Int):=tO;clear hr;generalize L[k]=x at*;have cX:=HX.out x HM.out;rcases e1:qY r x with _ | _
   ·have HE:=qA fun w (h:ArgI w (.slice A1 x.length ah) x)=>qc r _ x w h cX;rw[e1] at HE;have HF:Hid (res=false):=qA (by
     rw[HR.out];have:L.all (qY r)=false:=by
      rw[List.all_eq_false];exact⟨x,HM.out,by simp[e1]⟩
     rw[this];rfl)
    clear e1 cX;go_wp2_with (go_at_call 25;refine(HE.out _ (gR.out.drewN n).arg).mono ?_;rintro e w1 ⟨rfl,n1,rfl⟩)
    rw[HF.out];exact bodyPost_ret (v:= .bool false) (by simp[results,Tryz.results163,go_sem]) rfl ⟨rfl,_,rfl⟩
   ·have HE:=qA fun w (h:ArgI w (.slice A1 x.length ah) x)=>qc r _ x w h cX;rw[e1] at HE;have HW:=qA e1;clear e1 cX;go_wp2_with (go_at_call 25;refine(HE.out _ (gR.out.drewN n).arg).mono ?_;rintro e w1 ⟨rfl,n1,rfl⟩)
    go_roundw
    case rel=>exact⟨k+1,tO,by go_num,fun y hy=>by
     rw[HT.out] at hy;rcases zao.1 hy with hy | hy
     ·exact di.out y hy
     ·rw[zan.1 hy];exact HW.out,_,rfl⟩
    case measure=>(first | omega | (simp[intOf];omega))
  ·obtain rfl:k=L.length:=tO
   have HA:Hid (L.all (qY r)=true):=qA (by rw[zag];have:=di.out;rwa [zar] at this);have jP:Hid (res=(inB r 1 3&&(decide (L.length≤6)&&decide (qu L<40)))):=qA (by rw[HR.out,HA.out,zaR]);rcases e1:inB r 1 3 with _ | _
   ·have HF:Hid (res=false):=qA (by rw[jP.out,e1];rfl);go_wp2_with (go_at_call 64;refine(qI _ _ _ _).mono ?_;rintro e w' ⟨rfl,rfl⟩)
    rw[HF.out];exact bodyPost_ret (v:= .bool false) (by simp[results,Tryz.results163,go_sem]) rfl ⟨rfl,_,rfl⟩
   ·by_cases h6:L.length≤6
    ·have HF:Hid (res=decide (qu L<40)):=qA (by rw[jP.out,e1,decide_eq_true h6];rfl);have sY:(L.length:Int)≤6:=tO;have Ad:=qA (fun w (h:RdII w (.slice A L.length cap) L)=>qEE _ L w h hl hn);generalize qu L=m at*;go_wp2_with (first | (go_at_call 64;refine(qI _ _ _ _).mono ?_;rintro e w' ⟨rfl,rfl⟩) | (go_at_call 179;refine(Ad.out _ (H.out.drewN n)).mono ?_;rintro e w' ⟨rfl,rfl⟩))
     rw[HF.out];by_cases jn:m<40
     ·have il:(m:Int)<40:=tO;exact bodyPost_ret (v:= .bool true) (by simp[results,Tryz.results163,go_sem,il]) rfl ⟨by rw[decide_eq_true jn],_,rfl⟩
     ·have il: ¬(m:Int)<40:=tO;exact bodyPost_ret (v:= .bool false) (by simp[results,Tryz.results163,go_sem,il]) rfl ⟨by rw[decide_eq_false jn],_,rfl⟩
    ·have HF:Hid (res=false):=qA (by rw[jP.out,e1,decide_eq_false h6];rfl);have sY: ¬(L.length:Int)≤6:=tO;go_wp2_with (go_at_call 64;refine(qI _ _ _ _).mono ?_;rintro e w' ⟨rfl,rfl⟩)
     rw[HF.out];exact bodyPost_ret (v:= .bool false) (by simp[results,Tryz.results163,go_sem]) rfl ⟨rfl,_,rfl⟩
theorem qGi (v y:Value) (g:GrD) (a b:Int) (w:World) (h:ArgG w v g) (ht:RdI w y []) (hg:grB g=true) (ha:0≤a∧a<g.2.1) (hb:0≤b∧b<g.2.1):
  Calls Tryz.prog 180 #[v, .int .i64 a,y, .int .i64 b] w fun x w'=> ∃r,x= .returned (.tuple #[r, .bool false])∧OwG w' w.heap.size r g∧Below w.heap.size w w':=by
 have HG:=qA h;have HY:=qA ht;have aD:=qA hg;have HW:=qA (show qY g.1 []=true by unfold qY;rw[qP.2 (qR hg).1];rfl);have HA:=qA ha;have mI:=qA hb;obtain⟨n4,jn,dj,_⟩:=qR hg;obtain⟨s,rfl,bg,bH,kY⟩:=h;obtain⟨A,cap,rfl⟩:=kY.form;obtain⟨T,tc,rfl,_⟩:=ht.arg;obtain⟨g1,N,es⟩:=g;simp only at*
 clear kY hg ha hb;go_enter Tryz.func180,Tryz.ntmps180
 go_wp2_with fail;obtain⟨W1,cC⟩: ∃W,W=w.alloc (.cells #[.int .i64 g1,.int .i64 N, .slice A es.length cap] 82):=⟨_,rfl⟩;rw[←cC];obtain⟨aA,b1,aC,_⟩:=gbox cC;obtain⟨W,hW⟩: ∃W,W=W1.alloc (.cells #[.int .i64 0,.int .i64 0, .slice none 0 0] 82):=⟨_,rfl⟩;rw[←hW];obtain⟨bK,b2,dG,dq⟩:=gbox hW;have cI:W.heap.size=w.heap.size+2:=tO;have kw:=qA aC;have ik:=qA dG;have d9:=qA dq;have sR:=qA b1;have iF:=qA b2;have BX:Hid (Below w.heap.size w W):=qA (b1.trans (b2.mono tO));have bZ:Hid (∀w',Below (w.heap.size+2) W w'→w'.cell? ⟨w.heap.size,0,none⟩=some (.int .i64 g1)∧w'.cell? ⟨w.heap.size,1,none⟩=some (.int .i64 N)∧w'.cell? ⟨w.heap.size,2,none⟩=some (.slice A es.length cap)):=qA fun w' hb=>kw.out w' ((iF.out.mono tO).trans (hb.mono tO));have gT:Hid (∀w',Below (w.heap.size+2) W w'→(w'.cell? ⟨w.heap.size+1,0,none⟩=some (.int .i64 0)∧w'.cell? ⟨w.heap.size+1,1,none⟩=some (.int .i64 0)∧w'.cell? ⟨w.heap.size+1,2,none⟩=some (.slice none 0 0))∧ ∀j,w'.frozen? ⟨w.heap.size+1,j,none⟩=false):=qA fun w' hb=>by
  have e:Below (W1.heap.size+1) W w':=hb.mono tO;have h1:=ik.out w' e;have h2:=fun j=>d9.out j w' e;rw[aA] at h1 h2;exact⟨h1,h2⟩
 have nc:Hid (∀w',Below (w.heap.size+2) W w'→ArgG w' (.agg #[.int .i64 g1, .int .i64 N, .slice A es.length cap]) (g1,N,es)):=qA fun w' hb=>HG.out.below (BX.out.trans (hb.mono tO));have gP:Hid (∀w',Below (w.heap.size+2) W w'→RdI w' (.slice T 0 tc) []):=qA fun w' hb=>HY.out.below (BX.out.trans (hb.mono tO));clear cC hW aC dG dq b1 b2 kw ik d9 sR iF aA bK;obtain⟨q0,q1,q2⟩:=bZ.out W ((zae W.heap.size W).mono tO);refine(qCa _ (g1,N,es) W (nc.out W ((zae W.heap.size W).mono tO)) (by simp only;omega)).mono ?_
 clear q0 q1 q2;rintro e w5 ⟨r,rfl,o5,b5⟩;have eQ:=b5.size;have B5:Hid (Below (w.heap.size+2) W w5):=qA (b5.mono tO);obtain⟨s1,rfl,_,_,cB⟩:=o5;obtain⟨A1,c1,rfl,_⟩:=cB.form;simp only at*
 clear b5;have ny:Below w5.heap.size w5 (w5.alloc (.cells #[.int .i64 g1,.int .i64 N, .slice A1 es.length c1] 82)):=(zae _ _).alloc (zad _) _;obtain⟨q0,q1,q2⟩:=bZ.out _ (B5.out.trans (ny.mono tO));clear ny;go_wp2_with fail;clear q0 q1 q2;obtain⟨W6,iG⟩: ∃W,W=w5.alloc (.cells #[.int .i64 g1,.int .i64 N, .slice A1 es.length c1] 82):=⟨_,rfl⟩;have nD:=qA (GBx.new (m:=(g1,N,es)) cB bg bH iG);obtain⟨fU,b6,_,_⟩:=gbox iG;rw[←iG];have B6:Hid (Below (w.heap.size+2) W W6):=qA (B5.out.trans (b6.mono tO));clear iG b6 cB;obtain⟨p,hp⟩: ∃p,p=w5.heap.size:=⟨_,rfl⟩;rw[←hp] at nD⊢;have lk:w.heap.size+2≤p:=tO;have Br:p<W6.heap.size:=tO;clear hp fU eQ;have gB:=qA (qt _ (g1,N,es) W6 (nc.out W6 B6.out));rw[aD.out] at gB;refine gB.out.mono ?_;clear gB;rintro e w7 ⟨rfl,b7⟩;have B7:=qA (B6.out.trans (b7.mono (by have:=B6.out.size;omega)));have rq:=qA (nD.out.below b7);clear b7;obtain⟨q0,q1,q2⟩:=bZ.out w7 B7.out;have E1:inB a 0 (N-1)=true:=by unfold inB;simp;have:=HA.out;omega
 have E2:inB b 0 (N-1)=true:=by unfold inB;simp;have:=mI.out;omega
 have EW:=qA (qc g1 _ [] w7 (gP.out w7 B7.out).arg (by simp));rw[HW.out] at EW;go_wp2_with (go_at_call 64;refine(qI _ _ _ _).mono ?_;rintro e w' ⟨rfl,rfl⟩)
 refine EW.out.mono ?_;clear EW E1 E2 q0 q1 q2;rintro e w8 ⟨rfl,nd,rfl⟩;obtain⟨w8,jQ⟩: ∃W,W=w7.drewN nd:=⟨_,rfl⟩;rw[←jQ];have B8:Hid (Below (w.heap.size+2) W w8):=qA (by rw[jQ];exact qB B7.out _);have eD:Hid (GBx w8 p W.heap.size A1 c1 (g1,N,es)):=qA (by rw[jQ];exact rq.out.below (qB (zae _ _) _));clear jQ;obtain⟨q0,q1,q2⟩:=bZ.out w8 B8.out;obtain⟨z0,z1,z2⟩:=eD.out.cs;simp only at z0 z1 z2
 obtain⟨⟨r0,r1,r2⟩,em⟩:=gT.out w8 B8.out;have dR:=em 0;have dP:=em 1;have dI:=em 2;clear em;go_wp2;obtain⟨e0,e1,e2⟩:=qAH (.int .i64 g1) (.int .i64 N) (.slice A1 es.length c1) r0 r1 r2;have bw:Below w.heap.size w (((w8.setCell ⟨w.heap.size+1,0,none⟩ (.int .i64 g1)).setCell ⟨w.heap.size+1,1,none⟩ (.int .i64 N)).setCell ⟨w.heap.size+1,2,none⟩ (.slice A1 es.length c1)):=qp _ _ _ (BX.out.trans (B8.out.mono tO)) tO;have ow:OwE (((w8.setCell ⟨w.heap.size+1,0,none⟩ (.int .i64 g1)).setCell ⟨w.heap.size+1,1,none⟩ (.int .i64 N)).setCell ⟨w.heap.size+1,2,none⟩ (.slice A1 es.length c1)) W.heap.size (.slice A1 es.length c1) es:=eD.out.ow.keep fun b hb=>qAP _ _ _ _ _ (by have:=(eD.out.ow.1.lt b hb).1;omega);exact bodyPost_ret (v:= .tuple #[.agg #[.int .i64 g1, .int .i64 N, .slice A1 es.length c1], .bool false]) (by simp[results,Tryz.results180,go_sem,e0,e1,e2]) rfl ⟨_,rfl,⟨.slice A1 es.length c1,rfl,bg,bH,ow.mono tO⟩,bw⟩
def petG (g:GrD) (t:List Int):GrD:=if t= [] then g else if qCU g t=true then addG g 0 0 t else g
def petB (g:GrD) (t:List Int):Bool:=if t= [] then false else qCU g t
theorem qPt {g:GrD} {t:List Int} (hg:grB g=true) (hw:qY g.1 t=true):grB (petG g t)=true∧(petG g t).1=g.1∧(petG g t).2.2.length≤g.2.2.length+t.length:=by
 have hr:=(qR hg).2.1;unfold petG;split
 ·exact⟨hg,rfl,tO⟩
 ·rename_i h0
  have Cu:t.length≠0:=fun q=>h0 (zal q);split
  ·rename_i ar
   refine⟨qPb hg tO tO hw Cu ar,rfl,?_⟩;have h1:=qDT (c:=cmpE) (g.2.2++pthL g.2.1.toNat 0 0 t t.length);rw[zaf,qLI] at h1;exact h1
  ·exact⟨hg,rfl,tO⟩
theorem qJg (v y:Value) (g:GrD) (t:List Int) (w:World) (h:ArgG w v g) (ht:RdI w y t) (hg:grB g=true) (hw:qY g.1 t=true) (hl:t.length≤1073741824):
  Calls Tryz.prog 180 #[v, .int .i64 0,y, .int .i64 0] w fun x w'=> ∃r,x= .returned (.tuple #[r, .bool (petB g t)])∧OwG w' w.heap.size r (petG g t)∧Below w.heap.size w w':=by
 have hr:=(qR hg).2.1;by_cases h0:t= []
 ·subst h0;refine(qGi v y g 0 0 w h ht hg tO tO).mono fun x w' ⟨r,e,o,b⟩=>⟨r,e,?_,b⟩
  unfold petG;rw[if_pos rfl];exact o
 ·refine(qGM v y g 0 0 t w h ht hg tO tO hw (fun q=>h0 (zal q)) hl).mono fun x w' ⟨r,e,o,b⟩=>⟨r,?_,?_,b⟩
  ·unfold petB;rw[if_neg h0];exact e
  ·unfold petG;rw[if_neg h0];exact o
theorem qFa (v y:Value) (g:GrD) (t:List Int) (w:World) (h:ArgG w v g) (ht:RdI w y t) (hg:grB g=true) (hw:qY g.1 t=true) (hl:t.length≤1073741824):
  Calls Tryz.prog 165 #[v,y] w fun x w'=> ∃r,x= .returned (.tuple #[r, .bool (petB g t)])∧OwG w' w.heap.size r (petG g t)∧Below w.heap.size w w':=by
 have HP:=qA (fun W v (h:ArgG W v g) (h':RdI W y t)=>qJg v y g t W h h' hg hw hl);generalize petG g t=pg at*;generalize petB g t=o at*;have HG:=qA h;have HY:=qA ht;obtain⟨s,rfl,bg,bH,kY⟩:=h;obtain⟨A,cap,rfl⟩:=kY.form;obtain⟨T,tc,rfl,_⟩:=ht.arg;obtain⟨g1,N,es⟩:=g;obtain⟨p1,p2,ps⟩:=pg;simp only at*
 clear kY hg hw;go_enter Tryz.func165,Tryz.ntmps165
 go_wp2_with fail;obtain⟨W1,cC⟩: ∃W,W=w.alloc (.cells #[.int .i64 g1,.int .i64 N, .slice A es.length cap] 82):=⟨_,rfl⟩;rw[←cC];obtain⟨_,b1,s1⟩:=CBx.new cC;obtain⟨W2,aV⟩: ∃W,W=W1.alloc (.cells #[.int .i64 0,.int .i64 0, .slice none 0 0] 82):=⟨_,rfl⟩;rw[←aV];obtain⟨x2,b2,s2⟩:=CBx.new aV;rw[s1] at x2;have X2:=qA x2;have B2:Hid (Below w.heap.size w W2):=qA (b1.trans (b2.mono tO));clear cC aV b1 b2 x2;refine(HP.out W2 _ (HG.out.below B2.out) (HY.out.below B2.out)).mono ?_
 rintro e w3 ⟨r,rfl,⟨s3,rfl,ed,dT,fA⟩,b3⟩;obtain⟨A3,c3,rfl,_⟩:=fA.form;simp only at ed dT fA⊢
 have O3:=qA fA;have X3:=qA (X2.out.below b3);have B3:=qA (B2.out.trans (b3.mono tO));have dd:=b3.size;clear fA b3 X2 B2;obtain⟨u0,u1,u2⟩:=X3.out.cs;have f0:=X3.out.fz 0;have f1:=X3.out.fz 1;have f2:=X3.out.fz 2;have ac:=X3.out.lt;go_wp2;have XF:=X3.out.setv (.int .i64 p1) (.int .i64 p2) (.slice A3 ps.length c3);have BF:=qp (.int .i64 p1) (.int .i64 p2) (.slice A3 ps.length c3) B3.out (show w.heap.size≤w.heap.size+1 by omega);have OF:OwE (((w3.setCell ⟨w.heap.size+1,0,none⟩ (.int .i64 p1)).setCell ⟨w.heap.size+1,1,none⟩ (.int .i64 p2)).setCell ⟨w.heap.size+1,2,none⟩ (.slice A3 ps.length c3)) W2.heap.size (.slice A3 ps.length c3) ps:=O3.out.keep fun c hc=>qAP _ _ _ _ _ (by have:=(O3.out.1.lt c hc).1;omega);have Jj:=qNp w3 (w.heap.size+1) (.int .i64 p1) (.int .i64 p2) (.slice A3 ps.length c3);generalize ((w3.setCell ⟨w.heap.size+1,0,none⟩ (.int .i64 p1)).setCell ⟨w.heap.size+1,1,none⟩ (.int .i64 p2)).setCell ⟨w.heap.size+1,2,none⟩ (.slice A3 ps.length c3)=w5 at*;have bz:Below w5.heap.size w5 (w5.alloc (.cells #[.int .i64 p1,.int .i64 p2, .slice A3 ps.length c3] 82)):=(zae _ _).alloc (zad _) _;obtain⟨e0,e1,e2⟩:=(XF.below bz).cs;exact bodyPost_ret (v:= .tuple #[.agg #[.int .i64 p1, .int .i64 p2, .slice A3 ps.length c3], .bool o]) (by simp[results,Tryz.results165,go_sem,e0,e1,e2]) rfl ⟨_,rfl,⟨_,rfl,ed,dT,(OF.below bz).mono tO⟩,BF.trans (bz.mono tO)⟩
def isT (W:World) (q:Nat) (t:TypeId):Prop:= ∃arr fr,W.heap[q]? =some (.cells arr t fr)
theorem isT.lt {W:World} {q:Nat} {t:TypeId} (h:isT W q t):q<W.heap.size:=by
 obtain⟨_,_,h⟩:=h;rcases zaU q W.heap.size with h' | h'
 ·exact h'
 ·rw[Array.getElem?_eq_none h'] at h;cases h
theorem isT.new (w:World) (arr:Array Value) (t:TypeId):isT (w.alloc (.cells arr t)) w.heap.size t:=⟨arr,(0,0),by show(w.heap.push _)[w.heap.size]? =_;simp⟩
theorem isT.below {W W':World} {q:Nat} {t:TypeId} (h:isT W q t) (hb:Below W.heap.size W W'):isT W' q t:=by
 have:=h.lt
 obtain⟨a,f,h⟩:=h;exact⟨a,f,(hb.block q this).trans h⟩
theorem isT.set {W:World} {q:Nat} {t:TypeId} (h:isT W q t) (a:Addr) (v:Value):isT (W.setCell a v) q t:=by
 obtain⟨c,f,h⟩:=h;by_cases e:a.block=q
 ·subst e;refine⟨if a.spot.isSome then c else c.setIfInBounds a.off v,f,?_⟩;show(W.heap.modify a.block _)[a.block]? =_
  rw[zaQ,if_pos rfl,h];rfl
 ·refine⟨c,f,?_⟩;show(W.heap.modify a.block _)[q]? =_
  rw[zaQ,if_neg e,h]
theorem OwE.notG {W:World} {base q:Nat} {v:Value} {es:List EdD} (h:OwE W base v es) (hq:isT W q 82): ∀b,v.ownBlock=some b→b≠q:=fun b hb e=>by
 subst e;obtain⟨c,f,hq⟩:=hq;rcases h.1.2 with ⟨hv,_⟩ | ⟨g,cap,cur,hv,_,hh,_⟩
 ·rw[hv] at hb;cases hb
 ·rw[hv] at hb;have:g=b:=by simpa[zaO] using hb
  subst this;rw[hh] at hq;injection hq with hq
  injection hq with _ e2 _
  exact absurd e2 (by decide)
def floF (r:Int) (L:List (List Int)):GrD:=L.foldl petG (r,1,[])
theorem qFL {r:Int} {L:List (List Int)} (h:areW r L=true):(∀x∈L,qY r x=true)∧(1≤r∧r≤3)∧L.length≤6∧qu L<40:=by
 unfold areW at h;simp only[zaz,zag,decide_eq_true_eq] at h;exact⟨h.1,qP.1 h.2.1,h.2.2.1,h.2.2.2⟩
theorem qKR {r:Int} {L:List (List Int)} (hr:1≤r∧r≤3) (h: ∀x∈L,qY r x=true): ∀k,k≤L.length→grB ((L.take k).foldl petG (r,1,[]))=true∧((L.take k).foldl petG (r,1,[])).1=r
 | 0,_=>⟨qLP hr ⟨show(1:Int)≤1 by decide,show(1:Int)≤40 by decide⟩ (by simp) List.Pairwise.nil (fun _ h=>by cases h),rfl⟩
 | k+1,hk=>by
   have ih:=qKR hr h k tO;rw[zaj tO,zaV];have hx:=h _ (zai (show k<L.length by omega));rw[←ih.2] at hx;have:=qPt ih.1 hx
   exact⟨this.1,this.2.1.trans ih.2⟩
theorem isT.set3 {W:World} {q:Nat} {t:TypeId} (h:isT W q t) (p:Nat) (a b c:Value):isT (((W.setCell ⟨p,0,none⟩ a).setCell ⟨p,1,none⟩ b).setCell ⟨p,2,none⟩ c) q t:=((h.set _ _).set _ _).set _ _
theorem qHE {x:List Int}: ∀ {L:List (List Int)},x∈L→x.length≤qu L
 | a::L,h=>by
   unfold qu;simp only[za2,za3];rcases zat.1 h with rfl | h
   ·omega
   ·have:=qHE h
    unfold qu at this;omega
theorem qFb (r:Int) (v:Value) (L:List (List Int)) (w:World) (h:RdII w v L) (hW:areW r L=true):
  Calls Tryz.prog 145 #[.int .i64 r,v] w fun x w'=> ∃rv,x= .returned (.tuple #[rv, .bool true])∧OwG w' w.heap.size rv (floF r L)∧Below w.heap.size w w':=by
 obtain⟨jI,hr,IV,zI⟩:=qFL hW;have aH: ∀x∈L,x.length≤1073741824:=fun x hx=>by
  have:=qHE hx
  omega
 have tV:=qA jI;have dO:=qA aH;have jH:=qA (fun k hk=>qKR hr jI k hk);have iC:=qA (fun W (h:RdII W v L)=>qFg r v L W h tO tO aH);rw[hW] at iC;have H:=qA h;have mO:I64 r:=⟨tO,tO⟩;have se:inB r 1 3=true:=qP.2 hr;have rb:=qA (fun W=>qFf r W mO);rw[se] at rb;simp only[if_true] at rb;obtain⟨A,cap,rfl,aj,hm,_⟩:=h.form;unfold maxLen at hm;clear h hW jI aH se;go_enter Tryz.func145,Tryz.ntmps145
 go_wp2_with fail;obtain⟨W0,aF⟩: ∃W,W=w.alloc (.cells #[.int .i64 0,.int .i64 0, .slice none 0 0] 82):=⟨_,rfl⟩;rw[←aF];obtain⟨xb,b0,s0⟩:=CBx.new aF;clear aF;have XB:=qA xb;have B0:=qA b0;clear xb b0;refine(iC.out _ (H.out.below B0.out)).mono ?_
 rintro e w1 ⟨rfl,nd,rfl⟩;obtain⟨w1,aL⟩: ∃W,W=W0.drewN nd:=⟨_,rfl⟩;rw[←aL];have bd:Below W0.heap.size W0 w1:=by rw[aL];exact qB (zae _ _) _
 have X1:=qA (XB.out.below bd);have B1:=qA (B0.out.trans (bd.mono tO));have aA:=bd.size;clear aL bd XB B0 iC;go_wp2_with fail;refine(rb.out w1).mono ?_
 rintro e w2 ⟨rfl,b2⟩;have X2:=qA (X1.out.below b2);have B2:=qA (B1.out.trans (b2.mono tO));have bK:=b2.size;clear b2 X1 B1 rb;go_wp2_with fail;obtain⟨W3,fh⟩: ∃W,W=w2.alloc (.cells #[.int .i64 r,.int .i64 1, .slice none 0 0] 82):=⟨_,rfl⟩;have g3:GBx W3 w2.heap.size (w.heap.size+1) none 0 (r,1,[]):=GBx.new (base:=w.heap.size+1) (m:=(r,1,[])) OwE.nil mO (show I64 1 from⟨tO,tO⟩) fh;obtain⟨_,b3,s3⟩:=CBx.new fh;rw[←fh];have G3:=qA g3;have X3:=qA (X2.out.below b3);have B3:=qA (B2.out.trans (b3.mono tO));clear fh g3 b3 X2 B2;generalize hb:w2.heap.size=b at*;have dp:w.heap.size+1≤b:=tO;clear hb bK aA;go_loopw [8] (fun nv wr=> ∃(k:Nat) (Ar:Option Addr) (cr:Nat),k≤L.length∧nv= .int .i64 k∧GBx wr b (w.heap.size+1) Ar cr ((L.take k).foldl petG (r,1,[]))∧CBx wr w.heap.size (.int .i64 0) (.int .i64 0) (.slice none 0 0)∧Below w.heap.size w wr) (fun nv _=>L.length-(intOf nv).toNat)
 case atStart=>exact⟨0,none,0,zam _,rfl,G3.out,X3.out,B3.out⟩
 case round=>
  obtain⟨k,Ar,cr,hk,rfl,hG,hX,hB⟩:=hrel;have gA:=qA (jH.out k hk);have HG:=qA hG;have HX:=qA hX;have HB:=qA hB;have fL:=hB.size;have ej:=hG.lt;clear hG hX hB;by_cases ac:k<L.length
  ·obtain⟨lb,off,A1,ah,rfl,pB,hc,_,_,d8⟩:=(H.out.below HB.out).at ac;have gR:=qA d8;have HC:=qA hc;have HT:Hid ((L.take (k+1)).foldl petG (r,1,[])=petG ((L.take k).foldl petG (r,1,[])) L[k]):=qA (by rw[zaj ac,zaV];rfl);have HM:=qA (zai ac);have eL:(k:Int)<(L.length:Int):=tO;clear d8 hc;generalize (L.take k).foldl petG (r,1,[])=g at*;generalize L[k]=x at*;have cX:=dO.out x HM.out;have ul:=qA (fun W v (h:ArgG W v g) (h':RdI W (.slice A1 x.length ah) x)=>qFa v _ g x W h h' gA.out.1 (by rw[gA.out.2];exact tV.out x HM.out) cX);generalize petG g x=pg at*;generalize petB g x=o at*;obtain⟨g1,M,es⟩:=g;obtain⟨p1,p2,ps⟩:=pg;simp only at*
   go_wp2_with fail;refine qHv [.val (.agg #[.int .i64 g1, .int .i64 M, .slice Ar es.length cr]), .val (.slice (some ⟨lb,off,none⟩) L.length cap), .val (.int .i64 k), .val (.pointer (some ⟨lb,off+k,none⟩)), .val (.slice A1 x.length ah),
     .mem (fun _ W v=> ∃A' c',v= .tuple #[.agg #[.int .i64 p1, .int .i64 p2, .slice A' ps.length c'], .bool o]∧I64 p1∧I64 p2∧OwE W wr.heap.size (.slice A' ps.length c') ps),
     .pur (fun us v=>v=us 5), .pur (fun us v=> ∃A' c',us 5= .tuple #[.agg #[.int .i64 p1, .int .i64 p2, .slice A' ps.length c'], .bool o]∧v= .agg #[.int .i64 p1, .int .i64 p2, .slice A' ps.length c']), .pur (fun _ v=>v= .bool o),
     .mem (fun _ W v=> ∃q x y z,v= .pointer (some ⟨q,0,none⟩)∧wr.heap.size≤q∧CBx W q x y z∧isT W q 82),
     .mem (fun us W _=> ∃q A' c',us 9= .pointer (some ⟨q,0,none⟩)∧wr.heap.size≤q∧us 5= .tuple #[.agg #[.int .i64 p1, .int .i64 p2, .slice A' ps.length c'], .bool o]∧CBx W q (.int .i64 p1) (.int .i64 p2) (.slice A' ps.length c')),
     .pur (fun _ v=>v= .bool o)]
    [none,none,none,none,none,some (fun W W'=>Below W.heap.size W W'),none,none,none,some (fun W W'=>Below W.heap.size W W'),some (fun W W'=> ∃q x y z,wr.heap.size≤q∧isT W q 82∧W'=((W.setCell ⟨q,0,none⟩ x).setCell ⟨q,1,none⟩ y).setCell ⟨q,2,none⟩ z),none]
    (fun W=>Below wr.heap.size wr W) [(5,9),(5,10),(9,5),(9,10)] tK tK (by rfl) (by rfl)
    (zae _ _).drew
    ⟨fun _ _ h t=>h.trans (t.mono h.size),fun _ _ h t=>h.trans (t.mono h.size),fun _ _ h ⟨q,x,y,z,hq,_,e⟩=>by rw[e];exact qp x y z h hq,trivial⟩
    ⟨fun _ _ _ _ _ _ t ⟨A',c',e,i1,i2,o⟩=>⟨A',c',e,i1,i2,o.below t⟩,
     fun _ _ _ _ _ _ ⟨q,_,_,_,_,hq,e'⟩ ⟨A',c',e,i1,i2,o⟩=>by rw[e'];exact⟨A',c',e,i1,i2,o.keep fun d hd=>qAP _ _ _ _ _ (o.notG hq d hd)⟩,
     fun _ _ _ _ _ _ t ⟨q,x,y,z,e,hq,c,ht⟩=>⟨q,x,y,z,e,hq,c.below t,ht.below t⟩,
     fun _ _ _ _ _ _ ⟨q',a,b,c',_,_,e'⟩ ⟨q,x,y,z,e,hq,c,ht⟩=>(by rw[e'];obtain⟨x',y',z',h'⟩:=c.any (q:=q') a b c';exact⟨q,x',y',z',e,hq,h',ht.set3 _ _ _ _⟩),trivial⟩ (fun vs=> ?_)
   refine⟨fun W' _ _ hI hD hK=> ?_,?_⟩
   ·obtain⟨z0,z1,z2⟩:=(HG.out.below hI.out).cs;go_simp;exact hK.out _ _ rfl rfl
   simp only[zah,zaa,zab,zac,Sg.pick,Nat.reduceAdd]
   iterate 3
    refine⟨fun W' _ _ hI hD hK=> ?_,?_⟩
    ·skip;go_simp;exact hK.out _ _ rfl rfl
    simp only[zah,zaa,zab,zac,Sg.pick,Nat.reduceAdd]
   refine⟨fun W' _ _ hI hD hK=> ?_,?_⟩
   ·have z0:=(hI.out.cell (p:=⟨lb,off+k,none⟩) pB).trans HC.out;go_simp;exact hK.out _ _ rfl rfl
   simp only[zah,zaa,zab,zac,Sg.pick,Nat.reduceAdd];refine⟨fun W' _ _ hI hD hK=> ?_,?_⟩
   ·skip;go_simp;refine(ul.out _ _ (HG.out.below hI.out).arg (gR.out.below hI.out)).mono ?_;rintro e w' ⟨rv,rfl,⟨s,rfl,i1,i2,oe⟩,b'⟩;obtain⟨A',c',rfl,_⟩:=oe.form;exact hK.out _ _ b' ⟨A',c',rfl,i1,i2,oe.mono hI.out.size⟩
   simp only[zah,zaa,zab,zac,Sg.pick,Nat.reduceAdd];refine⟨fun W' _ _ hI hD hK=> ?_,?_⟩
   ·skip;go_simp;exact hK.out _ _ rfl rfl
   simp only[zah,zaa,zab,zac,Sg.pick,Nat.reduceAdd];refine⟨fun W' _ _ hI hD hK=> ?_,?_⟩
   ·obtain⟨A',c',e5,_⟩:=(show ∃A' c',vs 5= .tuple #[.agg #[.int .i64 p1, .int .i64 p2, .slice A' ps.length c'], .bool o]∧I64 p1∧I64 p2∧OwE W' wr.heap.size (.slice A' ps.length c') ps from hD.out 5 tK);have e6:=(show vs 6=qAz _ 6 vs 5 from hD.out 6 tK);rw[qDv tK,e5] at e6;rw[e6,e5] at hK⊢;go_simp;exact hK.out _ _ rfl ⟨A',c',(qDv tK).trans e5,rfl⟩
   simp only[zah,zaa,zab,zac,Sg.pick,Nat.reduceAdd];refine⟨fun W' _ _ hI hD hK=> ?_,?_⟩
   ·obtain⟨A',c',e5,_⟩:=(show ∃A' c',vs 5= .tuple #[.agg #[.int .i64 p1, .int .i64 p2, .slice A' ps.length c'], .bool o]∧I64 p1∧I64 p2∧OwE W' wr.heap.size (.slice A' ps.length c') ps from hD.out 5 tK);have e6:=(show vs 6=qAz _ 6 vs 5 from hD.out 6 tK);rw[qDv tK,e5] at e6;rw[e6,e5] at hK⊢;go_simp;exact hK.out _ _ rfl rfl
   simp only[zah,zaa,zab,zac,Sg.pick,Nat.reduceAdd];refine⟨fun W' _ _ hI hD hK=> ?_,?_⟩
   ·skip;go_simp;exact hK.out _ _ ((zae _ _).alloc (zad _) _) ⟨_,_,_,_,rfl,hI.out.size,(CBx.new rfl).1,isT.new _ _ _⟩
   simp only[zah,zaa,zab,zac,Sg.pick,Nat.reduceAdd];refine⟨fun W' _ _ hI hD hK=> ?_,?_⟩
   ·obtain⟨q,a0,a1,a2,e9,hq,hc,ht⟩:=(show ∃q x y z,vs 9= .pointer (some ⟨q,0,none⟩)∧wr.heap.size≤q∧CBx W' q x y z∧isT W' q 82 from hD.out 9 tK);obtain⟨A',c',e5,e7⟩:=(show ∃A' c',qAz _ 7 vs 5= .tuple #[.agg #[.int .i64 p1, .int .i64 p2, .slice A' ps.length c'], .bool o]∧vs 7= .agg #[.int .i64 p1, .int .i64 p2, .slice A' ps.length c'] from hD.out 7 tK);rw[qDv tK] at e5;rw[e7,e9,e5] at hK⊢;obtain⟨z0,z1,z2⟩:=hc.cs;have u0:=hc.fz 0;have u1:=hc.fz 1;have u2:=hc.fz 2;go_simp;exact hK.out undef _ ⟨q,_,_,_,hq,ht,rfl⟩ ⟨q,A',c',(qDv tK).trans e9,hq,(qDv tK).trans e5,hc.setv _ _ _⟩
   simp only[zah,zaa,zab,zac,Sg.pick,Nat.reduceAdd];refine⟨fun W' _ _ hI hD hK=> ?_,?_⟩
   ·have e8:=(show vs 8= .bool o from hD.out 8 tK);rw[e8] at hK⊢;go_simp;exact hK.out _ _ rfl rfl
   simp only[zah,zaa,zab,zac,Sg.pick,Nat.reduceAdd];intro W9 hI9 hD9;obtain⟨q,A9,c9,e9,hq,e5,hc⟩:=(show ∃q A' c',qAz _ 10 vs 9= .pointer (some ⟨q,0,none⟩)∧wr.heap.size≤q∧qAz _ 10 vs 5= .tuple #[.agg #[.int .i64 p1, .int .i64 p2, .slice A' ps.length c'], .bool o]∧CBx W9 q (.int .i64 p1) (.int .i64 p2) (.slice A' ps.length c') from hD9.out 10 (by decide));rw[qDv tK] at e9 e5;obtain⟨A',c',tG,i1,i2,oe⟩:=(show ∃A' c',vs 5= .tuple #[.agg #[.int .i64 p1, .int .i64 p2, .slice A' ps.length c'], .bool o]∧I64 p1∧I64 p2∧OwE W9 wr.heap.size (.slice A' ps.length c') ps from hD9.out 5 (by decide));rw[e5] at tG;injection tG with tG
   simp at tG
   obtain⟨rfl,rfl⟩:=tG;rw[e9];have I9:=qA hI9.out;have OE:=qA oe;have G9:=qA (HG.out.below I9.out);have X9:=qA (HX.out.below I9.out);clear hD9 hI9 oe e5 e9;obtain⟨z0,z1,z2⟩:=G9.out.cs;have f0:=G9.out.fz 0;have f1:=G9.out.fz 1;have f2:=G9.out.fz 2;obtain⟨v0,v1,v2⟩:=hc.cs;simp only at z0 z1 z2
   go_wp2;go_roundw
   case rel=>
    refine⟨k+1,A9,c9,tO,by go_num,?_,X9.out.other tO,qp _ _ _ (HB.out.trans (I9.out.mono fL)) tO⟩;rw[HT.out];exact(G9.out.set (m:=(p1,p2,ps)) OE.out (fun b' aE=>by have:=(OE.out.1.lt b' aE).1;omega) i1 i2).mono tO
   case measure=>(first | omega | (simp[intOf];omega))
  ·obtain rfl:k=L.length:=tO
   rw[zar] at HG gA;have HF:Hid (floF r L=L.foldl petG (r,1,[])):=qA rfl;generalize L.foldl petG (r,1,[])=g at*;obtain⟨g1,M,es⟩:=g;obtain⟨x0,x1,x2⟩:=HX.out.cs;have f0:=HX.out.fz 0;have f1:=HX.out.fz 1;have f2:=HX.out.fz 2;obtain⟨y0,y1,y2⟩:=HG.out.cs;simp only at y0 y1 y2
   go_wp2;have XF:=HX.out.setv (.int .i64 g1) (.int .i64 M) (.slice Ar es.length cr);obtain⟨e0,e1,e2⟩:=XF.cs;exact bodyPost_ret (v:= .tuple #[.agg #[.int .i64 g1, .int .i64 M, .slice Ar es.length cr], .bool true]) (by simp[results,Tryz.results145,go_sem,e0,e1,e2]) rfl ⟨_,rfl,by rw[HF.out];exact⟨_,rfl,HG.out.i1,HG.out.i2,(HG.out.ow.keep fun c hc=>qAP _ _ _ _ _ (by have:=(HG.out.ow.1.lt c hc).1;omega)).mono tO⟩,qp _ _ _ HB.out (zad _)⟩
theorem qMw {r:Int} {L:List (List Int)} (h:areW r L=true):grB (floF r L)=true:=by
 obtain⟨jI,hr,_,_⟩:=qFL h;have:=(qKR hr jI L.length (zad _)).1
 rwa [zar] at this
theorem qEi (r:Int) (v:Value) (L:List (List Int)) (w:World) (h:RdII w v L) (hW:areW r L=true):
  Calls Tryz.prog 122 #[.int .i64 r,v] w fun x w'=> ∃rv,x= .returned (.tuple #[rv, .bool true])∧OwG w' w.heap.size rv (qGv (floF r L))∧Below w.heap.size w w':=by
 have H:=qA h;have ll:=qA (fun W (h:RdII W v L)=>qFb r v L W h hW);have aD:=qA (qMw hW);obtain⟨A,cap,rfl,aj,hm,_⟩:=h.form;clear h hW;generalize floF r L=pg at*;have jD:=qA (fun W v (h:ArgG W v pg)=>qFJ v pg W h aD.out);generalize qGv pg=qg at*;obtain⟨p1,p2,ps⟩:=pg;obtain⟨q1,q2,qs⟩:=qg;go_enter Tryz.func122,Tryz.ntmps122
 go_wp2_with fail;obtain⟨W0,aF⟩: ∃W,W=w.alloc (.cells #[.int .i64 0,.int .i64 0, .slice none 0 0] 82):=⟨_,rfl⟩;rw[←aF];obtain⟨xb,b0,s0⟩:=CBx.new aF;clear aF;have XB:=qA xb;have B0:=qA b0;clear xb b0;refine(ll.out _ (H.out.below B0.out)).mono ?_
 rintro e w1 ⟨rv,rfl,⟨s1,rfl,i1,i2,dV⟩,b1⟩;obtain⟨A1,c1,rfl,_⟩:=dV.form;simp only at i1 i2 dV⊢
 have X1:=qA (XB.out.below b1);have B1:=qA (B0.out.trans (b1.mono tO));have fP:=qA dV;have aA:=b1.size;clear dV b1 XB B0 ll;go_wp2_with fail;obtain⟨W2,aV⟩: ∃W,W=w1.alloc (.cells #[.int .i64 p1,.int .i64 p2, .slice A1 ps.length c1] 82):=⟨_,rfl⟩;rw[←aV];have g2:=GBx.new (m:=(p1,p2,ps)) fP.out i1 i2 aV;obtain⟨_,b2,s2⟩:=CBx.new aV;have G2:=qA g2;have X2:=qA (X1.out.below b2);have B2:=qA (B1.out.trans (b2.mono tO));clear aV g2 b2 X1 B1 fP;refine(jD.out W2 _ G2.out.arg).mono ?_
 rintro e w3 ⟨rv,rfl,⟨s3,rfl,j1,j2,fA⟩,b3⟩;obtain⟨A3,c3,rfl,_⟩:=fA.form;simp only at j1 j2 fA⊢
 have X3:=qA (X2.out.below b3);have B3:=qA (B2.out.trans (b3.mono tO));have mi:=qA fA;clear fA b3 X2 B2;obtain⟨u0,u1,u2⟩:=X3.out.cs;have f0:=X3.out.fz 0;have f1:=X3.out.fz 1;have f2:=X3.out.fz 2;go_wp2;have XF:=X3.out.setv (.int .i64 q1) (.int .i64 q2) (.slice A3 qs.length c3);obtain⟨e0,e1,e2⟩:=XF.cs;exact bodyPost_ret (v:= .tuple #[.agg #[.int .i64 q1, .int .i64 q2, .slice A3 qs.length c3], .bool true]) (by simp[results,Tryz.results122,go_sem,e0,e1,e2]) rfl ⟨_,rfl,⟨_,rfl,j1,j2,(mi.out.keep fun c hc=>qAP _ _ _ _ _ (by have:=(mi.out.1.lt c hc).1;omega)).mono tO⟩,qp _ _ _ B3.out (zad _)⟩
theorem OwII.put1 {lo N g n cap:Nat} {L:List (List Int)} {W:World} {v:Value} {xs:List Int} (h:OwII lo N (.slice (some ⟨g,0,none⟩) n cap) L W) (hN:N≤W.heap.size) (ho:OwI W N v xs) {k:Nat} (hk:k<L.length):
  OwII lo (W.setCell ⟨g,k,none⟩ v).heap.size (.slice (some ⟨g,0,none⟩) n cap) (L.set k xs) (W.setCell ⟨g,k,none⟩ v):=by
 have hz:=qGe W N hN;have hb:Below (qHG W N).heap.size (qHG W N) W:=⟨rfl,rfl,rfl,by rw[hz];exact hN,fun b hb=>(qEq W N b tO hN).symm⟩;have h':OwII lo N (.slice (some ⟨g,0,none⟩) n cap) L (qHG W N):=h.keep EI.stable fun b _ h2=>qEq W N b h2 hN;obtain⟨g',hA,-,-,-,-,kc⟩:=h'.put EI.stable hk hb tO;injection hA with hA
 injection hA with hA
 subst hA;have bF:W.grownBy (W.setCell ⟨g,k,none⟩ v) (some g):=qDC W g k _;have:=kc (W.setCell ⟨g,k,none⟩ v) [v] xs _ rfl (EI.of ho) (by cases v.ownBlock<;>simp) (fun b hb=>by have:=ho.1.lt b (by simpa using hb);omega) (by
  intro pre cs post hp hc aG;have r0:=qMj (j:=0) (u:=v) aG hp tO;match cs,hc with
  | [a],_=>simpa using r0) bF
 simpa using this
def W8 (r:Int) (xs:List Int):Prop:=xs.length≤8∧letR r xs∧redP xs
theorem W8.gL {r:Int} {xs:List Int} (h:W8 r xs) (hr:r≤3):gL xs:=fun y hy=>by have:=h.2.1 y hy;exact⟨this.1,tO,tO⟩
theorem W8.inv {r:Int} {xs:List Int} (h:W8 r xs) (hr:r≤3):W8 r (invL xs):=by
 refine⟨by have:=h.1;simpa[invL,negL] using this,fun y hy=> ?_,qOa (h.gL hr) h.2.2⟩;rw[qLW (h.gL hr)] at hy;have:=h.2.1 _ (qKN hy)
 omega
theorem W8.mul {r:Int} {xs ys:List Int} (h:W8 r xs) (h':W8 r ys) (hl:(redL [] (xs++ys)).length≤8):W8 r (redL [] (xs++ys)):=
 ⟨hl,qJW fun y hy=>by
  rcases zao.1 hy with hy | hy
  ·exact h.2.1 y hy
  ·exact h'.2.1 y hy,qBQ qBm⟩
theorem W8.word {r:Int} {xs:List Int} (h:W8 r xs) (gQ:1≤r) (cS:r≤3):qY r xs=true:=
 qCV (qP.2 ⟨gQ,cS⟩) (by have:=h.1;omega) fun i hi=>qIH h.2.2 (fun y hy=>by
   obtain⟨y0,y1,y2⟩:=h.2.1 y hy;exact(qAB (qP.2 ⟨gQ,cS⟩)).2 tO) i hi
theorem W8.set {r:Int} {L:List (List Int)} (h: ∀x∈L,W8 r x) {k:Nat} {y:List Int} (hy:W8 r y): ∀x∈L.set k y,W8 r x:=fun x hx=>by
 rcases List.mem_or_eq_of_mem_set hx with hx | rfl
 ·exact h x hx
 ·exact hy
theorem qQP {n:Nat}: ∀x∈idL n,W8 n x:=fun x hx=>by
 obtain⟨i,hi,rfl⟩:=List.mem_map.1 hx;have:=zaF.1 hi
 refine⟨by simp,fun y hy=> ?_,fun i hi=>by simp at hi⟩;rw[zan.1 hy];omega
theorem OwII.cell1 {lo hi g n cap:Nat} {L:List (List Int)} {W:World} (h:OwII lo hi (.slice (some ⟨g,0,none⟩) n cap) L W) {k:Nat} (hk:k<L.length): ∃A1 c1,W.cell? ⟨g,k,none⟩=some (.slice A1 L[k].length c1)∧RdI W (.slice A1 L[k].length c1) L[k]∧W.frozen? ⟨g,k,none⟩=false∧g<W.heap.size:=by
 obtain⟨b,off,A1,c1,hA,-,hc,-,-,hr⟩:=h.rd.at hk;obtain⟨g',-,-,eT,-,-,-,-,-,-,-,hf,hl,-⟩:=h.focus EI.stable hk;injection hA with hA
 injection hA with h1 h2
 injection eT with eT
 injection eT with eT
 subst h1 h2 eT;exact⟨A1,c1,by simpa using hc,hr,hf k,hl⟩
def ML (p:Nat) (A:Option Addr) (cap:Nat) (cs:List Int) (w:World) (lo q g n cps:Nat) (L:List (List Int)) (W:World):Prop:=
 (L.length=n∧ ∀x∈L,W8 n x)∧OwII lo W.heap.size (.slice (some ⟨g,0,none⟩) n cps) L W∧DrI p A cap cs w W∧MBx W q (.int .i64 n) (.slice (some ⟨g,0,none⟩) n cps)∧ ∃x y,MBx W w.heap.size x y
theorem ML.once {p cap lo q g n cps:Nat} {A:Option Addr} {cs:List Int} {w W W':World} {L:List (List Int)} (h:ML p A cap cs w lo q g n cps L W) (hp:p<w.heap.size) (ee:w.heap.size<lo) (hq:lo≤q) (c:Cur p A cap cs W') (t:Tr p (p+1) W W'):ML p A cap cs w lo q g n cps L W':=
 ⟨h.1,(h.2.1.trP t tO (zad _)).widen (zad _) t.size,h.2.2.1.to t c,h.2.2.2.1.trP t tO,by obtain⟨x,y,hx⟩:=h.2.2.2.2;exact⟨x,y,hx.trP t tO⟩⟩
theorem ML.bel {p cap lo q g n cps:Nat} {A:Option Addr} {cs:List Int} {w W W':World} {L:List (List Int)} (h:ML p A cap cs w lo q g n cps L W) (hb:Below W.heap.size W W'):ML p A cap cs w lo q g n cps L W':=
 ⟨h.1,(h.2.1.keep EI.stable fun b _ h2=>hb.block b h2).widen (zad _) hb.size,h.2.2.1.bel hb,h.2.2.2.1.below hb,by obtain⟨x,y,hx⟩:=h.2.2.2.2;exact⟨x,y,hx.below hb⟩⟩
theorem ML.put {p cap lo q g n cps N:Nat} {A:Option Addr} {cs:List Int} {w W:World} {L:List (List Int)} (h:ML p A cap cs w lo q g n cps L W) (h0:Cur p A cap cs w) (ee:w.heap.size<lo) (hg:lo≤g∧g<q) (hN:N≤W.heap.size) (hO:OwII lo N (.slice (some ⟨g,0,none⟩) n cps) L W) {v:Value} {xs:List Int} (ho:OwI W N v xs) (h8:W8 n xs) {k:Nat} (hk:k<n):
  ML p A cap cs w lo q g n cps (L.set k xs) (W.setCell ⟨g,k,none⟩ v):=
 ⟨⟨by rw[zaB];exact h.1.1,W8.set h.1.2 h8⟩,hO.put1 hN ho (by rw[h.1.1];exact hk),h.2.2.1.hi h0 (zad _) ((zae w.heap.size W).setCell (p:=⟨g,k,none⟩) (by show w.heap.size≤g;omega) v),h.2.2.2.1.one tO,by obtain⟨x,y,hx⟩:=h.2.2.2.2;exact⟨x,y,hx.one tO⟩⟩
theorem ML.fin {p cap lo q g n cps:Nat} {A:Option Addr} {cs:List Int} {w W:World} {L:List (List Int)} (h:ML p A cap cs w lo q g n cps L W) (h0:Cur p A cap cs w) (ee:w.heap.size<lo) (a b:Value):
  OwII w.heap.size ((W.setCell ⟨w.heap.size,0,none⟩ a).setCell ⟨w.heap.size,1,none⟩ b).heap.size (.slice (some ⟨g,0,none⟩) n cps) L ((W.setCell ⟨w.heap.size,0,none⟩ a).setCell ⟨w.heap.size,1,none⟩ b)∧
   Cur p A cap cs ((W.setCell ⟨w.heap.size,0,none⟩ a).setCell ⟨w.heap.size,1,none⟩ b)∧Tr p (p+1) w ((W.setCell ⟨w.heap.size,0,none⟩ a).setCell ⟨w.heap.size,1,none⟩ b):=by
 have hi:=h.2.2.1.hi h0 (zad _) (qLu a b (zae _ _) (zad _));exact⟨(h.2.1.keep EI.stable fun c h1 _=>qNs W w.heap.size a b tO).widen tO (by simp),hi.cur,hi.tr⟩
theorem qGj (p:Nat) (A:Option Addr) (cap:Nat) (cs:List Int) (w:World) (h:Cur p A cap cs w):
  Calls Tryz.prog 93 #[.pointer (some ⟨p,0,none⟩)] w fun e w'=> ∃(r:Int) (s:Value) (L:List (List Int)),e= .returned (.agg #[.int .i64 r,s])∧((1≤r∧r≤3)∧(L.length:Int)=r∧ ∀x∈L,W8 r x)∧OwII w.heap.size w'.heap.size s L w'∧Cur p A cap cs w'∧Tr p (p+1) w w':=by
 have H:=qA h;have hp:=h.lt;clear h;obtain⟨W0,aF⟩: ∃W,W=w.alloc (.cells #[.int .i64 0, .slice none 0 0] 31):=⟨_,rfl⟩;obtain⟨xb,b0,s0⟩:=MBx.new aF;have XB:=qA xb;have I0:=qA ((DrI.refl H.out).bel b0);clear xb b0;have RA:Hid (RdI (W0.alloc (.cells #[.int .i64 1, .int .i64 2, .int .i64 2, .int .i64 2, .int .i64 3] 3)) (.slice (some ⟨W0.heap.size,0,none⟩) 5 5) [1,2,2,2,3]):=qA (qW W0 [1,2,2,2,3] (by intro y hy;simp at hy;rcases hy with rfl | rfl | rfl<;>(unfold I64;omega)) (by simp) (zad _)).rd;have IA:=qA (I0.out.bel ((zae _ _).alloc (zad _) (.cells #[.int .i64 1, .int .i64 2, .int .i64 2, .int .i64 2, .int .i64 3] 3)));have XA:=qA (XB.out.below ((zae _ _).alloc (zad _) (.cells #[.int .i64 1, .int .i64 2, .int .i64 2, .int .i64 2, .int .i64 3] 3)));have oG:(zay (some ⟨W0.heap.size,0,none⟩) 5 5).ownBlock≠some p:=fun e=>by simp[zaO] at e;omega
 go_enter Tryz.func93,Tryz.ntmps93
 go_wp2_with fail;rw[←aF];clear aF;rw[s0] at RA oG;(with_reducible refine(qHt p A cap cs _ [1,2,2,2,3] _ IA.out.cur RA.out oG (by simp) (by simp)).mono ?_)
 rintro e w1 ⟨r,rfl,hr,c1,t1⟩;have I1:=qA (IA.out.to t1 c1);have X1:=qA (XA.out.trP t1 tO);have gQ:1≤r:=by simp at hr;omega
 have cS:r≤3:=by simp at hr;omega
 clear c1 t1 IA RA hr oG XA I0 XB s0;obtain⟨n,rfl⟩: ∃n:Nat,r=n:=⟨r.toNat,tO⟩;have ao:=I1.out.tr.size;have aQ:=X1.out.lt;go_wp2_with fail;refine(qCT n _ tO tO).mono ?_
 rintro e w2 ⟨s,rfl,os,b2⟩;obtain⟨As,cps,rfl,eR,Ib,-,iE⟩:=os.len;have fk:=qNT n;obtain⟨g,rfl,fd,dC⟩:=iE tO;have I2:=qA (I1.out.bel b2);have X2:=qA (X1.out.below b2);have bK:=b2.size;have OS:=qA os;have Ck:=qA (qQP (n:=n));unfold maxLen at Ib;rw[fk] at eR;clear b2 os I1 X1;generalize idL n=L0 at*;rw[fk];rw[fk] at OS;have dO:=qA fk;clear fk iE;obtain⟨W3,fh⟩: ∃W,W=w2.alloc (.cells #[.int .i64 n, .slice (some ⟨g,0,none⟩) n cps] 31):=⟨_,rfl⟩;obtain⟨y3,b3,s3⟩:=MBx.new fh;have I3:=qA (I2.out.bel b3);have X3:=qA (X2.out.below b3);have Y3:=qA y3;have O3:=qA (OS.out.keep EI.stable (w':=W3) fun b h1 h2=>b3.block b h2);have dd:=b3.size;have M3:Hid (ML p A cap cs w w1.heap.size w2.heap.size g n cps L0 W3):=qA ⟨⟨dO.out,Ck.out⟩,O3.out.widen (zad _) dd,I3.out,Y3.out,_,_,X3.out⟩;clear y3 b3 I2 X2 OS;go_wp2_with fail;rw[←fh];clear fh I3 X3 Y3 O3 dO Ck;generalize ee:w1.heap.size=lo at*;generalize hq:w2.heap.size=q at*;clear ee hq;have Jr:g<q:=dC;refine(qDe p A cap cs 3 _ M3.out.2.2.1.cur tO tO).mono ?_
 rintro e w4 ⟨bb,rfl,c4,t4⟩;have M4:Hid (ML p A cap cs w lo q g n cps L0 w4):=qA ⟨M3.out.1,(M3.out.2.1.trP t4 tO (zad _)).widen (zad _) t4.size,M3.out.2.2.1.to t4 c4,M3.out.2.2.2.1.trP t4 tO,by obtain⟨x,y,hx⟩:=M3.out.2.2.2.2;exact⟨x,y,hx.trP t4 tO⟩⟩;clear c4 t4 M3;cases bb
 ·go_wp2_with fail;refine(qAJ p A cap cs 4 _ M4.out.2.2.1.cur tO tO).mono ?_
  rintro e w5 ⟨m0,rfl,⟨m1,m2⟩,c5,t5⟩;have M5:=qA (M4.out.once hp tO tO c5 t5);clear c5 t5 M4;go_wp2_with fail;go_loopw [7,8,9,10,11] (fun nv _ _ _ _ wr=> ∃(m:Int) (L:List (List Int)),nv= .int .i64 m∧0≤m∧m≤3∧ML p A cap cs w lo q g n cps L wr) (fun nv _ _ _ _ _=>(intOf nv).toNat)
  case atStart=>exact⟨m0,L0,rfl,tO,tO,M5.out⟩
  case round=>
   obtain⟨m,L,rfl,tE,nu,hm⟩:=hrel;clear M5;have M5:=qA hm;clear hm;by_cases ac:0<m
   ·have Kc:IntKind.i64.wrap (m-1)=m-1:=by rw[IntKind.wrap_i64];omega
    go_wp2_with fail;refine(qAJ p A cap cs n _ M5.out.2.2.1.cur tO tO).mono ?_
    rintro e wa ⟨i,rfl,⟨i1,i2⟩,ca,ta⟩;have Ma:=qA (M5.out.once hp tO tO ca ta);clear ca ta M5;go_wp2_with fail;refine(qAJ p A cap cs n _ Ma.out.2.2.1.cur tO tO).mono ?_
    rintro e wb ⟨k,rfl,⟨k1,k2⟩,cb,tb⟩;have Mb:=qA (Ma.out.once hp tO tO cb tb);clear cb tb Ma;obtain⟨i,rfl⟩: ∃j:Nat,i=j:=⟨i.toNat,tO⟩;obtain⟨k,rfl⟩: ∃j:Nat,k=j:=⟨k.toNat,tO⟩;have hi:i<n:=tO;have hk:k<n:=tO;have er:Hid (k<L.length):=qA (by rw[Mb.out.1.1];exact hk);obtain⟨Ak,ck,yk,rk,uk,gH⟩:=Mb.out.2.1.cell1 er.out;have HX:=qA (Mb.out.1.2 _ (zai er.out));have q1:=Mb.out.2.2.2.1.c1;have EX:Hid (∃xk,xk=L[k]'(er.out)):=qA ⟨_,rfl⟩;obtain⟨xk,na⟩:=EX.out;rw[←na] at yk rk HX;have Rk:=qA rk;have DH:=qA na;clear rk EX na;go_wp2_with fail;refine(qDe p A cap cs 2 _ Mb.out.2.2.1.cur tO tO).mono ?_
    rintro e w6 ⟨bb,rfl,c6,t6⟩;have vG:Hid (RdI w6 (.slice Ak xk.length ck) xk):=qA (by
     have M6:=Mb.out.once hp tO tO c6 t6;obtain⟨A',c',y',r',-,-⟩:=M6.2.1.cell1 er.out;rw[zap (w:=wb) (a:=⟨g,k,none⟩) (t6.block g gH tO),yk] at y';rw[←DH.out] at y' r';injection y' with y'
     rw[y'];exact r')
    have M6:=qA (Mb.out.once hp tO tO c6 t6);clear c6 t6 Mb yk uk q1 DH Rk er gH;have na:=HX.out.1;cases bb
    ·have RW:=qA vG.out;have HW:=qA HX.out;clear vG HX;generalize Ak=Aw at*;generalize ck=cw at*;generalize xk=xw at*;by_cases hik:i=k
     ·subst hik;have er:Hid (i<L.length):=qA (by rw[M6.out.1.1];exact hi);have lL:=(M6.out.2.1.cell1 er.out).choose_spec.choose_spec.2.2.2;go_wp2_with fail;refine qBT [.val (.pointer (some ⟨q,1,none⟩)), .val (.slice (some ⟨g,0,none⟩) n cps), .val (.int .i64 i), .val (.slice Aw xw.length cw), .mem (fun _ W v=> ∃(A':Option Addr) (c':Nat),v= .slice A' (invL xw).length c'∧OwI W w6.heap.size (.slice A' (invL xw).length c') (invL xw)), .val (.pointer (some ⟨g,i,none⟩)), .mem (fun _ W _=>OwII lo W.heap.size (.slice (some ⟨g,0,none⟩) n cps) (L.set i (invL xw)) W)]
       [none,none,none,none,some (fun W W'=>Below W.heap.size W W'),none,some (fun W W'=> ∃v,W'=W.setCell ⟨g,i,none⟩ v)]
       (fun W=>DrI p A cap cs w W∧MBx W q (.int .i64 n) (.slice (some ⟨g,0,none⟩) n cps)∧w6.heap.size≤W.heap.size∧ ∃x y,MBx W w.heap.size x y) (fun W=>OwII lo w6.heap.size (.slice (some ⟨g,0,none⟩) n cps) L W∧RdI W (.slice Aw xw.length cw) xw) [6] [(4,6)] tK tK (by rfl) (by rfl)
       ⟨M6.out.2.2.1.bel (zae _ _).drew,M6.out.2.2.2.1.below (zae _ _).drew,zad _,by obtain⟨x,y,hx⟩:=M6.out.2.2.2.2;exact⟨x,y,hx.below (zae _ _).drew⟩⟩ ⟨OwnL.keep M6.out.2.1 EI.stable fun b _ _=>rfl,RW.out.below (zae _ _).drew⟩
       ⟨fun _ _ h t=>⟨h.1.bel t,h.2.1.below t,zax h.2.2.1 t.size,by obtain⟨x,y,hx⟩:=h.2.2.2;exact⟨x,y,hx.below t⟩⟩,fun W _ h t=>by obtain⟨v,rfl⟩:=t;exact⟨h.1.hi H.out (zad _) ((zae w.heap.size W).setCell (p:=⟨g,i,none⟩) (by show w.heap.size≤g;omega) v),h.2.1.one tO,by have:=h.2.2.1;simpa using this,by obtain⟨x,y,hx⟩:=h.2.2.2;exact⟨x,y,hx.one tO⟩⟩,trivial⟩
       ⟨.inr fun _ _ hI h t=>⟨h.1.keep EI.stable fun b _ h2=>t.block b (by have:=hI.2.2.1;omega),h.2.below t⟩, .inl (by simp),trivial⟩
       ⟨fun _ _ _ _ _ _ t h=>by obtain⟨v,rfl⟩:=t;obtain⟨A',c',e,o⟩:=h;exact⟨A',c',e,o.keepB fun b hb=>zaG _ _ _ b (show b≠g by have:=(o.1.lt b hb).1;omega)⟩,trivial⟩ (fun vs=> ?_)
      refine⟨fun W' _ _ hI hD hK=> ?_,?_⟩
      ·skip;go_simp;exact hK.out _ _ rfl rfl
      simp only[zah,zaa,zab,zac,Sg.pick,Nat.reduceAdd];refine⟨fun W' _ _ hI hD hK=> ?_,?_⟩
      ·have z1:=hI.out.1.2.1.c1;go_simp;exact hK.out _ _ rfl rfl
      simp only[zah,zaa,zab,zac,Sg.pick,Nat.reduceAdd]
      iterate 2
       refine⟨fun W' _ _ hI hD hK=> ?_,?_⟩
       ·skip;go_simp;exact hK.out _ _ rfl rfl
       simp only[zah,zaa,zab,zac,Sg.pick,Nat.reduceAdd]
      refine⟨fun W' _ _ hI hD hK=> ?_,?_⟩
      ·skip;go_simp;refine(qAg _ xw _ (hI.out.2 tK).2 tO).mono ?_;rintro e w' ⟨v,rfl,o,b'⟩;obtain⟨A',cp',rfl,_⟩:=o.form;exact hK.out _ _ b' ⟨A',cp',rfl,o.mono hI.out.1.2.2.1⟩
      simp only[zah,zaa,zab,zac,Sg.pick,Nat.reduceAdd];refine⟨fun W' _ _ hI hD hK=> ?_,?_⟩
      ·skip;go_simp;exact hK.out _ _ rfl rfl
      simp only[zah,zaa,zab,zac,Sg.pick,Nat.reduceAdd];refine⟨fun W' _ _ hI hD hK=> ?_,?_⟩
      ·obtain⟨A',c',e5,o⟩:=(show ∃(A':Option Addr) (c':Nat),vs 4= .slice A' (invL xw).length c'∧OwI W' w6.heap.size (.slice A' (invL xw).length c') (invL xw) from hD.out 4 tK);rw[e5] at hK⊢;have HO:=qA (hI.out.2 tK).1;obtain⟨_,_,z0,-,u0,_⟩:=HO.out.cell1 er.out;go_simp;exact hK.out undef _ ⟨_,rfl⟩ (OwII.put1 HO.out hI.out.1.2.2.1 o er.out)
      simp only[zah,zaa,zab,zac,Sg.pick,Nat.reduceAdd];intro W9 hI9 hD9;have o9:=(show OwII lo W9.heap.size (.slice (some ⟨g,0,none⟩) n cps) (L.set i (invL xw)) W9 from hD9.out 6 (by decide));have M9:Hid (ML p A cap cs w lo q g n cps (L.set i (invL xw)) W9):=qA ⟨⟨by rw[zaB];exact M6.out.1.1,W8.set M6.out.1.2 (HW.out.inv tO)⟩,o9,hI9.out.1.1,hI9.out.1.2.1,hI9.out.1.2.2.2⟩;clear hI9 hD9 o9 M6 RW HW;go_wp2;go_roundw
      case rel=>exact⟨m-1,_,by go_num,tO,tO,M9.out⟩
      case measure=>(simp[intOf];omega)
     ·have x9: ¬(i:Int)=(k:Int):=tO;have l6:Hid (i<L.length):=qA (by rw[M6.out.1.1];exact hi);obtain⟨A2,c2,y2,r2,u2,lL⟩:=M6.out.2.1.cell1 l6.out;have HX:=qA (M6.out.1.2 _ (zai l6.out));have R2:=qA r2;have q1:=M6.out.2.2.2.1.c1;clear r2;generalize L[i]'(l6.out)=xi at*;have IW:=HX.out.1;go_wp2_with fail;refine(qBV _ _ xi xw _ R2.out RW.out tO tO).mono ?_
      rintro e w8 ⟨v,rfl,o8,b8⟩;have M8:=qA (M6.out.bel b8);have O8:=qA o8;have P8:=qA (M6.out.2.1.keep EI.stable fun b _ h2=>b8.block b h2);have HM:=qA (fun h=>W8.mul HX.out HW.out h);obtain⟨_,_,y8,-,u8,Ig⟩:=M8.out.2.1.cell1 l6.out;have q8:=M8.out.2.2.2.1.c1;have uY:=b8.size;obtain⟨A8,c8,rfl,_⟩:=o8.form;clear o8 b8 R2 RW HW M6 y2 u2 q1 HX;generalize redL [] (xi++xw)=xy at*;by_cases h8:xy.length≤8
      ·have AF:(xy.length:Int)≤8:=tO;have M9:=qA (M8.out.put H.out tO ⟨tO,tO⟩ uY P8.out O8.out (HM.out h8) hi);go_wp2;go_roundw
       case rel=>exact⟨m-1,_,by go_num,tO,tO,M9.out⟩
       case measure=>(simp[intOf];omega)
      ·have AF: ¬(xy.length:Int)≤8:=tO;go_wp2;go_roundw
       case rel=>exact⟨m-1,_,by go_num,tO,tO,M8.out⟩
       case measure=>(simp[intOf];omega)
    ·go_wp2_with fail;refine(qAg _ xk _ vG.out tO).mono ?_
     rintro e w7 ⟨v,rfl,o7,b7⟩;have M7:=qA (M6.out.bel b7);have RW:=qA o7.rd;have HW:=qA (HX.out.inv cS);obtain⟨Aw,cw,rfl,_⟩:=o7.form;clear o7 b7 M6 vG HX na;have M6:=qA M7.out;clear M7;generalize invL xk=xw at*;have na:=HW.out.1;generalize w7=w6 at*;by_cases hik:i=k
     ·subst hik;have er:Hid (i<L.length):=qA (by rw[M6.out.1.1];exact hi);have lL:=(M6.out.2.1.cell1 er.out).choose_spec.choose_spec.2.2.2;go_wp2_with fail;refine qBT [.val (.pointer (some ⟨q,1,none⟩)), .val (.slice (some ⟨g,0,none⟩) n cps), .val (.int .i64 i), .val (.slice Aw xw.length cw), .mem (fun _ W v=> ∃(A':Option Addr) (c':Nat),v= .slice A' (invL xw).length c'∧OwI W w6.heap.size (.slice A' (invL xw).length c') (invL xw)), .val (.pointer (some ⟨g,i,none⟩)), .mem (fun _ W _=>OwII lo W.heap.size (.slice (some ⟨g,0,none⟩) n cps) (L.set i (invL xw)) W)]
       [none,none,none,none,some (fun W W'=>Below W.heap.size W W'),none,some (fun W W'=> ∃v,W'=W.setCell ⟨g,i,none⟩ v)]
       (fun W=>DrI p A cap cs w W∧MBx W q (.int .i64 n) (.slice (some ⟨g,0,none⟩) n cps)∧w6.heap.size≤W.heap.size∧ ∃x y,MBx W w.heap.size x y) (fun W=>OwII lo w6.heap.size (.slice (some ⟨g,0,none⟩) n cps) L W∧RdI W (.slice Aw xw.length cw) xw) [6] [(4,6)] tK tK (by rfl) (by rfl)
       ⟨M6.out.2.2.1.bel (zae _ _).drew,M6.out.2.2.2.1.below (zae _ _).drew,zad _,by obtain⟨x,y,hx⟩:=M6.out.2.2.2.2;exact⟨x,y,hx.below (zae _ _).drew⟩⟩ ⟨OwnL.keep M6.out.2.1 EI.stable fun b _ _=>rfl,RW.out.below (zae _ _).drew⟩
       ⟨fun _ _ h t=>⟨h.1.bel t,h.2.1.below t,zax h.2.2.1 t.size,by obtain⟨x,y,hx⟩:=h.2.2.2;exact⟨x,y,hx.below t⟩⟩,fun W _ h t=>by obtain⟨v,rfl⟩:=t;exact⟨h.1.hi H.out (zad _) ((zae w.heap.size W).setCell (p:=⟨g,i,none⟩) (by show w.heap.size≤g;omega) v),h.2.1.one tO,by have:=h.2.2.1;simpa using this,by obtain⟨x,y,hx⟩:=h.2.2.2;exact⟨x,y,hx.one tO⟩⟩,trivial⟩
       ⟨.inr fun _ _ hI h t=>⟨h.1.keep EI.stable fun b _ h2=>t.block b (by have:=hI.2.2.1;omega),h.2.below t⟩, .inl (by simp),trivial⟩
       ⟨fun _ _ _ _ _ _ t h=>by obtain⟨v,rfl⟩:=t;obtain⟨A',c',e,o⟩:=h;exact⟨A',c',e,o.keepB fun b hb=>zaG _ _ _ b (show b≠g by have:=(o.1.lt b hb).1;omega)⟩,trivial⟩ (fun vs=> ?_)
      refine⟨fun W' _ _ hI hD hK=> ?_,?_⟩
      ·skip;go_simp;exact hK.out _ _ rfl rfl
      simp only[zah,zaa,zab,zac,Sg.pick,Nat.reduceAdd];refine⟨fun W' _ _ hI hD hK=> ?_,?_⟩
      ·have z1:=hI.out.1.2.1.c1;go_simp;exact hK.out _ _ rfl rfl
      simp only[zah,zaa,zab,zac,Sg.pick,Nat.reduceAdd]
      iterate 2
       refine⟨fun W' _ _ hI hD hK=> ?_,?_⟩
       ·skip;go_simp;exact hK.out _ _ rfl rfl
       simp only[zah,zaa,zab,zac,Sg.pick,Nat.reduceAdd]
      refine⟨fun W' _ _ hI hD hK=> ?_,?_⟩
      ·skip;go_simp;refine(qAg _ xw _ (hI.out.2 tK).2 tO).mono ?_;rintro e w' ⟨v,rfl,o,b'⟩;obtain⟨A',cp',rfl,_⟩:=o.form;exact hK.out _ _ b' ⟨A',cp',rfl,o.mono hI.out.1.2.2.1⟩
      simp only[zah,zaa,zab,zac,Sg.pick,Nat.reduceAdd];refine⟨fun W' _ _ hI hD hK=> ?_,?_⟩
      ·skip;go_simp;exact hK.out _ _ rfl rfl
      simp only[zah,zaa,zab,zac,Sg.pick,Nat.reduceAdd];refine⟨fun W' _ _ hI hD hK=> ?_,?_⟩
      ·obtain⟨A',c',e5,o⟩:=(show ∃(A':Option Addr) (c':Nat),vs 4= .slice A' (invL xw).length c'∧OwI W' w6.heap.size (.slice A' (invL xw).length c') (invL xw) from hD.out 4 tK);rw[e5] at hK⊢;have HO:=qA (hI.out.2 tK).1;obtain⟨_,_,z0,-,u0,_⟩:=HO.out.cell1 er.out;go_simp;exact hK.out undef _ ⟨_,rfl⟩ (OwII.put1 HO.out hI.out.1.2.2.1 o er.out)
      simp only[zah,zaa,zab,zac,Sg.pick,Nat.reduceAdd];intro W9 hI9 hD9;have o9:=(show OwII lo W9.heap.size (.slice (some ⟨g,0,none⟩) n cps) (L.set i (invL xw)) W9 from hD9.out 6 (by decide));have M9:Hid (ML p A cap cs w lo q g n cps (L.set i (invL xw)) W9):=qA ⟨⟨by rw[zaB];exact M6.out.1.1,W8.set M6.out.1.2 (HW.out.inv tO)⟩,o9,hI9.out.1.1,hI9.out.1.2.1,hI9.out.1.2.2.2⟩;clear hI9 hD9 o9 M6 RW HW;go_wp2;go_roundw
      case rel=>exact⟨m-1,_,by go_num,tO,tO,M9.out⟩
      case measure=>(simp[intOf];omega)
     ·have x9: ¬(i:Int)=(k:Int):=tO;have l6:Hid (i<L.length):=qA (by rw[M6.out.1.1];exact hi);obtain⟨A2,c2,y2,r2,u2,lL⟩:=M6.out.2.1.cell1 l6.out;have HX:=qA (M6.out.1.2 _ (zai l6.out));have R2:=qA r2;have q1:=M6.out.2.2.2.1.c1;clear r2;generalize L[i]'(l6.out)=xi at*;have IW:=HX.out.1;go_wp2_with fail;refine(qBV _ _ xi xw _ R2.out RW.out tO tO).mono ?_
      rintro e w8 ⟨v,rfl,o8,b8⟩;have M8:=qA (M6.out.bel b8);have O8:=qA o8;have P8:=qA (M6.out.2.1.keep EI.stable fun b _ h2=>b8.block b h2);have HM:=qA (fun h=>W8.mul HX.out HW.out h);obtain⟨_,_,y8,-,u8,Ig⟩:=M8.out.2.1.cell1 l6.out;have q8:=M8.out.2.2.2.1.c1;have uY:=b8.size;obtain⟨A8,c8,rfl,_⟩:=o8.form;clear o8 b8 R2 RW HW M6 y2 u2 q1 HX;generalize redL [] (xi++xw)=xy at*;by_cases h8:xy.length≤8
      ·have AF:(xy.length:Int)≤8:=tO;have M9:=qA (M8.out.put H.out tO ⟨tO,tO⟩ uY P8.out O8.out (HM.out h8) hi);go_wp2;go_roundw
       case rel=>exact⟨m-1,_,by go_num,tO,tO,M9.out⟩
       case measure=>(simp[intOf];omega)
      ·have AF: ¬(xy.length:Int)≤8:=tO;go_wp2;go_roundw
       case rel=>exact⟨m-1,_,by go_num,tO,tO,M8.out⟩
       case measure=>(simp[intOf];omega)
   ·have bT: ¬(0:Int)<m:=ac;obtain⟨x,y,hx⟩:=M5.out.2.2.2.2;have y0:=M5.out.2.2.2.1.c0;have y1:=M5.out.2.2.2.1.c1;have x0:=hx.c0;have x1:=hx.c1;have f0:=hx.fz 0;have f1:=hx.fz 1;have xl:=hx.lt;have HQ:=qA (M5.out.fin H.out tO (.int .i64 n) (.slice (some ⟨g,0,none⟩) n cps));have HL:=qA M5.out.1;clear hx M5;go_wp2;exact bodyPost_ret (v:= .agg #[.int .i64 n, .slice (some ⟨g,0,none⟩) n cps]) (by simp[results,Tryz.results93,go_sem,x0,x1,xl]) rfl ⟨_,_,rfl,L,⟨⟨gQ,cS⟩,by have:=HL.out.1;omega,HL.out.2⟩,HQ.out.1,HQ.out.2.1,HQ.out.2.2⟩
 ·go_wp2_with fail;go_loopw [6] (fun iv wr=> ∃(k:Nat) (L:List (List Int)),k≤n∧iv= .int .i64 k∧ML p A cap cs w lo q g n cps L wr) (fun iv _=>n-(intOf iv).toNat)
  case atStart=>exact⟨0,L0,tO,rfl,M4.out⟩
  case round=>
   obtain⟨k,L,hk,rfl,hm⟩:=hrel;have M5:=qA hm;clear hm M4;by_cases ac:k<n
   ·have bT:(k:Int)<(n:Int):=tO;have er:Hid (k<L.length):=qA (by rw[M5.out.1.1];exact ac);have lL:=(M5.out.2.1.cell1 er.out).choose_spec.choose_spec.2.2.2;go_wp2_with fail;refine qBT [.val (.pointer (some ⟨q,1,none⟩)), .val (.slice (some ⟨g,0,none⟩) n cps), .val (.int .i64 k), .val (.pointer (some ⟨p,0,none⟩)), .val (.int .i64 n), .mem (fun _ W v=> ∃(xs:List Int) (A':Option Addr) (c':Nat),v= .slice A' xs.length c'∧OwI W wr.heap.size (.slice A' xs.length c') xs∧W8 n xs), .val (.pointer (some ⟨g,k,none⟩)), .mem (fun _ W _=> ∃xs:List Int,W8 n xs∧OwII lo W.heap.size (.slice (some ⟨g,0,none⟩) n cps) (L.set k xs) W)]
     [none,none,none,none,none,some (fun W W'=>Tr p (p+1) W W'∧Cur p A cap cs W'),none,some (fun W W'=> ∃v,W'=W.setCell ⟨g,k,none⟩ v)]
     (fun W=>DrI p A cap cs w W∧MBx W q (.int .i64 n) (.slice (some ⟨g,0,none⟩) n cps)∧wr.heap.size≤W.heap.size∧ ∃x y,MBx W w.heap.size x y) (fun W=>OwII lo wr.heap.size (.slice (some ⟨g,0,none⟩) n cps) L W) [7] [(5,7)] tK tK (by rfl) (by rfl)
     ⟨M5.out.2.2.1.bel (zae _ _).drew,M5.out.2.2.2.1.below (zae _ _).drew,zad _,by obtain⟨x,y,hx⟩:=M5.out.2.2.2.2;exact⟨x,y,hx.below (zae _ _).drew⟩⟩ (OwnL.keep M5.out.2.1 EI.stable fun b _ _=>rfl)
     ⟨fun _ _ h t=>⟨h.1.to t.1 t.2,h.2.1.trP t.1 tO,zax h.2.2.1 t.1.size,by obtain⟨x,y,hx⟩:=h.2.2.2;exact⟨x,y,hx.trP t.1 tO⟩⟩,fun W _ h t=>by obtain⟨v,rfl⟩:=t;exact⟨h.1.hi H.out (zad _) ((zae w.heap.size W).setCell (p:=⟨g,k,none⟩) (by show w.heap.size≤g;omega) v),h.2.1.one tO,by have:=h.2.2.1;simpa using this,by obtain⟨x,y,hx⟩:=h.2.2.2;exact⟨x,y,hx.one tO⟩⟩,trivial⟩
     ⟨.inr fun _ _ hI h t=>h.trP t.1 tO hI.2.2.1, .inl (by simp),trivial⟩
     ⟨fun _ _ _ _ _ _ t h=>by obtain⟨v,rfl⟩:=t;obtain⟨xs,A',c',e,o,h8⟩:=h;exact⟨xs,A',c',e,o.keepB fun b hb=>zaG _ _ _ b (show b≠g by have:=(o.1.lt b hb).1;omega),h8⟩,trivial⟩ (fun vs=> ?_)
    refine⟨fun W' _ _ hI hD hK=> ?_,?_⟩
    ·skip;go_simp;exact hK.out _ _ rfl rfl
    simp only[zah,zaa,zab,zac,Sg.pick,Nat.reduceAdd];refine⟨fun W' _ _ hI hD hK=> ?_,?_⟩
    ·have z1:=hI.out.1.2.1.c1;go_simp;exact hK.out _ _ rfl rfl
    simp only[zah,zaa,zab,zac,Sg.pick,Nat.reduceAdd]
    iterate 3
     refine⟨fun W' _ _ hI hD hK=> ?_,?_⟩
     ·skip;go_simp;exact hK.out _ _ rfl rfl
     simp only[zah,zaa,zab,zac,Sg.pick,Nat.reduceAdd]
    refine⟨fun W' _ _ hI hD hK=> ?_,?_⟩
    ·skip;go_simp;refine(qLc p A cap cs n 3 _ hI.out.1.1.cur tO tO tO tO).mono ?_;rintro e w' ⟨v,xs,rfl,o,⟨hl,h1,h2⟩,c',t'⟩;obtain⟨A',cp',rfl,_⟩:=o.form;exact hK.out _ _ ⟨t',c'⟩ ⟨xs,A',cp',rfl,o.mono hI.out.1.2.2.1,tO,h1,h2⟩
    simp only[zah,zaa,zab,zac,Sg.pick,Nat.reduceAdd];refine⟨fun W' _ _ hI hD hK=> ?_,?_⟩
    ·skip;go_simp;exact hK.out _ _ rfl rfl
    simp only[zah,zaa,zab,zac,Sg.pick,Nat.reduceAdd];refine⟨fun W' _ _ hI hD hK=> ?_,?_⟩
    ·obtain⟨xs,A',c',e5,o,h8⟩:=(show ∃(xs:List Int) (A':Option Addr) (c':Nat),vs 5= .slice A' xs.length c'∧OwI W' wr.heap.size (.slice A' xs.length c') xs∧W8 n xs from hD.out 5 tK);rw[e5] at hK⊢;have HO:=qA (hI.out.2 tK);obtain⟨_,_,z0,-,u0,_⟩:=HO.out.cell1 er.out;go_simp;exact hK.out undef _ ⟨_,rfl⟩ ⟨xs,h8,OwII.put1 HO.out hI.out.1.2.2.1 o er.out⟩
    simp only[zah,zaa,zab,zac,Sg.pick,Nat.reduceAdd];intro W9 hI9 hD9;obtain⟨xs,h8,o9⟩:=(show ∃xs:List Int,W8 n xs∧OwII lo W9.heap.size (.slice (some ⟨g,0,none⟩) n cps) (L.set k xs) W9 from hD9.out 7 (by decide));have M9:Hid (ML p A cap cs w lo q g n cps (L.set k xs) W9):=qA ⟨⟨by rw[zaB];exact M5.out.1.1,W8.set M5.out.1.2 h8⟩,o9,hI9.out.1.1,hI9.out.1.2.1,hI9.out.1.2.2.2⟩;clear hI9 hD9 o9 h8 M5;go_wp2;go_roundw
    case rel=>exact⟨k+1,L.set k xs,tO,by go_num,M9.out⟩
    case measure=>(simp[intOf];omega)
   ·obtain rfl:k=n:=tO
    have bT: ¬(k:Int)<(k:Int):=tO;obtain⟨x,y,hx⟩:=M5.out.2.2.2.2;have y0:=M5.out.2.2.2.1.c0;have y1:=M5.out.2.2.2.1.c1;have x0:=hx.c0;have x1:=hx.c1;have f0:=hx.fz 0;have f1:=hx.fz 1;have xl:=hx.lt;have HQ:=qA (M5.out.fin H.out tO (.int .i64 k) (.slice (some ⟨g,0,none⟩) k cps));have HL:=qA M5.out.1;clear hx M5;go_wp2;exact bodyPost_ret (v:= .agg #[.int .i64 k, .slice (some ⟨g,0,none⟩) k cps]) (by simp[results,Tryz.results93,go_sem,x0,x1,xl]) rfl ⟨_,_,rfl,L,⟨⟨gQ,cS⟩,by have:=HL.out.1;omega,HL.out.2⟩,HQ.out.1,HQ.out.2.1,HQ.out.2.2⟩
theorem qDj (v:Value) (d:MoD) (w:World) (h:ArgM w v d) (hW:areW d.1 d.2=true) (hx: ∀x∈d.2,x.length≤1073741824):
  Calls Tryz.prog 94 #[v] w fun e w'=> ∃b,e= .returned (.bool b)∧Below w.heap.size w w':=by
 have HM:=qA (fun W (h:ArgM W v d)=>qCD v d W h hx);have H:=qA h;obtain⟨s,rfl,hr,ha⟩:=h;obtain⟨r,L⟩:=d;have HL:=qA ha;obtain⟨A,c,rfl,_⟩:=ha.form;simp only at hr HL hW
 have jl:=qA (fun W (h:RdII W (.slice A L.length c) L)=>qEi r _ L W h hW);obtain⟨w1,aL⟩: ∃W,W=w.alloc (.cells #[.int .i64 r,zay A L.length c] 31):=⟨_,rfl⟩;obtain⟨x1,b1,s1⟩:=MBx.new aL;have X:=qA x1;have BW:=qA b1;replace H:=qA (H.out.below b1);replace HL:=qA (HL.out.below b1);have e0:=x1.c0;have e1:=x1.c1;clear ha x1 b1 s1 hr hW hx;generalize morB (r,L)=mb at*;go_enter Tryz.func94,Tryz.ntmps94
 go_wp2_with fail;rw[←aL];clear aL;refine(jl.out _ HL.out).mono ?_
 rintro e w3 ⟨rv,rfl,⟨s3,rfl,i1,i2,o3⟩,b3⟩;obtain⟨A3,c3,rfl,_⟩:=o3.form;have O3:=qA o3;have B3:=qA (BW.out.trans (b3.mono BW.out.size));replace X:=qA (X.out.below b3);replace H:=qA (H.out.below b3);have zg:=qA (fun W u (h:ArgG W u (qGv (floF r L)))=>qGu u _ W h);clear o3 b3 e0 e1 jl HL;generalize qGv (floF r L)=sg at*;obtain⟨g1,g2,gs⟩:=sg;simp only at*
 obtain⟨w4,je⟩: ∃W,W=w3.alloc (.cells #[.int .i64 g1,.int .i64 g2, .slice A3 gs.length c3] 82):=⟨_,rfl⟩;have g4:=GBx.new (m:=(g1,g2,gs)) O3.out i1 i2 je;obtain⟨x4,b4,s4⟩:=CBx.new je;have G4:=qA g4;have B4:=qA (B3.out.trans (b4.mono B3.out.size));replace X:=qA (X.out.below b4);replace H:=qA (H.out.below b4);have e0:=X.out.c0;have e1:=X.out.c1;clear g4 b4 O3 B3 x4;have XL:=X.out.lt;rw[je] at e0 e1;generalize Kn:w3.heap.size=gb at*;go_wp2_with fail;rw[←je];refine(HM.out _ H.out).mono ?_
 rintro e w5 ⟨rfl,b5⟩;have B5:=qA (B4.out.trans (b5.mono B4.out.size));replace G4:=qA (G4.out.below b5);clear b5 e0 e1 je H HM;obtain⟨u0,u1,u2⟩:=G4.out.cs;simp only at u0 u1 u2
 cases mb
 ·go_wp2;go_ret;exact⟨_,rfl,B5.out⟩
 ·go_wp2_with fail;refine(zg.out _ _ G4.out.arg).mono ?_
  rintro e w6 ⟨rfl,b6⟩;have B6:=qA (B5.out.trans (b6.mono B5.out.size));clear b6 u0 u1 u2;generalize qCA (g1,g2,gs)=wb at*;go_wp2;go_ret;exact⟨_,rfl,B6.out⟩
theorem qMy {m:Nat}: ∀ {L:List (List Int)},(∀x∈L,x.length≤m)→qu L≤L.length*m
 | [],_=>by simp[qu]
 | x::L,h=>by
   have ih:=qMy (m:=m) (L:=L) fun y hy=>h y (by simp[hy]);have h1:=h x (by simp);have e:qu (x::L)=x.length+qu L:=by simp[qu]
   rw[e,zaX,Nat.add_mul,Nat.one_mul];omega
theorem qQN {r:Int} {L:List (List Int)} (h:(1≤r∧r≤3)∧(L.length:Int)=r∧ ∀x∈L,W8 r x):areW r L=true:=by
 have h8:=qMy (m:=8) fun x hx=>(h.2.2 x hx).1;unfold areW;simp only[zaz,zag,decide_eq_true_eq];exact⟨fun x hx=>(h.2.2 x hx).word h.1.1 h.1.2,qP.2 h.1,tO,tO⟩
theorem qJy (v:Value) (cs:List Int) (w:World) (h:ArgC w v cs) (hl:cs.length≤1048576):
  Calls Tryz.prog 44 #[v] w fun e w'=> ∃(u z:Value) (xs ys:List Int),e= .returned (.tuple #[.int .i64 2,u,z])∧RdI w' u xs∧RdI w' z ys∧(xs.length≤10∧ys.length≤16)∧Below w.heap.size w w':=by
 have HN:=qA (qGm v cs w h hl);clear h;go_enter Tryz.func44,Tryz.ntmps44
 go_wp2_with fail;refine HN.out.mono ?_;rintro e w1 ⟨p,A,cap,rfl,c1,hp,b1⟩;have C1:=qA c1;have B1:=qA b1;have s1:=b1.size;clear c1 b1 HN;go_wp2_with fail;refine(qBP p A cap cs _ C1.out).mono ?_
 rintro e w2 ⟨xv,xs,rfl,ox,⟨cX,fE⟩,c2,t2⟩;have C2:=qA c2;have B2:=qA (Tr.bwP B1.out t2 hp);have O2:=qA ox;have s2:=B2.out.size;have dD:=C1.out.lt;have z2:=t2.size;obtain⟨Ax,cx,rfl,_⟩:=ox.form;clear c2 t2 ox fE;go_wp2_with fail;refine(qDe p A cap cs 2 _ C2.out tO tO).mono ?_
 rintro e w3 ⟨bb,rfl,c3,t3⟩;have C3:=qA c3;have B3:=qA (Tr.bwP B2.out t3 hp);have O3:=qA (O2.out.trP t3 dD);have s3:=B3.out.size;have z3:=t3.size;clear c3 t3 C2 O2 B2;cases bb
 ·go_wp2_with fail;refine(qBP p A cap cs _ C3.out).mono ?_
  rintro e w9 ⟨yv,ys,rfl,oy,⟨uC,-⟩,c9,t9⟩;have B9:=qA (Tr.bwP B3.out t9 hp);have O9:=qA (O3.out.trP t9 dD);have Y9:=qA oy;obtain⟨Ay,cy,rfl,_⟩:=oy.form;clear c9 t9 oy;go_wp2;exact bodyPost_ret (v:= .tuple #[.int .i64 2, .slice Ax xs.length cx, .slice Ay ys.length cy]) (by simp[results,Tryz.results44,go_sem]) rfl ⟨_,_,xs,ys,rfl,O9.out.rd,Y9.out.rd,⟨cX,tO⟩,B9.out⟩
 ·go_wp2_with fail;refine(qGj p A cap cs _ C3.out).mono ?_
  rintro e w4 ⟨r,s,L,rfl,hL,ol,c4,t4⟩;have C4:=qA c4;have B4:=qA (Tr.bwP B3.out t4 hp);have O4:=qA (O3.out.trP t4 dD);have s4:=B4.out.size;have z4:=t4.size;have R4:=qA ol.rd;obtain⟨Al,ml,cl,rfl⟩:=OwnL.any ol;have HA:=qA (qQN hL);have HW:=qA hL.2.2;have lg:L.length≤3:=tO;have gQ:=hL.1.1;have cS:=hL.1.2;clear c4 t4 ol hL C3 O3 B3;obtain⟨W5,nS⟩: ∃W,W=w4.alloc (.cells #[.int .i64 r, .slice Al ml cl] 31):=⟨_,rfl⟩;obtain⟨x5,b5,s5⟩:=MBx.new nS;have C5:=qA (C4.out.below b5);have B5:=qA (B4.out.trans (b5.mono s4));have O5:=qA (O4.out.below b5);have R5:=qA (R4.out.below b5);have X5:=qA x5;clear C4 B4 O4 R4;have zm:=qA (qDj (.agg #[.int .i64 r, .slice Al ml cl]) (r,L) W5 ⟨_,rfl,⟨by show(-9223372036854775808:Int)≤r;omega,by show r≤(9223372036854775807:Int);omega⟩,R5.out⟩ HA.out (fun x hx=>by have:=(HW.out x hx).1;omega));have e0:=x5.c0;have e1:=x5.c1;clear b5 x5;by_cases lJ:r=2
  ·subst lJ;rw[nS] at e0 e1;generalize hq:w4.heap.size=q at*;go_wp2_with fail;rw[←nS];refine zm.out.mono ?_;rintro e w6 ⟨b,rfl,b6⟩;have C6:=qA (C5.out.below b6);have B6:=qA (B5.out.trans (b6.mono B5.out.size));have O6:=qA (O5.out.below b6);have R6:=qA (R5.out.below b6);have x6:=X5.out.below b6;have nh:=x6.c0;have dU:=x6.c1;clear b6 x6 e0 e1 nS zm C5 B5 O5 R5 X5;cases b
   ·go_wp2_with fail;refine(qBP p A cap cs _ C6.out).mono ?_
    rintro e w9 ⟨yv,ys,rfl,oy,⟨uC,-⟩,c9,t9⟩;have B9:=qA (Tr.bwP B6.out t9 hp);have O9:=qA (O6.out.trP t9 dD);have Y9:=qA oy;obtain⟨Ay,cy,rfl,_⟩:=oy.form;clear c9 t9 oy;go_wp2;exact bodyPost_ret (v:= .tuple #[.int .i64 2, .slice Ax xs.length cx, .slice Ay ys.length cy]) (by simp[results,Tryz.results44,go_sem]) rfl ⟨_,_,xs,ys,rfl,O9.out.rd,Y9.out.rd,⟨cX,tO⟩,B9.out⟩
   ·go_wp2_with fail;refine(qAW _ _ L xs _ R6.out O6.out.rd tO (fun x hx=>by have:=(HW.out x hx).1;omega) tO).mono ?_
    rintro e w7 ⟨zv,rfl,oz,b7⟩;have C7:=qA (C6.out.below b7);have B7:=qA (B6.out.trans (b7.mono B6.out.size));have O7:=qA (O6.out.below b7);have Z7:=qA oz;obtain⟨Az,cz,rfl,_⟩:=oz.form;clear b7 oz nh dU C6 B6 O6 R6;generalize expL L xs=zs at*;by_cases h16:zs.length≤16
    ·have yR:(zs.length:Int)≤16:=tO;go_wp2;exact bodyPost_ret (v:= .tuple #[.int .i64 2, .slice Ax xs.length cx, .slice Az zs.length cz]) (by simp[results,Tryz.results44,go_sem]) rfl ⟨_,_,xs,zs,rfl,O7.out.rd,Z7.out.rd,⟨cX,h16⟩,B7.out⟩
    ·have yR: ¬(zs.length:Int)≤16:=tO;go_wp2_with fail;refine(qBP p A cap cs _ C7.out).mono ?_
     rintro e w9 ⟨yv,ys,rfl,oy,⟨uC,-⟩,c9,t9⟩;have B9:=qA (Tr.bwP B7.out t9 hp);have O9:=qA (O7.out.trP t9 dD);have Y9:=qA oy;obtain⟨Ay,cy,rfl,_⟩:=oy.form;clear c9 t9 oy;go_wp2;exact bodyPost_ret (v:= .tuple #[.int .i64 2, .slice Ax xs.length cx, .slice Ay ys.length cy]) (by simp[results,Tryz.results44,go_sem]) rfl ⟨_,_,xs,ys,rfl,O9.out.rd,Y9.out.rd,⟨cX,tO⟩,B9.out⟩
  ·rw[nS] at e0 e1;generalize hq:w4.heap.size=q at*;go_wp2_with fail;rw[←nS];clear e0 e1 nS zm;refine(qBP p A cap cs _ C5.out).mono ?_
   rintro e w9 ⟨yv,ys,rfl,oy,⟨uC,-⟩,c9,t9⟩;have B9:=qA (Tr.bwP B5.out t9 hp);have O9:=qA (O5.out.trP t9 dD);have Y9:=qA oy;obtain⟨Ay,cy,rfl,_⟩:=oy.form;clear c9 t9 oy;go_wp2;exact bodyPost_ret (v:= .tuple #[.int .i64 2, .slice Ax xs.length cx, .slice Ay ys.length cy]) (by simp[results,Tryz.results44,go_sem]) rfl ⟨_,_,xs,ys,rfl,O9.out.rd,Y9.out.rd,⟨cX,tO⟩,B9.out⟩
theorem qOm {w:List Int}:gL w↔ ∀y∈w,Lt3 y:=⟨fun h y hy=>⟨(h y hy).2.1,(h y hy).2.2,(h y hy).1⟩,fun h y hy=>⟨(h y hy).2.2,(h y hy).1,(h y hy).2.1⟩⟩
theorem qEU (u:List Int):(invN u).length=u.length:=by unfold invN;simp
theorem qOD {u:List Int} {i:Nat} (h:i<u.length):u.getD i 0∈u:=by
 rw[zau,zaw h];exact zai h
theorem qPE {u:List Int} {i:Nat} (h:i<u.length):(invN u).getD (u.length-1-i) 0= -u.getD i 0:=by
 unfold invN;rw[zau,zau,List.getElem?_reverse (by rw[zaA];omega),List.getElem?_map,zaA,
  show u.length-1-(u.length-1-i)=i by omega,zaw h]
 rfl
theorem qKG {u c:List Int} (hc:cycP c) (hu: ∀y∈u,Lt3 y):qBt (u++c++invN u)=c:=by
 obtain⟨x,hx⟩: ∃x,x=u++c++invN u:=⟨_,rfl⟩;have hl:x.length=u.length+c.length+u.length:=by rw[hx,zaf,zaf,qEU]
 have go: ∀f,f≤u.length→qAS x (x.length-f) f=qk x:=by
  intro f;induction f with
  | zero=>intro _;rfl
  | succ f ih=>
    intro hf;refine qHd (ih tO) tO ?_;have e1:x.getD f 0=u.getD f 0:=by rw[hx,zak,qAb _ _ _ tO]
    have e2:x.getD (x.length-1-f) 0= -u.getD f 0:=by
     rw[hx,qBA _ _ _ (by simp only[zaf,qEU];omega)];simp only[zaf,qEU];rw[show u.length+c.length+u.length-1-f-(u.length+c.length)=u.length-1-f by omega,qPE tO]
    rw[e1,e2];exact(hu _ (qOD tO)).inv.2 rfl
 have hs:qk x=u.length:=by
  refine qBo (go _ (zad _)) fun ⟨h1,h2⟩=> ?_;have e1:x.getD u.length 0=c.getD 0 0:=by rw[hx,zak,qBA _ _ _ (zad _),Nat.sub_self,qAb _ _ _ tO]
  have e2:x.getD (x.length-1-u.length) 0=c.getD (c.length-1) 0:=by
   rw[hx,zak,qBA _ _ _ (by simp only[zaf,qEU];omega)];simp only[zaf,qEU];rw[show u.length+(c.length+u.length)-1-u.length-u.length=c.length-1 by omega,qAb _ _ _ tO]
  rw[e1,e2,hc.2 tO] at h2;cases h2
 rw[←hx];unfold qBt;rw[hs,hx,List.take_append_of_le_length (by rw[←hx,zaf];omega),zaK (by rw[←hx,zaf];omega),List.drop_left]
theorem qQZ {c:List Int} (h:I64s c) {j:Nat} (hj:j≤c.length):(lrF (rotF c j)).1=(lrF c).1:=by
 rcases zaT c.length with h0 | h0
 ·obtain rfl:=zal h0
  obtain rfl:j=0:=by simpa using hj
  rfl
 have ha:=qDQ (rotF c j);have hb:=qDQ c;rw[qAK] at ha;have e1:=ha.1;rw[qGK _ _ _ hj ha.2 h0] at e1;have n1: ¬ltW (lrF (rotF c j)).1 (lrF c).1:=by
  rw[e1];exact qFA h _ _ (za0 _ h0)
 have n2: ¬ltW (lrF c).1 (lrF (rotF c j)).1:=by
  have e2:(lrF c).1=rotF (rotF c j) (((lrF c).2+(c.length-j))%c.length):=by
   rw[qGK _ _ _ hj (zaS (za0 _ h0)) h0];have q:(j+((lrF c).2+(c.length-j))%c.length)%c.length=(lrF c).2%c.length:=by
    rw[Nat.add_mod,Nat.mod_mod,←Nat.add_mod,show j+((lrF c).2+(c.length-j))=(lrF c).2+c.length by omega,Nat.add_mod_right]
   rw[q];rcases zaU (lrF c).2 c.length with q2 | q2
   ·rw[Nat.mod_eq_of_lt q2];exact hb.1
   ·have q3:(lrF c).2=c.length:=tO;rw[q3,Nat.mod_self,qCR,hb.1,q3];simp[rotF]
  rw[e2];have:=qFA (qCj h j) (rotF c j).length (((lrF c).2+(c.length-j))%c.length) (by rw[qAK];exact za0 _ h0)
  exact this
 have hl:(lrF (rotF c j)).1.length=(lrF c).1.length:=by rw[e1,hb.1,qAK,qAK]
 rcases qQI (by rw[e1];exact qCj h _) (by rw[hb.1];exact qCj h _) hl with q | q | q
 ·exact absurd q n1
 ·exact q
 ·exact absurd q n2
theorem qPH {w:List Int} (h:gL w):gL (redL [] w):=qGB (fun y hy=>by cases hy) h
theorem qIZ {y a:Int} {c:List Int} (hc:redP (a::c)) (h:invB y a=false):redP (y::a::c):=fun i hi=>by
 rcases i with _ | i
 ·exact h
 ·have:=hc i (by simp only[zaX] at hi⊢;omega)
  simpa[za1] using this
theorem qGO {c:List Int} {l z:Int} (hc:redP (c++ [l])) (h:invB l z=false):redP (c++ [l]++ [z]):=qIa hc fun _=>by
 rw[List.getLastD_concat];exact h
theorem qMT {a:Int} {c:List Int} (h:redP (a::c)):redP c:=by
 have:=qJh h 1
 simpa using this
theorem qMg {a:Int} {c:List Int} (h:redP (c++ [a])):redP c:=by
 have:=qEW h c.length
 rwa [List.take_left] at this
theorem qLh {c:List Int} (hr:redP c) (hc:gL c) {y:Int} (hy:Lt3 y): ∃j,j≤(qBt c).length∧qAL ([y]++c++ [-y])=rotF (qBt c) j:=by
 have aZ:=qOm.1 hc;have hs:=qHL aZ;have hk:=qIe hr;have iL:y≠0∧ -3≤y∧y≤3:=⟨hy.2.2,hy.1,hy.2.1⟩;have Cq: -y≠0∧ -3≤ -y∧ -y≤3:=⟨tO,tO,tO⟩;have lE: ∀z∈qBt c,Lt3 z:=fun z hz=>aZ z (by
  unfold qBt at hz;exact zaq (zaC hz))
 have m8: ∀z∈c.take (qk c),Lt3 z:=fun z hz=>aZ z (zaq hz);generalize hu:c.take (qk c)=u at*;generalize mw:qBt c=k at*;unfold qAL;rcases u with _ | ⟨a,u⟩
 ·have GO:c=k:=by rw[hs];simp[invN]
  subst GO;rcases c with _ | ⟨f,c⟩
  ·refine⟨0,zad _,?_⟩;have:redL [] ([y]++ []++ [-y])= []:=by
    show red1 (red1 [] y) (-y)= []
    rw[qCo];have:=qBL [] y (-y)
    simp only[zaD] at this;rw[this,if_pos (by rw[qBE iL];simp)]
   rw[this];rfl
  ·have hf:=hc f (by simp);by_cases e1:f= -y
   ·refine⟨1,by simp,?_⟩;have gd:=qJo hk (fun z hz=>by have:=lE z hz;exact⟨by have:=this.1;omega,by have:=this.2.1;omega⟩) 1 (by simp);have e2:rotF (f::c) 1=c++ [-y]:=by rw[e1];simp[rotF]
    rw[e2] at gd⊢;have:redL [] ([y]++(f::c)++ [-y])=c++ [-y]:=by
     rw[show [y]++(f::c)++ [-y]= [y]++([f]++(c++ [-y])) by simp,qAA,qAA,qAs,qAs];have:red1 (red1 [] y) f= []:=by
      rw[qCo];have:=qBL [] y f
      simp only[zaD] at this;rw[this,if_pos (by rw[qBE iL,e1];simp)]
     rw[this];exact qCf gd.1
    rw[this];exact qGg gd
   ·rcases qBB (f::c) with h0 | ⟨p,l,hp⟩
    ·cases h0
    by_cases e2:l=y
    ·refine⟨p.length,by rw[hp];simp,?_⟩;rw[hp] at hk hr lE⊢;have gd:=qJo hk (fun z hz=>by have:=lE z hz;exact⟨by have:=this.1;omega,by have:=this.2.1;omega⟩) p.length (by simp);have e3:rotF (p++ [l]) p.length=y::p:=by rw[e2];simp[rotF]
     rw[e3] at gd⊢;have:redL [] ([y]++(p++ [l])++ [-y])=y::p:=by
      have g0:gL (y::p):=fun z hz=>by
       rcases zat.1 hz with rfl | hz
       ·exact iL
       ·exact hc z (by rw[hp];simp[hz])
      rw[show [y]++(p++ [l])++ [-y]=(y::p)++([l]++ [-y]) by simp,qAA,qCf gd.1,qAA,qAs,qAs,e2];exact qEQ gd.1 g0 iL
     rw[this];exact qGg gd
    ·refine⟨0,zam _,?_⟩;rw[qCR];have hl:redP ([y]++(f::c)++ [-y]):=by
      rw[show [y]++(f::c)++ [-y]=y::f::c++ [-y] by simp];have h1:redP (y::f::c):=qIZ hr (by rw[qBE iL];simpa using e1);rw[hp] at h1⊢;have:=qGO (c:=y::p) (l:=l) (z:= -y) (by simpa using h1) (by
       rw[qBE (hc l (by rw[hp];simp))];simp only[decide_eq_false_iff_not];omega)
      simpa using this
     rw[qCf hl];have:=qKG (u:= [y]) hk (fun z hz=>by rw[zan] at hz;rw[hz];exact hy)
     simpa[invN] using this
 ·have ha:=m8 a (by simp);have yw: ∀z∈u,Lt3 z:=fun z hz=>m8 z (by simp[hz]);obtain⟨m,hm⟩: ∃m,m=u++k++invN u:=⟨_,rfl⟩;have fB:c=a::m++ [-a]:=by rw[hs,hm];simp[invN]
  refine⟨0,zam _,?_⟩;rw[qCR];by_cases e1:y= -a
  ·have DE:redP m:=by
    rw[fB] at hr;exact qMT (qMg hr)
   have:redL [] ([y]++c++ [-y])=m:=by
    have gm:gL m:=fun z hz=>hc z (by rw[fB];simp[hz]);have IT: -y=a:=tO;have JN:a≠0∧ -3≤a∧a≤3:=⟨ha.2.2,ha.1,ha.2.1⟩;rw[fB,show [y]++(a::m++ [-a])++ [-y]= [y]++([a]++(m++([-a]++ [-y]))) by simp,qAA,qAA,qAs,qAs];have e2:red1 (red1 [] y) a= []:=by
     rw[qCo];have:=qBL [] y a
     simp only[zaD] at this;rw[this,if_pos (by rw[qBE iL];simp;omega)]
    rw[e2,qAA,qCf DE,qAA,qAs,qAs,IT];have:=qEQ (x:= -a) DE gm ⟨tO,tO,tO⟩
    rwa [Int.neg_neg] at this
   rw[this,hm];exact qKG hk yw
  ·have hl:redP ([y]++c++ [-y]):=by
    rw[fB] at hr⊢;rw[show [y]++(a::m++ [-a])++ [-y]=(y::a::m)++ [-a]++ [-y] by simp];refine qGO (by
     have:=qIZ (y:=y) hr (by rw[qBE iL];simp only[decide_eq_false_iff_not];omega)
     simpa using this) ?_
    rw[qBE ⟨by have:=ha.2.2;omega,by have:=ha.2.1;omega,by have:=ha.1;omega⟩];simp only[decide_eq_false_iff_not];omega
   rw[qCf hl];have:=qKG (u:=y::a::u) hk (fun z hz=>by
    rcases zat.1 hz with rfl | hz
    ·exact hy
    ·exact m8 z hz)
   rw[hs];simpa[invN] using this
theorem qMV {w:List Int} (hw:gL w) {y:Int} (hy:Lt3 y):cycF ([y]++w++ [-y])=cycF w:=by
 have hr:redP (redL [] w):=qBQ qBm;have hg:=qPH hw;obtain⟨j,hj,e⟩:=qLh hr hg hy;have e2:qAL ([y]++redL [] w++ [-y])=qAL ([y]++w++ [-y]):=by
  unfold qAL;congr 1
  have h1:redP [y]:=fun i hi=>by simp at hi
  have h2:gL [y]:=fun z hz=>by rw[zan.1 hz];exact⟨hy.2.2,hy.1,hy.2.1⟩
  rw[qAA [] ([y]++redL [] w),qAA [] ([y]++w),qAA [] [y] (redL [] w),qAA [] [y] w,qCf h1,qNR h1 h2 hw]
 have hI:I64s (qBt (redL [] w)):=fun z hz=>by
  have:=(qOm.1 hg) z (zaq (zaC hz))
  exact⟨by have:=this.1;omega,by have:=this.2.1;omega⟩
 unfold cycF;rw[←e2,e,qQZ hI hj];rfl
theorem qJZ (y:Int) (p:List Int):invN (y::p)=invN p++ [-y]:=by simp[invN]
theorem qHn: ∀ {p w:List Int},gL w→gL p→cycF (p++w++invN p)=cycF w
 | [],w,_,_=>by simp[invN]
 | y::p,w,hw,hp=>by
   have hy:Lt3 y:=(qOm.1 hp) y (by simp);have ya:gL p:=fun z hz=>hp z (by simp[hz]);have hg:gL (p++w++invN p):=fun z hz=>by
    rcases zao.1 hz with hz | hz
    ·rcases zao.1 hz with hz | hz
     ·exact ya z hz
     ·exact hw z hz
    ·have:=(ya _ (qKN hz));omega
   rw[qJZ,show(y::p)++w++(invN p++ [-y])= [y]++(p++w++invN p)++ [-y] by simp,qMV hg hy,qHn hw ya]
def expE (B:List (List Int)) (w:List Int):List Int:=(w.flatMap (qAt B)).flatten
theorem qNi (B:List (List Int)) {w:List Int} (hl:w.length≤200):expL B w=redL [] (expE B w):=by
 unfold expL qDg qEX expE;rw[zaK hl]
theorem qBS (B:List (List Int)) (a b:List Int):expE B (a++b)=expE B a++expE B b:=by
 unfold expE;rw[List.flatMap_append,List.flatten_append]
theorem qKg {B:List (List Int)} (hB: ∀b∈B,gL b) (j:Nat):gL (B.getD j []):=by
 by_cases hj:j<B.length
 ·have e:B.getD j []=B[j]:=by simp[za1,hj]
  rw[e];exact hB _ (zai hj)
 ·have e:B.getD j []= []:=by simp[za1,Nat.not_lt.1 hj]
  rw[e];exact fun y hy=>by cases hy
theorem qKT {w:List Int} (h:gL w):invL w=invN w:=qLW h
theorem qQc {B:List (List Int)} (hB: ∀b∈B,gL b) (x:Int):gL (qAt B x).flatten:=by
 unfold qAt;split
 ·simpa using qKg hB _
 ·split
  ·simpa using qQM (qKg hB _)
  ·exact fun y hy=>by cases hy
theorem qDU {B:List (List Int)} (hB: ∀b∈B,gL b): ∀w:List Int,gL (expE B w)
 | []=>fun y hy=>by cases hy
 | x::w=>by
   rw[show x::w= [x]++w from rfl,qBS];intro y hy;rcases zao.1 hy with hy | hy
   ·refine qQc hB x y ?_;simpa[expE] using hy
   ·exact qDU hB w y hy
theorem qKx {B:List (List Int)} (hB: ∀b∈B,gL b) {x:Int} (hx:x≠0):expE B [-x]=invN (expE B [x]):=by
 unfold expE qAt;rw[zaL,zaL];rcases Int.lt_or_gt_of_ne hx with h | h
 ·by_cases q: -x≤(B.length:Int)
  ·rw[if_pos ⟨tO,q⟩,if_neg tO,if_pos ⟨h,tO⟩];simp only[zaW,zaY,zaE];rw[qKT (qKg hB _),qPB]
  ·rw[if_neg tO,if_neg tO,if_neg tO,if_neg tO];rfl
 ·by_cases q:x≤(B.length:Int)
  ·rw[if_neg tO,if_pos ⟨tO,tO⟩,if_pos ⟨tO,q⟩,Int.neg_neg];simp only[zaW,zaY,zaE];exact qKT (qKg hB _)
  ·rw[if_neg tO,if_neg tO,if_neg tO,if_neg tO];rfl
theorem qOP (a b:List Int):invN (a++b)=invN b++invN a:=by simp[invN]
theorem qKS {B:List (List Int)} (hB: ∀b∈B,gL b): ∀ {w:List Int},gL w→expE B (invN w)=invN (expE B w)
 | [],_=>rfl
 | x::w,h=>by
   rw[qJZ,qBS,qKS hB fun z hz=>h z (by simp[hz]),qKx hB (h x (by simp)).1,show x::w= [x]++w from rfl,qBS,qOP]
theorem qNL {B:List (List Int)} (hB: ∀b∈B,gL b) {acc:List Int} (ha:gL acc) {x:Int}:redL [] (expE B (red1 acc x))=redL [] (expE B acc++expE B [x]):=by
 rcases qBB acc with rfl | ⟨p,l,rfl⟩
 ·rw[qCo];rfl
 ·have hl:=ha l (by simp);rw[qBL];split
  ·rename_i q
   rw[qBE hl,decide_eq_true_eq] at q;have g1:=qDU hB [l];rw[q,qKx hB hl.1,qBS,zak,qAA [] (expE B p),←qKT g1,qGs (qBQ qBm) (qGB (fun y hy=>by cases hy) (qDU hB p)) g1]
  ·rw[qBS]
theorem qIz {B:List (List Int)} (hB: ∀b∈B,gL b): ∀ {w acc:List Int},gL acc→gL w→redL [] (expE B (redL acc w))=redL [] (expE B acc++expE B w)
 | [],acc,_,_=>by
   show redL [] (expE B acc)=redL [] (expE B acc++ [])
   rw[zaE]
 | x::w,acc,ha,hw=>by
   have hx:=hw x (by simp);show redL [] (expE B (redL (red1 acc x) w))=_
   rw[qIz hB (qJu ha hx) fun z hz=>hw z (by simp[hz]),qAA,qNL hB ha,←qAA,show x::w= [x]++w from rfl,qBS B [x] w,zak]
theorem qDa {w:List Int}:cycF (redL [] w)=cycF w:=by
 unfold cycF qAL;rw[qCf (qBQ qBm)]
theorem qNJ {B:List (List Int)} (hB: ∀b∈B,gL b) {w:List Int} (hw:gL w) (hl:w.length≤200):cycF (expL B w)=cycF (expL B (cycF w)):=by
 have hr:=qPH hw;have hs:=qHL (qOm.1 hr);have jX:=qDQ (qAL w);have aZ:(cycF w).length≤200:=zax (qFp w) hl;obtain⟨u,hu⟩: ∃u,(redL [] w).take (qk (redL [] w))=u:=⟨_,rfl⟩;rw[hu] at hs;have gu:gL u:=fun z hz=>hr z (by rw[←hu] at hz;exact zaq hz);have gk:gL (qAL w):=fun z hz=>hr z (zaq (zaC hz));obtain⟨t,ht⟩: ∃t,(qAL w).take (lrF (qAL w)).2=t:=⟨_,rfl⟩;obtain⟨d,hd⟩: ∃d,(qAL w).drop (lrF (qAL w)).2=d:=⟨_,rfl⟩;have hk:qAL w=t++d:=by rw[←ht,←hd,zaP]
 have hc:cycF w=d++t:=by
  show(lrF (qAL w)).1=_
  rw[jX.1];unfold rotF;rw[ht,hd]
 have gt:gL t:=fun z hz=>gk z (by rw[hk];simp[hz]);rw[qNi B hl,qNi B aZ,qDa,qDa];have e1:cycF (expE B w)=cycF (expE B (redL [] w)):=by
  rw[←qDa (w:=expE B (redL [] w)),qIz hB (fun y hy=>by cases hy) hw];show _=cycF (redL [] ([]++expE B w))
  rw[zaD,qDa]
 rw[e1,hs];show cycF (expE B (u++qAL w++invN u))=_
 rw[qBS,qBS,qKS hB gu,qHn (qDU hB _) (qDU hB _),hc,hk];have e2:cycF (expE B t++expE B (d++t)++invN (expE B t))=cycF (expE B (d++t)):=qHn (qDU hB _) (qDU hB _);rw[←e2,qBS,qBS];rw[←qDa (w:=expE B t++(expE B d++expE B t)++invN (expE B t))];have e3:redL [] (expE B t++(expE B d++expE B t)++invN (expE B t))=redL [] (expE B t++expE B d):=by
  rw[show expE B t++(expE B d++expE B t)++invN (expE B t)=(expE B t++expE B d)++(expE B t++invN (expE B t)) by simp,qAA,←qKT (qDU hB t)];exact qGs (qBQ qBm) (qGB (fun y hy=>by cases hy) fun z hz=>by
   rcases zao.1 hz with hz | hz
   ·exact qDU hB t z hz
   ·exact qDU hB d z hz) (qDU hB t)
 rw[e3,qDa]
def tbA:Nat→List (List Int)
 | 0=> [[]]
 | 1=> [[1],[-1],[2],[-2],[1,2],[1,-2],[-1,2],[-1,-2],[1,1,2],[1,1,-2],[1,2,2],[1,-2,-2],[-1,-1,2],[-1,-1,-2],[-1,2,2],[-1,-2,-2],[1,1,1,2],[1,1,1,-2],[1,2,2,2],[1,-2,-2,-2],[-1,-1,-1,2],[-1,-1,-1,-2],[-1,2,2,2],[-1,-2,-2,-2]]
 | 2=> [[1,1],[-1,-1],[2,2],[-2,-2],[1,2,1,2],[1,-2,1,-2],[-1,2,-1,2],[-1,-2,-1,-2]]
 | 3=> [[1,1,1],[-1,-1,-1],[2,2,2],[-2,-2,-2]]
 | 4=> [[1,1,1,1],[-1,-1,-1,-1],[2,2,2,2],[-2,-2,-2,-2]]
 | 5=> [[1,1,2,2],[1,1,-2,-2],[1,2,1,-2],[1,2,-1,2],[1,-2,-1,-2],[-1,-1,2,2],[-1,-1,-2,-2],[-1,2,-1,-2]]
 | 6=> [[1,2,-1,-2],[1,-2,-1,2]]
 | _=> []
def tbB:Nat→List (List Int)
 | 0=> [[]]
 | 1=> [[1],[-1],[2],[-2],[1,2],[1,-2],[-1,2],[-1,-2],[1,1,2],[1,1,-2],[1,2,2],[1,-2,-2],[-1,-1,2],[-1,-1,-2],[-1,2,2],[-1,-2,-2],[1,1,1,2],[1,1,1,-2],[1,2,2,2],[1,-2,-2,-2],[-1,-1,-1,2],[-1,-1,-1,-2],[-1,2,2,2],[-1,-2,-2,-2],[1,2,1,2,2],[1,-2,1,-2,-2],[1,1,2,1,2],[1,1,-2,1,-2],[-1,2,-1,2,2],[-1,-2,-1,-2,-2],[-1,-1,2,-1,2],[-1,-1,-2,-1,-2],[1,1,1,1,2],[1,2,1,2,1,2,2],[1,1,1,1,-2],[1,-2,1,-2,1,-2,-2],[1,1,2,1,2,1,2],[1,2,2,2,2],[1,1,-2,1,-2,1,-2],[1,-2,-2,-2,-2],[-1,-1,-1,-1,2],[-1,2,-1,2,-1,2,2],[-1,-1,-1,-1,-2],[-1,-2,-1,-2,-1,-2,-2],[-1,-1,2,-1,2,-1,2],[-1,2,2,2,2],[-1,-1,-2,-1,-2,-1,-2],[-1,-2,-2,-2,-2]]
 | 2=> [[1,1],[-1,-1],[2,2],[-2,-2],[1,2,1,2],[1,-2,1,-2],[-1,2,-1,2],[-1,-2,-1,-2],[1,1,2,1,1,2],[1,2,2,1,2,2],[1,1,-2,1,1,-2],[1,-2,-2,1,-2,-2],[-1,-1,2,-1,-1,2],[-1,2,2,-1,2,2],[-1,-1,-2,-1,-1,-2],[-1,-2,-2,-1,-2,-2]]
 | 3=> [[1,1,1],[-1,-1,-1],[2,2,2],[-2,-2,-2],[1,2,1,2,1,2],[1,-2,1,-2,1,-2],[-1,-2,-1,-2,-1,-2],[-1,2,-1,2,-1,2]]
 | 4=> [[1,1,1,1],[-1,-1,-1,-1],[2,2,2,2],[-2,-2,-2,-2],[1,2,1,2,1,2,1,2],[1,-2,1,-2,1,-2,1,-2],[-1,-2,-1,-2,-1,-2,-1,-2],[-1,2,-1,2,-1,2,-1,2]]
 | 5=> [[1,1,2,2],[1,1,-2,-2],[1,2,1,-2],[1,2,-1,2],[1,-2,-1,-2],[-1,-1,2,2],[-1,-1,-2,-2],[-1,2,-1,-2],[1,1,1,2,1,2],[1,2,1,2,2,2],[1,1,1,-2,1,-2],[1,-2,1,-2,-2,-2],[-1,-1,-1,2,-1,2],[-1,2,-1,2,2,2],[-1,-1,-1,-2,-1,-2],[-1,-2,-1,-2,-2,-2]]
 | 6=> [[1,2,-1,-2],[1,-2,-1,2]]
 | _=> []
def tbC:Nat→List (List Int)
 | 0=> [[]]
 | 1=> [[1],[-1],[2],[-2],[1,2],[1,-2],[-1,2],[-1,-2],[1,1,2],[1,1,-2],[1,2,2],[1,-2,-2],[-1,-1,2],[-1,-1,-2],[-1,2,2],[-1,-2,-2],[1,1,1,2],[1,1,1,-2],[1,2,2,2],[1,-2,-2,-2],[-1,-1,-1,2],[-1,-1,-1,-2],[-1,2,2,2],[-1,-2,-2,-2],[1,2,1,2,2],[1,-2,1,-2,-2],[1,1,2,1,2],[1,1,-2,1,-2],[-1,2,-1,2,2],[-1,-2,-1,-2,-2],[-1,-1,2,-1,2],[-1,-1,-2,-1,-2],[1,1,1,1,2],[1,2,1,2,1,2,2],[1,1,1,1,-2],[1,-2,1,-2,1,-2,-2],[1,1,2,1,2,1,2],[1,2,2,2,2],[1,1,-2,1,-2,1,-2],[1,-2,-2,-2,-2],[-1,-1,-1,-1,2],[-1,2,-1,2,-1,2,2],[-1,-1,-1,-1,-2],[-1,-2,-1,-2,-1,-2,-2],[-1,-1,2,-1,2,-1,2],[-1,2,2,2,2],[-1,-1,-2,-1,-2,-1,-2],[-1,-2,-2,-2,-2],[1,1,2,1,1,2,1,2],[1,2,2,1,2,2,2],[1,1,-2,1,1,-2,1,-2],[1,-2,-2,1,-2,-2,-2],[1,1,1,2,1,1,2],[1,2,1,2,2,1,2,2],[1,1,1,-2,1,1,-2],[1,-2,1,-2,-2,1,-2,-2],[-1,-1,2,-1,-1,2,-1,2],[-1,2,2,-1,2,2,2],[-1,-1,-2,-1,-1,-2,-1,-2],[-1,-2,-2,-1,-2,-2,-2],[-1,-1,-1,2,-1,-1,2],[-1,2,-1,2,2,-1,2,2],[-1,-1,-1,-2,-1,-1,-2],[-1,-2,-1,-2,-2,-1,-2,-2],[1,1,1,1,1,2],[1,2,1,2,1,2,1,2,2],[1,1,2,1,1,2,1,1,2,1,2],[1,2,2,1,2,2,1,2,2,2],[1,1,1,1,1,-2],[1,-2,1,-2,1,-2,1,-2,-2],[1,1,-2,1,1,-2,1,1,-2,1,-2],[1,-2,-2,1,-2,-2,1,-2,-2,-2],[1,1,1,2,1,1,2,1,1,2],[1,2,1,2,2,1,2,2,1,2,2],[1,1,2,1,2,1,2,1,2],[1,2,2,2,2,2],[1,1,1,-2,1,1,-2,1,1,-2],[1,-2,1,-2,-2,1,-2,-2,1,-2,-2],[1,1,-2,1,-2,1,-2,1,-2],[1,-2,-2,-2,-2,-2],[-1,-1,-1,-1,-1,2],[-1,2,-1,2,-1,2,-1,2,2],[-1,-1,2,-1,-1,2,-1,-1,2,-1,2],[-1,2,2,-1,2,2,-1,2,2,2],[-1,-1,-1,-1,-1,-2],[-1,-2,-1,-2,-1,-2,-1,-2,-2],[-1,-1,-2,-1,-1,-2,-1,-1,-2,-1,-2],[-1,-2,-2,-1,-2,-2,-1,-2,-2,-2],[-1,-1,-1,2,-1,-1,2,-1,-1,2],[-1,2,-1,2,2,-1,2,2,-1,2,2],[-1,-1,2,-1,2,-1,2,-1,2],[-1,2,2,2,2,2],[-1,-1,-1,-2,-1,-1,-2,-1,-1,-2],[-1,-2,-1,-2,-2,-1,-2,-2,-1,-2,-2],[-1,-1,-2,-1,-2,-1,-2,-1,-2],[-1,-2,-2,-2,-2,-2]]
 | 2=> [[1,1],[-1,-1],[2,2],[-2,-2],[1,2,1,2],[1,-2,1,-2],[-1,2,-1,2],[-1,-2,-1,-2],[1,1,2,1,1,2],[1,2,2,1,2,2],[1,1,-2,1,1,-2],[1,-2,-2,1,-2,-2],[-1,-1,2,-1,-1,2],[-1,2,2,-1,2,2],[-1,-1,-2,-1,-1,-2],[-1,-2,-2,-1,-2,-2],[1,1,1,2,1,1,1,2],[1,2,1,2,2,1,2,1,2,2],[1,1,2,1,2,1,1,2,1,2],[1,2,2,2,1,2,2,2],[1,1,1,-2,1,1,1,-2],[1,-2,1,-2,-2,1,-2,1,-2,-2],[1,1,-2,1,-2,1,1,-2,1,-2],[1,-2,-2,-2,1,-2,-2,-2],[-1,-1,-1,2,-1,-1,-1,2],[-1,2,-1,2,2,-1,2,-1,2,2],[-1,-1,2,-1,2,-1,-1,2,-1,2],[-1,2,2,2,-1,2,2,2],[-1,-1,-1,-2,-1,-1,-1,-2],[-1,-2,-1,-2,-2,-1,-2,-1,-2,-2],[-1,-1,-2,-1,-2,-1,-1,-2,-1,-2],[-1,-2,-2,-2,-1,-2,-2,-2]]
 | 3=> [[1,1,1],[-1,-1,-1],[2,2,2],[-2,-2,-2],[1,2,1,2,1,2],[1,-2,1,-2,1,-2],[-1,-2,-1,-2,-1,-2],[-1,2,-1,2,-1,2],[1,1,2,1,1,2,1,1,2],[1,2,2,1,2,2,1,2,2],[1,1,-2,1,1,-2,1,1,-2],[1,-2,-2,1,-2,-2,1,-2,-2],[-1,-1,-2,-1,-1,-2,-1,-1,-2],[-1,-2,-2,-1,-2,-2,-1,-2,-2],[-1,-1,2,-1,-1,2,-1,-1,2],[-1,2,2,-1,2,2,-1,2,2]]
 | 4=> [[1,1,1,1],[-1,-1,-1,-1],[2,2,2,2],[-2,-2,-2,-2],[1,2,1,2,1,2,1,2],[1,-2,1,-2,1,-2,1,-2],[-1,-2,-1,-2,-1,-2,-1,-2],[-1,2,-1,2,-1,2,-1,2],[1,1,2,1,1,2,1,1,2,1,1,2],[1,2,2,1,2,2,1,2,2,1,2,2],[1,1,-2,1,1,-2,1,1,-2,1,1,-2],[1,-2,-2,1,-2,-2,1,-2,-2,1,-2,-2],[-1,-1,-2,-1,-1,-2,-1,-1,-2,-1,-1,-2],[-1,-2,-2,-1,-2,-2,-1,-2,-2,-1,-2,-2],[-1,-1,2,-1,-1,2,-1,-1,2,-1,-1,2],[-1,2,2,-1,2,2,-1,2,2,-1,2,2]]
 | 5=> [[1,1,2,2],[1,1,-2,-2],[1,2,1,-2],[1,2,-1,2],[1,-2,-1,-2],[-1,-1,2,2],[-1,-1,-2,-2],[-1,2,-1,-2],[1,1,1,2,1,2],[1,2,1,2,2,2],[1,1,1,-2,1,-2],[1,-2,1,-2,-2,-2],[-1,-1,-1,2,-1,2],[-1,2,-1,2,2,2],[-1,-1,-1,-2,-1,-2],[-1,-2,-1,-2,-2,-2],[1,1,1,1,2,1,1,2],[1,2,1,2,1,2,2,1,2,2],[1,1,2,1,1,2,1,2,1,2],[1,2,2,1,2,2,2,2],[1,1,1,1,-2,1,1,-2],[1,-2,1,-2,1,-2,-2,1,-2,-2],[1,1,-2,1,1,-2,1,-2,1,-2],[1,-2,-2,1,-2,-2,-2,-2],[-1,-1,-1,-1,2,-1,-1,2],[-1,2,-1,2,-1,2,2,-1,2,2],[-1,-1,2,-1,-1,2,-1,2,-1,2],[-1,2,2,-1,2,2,2,2],[-1,-1,-1,-1,-2,-1,-1,-2],[-1,-2,-1,-2,-1,-2,-2,-1,-2,-2],[-1,-1,-2,-1,-1,-2,-1,-2,-1,-2],[-1,-2,-2,-1,-2,-2,-2,-2]]
 | 6=> [[1,2,-1,-2],[1,-2,-1,2]]
 | _=> []
def lvT:Nat→List (List Int)
 | 0=> [[]]
 | 1=> [[1],[-1],[2],[-2]]
 | 2=> [[1,1],[-1,-1],[2,2],[-2,-2]]
 | 3=> [[1,1,1],[-1,-1,-1],[2,2,2],[-2,-2,-2]]
 | 4=> [[1,1,1,1],[-1,-1,-1,-1],[2,2,2,2],[-2,-2,-2,-2]]
 | 5=> [[1,1,2,2],[1,1,-2,-2],[1,2,1,-2],[1,2,-1,2],[1,-2,-1,-2],[-1,-1,2,2],[-1,-1,-2,-2],[-1,2,-1,-2]]
 | 6=> [[1,2,-1,-2],[1,-2,-1,2]]
 | _=> []
def levX (x:List Int):List (List Int)×Bool:=if x.length≤6 then(match lvGo (movF 2) x.length 60 0 [x] with | none=>([],false) | some q=>(srt cK q,true)) else([],false)
theorem kA:((uptW (qD 2) 4).all fun u=>(zas 7).any fun m=>decide (cycF u∈tbA m))=true:=by kernel_rfl
theorem kB:((zas 7).all fun m=>(tbA m).all fun c=>(qh 2).all fun d=>decide (cycF (whX 2 d c)∈tbB m))=true:=by kernel_rfl
theorem kC:((zas 7).all fun m=>(tbB m).all fun c=>(qh 2).all fun d=>decide (cycF (whX 2 d c)∈tbC m))=true:=by kernel_rfl
theorem kD:((zas 7).all fun m=>(tbC m).all fun c=>decide ((qDi 2 24 c []).1∈lvT m))=true:=by kernel_rfl
theorem kE:((zas 7).all fun m=>(lvT m).all fun x=>decide (levX x=(lvT m,true)))=true:=by kernel_rfl
theorem kF:((zas 7).all fun m=>(lvT m).all fun x=>(lvT m).all fun y=>decide (x.length=y.length))=true:=by kernel_rfl
theorem kG:((zas 7).all fun m=>((tbA m).all fun c=>decide (c∈tbB m))&&(tbB m).all fun c=>decide (c∈tbC m))=true:=by kernel_rfl
theorem at7 {f:Nat→Bool} (h:(zas 7).all f=true) {m:Nat} (hm:m<7):f m=true:=zag.1 h m (zaF.2 hm)
theorem qQs {u:List Int} (hl:u.length≤4) (h1:letR 2 u) (h2:redP u): ∃m,m<7∧cycF u∈tbA m:=by
 have h:=zag.1 kA u (qPx (r:=2) (n:=4) tO hl h1 h2);obtain⟨m,hm,h⟩:=List.any_eq_true.1 h;exact⟨m,zaF.1 hm,of_decide_eq_true h⟩
theorem qQR {m:Nat} (hm:m<7) {c:List Int} (hc:c∈tbA m):c∈tbB m:=by
 have h:=at7 kG hm;rw[zaz] at h;exact of_decide_eq_true (zag.1 h.1 c hc)
theorem qQQ {m:Nat} (hm:m<7) {c:List Int} (hc:c∈tbB m):c∈tbC m:=by
 have h:=at7 kG hm;rw[zaz] at h;exact of_decide_eq_true (zag.1 h.2 c hc)
theorem imgB {m:Nat} (hm:m<7) {c:List Int} (hc:c∈tbA m) {d:WhD} (hd:d∈qh 2):cycF (whX 2 d c)∈tbB m:=
 of_decide_eq_true (zag.1 (zag.1 (at7 kB hm) c hc) d hd)
theorem imgC {m:Nat} (hm:m<7) {c:List Int} (hc:c∈tbB m) {d:WhD} (hd:d∈qh 2):cycF (whX 2 d c)∈tbC m:=
 of_decide_eq_true (zag.1 (zag.1 (at7 kC hm) c hc) d hd)
theorem qHr {d:WhD} (hd:d∈qh 2):whB 2 d=true:=
 zag.1 (zag.1 qNA 2 (zaF.2 tO)) d hd
theorem qNP {u:List Int} (h:letR 2 u):gL u:=fun y hy=>by have:=h y hy;exact⟨this.1,tO,tO⟩
theorem qQD {d:WhD} {c:List Int} (hl:c.length≤200):redP (whX 2 d c):=by
 unfold whX;rw[qNi _ hl];exact qBQ qBm
theorem qNb {d:WhD} {c:List Int}: ∀x∈whX 2 d c,letB 2 x=true:=qMN (qP.2 ⟨tO,tO⟩)
theorem let2 {x:Int} (h:letB 2 x=true):x≠0∧ -2≤x∧x≤2:=by
 have:=(qAB (qP.2 ⟨tO,tO⟩)).1 h
 omega
theorem qQe {d:WhD} {c:List Int}:gL (whX 2 d c):=fun y hy=>by have:=let2 (qNb y hy);exact⟨this.1,tO,tO⟩
theorem qQt {xs:List Int} (h:ImW xs):gL xs∧ ∃m,m<7∧cycF xs∈tbB m:=by
 obtain⟨u,⟨hl,h1,h2⟩,h⟩:=h;obtain⟨m,hm,hc⟩:=qQs hl h1 h2;rcases h with rfl | ⟨d,hd,rfl⟩
 ·exact⟨qNP h1,m,hm,qQR hm hc⟩
 ·refine⟨qQe (d:=d) (c:=u),m,hm,?_⟩;rw[qNJ (qQX (qHr hd)) (qNP h1) tO];exact imgB hm hc hd
theorem qQn {xs:List Int} (hg:gL xs) (hl:xs.length≤200) {m:Nat} (hm:m<7) (hc:cycF xs∈tbB m) {d:WhD} (hd:d∈qh 2):cycF (whX 2 d xs)∈tbC m:=by
 unfold whX;rw[qNJ (qQX (qHr hd)) hg hl];exact imgC hm hc hd
theorem qPU {xs:List Int} (hw:qY 2 xs=true) {m:Nat} (hm:m<7) (hc:cycF xs∈tbC m):levF 2 xs=(lvT m,true)∧(redF 2 xs).1∈lvT m:=by
 have h1:(redF 2 xs).1∈lvT m:=by
  unfold redF;rw[if_pos hw];exact of_decide_eq_true (zag.1 (at7 kD hm) _ hc)
 have h2:levX (redF 2 xs).1=(lvT m,true):=of_decide_eq_true (zag.1 (at7 kE hm) _ h1);refine⟨?_,h1⟩;unfold levX at h2;by_cases h6:(redF 2 xs).1.length≤6
 ·rw[if_pos h6] at h2;rw[qKC ⟨hw,h6⟩];generalize lvGo (movF 2) (redF 2 xs).1.length 60 0 [(redF 2 xs).1]=o at*;rcases o with _ | q<;>exact h2
 ·rw[if_neg h6] at h2;exact Bool.noConfusion (congrArg Prod.snd h2)
theorem qKQ {r:Int} {xs:List Int} (hi:(orbF r xs).2=true):qY r xs=true:=by
 rcases e:qY r xs with _ | _
 ·unfold orbF at hi;rw[qES (fun h=>by rw[e] at h;cases h.1)] at hi;cases hi
 ·rfl
theorem qPu {xs:List Int} (h:ImW xs∨0∈xs) (hl:xs.length≤200) (hi:(orbF 2 xs).2=true):
  (∀d∈qh 2,(expL (whM 2 d).2 xs).length≤24→orbF 2 (expL (whM 2 d).2 xs)=orbF 2 xs)∧(∀y∈(levF 2 xs).1,(y.length:Int)=orbN 2 xs):=by
 have hw:=qKQ hi;rcases h with h | h
 ·obtain⟨hg,m,hm,hc⟩:=qQt h;obtain⟨q1,q2⟩:=qPU hw hm (qQQ hm hc);refine⟨fun d hd hv=> ?_,fun y hy=> ?_⟩
  ·have hz:qY 2 (expL (whM 2 d).2 xs)=true:=qCV (qP.2 ⟨tO,tO⟩) hv fun i hi=>qIH (qQD hl) qNb i hi;have q3:=(qPU hz hm (qQn hg hl hm hc hd)).1;unfold orbF;rw[q1,q3]
  ·rw[q1] at hy;have:=of_decide_eq_true (zag.1 (zag.1 (at7 kF hm) _ hy) _ q2)
   unfold orbN;rw[hw,if_pos rfl,this]
 ·exact absurd rfl (let2 (qGh hw h)).1
theorem qGc (v y:Value) (g:GrD) (a b:Int) (t:List Int) (w:World) (h:ArgG w v g) (ht:RdI w y t) (hg:grB g=true) (ha:0≤a∧a<g.2.1) (hb:0≤b∧b<g.2.1) (hw:qY g.1 t=true) (h0:t.length≠0) (hl:t.length≤1073741824):
  Calls Tryz.prog 149 #[v, .int .i64 a,y, .int .i64 b] w fun x w'=> ∃r,x= .returned (.tuple #[r, .bool (qCU g t)])∧OwG w' w.heap.size r (if qCU g t=true then addG g a b t else g)∧Below w.heap.size w w':=by
 have HG:=qA h;have HY:=qA ht;have aD:=qA hg;have HW:=qA hw;have HA:=qA ha;have mI:=qA hb;obtain⟨n4,jn,dj,_⟩:=qR hg;obtain⟨s,rfl,bg,bH,kY⟩:=h;obtain⟨A,cap,rfl⟩:=kY.form;obtain⟨T,tc,rfl,_⟩:=ht.arg;obtain⟨g1,N,es⟩:=g;simp only at*
 clear kY hg hw ha hb;obtain⟨OK,oM⟩: ∃o,o=qCU (g1,N,es) t:=⟨_,rfl⟩;rw[←oM];obtain⟨RES,dg⟩: ∃R,R=(if OK=true then addG (g1,N,es) a b t else(g1,N,es)):=⟨_,rfl⟩;rw[←dg];have bG:=qA oM;have eI:=qA dg;clear dg oM;go_enter Tryz.func149,Tryz.ntmps149
 go_wp2_with fail;obtain⟨W1,cC⟩: ∃W,W=w.alloc (.cells #[.int .i64 g1,.int .i64 N, .slice A es.length cap] 82):=⟨_,rfl⟩;rw[←cC];obtain⟨aA,b1,aC,_⟩:=gbox cC;obtain⟨W,hW⟩: ∃W,W=W1.alloc (.cells #[.int .i64 0,.int .i64 0, .slice none 0 0] 82):=⟨_,rfl⟩;rw[←hW];obtain⟨bK,b2,dG,dq⟩:=gbox hW;have cI:W.heap.size=w.heap.size+2:=tO;have kw:=qA aC;have ik:=qA dG;have d9:=qA dq;have sR:=qA b1;have iF:=qA b2;have BX:Hid (Below w.heap.size w W):=qA (b1.trans (b2.mono tO));have bZ:Hid (∀w',Below (w.heap.size+2) W w'→w'.cell? ⟨w.heap.size,0,none⟩=some (.int .i64 g1)∧w'.cell? ⟨w.heap.size,1,none⟩=some (.int .i64 N)∧w'.cell? ⟨w.heap.size,2,none⟩=some (.slice A es.length cap)):=qA fun w' hb=>kw.out w' ((iF.out.mono tO).trans (hb.mono tO));have gT:Hid (∀w',Below (w.heap.size+2) W w'→(w'.cell? ⟨w.heap.size+1,0,none⟩=some (.int .i64 0)∧w'.cell? ⟨w.heap.size+1,1,none⟩=some (.int .i64 0)∧w'.cell? ⟨w.heap.size+1,2,none⟩=some (.slice none 0 0))∧ ∀j,w'.frozen? ⟨w.heap.size+1,j,none⟩=false):=qA fun w' hb=>by
  have e:Below (W1.heap.size+1) W w':=hb.mono tO;have h1:=ik.out w' e;have h2:=fun j=>d9.out j w' e;rw[aA] at h1 h2;exact⟨h1,h2⟩
 have nc:Hid (∀w',Below (w.heap.size+2) W w'→ArgG w' (.agg #[.int .i64 g1, .int .i64 N, .slice A es.length cap]) (g1,N,es)):=qA fun w' hb=>HG.out.below (BX.out.trans (hb.mono tO));have gP:Hid (∀w',Below (w.heap.size+2) W w'→RdI w' (.slice T t.length tc) t):=qA fun w' hb=>HY.out.below (BX.out.trans (hb.mono tO));clear cC hW aC dG dq b1 b2 kw ik d9 sR iF aA bK;obtain⟨q0,q1,q2⟩:=bZ.out W ((zae W.heap.size W).mono tO);refine(qBF _ (g1,N,es) W (nc.out W ((zae W.heap.size W).mono tO)) (by simp only;omega)).mono ?_
 clear q0 q1 q2;rintro e w5 ⟨r,rfl,o5,b5⟩;have eQ:=b5.size;have B5:Hid (Below (w.heap.size+2) W w5):=qA (b5.mono tO);obtain⟨s1,rfl,_,_,cB⟩:=o5;obtain⟨A1,c1,rfl,_⟩:=cB.form;simp only at*
 clear b5;have ny:Below w5.heap.size w5 (w5.alloc (.cells #[.int .i64 g1,.int .i64 N, .slice A1 es.length c1] 82)):=(zae _ _).alloc (zad _) _;obtain⟨q0,q1,q2⟩:=bZ.out _ (B5.out.trans (ny.mono tO));clear ny;go_wp2_with fail;clear q0 q1 q2;obtain⟨W6,iG⟩: ∃W,W=w5.alloc (.cells #[.int .i64 g1,.int .i64 N, .slice A1 es.length c1] 82):=⟨_,rfl⟩;have nD:=qA (GBx.new (m:=(g1,N,es)) cB bg bH iG);obtain⟨fU,b6,_,_⟩:=gbox iG;rw[←iG];have B6:Hid (Below (w.heap.size+2) W W6):=qA (B5.out.trans (b6.mono tO));clear iG b6 cB;obtain⟨p,hp⟩: ∃p,p=w5.heap.size:=⟨_,rfl⟩;rw[←hp] at nD⊢;have lk:w.heap.size+2≤p:=tO;have Br:p<W6.heap.size:=tO;clear hp fU eQ;have gB:=qA (qAo _ (g1,N,es) W6 (nc.out W6 B6.out));rw[aD.out] at gB;refine gB.out.mono ?_;clear gB;rintro e w7 ⟨rfl,b7⟩;have B7:=qA (B6.out.trans (b7.mono (by have:=B6.out.size;omega)));have rq:=qA (nD.out.below b7);clear b7;have E1:inB a 0 (wrap64 (N-1))=true:=by rw[IntWalk.wrap64_in _ ⟨tO,tO⟩];unfold inB;simp;have:=HA.out;omega
 have E2:inB b 0 (wrap64 (N-1))=true:=by rw[IntWalk.wrap64_in _ ⟨tO,tO⟩];unfold inB;simp;have:=mI.out;omega
 have Ik:=qA E1;have FJ:=qA E2;clear E1 E2;obtain⟨q0,q1,q2⟩:=bZ.out w7 B7.out;go_wp2_with fail;clear q0 q1 q2;refine(qDR g1 N A es.length cap a w7).mono ?_
 rintro e wa ⟨rfl,ba⟩;rw[Ik.out];have vT:=qA (B7.out.trans (ba.mono (by have:=B7.out.size;omega)));have tn:=qA (rq.out.below ba);clear ba;obtain⟨q0,q1,q2⟩:=bZ.out wa vT.out;go_wp2_with fail;clear q0 q1 q2;refine(qDR g1 N A es.length cap b wa).mono ?_
 rintro e wb ⟨rfl,bb⟩;rw[FJ.out];have ve:=qA (vT.out.trans (bb.mono (by have:=vT.out.size;omega)));have tp:=qA (tn.out.below bb);clear bb;obtain⟨q0,q1,q2⟩:=bZ.out wb ve.out;have ur:((t.length:Int)==0)=false:=beq_eq_false_iff_ne.2 tO;have uh: ¬t= []:=fun q=>h0 (by rw[q];rfl);have kP: ¬(t.length:Int)=0:=tO;have EW:=qA (qz g1 _ t wb (gP.out wb ve.out).arg tO);rw[HW.out] at EW;go_wp2_with fail;refine EW.out.mono ?_;clear EW q0 q1 q2 ur uh kP;rintro e w8 ⟨rfl,jQ⟩;obtain⟨B8,eD⟩:Hid (Below (w.heap.size+2) W w8)∧Hid (GBx w8 p W.heap.size A1 c1 (g1,N,es)):=by subst jQ;exact⟨ve,tp⟩
 clear jQ ve tp vT tn B7 rq;obtain⟨q0,q1,q2⟩:=bZ.out w8 B8.out;obtain⟨z0,z1,z2⟩:=eD.out.cs;simp only at z0 z1 z2
 obtain⟨⟨r0,r1,r2⟩,em⟩:=gT.out w8 B8.out;have dR:=em 0;have dP:=em 1;have dI:=em 2;have kP: ¬(t.length:Int)=0:=tO;have uh: ¬t= []:=fun q=>h0 (by rw[q];rfl);clear em;by_cases hA:N+t.length-1≤40
 ·by_cases hE:(es.length:Int)+t.length≤120
  ·have ar:qCU (g1,N,es) t=true:=decide_eq_true ⟨hA,hE⟩;have HK:Hid (OK=true∧RES=addG (g1,N,es) a b t):=qA (by have:=bG.out.trans ar;exact⟨this,by rw[eI.out,this];rfl⟩);clear ar;obtain⟨n,rfl⟩: ∃n:Nat,N=(n:Int):=⟨N.toNat,tO⟩;have gY:srt cmpE es=es:=qKv (qMO aD.out);have DG:=qA gY;clear gY;have ur:((t.length:Int)==0)=false:=beq_eq_false_iff_ne.2 kP;have eT: ¬40<(n:Int)+t.length-1:=tO;have l5: ¬120<(es.length:Int)+t.length:=tO;go_wp2_with fail;clear q0 q1 q2 r0 r1 r2 dR dP dI z0 z1 z2 kP uh ur eT l5;go_loopw [11,66] (fun q i wr=> ∃(k:Nat) (L:List EdD) (A2:Option Addr) (c2:Nat),k≤t.length∧i= .int .i64 k∧q= .int .i64 (atP n t.length a b k)∧Hid (L=es++pthL n a b t k)∧L.length=es.length+k∧GBx wr p (w.heap.size+2) A2 c2 (g1,((szP n t.length k:Nat):Int),L)∧Below (w.heap.size+2) W wr) (fun _ i _=>t.length-(intOf i).toNat)
   case atStart=>
    refine⟨0,es,A1,c1,zam _,rfl,rfl,qA ?_,rfl,?_,B8.out⟩
    ·show es=es++ []
     rw[zaE]
    ·exact eD.out.mono tO
   case round=>
    obtain⟨k,L,A2,c2,hk,rfl,rfl,hL,lg,eZ,ej⟩:=hrel;obtain⟨wk,rfl⟩: ∃wk:World,wk=wr:=⟨_,rfl⟩;have jw:=qA eZ;have fq:=qA ej;have jp:=eZ.lt;obtain⟨z0,z1,z2⟩:=eZ.cs;have wR:=eZ.fz 1;have rU:=eZ.fz 2;simp only at z0 z1 z2
    clear eZ ej;rcases zaU k t.length with ac | vW
    ·have cG:=qGE HW.out k ac;obtain⟨bt,off,rfl,yc,va⟩:=HY.out.at tO;have wF:Hid (∀W',Below (w.heap.size+2) W W'→W'.cell? ⟨bt,off+k,none⟩=some (.int .i64 t[k])):=qA fun W' hb=>((BX.out.trans (hb.mono tO)).cell (p:=⟨bt,off+k,none⟩) yc).trans (va k ac);have cz:=wF.out wk fq.out;have sU:Hid (pthL n a b t (k+1)=pthL n a b t k++ [stpE (atP n t.length a b k) t[k] (nxP n t.length b k)]):=qA (by rw[qJf];unfold pthE;rw[qJx ac]);have vt:=qIV (N:=n) (len:=t.length) (j:=k) HA.out mI.out;have vS:=qJD (N:=n) (len:=t.length) (j:=k) mI.out;have fN:=qA (qLA (N:=n) ac);have kM:=qA (fun q=>qPL (N:=n) (len:=t.length) (j:=k) q);have fO:Hid (nxP n t.length b k=if k+1<t.length then((n+k:Nat):Int) else b):=qA rfl;have oR:Hid (atP n t.length a b (k+1)=nxP n t.length b k):=qA rfl;generalize t[k]=z at*;generalize atP n t.length a b k=q at*;generalize nxP n t.length b k=m at*;have mC: -3≤z∧z≤3:=tO;obtain⟨e1,e2,e3,AU⟩: ∃e1 e2 e3,stE q z m=(e1,e2,e3):=⟨_,_,_,rfl⟩;have Dd:Hid (stpE q z m=(e1,e2,e3)):=qA (by rw[←AU];unfold stpE stE;by_cases hh:0<z;rw[if_pos hh,if_neg tO];rw[if_neg hh,if_pos tO]);have eC:Hid (E64 (e1,e2,e3)):=qA (by rw[←Dd.out];unfold stpE;split<;>exact⟨⟨by simp only;omega,by simp only;omega⟩,⟨by simp only;omega,by simp only;omega⟩,⟨by simp only;omega,by simp only;omega⟩⟩);have io:Hid (∀m',m'=m→edV (stE q z m')= .agg #[.int .i64 e1, .int .i64 e2, .int .i64 e3]):=qA fun m' e=>by rw[e,AU];rfl
     have HL:Hid (L++ [(e1,e2,e3)]=es++pthL n a b t (k+1)):=qA (by rw[sU.out,←zak,Dd.out,hL.out]);clear va sU AU;generalize aA:szP n t.length k=S1 at*;have vh:S1≤n+24:=by rw[←aA];unfold szP;have:=qCW HW.out;omega
     clear aA;have AO:=qCW HW.out;obtain⟨S2,lI⟩: ∃S,S=szP n t.length (k+1):=⟨_,rfl⟩;rw[←lI] at fN;have fi:=qA lI;clear lI;have yP:IntKind.i64.wrap ((S1:Int)+1)=(S1:Int)+1:=by rw[IntKind.wrap_i64];omega
     have He:IntKind.i64.wrap ((t.length:Int)-1)=(t.length:Int)-1:=by rw[IntKind.wrap_i64];omega
     have yB:L.length≤1073741824:=tO;have dO:=qA lg;have er:=qA hk;have EO:=qA mC;have ua:I64 ((S2:Nat):Int):=by
      have:S2≤S1+1:=by rw[fN.out];split<;>omega
      exact⟨tO,tO⟩
     have gM:=qA ua;clear hL lg cG vt vS ua mC;have kh:Hid ((k+1<t.length→(k:Int)<(t.length:Int)-1)∧(¬k+1<t.length→ ¬(k:Int)<(t.length:Int)-1)):=qA ⟨fun _=>tO,fun _=>tO⟩;by_cases h1:k+1<t.length
     all_goals
      have pS:=qA h1;first | (have DC:=kh.out.1 h1) | (have DC:=kh.out.2 h1)
      go_wp2_with fail;have rF:=er.out;first
       | (have fT:k+1<t.length:=pS.out
          obtain⟨wn,lu⟩: ∃W,W=wk.setCell ⟨p,1,none⟩ (.int .i64 ((S1:Int)+1)):=⟨_,rfl⟩;rw[←lu];have HM:Hid (m=(S1:Int)):=qA (by rw[fO.out,if_pos fT];have:=kM.out fT;omega);have GBN:Hid (GBx wn p (w.heap.size+2) A2 c2 (g1,((S2:Nat):Int),L)):=qA (by
           have e:(S2:Int)=(S1:Int)+1:=by rw[fN.out,if_pos fT];rfl
           have hi:=gM.out;rw[e] at hi;rw[lu,e];exact jw.out.sz hi)
          have BN:Hid (Below (w.heap.size+2) W wn):=qA (by rw[lu];exact fq.out.setCell lk _);clear lu)
       | (have fT: ¬k+1<t.length:=pS.out
          obtain⟨wn,rfl⟩: ∃W,W=wk:=⟨_,rfl⟩;have HM:Hid (m=b):=qA (by rw[fO.out,if_neg fT]);have GBN:Hid (GBx wn p (w.heap.size+2) A2 c2 (g1,((S2:Nat):Int),L)):=qA (by rw[show S2=S1 by rw[fN.out,if_neg fT]];exact jw.out);have BN:Hid (Below (w.heap.size+2) W wn):=qA fq.out)
      clear h1 rF z0 z1 z2 cz wR rU jp DC;have z2:=GBN.out.c2;simp only at z2
      have pK:=GBN.out.lt;refine qDO (n:=9) (S:=fun w'=>w'.cell? ⟨p,2,none⟩=some (.slice A2 L.length c2)) tK (by rfl) z2 (fun hHeld=> ?_);(refine qO (n:=9) (i:=0) (v:= ?_) rfl tK rfl (by decide) tK tK tK tK (fun _ _ _ h=>h) (Or.inl ⟨by rfl,?_⟩) (by assumption) ?_;rotate_left;focus (intro ww hSw;(try dsimp only at hSw);go_simp;try with_reducible rfl);(try simp only[zah,zaa,zab,zac]));(refine qO (n:=9) (i:=1) (v:= ?_) rfl tK rfl (by decide) tK tK tK tK (fun _ _ _ h=>h) (Or.inl ⟨by rfl,?_⟩) (by assumption) ?_;rotate_left;focus (intro ww hSw;(try dsimp only at hSw);go_simp;try with_reducible rfl);(try simp only[zah,zaa,zab,zac]));(refine qO (n:=9) (i:=2) (v:= ?_) rfl tK rfl (by decide) tK tK tK tK (fun _ _ _ h=>h) (Or.inl ⟨by rfl,?_⟩) (by assumption) ?_;rotate_left;focus (intro ww hSw;(try dsimp only at hSw);go_simp;try with_reducible rfl);(try simp only[zah,zaa,zab,zac]));(refine qO (n:=9) (i:=3) (v:= ?_) rfl tK rfl (by decide) tK tK tK tK (fun _ _ _ h=>h) (Or.inl ⟨by rfl,?_⟩) (by assumption) ?_;rotate_left;focus (intro ww hSw;(try dsimp only at hSw);go_simp;try with_reducible rfl);(try simp only[zah,zaa,zab,zac]));(refine qO (n:=9) (i:=4) (v:= ?_) rfl tK rfl (by decide) tK tK tK tK (fun _ _ _ h=>h) (Or.inl ⟨by rfl,?_⟩) (by assumption) ?_;rotate_left;focus (intro ww hSw;(try dsimp only at hSw);go_simp;try with_reducible rfl);(try simp only[zah,zaa,zab,zac]))
      refine qAl (i:=5) tK rfl fun K' hK=> ?_;go_simp;refine(qOc _ _ _ _ EO.out).mono ?_
      rintro e jq ⟨rfl,rA⟩;rw[io.out _ HM.out.symm];have yM:wn.heap.size≤jq.heap.size:=rA.size;have tS:Below wn.heap.size wn jq:=(zae _ _).drew.trans rA;clear rA;have DS:jq.cell? ⟨p,2,none⟩=some (.slice A2 L.length c2):=(tS.cell (p:=⟨p,2,none⟩) pK).trans z2;refine hK.out _ _ DS (fun _=> ?_);clear hK hHeld;refine qAl (i:=6) tK rfl fun K' hK=> ?_;go_simp;have z8:Below jq.heap.size jq (jq.alloc (.cells #[.int .i64 e1,.int .i64 e2,.int .i64 e3] 154)):=(zae _ _).alloc (zad _) _;have nE: ∀j u,(edC (e1,e2,e3))[j]? =some u→(jq.alloc (.cells #[.int .i64 e1,.int .i64 e2,.int .i64 e3] 154)).cell? ⟨jq.heap.size,j,none⟩=some u:=fun j u hj=>by
       rcases j with _ | _ | _ | j<;>simp[edC] at hj<;>subst hj<;>simp[go_sem]
      have sV:(jq.alloc (.cells #[.int .i64 e1,.int .i64 e2,.int .i64 e3] 154)).heap.size=jq.heap.size+1:=by simp
      have zQ:(jq.alloc (.cells #[.int .i64 e1,.int .i64 e2,.int .i64 e3] 154)).cell? ⟨p,2,none⟩=some (.slice A2 L.length c2):=(z8.cell (p:=⟨p,2,none⟩) (by show p<_;omega)).trans DS;refine hK.out _ _ zQ (fun _=> ?_);clear hK;generalize jq.alloc (.cells #[.int .i64 e1,.int .i64 e2,.int .i64 e3] 154)=V at z8 nE sV zQ⊢;have bXV:Below wn.heap.size wn V:=tS.trans (z8.mono yM);have rg:=qA (GBN.out.below bXV);refine qAl (i:=7) tK rfl fun K' hK=> ?_;rw[if_pos (by rfl)];refine qFP (.tmp 84) (.tmp 89) rfl (w.heap.size+2) _ L rg.out.ow rfl jq.heap.size (e1,e2,e3) rfl nE eC.out yB tO ?_;intro v' w' o' g' p';obtain⟨vE,vf,rfl,_⟩:=OwE.form o';have It:=qA o';have iE:=g'.size;clear o';have aG: ∀y,(zay A2 L.length c2).ownBlock=some y→y≠p∧w.heap.size+2≤y:=fun y hy=>⟨GBN.out.ne y hy,(GBN.out.ow.1.lt y hy).1⟩;have H7:w'.cell? ⟨p,2,none⟩=some (.slice A2 L.length c2):=(zap (w:=V) (g'.block p tO (fun e=>(aG p e.symm).1 rfl))).trans zQ;refine hK.out _ _ H7 (fun _=> ?_);clear hK;simp only[zah,zaa,zab,zac];(refine qO (n:=9) (i:=8) (v:= ?_) rfl tK rfl (by decide) tK tK tK tK (fun _ _ _ h=>h) (Or.inl ⟨by rfl,?_⟩) (by assumption) ?_;rotate_left;focus (intro ww hSw;(try dsimp only at hSw);go_simp;try with_reducible rfl);(try simp only[zah,zaa,zab,zac]))
      have ux:=qA (fun j=>((zaM (w:=V) (g'.block p tO (fun e=>(aG p e.symm).1 rfl))).trans (rg.out.fz j):w'.frozen? ⟨p,j,none⟩=false));have qf:=ux.out 2;refine qDy (n:=9) tK rfl tK fun K' hK=> ?_;go_simp;refine hK.out _ _ ?_;clear hK;go_wp2;have GR:p<V.heap.size:=by have:=bXV.size;omega
      have hC:CBx w' p (.int .i64 g1) (.int .i64 ((S2:Nat):Int)) (.slice A2 L.length c2):=by
       have hb:=g'.block p GR (fun e=>(aG p e.symm).1 rfl);exact⟨(zap (w:=V) hb).trans rg.out.c0,(zap (w:=V) hb).trans rg.out.c1,(zap (w:=V) hb).trans rg.out.c2,fun j=>(zaM (w:=V) hb).trans (rg.out.fz j),tO⟩
      have bk:Hid (∀y,(zay vE (L++ [(e1,e2,e3)]).length vf).ownBlock=some y→y≠p):=qA fun y hy e=>by
       rcases p' with p' | p'
       ·exact(aG y (p'.symm.trans hy)).1 e
       ·rw[hy] at p';injection p' with p';omega
      go_roundw
      case rel=>
       exact⟨k+1,L++ [(e1,e2,e3)],vE,vf,by have:=er.out;omega,by go_num,by rw[oR.out,HM.out],qA HL.out,by rw[zaf,dO.out];rfl,by rw[←fi.out,show(zay vE (L.length+1) vf)= .slice vE (L++ [(e1,e2,e3)]).length vf by rw[zaf];rfl];exact hC.put It.out bk.out jw.out.i1 gM.out,((BN.out.trans (bXV.mono tO)).grown g' tO fun y hy=>(aG y hy).2).setCell lk _⟩
      case measure=>simp[intOf];omega
    ·have zy:k=t.length:=tO;subst zy;clear wR;have dO:Hid (L.length≤1073741824):=qA tO;clear lg;go_wp2_with fail;refine(qGl _ _ _ jw.out.ow.arg dO.out).mono ?_
     rintro e' w9 ⟨r9,rfl,o9,b9⟩;have rK:=qA (jw.out.below b9);have B9:=qA (fq.out.trans (b9.mono tO));have uA:=b9.size;obtain⟨A9,c9,rfl,_⟩:=o9.form;have O9:=qA o9;clear o9 b9 z0 z1 z2 rU;have jE:Hid (RES=(g1,((szP n t.length t.length:Nat):Int),srt cmpE L)):=qA (by
      rw[HK.out.2,hL.out];show(g1,(((n:Int).toNat+(t.length-1):Nat):Int),srt cmpE (es++pthL (n:Int).toNat a b t t.length))=_
      rw[Int.toNat_natCast,show szP n t.length t.length=n+(t.length-1) by unfold szP;omega])
     generalize srt cmpE L=M at O9 jE⊢;generalize szP n t.length t.length=S1 at*;have zV:=qA (rK.out.put O9.out fun y hy=>by have:=(O9.out.1.lt y hy).1;omega);have BP:Hid (Below (w.heap.size+2) W (w9.setCell ⟨p,2,none⟩ (.slice A9 M.length c9))):=qA (B9.out.setCell lk _);obtain⟨⟨r0,r1,r2⟩,em⟩:=gT.out w9 B9.out;have dR:=em 0;have dP:=em 1;have dI:=em 2;obtain⟨z0,z1,z2⟩:=rK.out.cs;have rU:=rK.out.fz 2;simp only at z0 z1 z2
     have zS:w.heap.size+1≠p:=tO;clear em;go_wp2;clear r0 r1 r2 dR dP dI z0 z1 z2 rU;generalize w9.setCell ⟨p,2,none⟩ (.slice A9 M.length c9)=wz at zV BP⊢;obtain⟨⟨r0,r1,r2⟩,_⟩:=gT.out wz BP.out;obtain⟨e0,e1,e2⟩:=qAH (.int .i64 g1) (.int .i64 (S1:Int)) (.slice A9 M.length c9) r0 r1 r2;have bw:=qp (.int .i64 g1) (.int .i64 (S1:Int)) (.slice A9 M.length c9) (BX.out.trans (BP.out.mono tO)) (show w.heap.size≤w.heap.size+1 by omega);have ow:=zV.out.ow.keep (w':=((wz.setCell ⟨w.heap.size+1,0,none⟩ (.int .i64 g1)).setCell ⟨w.heap.size+1,1,none⟩ (.int .i64 (S1:Int))).setCell ⟨w.heap.size+1,2,none⟩ (.slice A9 M.length c9)) fun y hy=>qAP _ _ _ _ _ (by have h1:=(zV.out.ow.1.lt y hy).1;omega);exact bodyPost_ret (v:= .tuple #[.agg #[.int .i64 g1, .int .i64 (S1:Int), .slice A9 M.length c9], .bool true]) (by simp[results,Tryz.results149,go_sem,e0,e1,e2]) rfl ⟨_,by rw[HK.out.1],by rw[jE.out];exact⟨.slice A9 M.length c9,rfl,bg,rK.out.i2,ow.mono tO⟩,bw⟩
  ·have ar:qCU (g1,N,es) t=false:=decide_eq_false fun q=>hE q.2;have HK:Hid (OK=false∧RES=(g1,N,es)):=qA (by have:=bG.out.trans ar;exact⟨this,by rw[eI.out,this];rfl⟩);clear ar;go_wp2;obtain⟨e0,e1,e2⟩:=qAH (.int .i64 g1) (.int .i64 N) (.slice A1 es.length c1) r0 r1 r2;have bw:Below w.heap.size w (((w8.setCell ⟨w.heap.size+1,0,none⟩ (.int .i64 g1)).setCell ⟨w.heap.size+1,1,none⟩ (.int .i64 N)).setCell ⟨w.heap.size+1,2,none⟩ (.slice A1 es.length c1)):=qp _ _ _ (BX.out.trans (B8.out.mono tO)) tO;have ow:OwE (((w8.setCell ⟨w.heap.size+1,0,none⟩ (.int .i64 g1)).setCell ⟨w.heap.size+1,1,none⟩ (.int .i64 N)).setCell ⟨w.heap.size+1,2,none⟩ (.slice A1 es.length c1)) W.heap.size (.slice A1 es.length c1) es:=eD.out.ow.keep fun b hb=>qAP _ _ _ _ _ (by have:=(eD.out.ow.1.lt b hb).1;omega);exact bodyPost_ret (v:= .tuple #[.agg #[.int .i64 g1, .int .i64 N, .slice A1 es.length c1], .bool false]) (by simp[results,Tryz.results149,go_sem,e0,e1,e2]) rfl ⟨_,by rw[HK.out.1],by rw[HK.out.2];exact⟨.slice A1 es.length c1,rfl,bg,bH,ow.mono tO⟩,bw⟩
 ·have ar:qCU (g1,N,es) t=false:=decide_eq_false fun q=>hA q.1;have HK:Hid (OK=false∧RES=(g1,N,es)):=qA (by have:=bG.out.trans ar;exact⟨this,by rw[eI.out,this];rfl⟩);clear ar;go_wp2;obtain⟨e0,e1,e2⟩:=qAH (.int .i64 g1) (.int .i64 N) (.slice A1 es.length c1) r0 r1 r2;have bw:Below w.heap.size w (((w8.setCell ⟨w.heap.size+1,0,none⟩ (.int .i64 g1)).setCell ⟨w.heap.size+1,1,none⟩ (.int .i64 N)).setCell ⟨w.heap.size+1,2,none⟩ (.slice A1 es.length c1)):=qp _ _ _ (BX.out.trans (B8.out.mono tO)) tO;have ow:OwE (((w8.setCell ⟨w.heap.size+1,0,none⟩ (.int .i64 g1)).setCell ⟨w.heap.size+1,1,none⟩ (.int .i64 N)).setCell ⟨w.heap.size+1,2,none⟩ (.slice A1 es.length c1)) W.heap.size (.slice A1 es.length c1) es:=eD.out.ow.keep fun b hb=>qAP _ _ _ _ _ (by have:=(eD.out.ow.1.lt b hb).1;omega);exact bodyPost_ret (v:= .tuple #[.agg #[.int .i64 g1, .int .i64 N, .slice A1 es.length c1], .bool false]) (by simp[results,Tryz.results149,go_sem,e0,e1,e2]) rfl ⟨_,by rw[HK.out.1],by rw[HK.out.2];exact⟨.slice A1 es.length c1,rfl,bg,bH,ow.mono tO⟩,bw⟩
end Go.Proofs.YtlgcflpaekbopaaGreat
