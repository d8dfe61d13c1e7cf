/- Parts of the proof (9). -/
import Derived.Test.YtnjpoljbagfdnaaGreatM08
import Derived.Deep.DeepCutAuto
import Derived.Deep.RegionHeld3
set_option maxRecDepth 100000
set_option maxHeartbeats 16000000
set_option linter.unusedVariables false
set_option linter.unusedSimpArgs false
namespace Go.Proofs.YtnjpoljbagfdnaaGreat
open Go.RowKit
open Go.RowKit renaming Below→Wf,Hid→Wi
open Go renaming Calls→Wk,Value→Wh,World→Wg,bodyPost_ret→Wj
open _root_.List renaming setIfInBounds_toArray->zaa,set_cons_zero->zab,set_cons_succ->zac,mem_singleton->zag,length_append->zah,idxOf_lt_length_of_mem->zai,mem_append->zaj,take_succ_eq_append_getElem->zak,reverse_cons->zal,getElem_mem->zao,filter_append->zar,getElem_idxOf->zas,getD_eq_getElem?_getD->zat,perm_ext_iff_of_nodup->zau,range->zaw,take_length->zaz,length_pos_iff->zaB,take_succ_cons->zaC,filter_cons->zaF,length_nil->zaI,filter_nil->zaJ,range_succ->zaK,mem_range->zaN,mem_cons->zaP
open Go.RowKit.Below renaming refl->zad
open _root_.Nat renaming le_refl->zae,mul_comm->zaq,le_trans->zax,lt_or_ge->zay,div_eq_of_lt->zaG,mod_eq_of_lt->zaH,mul_add_div->zaL,mul_add_mod->zaM
open Go.Act renaming put->zaf
open Go.World renaming cell?_of_block->zam,frozen?_of_block->zaA
open _root_.Int renaming not_lt->zan,toNat_natCast->zav,emod_lt_of_pos->zaD,natCast_nonneg->zaE
open Go.Value renaming slice->zap
open _root_.Bool renaming true_and->zaO
theorem qHc (v:Wh) (cs:List Int) (w:Wg) (h:ArgC w v cs) (hl:cs.length<=1048576):
  Wk Tryz.prog 113 #[v] w fun e w'=> ∃av bv a b,e= .returned (.tuple #[av,bv])/\OwG w' w av a/\OwG w' w bv b/\Wf w w w':=by
 have HN:=qA (fun W (h:ArgC W v cs)=>qGq v cs W h hl);have cA:=qA (fun W (hb:Wf w w W)=>qCw h hb);go_enter Tryz.func113,Tryz.ntmps113
 go_wp2_with fail;obtain⟨W0,ah⟩: ∃W,W=w.alloc (.cells #[.int .i64 0,.int .i64 0, .slice none 0 0] 26):=⟨_,rfl⟩;rw[<-ah];obtain⟨xb,b0,s0⟩:=CBx.new ah;clear ah;obtain⟨W1,aq⟩: ∃W,W=W0.alloc (.cells #[.int .i64 0,.int .i64 0, .slice none 0 0] 26):=⟨_,rfl⟩;rw[<-aq];obtain⟨yb,b1,s1⟩:=CBx.new aq;clear aq;rw[s0] at yb s1;have X0:=qA (xb.below b1);have Y0:=qA yb;have B0:=qA (b0.trans (b1.mono tO));clear xb yb b0 b1;refine(HN W1 (cA _ B0)).mono ?_
 rintro e w1 ⟨p,A,cap,rfl,c1,hp,b1⟩;have X1:=qA (X0.below b1);have Y1:=qA (Y0.below b1);have B1:=qA (B0.trans (b1.mono tO));have aE:=b1.size;have rm:=c1.lt;have C1:=qA c1;clear b1 c1 X0 Y0 B0 HN cA s0;go_wp2_with fail;refine(qOH p A cap cs w1 C1).mono ?_
 rintro e w2 ⟨av,bv,⟨q1,q2,qs⟩,⟨r1,r2,rs⟩,rfl,⟨s2,rfl,j1,j2,bI⟩,⟨s3,rfl,k1,k2,aY⟩,c2,t2⟩;obtain⟨A2,bg,rfl,_⟩:=bI.form;obtain⟨A3,d7,rfl,_⟩:=aY.form;simp only at j1 j2 bI k1 k2 aY⊢
 have X2:=qA (X1.trP t2 tO);have Y2:=qA (Y1.trP t2 tO);have C2:=qA c2;have BZ:=qA (Tr.bw B1 t2 tO tO);have dL:=qA bI;have dI:=qA aY;have dQ:=t2.size;clear c2 t2 bI aY X1 Y1 C1 B1;obtain⟨WA,dk⟩: ∃W,W=w2.alloc (.cells #[.int .i64 q1,.int .i64 q2, .slice A2 qs.length bg] 26):=⟨_,rfl⟩;have gA:=GBx.new (m:=(q1,q2,qs)) dL.o j1 j2 dk;obtain⟨-,bA,sA⟩:=CBx.new dk;obtain⟨WB,dA⟩: ∃W,W=WA.alloc (.cells #[.int .i64 r1,.int .i64 r2, .slice A3 rs.length d7] 26):=⟨_,rfl⟩;have gB:=GBx.new (m:=(r1,r2,rs)) (dI.below bA) k1 k2 dA;obtain⟨-,bB,sB⟩:=CBx.new dA;have G:=qA (gA.below bB);have K:=qA gB;rw[sA] at K;replace X2:=qA ((X2.below bA).below bB);replace Y2:=qA ((Y2.below bA).below bB);replace C2:=qA ((C2.below bA).below bB);replace BZ:=qA ((BZ.trans (bA.mono BZ.size)).trans (bB.mono (by have:=BZ.o.size;omega)));go_wp2_with fail;rw[<-dk,<-dA];clear dk dA gA gB bA bB dL dI;generalize Fy:w2.heap.size=ba at*;refine(qAC p A cap cs 6 WB C2 tO tO).mono ?_
 rintro e w3 ⟨x,rfl,hx,c3,t3⟩;replace X2:=qA (X2.trP t3 tO);replace Y2:=qA (Y2.trP t3 tO);replace G:=qA (G.trP t3 tO tO);replace K:=qA (K.trP t3 tO tO);replace BZ:=qA (Tr.bw BZ t3 tO tO);replace C2:=qA c3;have d5:=t3.size;clear c3 t3;by_cases h0:x=0
 ·subst h0;go_wp2_with fail;refine qAm [.val (.agg #[.int .i64 q1, .int .i64 q2, .slice A2 qs.length bg]), .val (.pointer (some ⟨p,0,none⟩)), .mem (fun _ W v=>(∃(d1 d2:Int) (ds:List EdD) (Ad:Option Addr) (cd:Nat),v= .agg #[.int .i64 d1, .int .i64 d2, .slice Ad ds.length cd]/\OwE W w1 (.slice Ad ds.length cd) ds/\I64 d1/\I64 d2)), .mem (fun _ W _=>CBx W w (.int .i64 q1) (.int .i64 q2) (.slice A2 qs.length bg)), .mem (fun us W _=>(∃(d1 d2:Int) (ds:List EdD) (Ad:Option Addr) (cd:Nat),us 2= .agg #[.int .i64 d1, .int .i64 d2, .slice Ad ds.length cd]/\CBx W (w.heap.size+1) (.int .i64 d1) (.int .i64 d2) (.slice Ad ds.length cd)/\OwE W w1 (.slice Ad ds.length cd) ds/\I64 d1/\I64 d2))]
   [none,none,some (fun W W'=>Tr p (p+1) W W'/\Cur p A cap cs W'),some (fun W W'=> ∃x y z,W'=((W.setCell ⟨w,0,none⟩ x).setCell ⟨w,1,none⟩ y).setCell ⟨w,2,none⟩ z),some (fun W W'=> ∃x y z,W'=((W.setCell ⟨(w.heap.size+1),0,none⟩ x).setCell ⟨(w.heap.size+1),1,none⟩ y).setCell ⟨(w.heap.size+1),2,none⟩ z)]
   (fun W=>Wf w w W/\GBx W ba w1 A2 bg (q1,q2,qs)/\w1.heap.size<=W.heap.size/\(∃x y z,CBx W w x y z)/\ ∃x y z,CBx W (w.heap.size+1) x y z) (fun W=>Cur p A cap cs W) [3,4] [(2,3),(2,4),(3,4)] tK tK (by rfl) (by rfl)
   ⟨BZ.o.drew,G.below (zad _ _).drew,(show w1.heap.size<=w3.heap.size by omega),⟨_,_,_,X2.below (zad _ _).drew⟩,_,_,_,Y2.o.below (zad _ _).drew⟩ (C2.below (zad _ _).drew)
   ⟨fun _ _ h t=>⟨Tr.bw h.1 t.1 tO (by have:=h.2.2.1;omega),h.2.1.trP t.1 tO tO,zax h.2.2.1 t.1.size,by obtain⟨x,y,z,hx⟩:=h.2.2.2.1;exact⟨x,y,z,hx.trP t.1 tO⟩,by obtain⟨x,y,z,hx⟩:=h.2.2.2.2;exact⟨x,y,z,hx.trP t.1 tO⟩⟩,
     fun W _ h t=>by
      obtain⟨x,y,z,e⟩:=t;subst e;obtain⟨h1,h2,h3,⟨x1,y1,z1,h4⟩,x2,y2,z2,h5⟩:=h;exact⟨qH _ _ _ h1 tO,h2.keep (by rw[qZ];exact zae _) fun c hc=>qI _ _ _ _ _ (hc.elim (fun e=>tO) fun e=>by have:=(h2.ow.1.lt c e).1;omega),by rw[qZ];exact h3,h4.any _ _ _,h5.any _ _ _⟩,
     fun W _ h t=>by
      obtain⟨x,y,z,e⟩:=t;subst e;obtain⟨h1,h2,h3,⟨x1,y1,z1,h4⟩,x2,y2,z2,h5⟩:=h;exact⟨qH _ _ _ h1 tO,h2.keep (by rw[qZ];exact zae _) fun c hc=>qI _ _ _ _ _ (hc.elim (fun e=>tO) fun e=>by have:=(h2.ow.1.lt c e).1;omega),by rw[qZ];exact h3,h4.any _ _ _,h5.any _ _ _⟩,trivial⟩
   ⟨.inr fun _ _ _ h t=>t.2, .inl tZ, .inl tZ,trivial⟩
   ⟨fun _ _ _ _ _ _ t h=>by obtain⟨x,y,z,e⟩:=t;subst e;obtain⟨d1,d2,ds,Ad,cd,e,o,i,j⟩:=h;exact⟨d1,d2,ds,Ad,cd,e,o.keep fun c hc=>qI _ _ _ _ _ (by have:=(o.1.lt c hc).1;omega),i,j⟩,
    fun _ _ _ _ _ _ t h=>by obtain⟨x,y,z,e⟩:=t;subst e;obtain⟨d1,d2,ds,Ad,cd,e,o,i,j⟩:=h;exact⟨d1,d2,ds,Ad,cd,e,o.keep fun c hc=>qI _ _ _ _ _ (by have:=(o.1.lt c hc).1;omega),i,j⟩,
    fun _ _ _ _ _ _ t h=>by obtain⟨x,y,z,e⟩:=t;subst e;exact h.other tO,trivial⟩ (fun vs=> ?_)
  refine⟨fun W' _ _ hI hD hK=> ?_,?_⟩
  ·obtain⟨z0,z1,z2⟩:=hI.o.1.2.1.cs;go_simp;exact hK.o _ _ rfl rfl
  simp only[zaf,zaa,zab,zac,Sg.pick,Nat.reduceAdd];refine⟨fun W' _ _ hI hD hK=> ?_,?_⟩
  ·skip;go_simp;exact hK.o _ _ rfl rfl
  simp only[zaf,zaa,zab,zac,Sg.pick,Nat.reduceAdd];refine⟨fun W' _ _ hI hD hK=> ?_,?_⟩
  ·skip;go_simp;refine(qIk p A cap cs _ (hI.o.2 tK)).mono ?_;rintro e w' ⟨wv,⟨d1,d2,ds⟩,rfl,⟨s,rfl,i1,i2,od⟩,-,c,t⟩;obtain⟨Ad,cd,rfl,_⟩:=od.form;exact hK.o _ _ ⟨t,c⟩ ⟨d1,d2,ds,Ad,cd,rfl,od.mono hI.o.1.2.2.1,i1,i2⟩
  simp only[zaf,zaa,zab,zac,Sg.pick,Nat.reduceAdd];refine⟨fun W' _ _ hI hD hK=> ?_,?_⟩
  ·obtain⟨x',y',z',hx⟩:=hI.o.1.2.2.2.1;obtain⟨z0,z1,z2⟩:=hx.cs;have u0:=hx.fz 0;have u1:=hx.fz 1;have u2:=hx.fz 2;go_simp;exact hK.o undef _ ⟨_,_,_,rfl⟩ (hx.setv _ _ _)
  simp only[zaf,zaa,zab,zac,Sg.pick,Nat.reduceAdd];refine⟨fun W' _ _ hI hD hK=> ?_,?_⟩
  ·obtain⟨d1,d2,ds,Ad,cd,e2,o2,i2,j2⟩:=(show(∃(d1 d2:Int) (ds:List EdD) (Ad:Option Addr) (cd:Nat),vs 2= .agg #[.int .i64 d1, .int .i64 d2, .slice Ad ds.length cd]/\OwE W' w1 (.slice Ad ds.length cd) ds/\I64 d1/\I64 d2) from hD.o 2 tK);rw[e2] at hK⊢;obtain⟨x',y',z',hx⟩:=hI.o.1.2.2.2.2;obtain⟨z0,z1,z2⟩:=hx.cs;have u0:=hx.fz 0;have u1:=hx.fz 1;have u2:=hx.fz 2;go_simp;exact hK.o undef _ ⟨_,_,_,rfl⟩ ⟨d1,d2,ds,Ad,cd,(qBn tK).trans e2,hx.setv _ _ _,o2.keep fun c hc=>qI _ _ _ _ _ (by have:=(o2.1.lt c hc).1;omega),i2,j2⟩
  simp only[zaf,zaa,zab,zac,Sg.pick,Nat.reduceAdd];intro W9 hI9 hD9;obtain⟨d1,d2,ds,Ad,cd,ed,hd,od,id_,jd⟩:=(show(∃(d1 d2:Int) (ds:List EdD) (Ad:Option Addr) (cd:Nat),qBw _ 4 vs 2= .agg #[.int .i64 d1, .int .i64 d2, .slice Ad ds.length cd]/\CBx W9 (w.heap.size+1) (.int .i64 d1) (.int .i64 d2) (.slice Ad ds.length cd)/\OwE W9 w1 (.slice Ad ds.length cd) ds/\I64 d1/\I64 d2) from hD9.o 4 tD);have hb:=(show CBx W9 w (.int .i64 q1) (.int .i64 q2) (.slice A2 qs.length bg) from hD9.o 3 tD);have J9:=qA hI9.o.1.1;have xI:=qA hI9.o.1.2.1;have OD:=qA od;obtain⟨e0,e1,e2⟩:=hd.cs;obtain⟨e3,e4,e5⟩:=hb.cs;clear hI9 hD9 ed hd hb od;go_wp2;exact Wj (v:= .tuple #[.agg #[.int .i64 q1, .int .i64 q2, .slice A2 qs.length bg], .agg #[.int .i64 d1, .int .i64 d2, .slice Ad ds.length cd]]) (by simp[results,Tryz.results113,go_sem,e0,e1,e2,e3,e4,e5]) rfl ⟨_,_,(q1,q2,qs),(d1,d2,ds),rfl,⟨_,rfl,xI.o.i1,xI.o.i2,xI.o.ow.mono tO⟩,⟨_,rfl,id_,jd,OD.mono tO⟩,J9.o⟩
 ·by_cases h1:x=1
  ·subst h1;go_wp2_with fail;refine qAm [.val (.pointer (some ⟨p,0,none⟩)), .mem (fun _ W v=>(∃(d1 d2:Int) (ds:List EdD) (Ad:Option Addr) (cd:Nat),v= .agg #[.int .i64 d1, .int .i64 d2, .slice Ad ds.length cd]/\OwE W w1 (.slice Ad ds.length cd) ds/\I64 d1/\I64 d2)), .val (.agg #[.int .i64 r1, .int .i64 r2, .slice A3 rs.length d7]), .mem (fun us W _=>(∃(d1 d2:Int) (ds:List EdD) (Ad:Option Addr) (cd:Nat),us 1= .agg #[.int .i64 d1, .int .i64 d2, .slice Ad ds.length cd]/\CBx W w (.int .i64 d1) (.int .i64 d2) (.slice Ad ds.length cd)/\OwE W w1 (.slice Ad ds.length cd) ds/\I64 d1/\I64 d2)), .mem (fun _ W _=>CBx W (w.heap.size+1) (.int .i64 r1) (.int .i64 r2) (.slice A3 rs.length d7))]
    [none,some (fun W W'=>Tr p (p+1) W W'/\Cur p A cap cs W'),none,some (fun W W'=> ∃x y z,W'=((W.setCell ⟨w,0,none⟩ x).setCell ⟨w,1,none⟩ y).setCell ⟨w,2,none⟩ z),some (fun W W'=> ∃x y z,W'=((W.setCell ⟨(w.heap.size+1),0,none⟩ x).setCell ⟨(w.heap.size+1),1,none⟩ y).setCell ⟨(w.heap.size+1),2,none⟩ z)]
    (fun W=>Wf w w W/\GBx W (ba+1) w1 A3 d7 (r1,r2,rs)/\w1.heap.size<=W.heap.size/\(∃x y z,CBx W w x y z)/\ ∃x y z,CBx W (w.heap.size+1) x y z) (fun W=>Cur p A cap cs W) [3,4] [(1,3),(1,4),(3,4)] tK tK (by rfl) (by rfl)
    ⟨BZ.o.drew,K.below (zad _ _).drew,(show w1.heap.size<=w3.heap.size by omega),⟨_,_,_,X2.below (zad _ _).drew⟩,_,_,_,Y2.o.below (zad _ _).drew⟩ (C2.below (zad _ _).drew)
    ⟨fun _ _ h t=>⟨Tr.bw h.1 t.1 tO (by have:=h.2.2.1;omega),h.2.1.trP t.1 tO tO,zax h.2.2.1 t.1.size,by obtain⟨x,y,z,hx⟩:=h.2.2.2.1;exact⟨x,y,z,hx.trP t.1 tO⟩,by obtain⟨x,y,z,hx⟩:=h.2.2.2.2;exact⟨x,y,z,hx.trP t.1 tO⟩⟩,
      fun W _ h t=>by
       obtain⟨x,y,z,e⟩:=t;subst e;obtain⟨h1,h2,h3,⟨x1,y1,z1,h4⟩,x2,y2,z2,h5⟩:=h;exact⟨qH _ _ _ h1 tO,h2.keep (by rw[qZ];exact zae _) fun c hc=>qI _ _ _ _ _ (hc.elim (fun e=>tO) fun e=>by have:=(h2.ow.1.lt c e).1;omega),by rw[qZ];exact h3,h4.any _ _ _,h5.any _ _ _⟩,
      fun W _ h t=>by
       obtain⟨x,y,z,e⟩:=t;subst e;obtain⟨h1,h2,h3,⟨x1,y1,z1,h4⟩,x2,y2,z2,h5⟩:=h;exact⟨qH _ _ _ h1 tO,h2.keep (by rw[qZ];exact zae _) fun c hc=>qI _ _ _ _ _ (hc.elim (fun e=>tO) fun e=>by have:=(h2.ow.1.lt c e).1;omega),by rw[qZ];exact h3,h4.any _ _ _,h5.any _ _ _⟩,trivial⟩
    ⟨.inr fun _ _ _ h t=>t.2, .inl tZ, .inl tZ,trivial⟩
    ⟨fun _ _ _ _ _ _ t h=>by obtain⟨x,y,z,e⟩:=t;subst e;obtain⟨d1,d2,ds,Ad,cd,e,o,i,j⟩:=h;exact⟨d1,d2,ds,Ad,cd,e,o.keep fun c hc=>qI _ _ _ _ _ (by have:=(o.1.lt c hc).1;omega),i,j⟩,
     fun _ _ _ _ _ _ t h=>by obtain⟨x,y,z,e⟩:=t;subst e;obtain⟨d1,d2,ds,Ad,cd,e,o,i,j⟩:=h;exact⟨d1,d2,ds,Ad,cd,e,o.keep fun c hc=>qI _ _ _ _ _ (by have:=(o.1.lt c hc).1;omega),i,j⟩,
     fun _ _ _ _ _ _ t h=>by obtain⟨x,y,z,e⟩:=t;subst e;obtain⟨d1,d2,ds,Ad,cd,e,h,o,i,j⟩:=h;exact⟨d1,d2,ds,Ad,cd,e,h.other tO,o.keep fun c hc=>qI _ _ _ _ _ (by have:=(o.1.lt c hc).1;omega),i,j⟩,trivial⟩ (fun vs=> ?_)
   refine⟨fun W' _ _ hI hD hK=> ?_,?_⟩
   ·skip;go_simp;exact hK.o _ _ rfl rfl
   simp only[zaf,zaa,zab,zac,Sg.pick,Nat.reduceAdd];refine⟨fun W' _ _ hI hD hK=> ?_,?_⟩
   ·skip;go_simp;refine(qEm p A cap cs _ (hI.o.2 tK)).mono ?_;rintro e w' ⟨wv,⟨d1,d2,ds⟩,rfl,⟨s,rfl,i1,i2,od⟩,-,c,t⟩;obtain⟨Ad,cd,rfl,_⟩:=od.form;exact hK.o _ _ ⟨t,c⟩ ⟨d1,d2,ds,Ad,cd,rfl,od.mono hI.o.1.2.2.1,i1,i2⟩
   simp only[zaf,zaa,zab,zac,Sg.pick,Nat.reduceAdd];refine⟨fun W' _ _ hI hD hK=> ?_,?_⟩
   ·obtain⟨z0,z1,z2⟩:=hI.o.1.2.1.cs;go_simp;exact hK.o _ _ rfl rfl
   simp only[zaf,zaa,zab,zac,Sg.pick,Nat.reduceAdd];refine⟨fun W' _ _ hI hD hK=> ?_,?_⟩
   ·obtain⟨d1,d2,ds,Ad,cd,e2,o2,i2,j2⟩:=(show(∃(d1 d2:Int) (ds:List EdD) (Ad:Option Addr) (cd:Nat),vs 1= .agg #[.int .i64 d1, .int .i64 d2, .slice Ad ds.length cd]/\OwE W' w1 (.slice Ad ds.length cd) ds/\I64 d1/\I64 d2) from hD.o 1 tK);rw[e2] at hK⊢;obtain⟨x',y',z',hx⟩:=hI.o.1.2.2.2.1;obtain⟨z0,z1,z2⟩:=hx.cs;have u0:=hx.fz 0;have u1:=hx.fz 1;have u2:=hx.fz 2;go_simp;exact hK.o undef _ ⟨_,_,_,rfl⟩ ⟨d1,d2,ds,Ad,cd,(qBn tK).trans e2,hx.setv _ _ _,o2.keep fun c hc=>qI _ _ _ _ _ (by have:=(o2.1.lt c hc).1;omega),i2,j2⟩
   simp only[zaf,zaa,zab,zac,Sg.pick,Nat.reduceAdd];refine⟨fun W' _ _ hI hD hK=> ?_,?_⟩
   ·obtain⟨x',y',z',hx⟩:=hI.o.1.2.2.2.2;obtain⟨z0,z1,z2⟩:=hx.cs;have u0:=hx.fz 0;have u1:=hx.fz 1;have u2:=hx.fz 2;go_simp;exact hK.o undef _ ⟨_,_,_,rfl⟩ (hx.setv _ _ _)
   simp only[zaf,zaa,zab,zac,Sg.pick,Nat.reduceAdd];intro W9 hI9 hD9;obtain⟨d1,d2,ds,Ad,cd,ed,hd,od,id_,jd⟩:=(show(∃(d1 d2:Int) (ds:List EdD) (Ad:Option Addr) (cd:Nat),qBw _ 3 vs 1= .agg #[.int .i64 d1, .int .i64 d2, .slice Ad ds.length cd]/\CBx W9 w (.int .i64 d1) (.int .i64 d2) (.slice Ad ds.length cd)/\OwE W9 w1 (.slice Ad ds.length cd) ds/\I64 d1/\I64 d2) from hD9.o 3 tD);have hb:=(show CBx W9 (w.heap.size+1) (.int .i64 r1) (.int .i64 r2) (.slice A3 rs.length d7) from hD9.o 4 tD);have J9:=qA hI9.o.1.1;have xI:=qA hI9.o.1.2.1;have OD:=qA od;obtain⟨e0,e1,e2⟩:=hd.cs;obtain⟨e3,e4,e5⟩:=hb.cs;clear hI9 hD9 ed hd hb od;go_wp2;exact Wj (v:= .tuple #[.agg #[.int .i64 d1, .int .i64 d2, .slice Ad ds.length cd], .agg #[.int .i64 r1, .int .i64 r2, .slice A3 rs.length d7]]) (by simp[results,Tryz.results113,go_sem,e0,e1,e2,e3,e4,e5]) rfl ⟨_,_,(d1,d2,ds),(r1,r2,rs),rfl,⟨_,rfl,id_,jd,OD.mono tO⟩,⟨_,rfl,xI.o.i1,xI.o.i2,xI.o.ow.mono tO⟩,J9.o⟩
  ·have LT:(x==0)=false:=by rw[beq_eq_false_iff_ne];exact h0
   have VO:(x==1)=false:=by rw[beq_eq_false_iff_ne];exact h1
   go_wp2_with fail;refine qAj [.val (.agg #[.int .i64 q1, .int .i64 q2, .slice A2 qs.length bg]), .val (.agg #[.int .i64 r1, .int .i64 r2, .slice A3 rs.length d7]), .mem (fun _ W _=>CBx W w (.int .i64 q1) (.int .i64 q2) (.slice A2 qs.length bg)), .mem (fun _ W _=>CBx W (w.heap.size+1) (.int .i64 r1) (.int .i64 r2) (.slice A3 rs.length d7))]
    [none,none,some (fun W W'=> ∃x y z,W'=((W.setCell ⟨w,0,none⟩ x).setCell ⟨w,1,none⟩ y).setCell ⟨w,2,none⟩ z),some (fun W W'=> ∃x y z,W'=((W.setCell ⟨(w.heap.size+1),0,none⟩ x).setCell ⟨(w.heap.size+1),1,none⟩ y).setCell ⟨(w.heap.size+1),2,none⟩ z)]
    (fun W=>(Wf w w W)/\GBx W ba w1 A2 bg (q1,q2,qs)/\GBx W (ba+1) w1 A3 d7 (r1,r2,rs)/\(∃x y z,CBx W w x y z)/\ ∃x y z,CBx W (w.heap.size+1) x y z) [(2,3)] tK tK (by rfl) (by rfl)
    ⟨BZ.o.drew,G.below (zad _ _).drew,K.below (zad _ _).drew,⟨_,_,_,X2.below (zad _ _).drew⟩,_,_,_,Y2.below (zad _ _).drew⟩
    ⟨fun W _ h t=>by
       obtain⟨x,y,z,e⟩:=t;subst e;obtain⟨h1,h2,h3,⟨x1,y1,z1,h4⟩,x2,y2,z2,h5⟩:=h;exact⟨qH _ _ _ h1 tO,h2.keep (by rw[qZ];exact zae _) fun c hc=>qI _ _ _ _ _ (hc.elim (fun e=>tO) fun e=>by have:=(h2.ow.1.lt c e).1;omega),h3.keep (by rw[qZ];exact zae _) fun c hc=>qI _ _ _ _ _ (hc.elim (fun e=>tO) fun e=>by have:=(h3.ow.1.lt c e).1;omega),h4.any _ _ _,h5.any _ _ _⟩,
      fun W _ h t=>by
       obtain⟨x,y,z,e⟩:=t;subst e;obtain⟨h1,h2,h3,⟨x1,y1,z1,h4⟩,x2,y2,z2,h5⟩:=h;exact⟨qH _ _ _ h1 tO,h2.keep (by rw[qZ];exact zae _) fun c hc=>qI _ _ _ _ _ (hc.elim (fun e=>tO) fun e=>by have:=(h2.ow.1.lt c e).1;omega),h3.keep (by rw[qZ];exact zae _) fun c hc=>qI _ _ _ _ _ (hc.elim (fun e=>tO) fun e=>by have:=(h3.ow.1.lt c e).1;omega),h4.any _ _ _,h5.any _ _ _⟩,trivial⟩
    ⟨fun _ _ _ _ _ _ t h=>by obtain⟨x,y,z,e⟩:=t;subst e;exact h.other tO,trivial⟩ (fun vs=> ?_)
   refine⟨fun W' _ _ hI hD hK=> ?_,?_⟩
   ·obtain⟨z0,z1,z2⟩:=hI.o.2.1.cs;go_simp;exact hK.o _ _ rfl rfl
   simp only[zaf,zaa,zab,zac,Sg.pick,Nat.reduceAdd];refine⟨fun W' _ _ hI hD hK=> ?_,?_⟩
   ·obtain⟨z0,z1,z2⟩:=hI.o.2.2.1.cs;go_simp;exact hK.o _ _ rfl rfl
   simp only[zaf,zaa,zab,zac,Sg.pick,Nat.reduceAdd];refine⟨fun W' _ _ hI hD hK=> ?_,?_⟩
   ·obtain⟨x',y',z',hx⟩:=hI.o.2.2.2.1;obtain⟨z0,z1,z2⟩:=hx.cs;have u0:=hx.fz 0;have u1:=hx.fz 1;have u2:=hx.fz 2;go_simp;exact hK.o undef _ ⟨_,_,_,rfl⟩ (hx.setv _ _ _)
   simp only[zaf,zaa,zab,zac,Sg.pick,Nat.reduceAdd];refine⟨fun W' _ _ hI hD hK=> ?_,?_⟩
   ·obtain⟨x',y',z',hx⟩:=hI.o.2.2.2.2;obtain⟨z0,z1,z2⟩:=hx.cs;have u0:=hx.fz 0;have u1:=hx.fz 1;have u2:=hx.fz 2;go_simp;exact hK.o undef _ ⟨_,_,_,rfl⟩ (hx.setv _ _ _)
   simp only[zaf,zaa,zab,zac,Sg.pick,Nat.reduceAdd];intro W9 hI9 hD9;have ji:=(show CBx W9 w (.int .i64 q1) (.int .i64 q2) (.slice A2 qs.length bg) from hD9.o 2 tD);have jk:=(show CBx W9 (w.heap.size+1) (.int .i64 r1) (.int .i64 r2) (.slice A3 rs.length d7) from hD9.o 3 tD);have J9:=qA hI9.o.1;have jg:=qA hI9.o.2.1;have iH:=qA hI9.o.2.2.1;obtain⟨e0,e1,e2⟩:=ji.cs;obtain⟨e3,e4,e5⟩:=jk.cs;clear hI9 hD9;go_wp2;exact Wj (v:= .tuple #[.agg #[.int .i64 q1, .int .i64 q2, .slice A2 qs.length bg], .agg #[.int .i64 r1, .int .i64 r2, .slice A3 rs.length d7]]) (by simp[results,Tryz.results113,go_sem,e0,e1,e2,e3,e4,e5]) rfl ⟨_,_,(q1,q2,qs),(r1,r2,rs),rfl,⟨_,rfl,jg.o.i1,jg.o.i2,jg.o.ow.mono tO⟩,⟨_,rfl,iH.o.i1,iH.o.i2,iH.o.ow.mono tO⟩,J9.o⟩
theorem qKE (v:Wh) (cs:List Int) (w:Wg) (h:ArgC w v cs) (hl:cs.length<=1048576):
  Wk Tryz.prog 18 #[v] w fun e w'=> ∃gv g,e= .returned gv/\OwG w' w gv g/\g.2.2.length<=120/\Wf w w w':=by
 have H:=qA h;have HN:=qA (fun W (h:ArgC W v cs)=>qGq v cs W h hl);have cA:=qA (fun W (hb:Wf w w W)=>qCw h hb);clear h;go_enter Tryz.func18,Tryz.ntmps18
 go_wp2_with fail;obtain⟨W0,ah⟩: ∃W,W=w.alloc (.cells #[.int .i64 0,.int .i64 0, .slice none 0 0] 26):=⟨_,rfl⟩;rw[<-ah];obtain⟨xb,b0,s0⟩:=CBx.new ah;clear ah;have XB:=qA xb;have B0:=qA b0;clear xb b0;refine(HN W0 (cA _ B0)).mono ?_
 rintro e w1 ⟨p,A,cap,rfl,c1,hp,b1⟩;have X1:=qA (XB.below b1);have B1:=qA (B0.trans (b1.mono tO));have aE:=b1.size;have I1:=qA (DrI.refl c1);have rm:=c1.lt;clear b1 c1 XB B0 HN cA;go_wp2_with fail;refine(qMK p A cap cs w1 I1.cur).mono ?_
 rintro e w2 ⟨v2,⟨q1,q2,qs⟩,rfl,⟨s2,rfl,j1,j2,bI⟩,pz,c2,t2⟩;obtain⟨A2,bg,rfl,_⟩:=bI.form;simp only at j1 j2 bI pz⊢
 have I2:=qA (I1.to t2 c2);have X2:=qA (X1.trP t2 tO);have dL:=qA bI;have dQ:=t2.size;clear c2 t2 bI X1;obtain⟨u0,u1,u2⟩:=X2.o.cs;have f0:=X2.o.fz 0;have f1:=X2.o.fz 1;have f2:=X2.o.fz 2;go_wp2;have XF:=X2.o.setv (.int .i64 q1) (.int .i64 q2) (.slice A2 qs.length bg);obtain⟨e0,e1,e2⟩:=XF.cs;exact Wj (v:= .agg #[.int .i64 q1, .int .i64 q2, .slice A2 qs.length bg]) (by simp[results,Tryz.results18,go_sem,e0,e1,e2]) rfl ⟨_,rfl,q1,q2,qs,⟨_,rfl,j1,j2,(dL.keep fun c hc=>qI _ _ _ _ _ (by have:=(dL.o.1.lt c hc).1;omega)).mono tO⟩,pz,qH _ _ _ (Tr.bw B1 I2.tr tO tO) (zae _)⟩
theorem qIe (v:Wh) (cs:List Int) (r:Int) (w:Wg) (h:ArgC w v cs) (hl:cs.length<=1048576) (gH:1<=r) (bT:r<=3):
  Wk Tryz.prog 29 #[v, .int .i64 21, .int .i64 r, .int .i64 4] w fun e w'=> ∃u xs,e= .returned u/\OwI w' w u xs/\(xs.length<=4/\letR r xs/\redP xs)/\Wf w w w':=by
 have iF:Wi (∀(W:Wg) (k:Nat),Wf w w W->k<=1000->Wk Tryz.prog 110 #[v, .int .i64 k] W fun e w'=> ∃x:Int,e= .returned (.int .i64 x)/\(0<=x/\x<=255)/\W=w'):=qA fun W k hb hk=>qNs v cs k W (h.below hb) hl hk;obtain⟨A,cap,rfl,_⟩:=h;have HO:Wi (OwI (w.alloc (.cells #[] 3)) w (.slice (some ⟨w,0,none⟩) 0 0) []):=qA (qp w [] qt tZ (zae _));have HB:Wi (Wf w w (w.alloc (.cells #[] 3))):=qA ((zad _ _).alloc (zae _) _);go_enter Tryz.func29,Tryz.ntmps29
 go_wp2;go_loopw [9,10] (fun wv iv wr=> ∃(k:Nat) (ws:List Int),iv= .int .i64 k/\ws.length=k/\k<=4/\letR r ws/\OwI wr w wv ws/\Wf w w wr)
  (fun _ iv _=>4-(intOf iv).toNat)
 case atStart=>exact⟨0,[],rfl,rfl,tO,fun x hx=>(by cases hx),HO.o,HB.o⟩
 case round=>
  obtain⟨k,ws,rfl,aM,VZ,fX,hO,hB⟩:=hrel;have HO:=qA hO;have HB:=qA hB;have jz:=qA fX;have ar:=hB.size;obtain⟨Aw,mw,cw,rfl⟩:=hO.any2;clear hO hB fX;go_wp2_with fail;refine(iF _ 21 HB tO).mono ?_
  rintro e w2 ⟨y,rfl,⟨y0,y1⟩,rfl⟩;by_cases ac:(k:Int)<y%5
  ·have fo:k<4:=by have:=zaD y (b:=5) tD;omega
   have hq:IntKind.i64.wrap (22+(k:Int))=((22+k:Nat):Int):=by rw[IntKind.wrap_i64];omega
   have tL:=qA (iF _ (22+k) HB tO);go_wp2_with fail;refine tL.o.mono ?_;rintro e w3 ⟨z,rfl,⟨z0,z1⟩,rfl⟩;have Jf: ¬r=0:=tO;have x0:0<=z%r:=Int.emod_nonneg _ Jf;have x1:z%r<r:=zaD _ tO;generalize hx:z%r=x at*;have JU:IntKind.i64.wrap (1+x)=1+x:=by rw[IntKind.wrap_i64];omega
   have nt:IntKind.i64.wrap (-(1+x))= -(1+x):=by rw[IntKind.wrap_i64];omega
   have fW:Wi (I64 (1+x)):=qA ⟨tO,tO⟩;have iP:Wi (I64 (-(1+x))):=qA ⟨tO,tO⟩;go_wp2_with (first
    | ((at_builtin;refine qW rfl (.tmp 40) (.tmp 42) rfl _ _ _ (OwI.alloc HO _) rfl _ _ rfl (qU _ _ _) fW.o tB tB ?_;intro v4 wv4 o4 g4 p4);have B4:=qA (qh HB ar HO.o.1 (zae _) g4);have O4:=qA o4;obtain⟨A4,m4,c4,rfl⟩:=o4.any2;clear o4 g4 p4)
    | ((at_builtin;refine qW rfl (.tmp 40) (.tmp 42) rfl _ _ _ (OwI.alloc HO _) rfl _ _ rfl (qU _ _ _) iP.o tB tB ?_;intro v4 wv4 o4 g4 p4);have B4:=qA (qh HB ar HO.o.1 (zae _) g4);have O4:=qA o4;obtain⟨A4,m4,c4,rfl⟩:=o4.any2;clear o4 g4 p4))
   all_goals (
    go_roundw
    case rel=>
     refine⟨k+1,_,by go_num,by simp[aM],tO,fun y hy=> ?_,O4.o,B4.o⟩;rcases zaj.1 hy with hy | hy
     ·exact jz.o y hy
     ·rw[zag] at hy;subst hy;omega
    case measure=>(simp[intOf];omega))
  ·have GJ:Wi (redP (redL [] ws)):=qA (qGQ qGU);have oK:(redL [] ws).length<=4:=by have:=qBQ [] ws;simp at this;omega
   have lC:ws.length<=1073741824:=tO;go_wp2_with (go_at_call 111;(with_reducible refine(qAY _ ws _ HO.o.rd lC).mono ?_);rintro e w5 ⟨r5,rfl,o5,b5⟩;have O5:=qA o5;have B5:=qA b5;obtain⟨A5,m5,c5,rfl⟩:=o5.any2;clear o5 b5)
   exact Wj (v:= .slice A5 m5 c5) (by simp[results,Tryz.results29,go_sem]) rfl ⟨_,_,rfl,O5.mono ar,⟨oK,qJN jz,GJ⟩,HB.trans (B5.mono ar)⟩
theorem qKC (v:Wh) (cs:List Int) (w:Wg) (h:ArgC w v cs) (hl:cs.length<=1048576):
  Wk Tryz.prog 32 #[v] w fun e w'=> ∃av bv a b,e= .returned (.tuple #[av,bv])/\OwG w' w av a/\OwG w' w bv b/\Wf w w w':=by
 have cA:=qA (fun W (hb:Wf w w W)=>qCw h hb);go_enter Tryz.func32,Tryz.ntmps32
 go_wp2_with fail;obtain⟨W0,ah⟩: ∃W,W=w.alloc (.cells #[.int .i64 0,.int .i64 0, .slice none 0 0] 26):=⟨_,rfl⟩;rw[<-ah];obtain⟨xb,b0,s0⟩:=CBx.new ah;clear ah;obtain⟨W1,aq⟩: ∃W,W=W0.alloc (.cells #[.int .i64 0,.int .i64 0, .slice none 0 0] 26):=⟨_,rfl⟩;rw[<-aq];obtain⟨yb,b1,s1⟩:=CBx.new aq;clear aq;rw[s0] at yb s1;have X0:=qA (xb.below b1);have Y0:=qA yb;have B0:=qA (b0.trans (b1.mono tO));clear xb yb b0 b1;refine(qHc _ cs W1 (cA _ B0) hl).mono ?_
 rintro e w1 ⟨av,bv,⟨q1,q2,qs⟩,⟨r1,r2,rs⟩,rfl,⟨s2,rfl,j1,j2,bI⟩,⟨s3,rfl,k1,k2,aY⟩,b3⟩;obtain⟨A2,bg,rfl,_⟩:=bI.form;obtain⟨A3,d7,rfl,_⟩:=aY.form;simp only at j1 j2 bI k1 k2 aY⊢
 have X2:=qA (X0.below b3);have Y2:=qA (Y0.below b3);have BZ:=qA (B0.trans (b3.mono tO));have dL:=qA bI;have dI:=qA aY;have d5:=b3.size;clear b3 bI aY X0 Y0 B0;obtain⟨WA,dk⟩: ∃W,W=w1.alloc (.cells #[.int .i64 q1,.int .i64 q2, .slice A2 qs.length bg] 26):=⟨_,rfl⟩;have gA:=GBx.new (m:=(q1,q2,qs)) dL.o j1 j2 dk;obtain⟨-,bA,sA⟩:=CBx.new dk;obtain⟨WB,dA⟩: ∃W,W=WA.alloc (.cells #[.int .i64 r1,.int .i64 r2, .slice A3 rs.length d7] 26):=⟨_,rfl⟩;have gB:=GBx.new (m:=(r1,r2,rs)) (dI.below bA) k1 k2 dA;obtain⟨-,bB,sB⟩:=CBx.new dA;have G:=qA (gA.below bB);have K:=qA gB;rw[sA] at K;replace X2:=qA ((X2.below bA).below bB);replace Y2:=qA ((Y2.below bA).below bB);replace BZ:=qA ((BZ.trans (bA.mono BZ.size)).trans (bB.mono (by have:=BZ.o.size;omega)));go_wp2_with fail;rw[<-dk,<-dA];clear dk dA gA gB bA bB dL dI;generalize Fy:w1.heap.size=ba at*;refine qAj [.val (.agg #[.int .i64 q1, .int .i64 q2, .slice A2 qs.length bg]), .val (.agg #[.int .i64 r1, .int .i64 r2, .slice A3 rs.length d7]), .mem (fun _ W _=>CBx W w (.int .i64 q1) (.int .i64 q2) (.slice A2 qs.length bg)), .mem (fun _ W _=>CBx W (w.heap.size+1) (.int .i64 r1) (.int .i64 r2) (.slice A3 rs.length d7))]
  [none,none,some (fun W W'=> ∃x y z,W'=((W.setCell ⟨w,0,none⟩ x).setCell ⟨w,1,none⟩ y).setCell ⟨w,2,none⟩ z),some (fun W W'=> ∃x y z,W'=((W.setCell ⟨(w.heap.size+1),0,none⟩ x).setCell ⟨(w.heap.size+1),1,none⟩ y).setCell ⟨(w.heap.size+1),2,none⟩ z)]
  (fun W=>(Wf w w W)/\GBx W ba W1 A2 bg (q1,q2,qs)/\GBx W (ba+1) W1 A3 d7 (r1,r2,rs)/\(∃x y z,CBx W w x y z)/\ ∃x y z,CBx W (w.heap.size+1) x y z) [(2,3)] tK tK (by rfl) (by rfl)
  ⟨BZ.o.drew,G.below (zad _ _).drew,K.below (zad _ _).drew,⟨_,_,_,X2.below (zad _ _).drew⟩,_,_,_,Y2.below (zad _ _).drew⟩
  ⟨fun W _ h t=>by
     obtain⟨x,y,z,e⟩:=t;subst e;obtain⟨h1,h2,h3,⟨x1,y1,z1,h4⟩,x2,y2,z2,h5⟩:=h;exact⟨qH _ _ _ h1 tO,h2.keep (by rw[qZ];exact zae _) fun c hc=>qI _ _ _ _ _ (hc.elim (fun e=>tO) fun e=>by have:=(h2.ow.1.lt c e).1;omega),h3.keep (by rw[qZ];exact zae _) fun c hc=>qI _ _ _ _ _ (hc.elim (fun e=>tO) fun e=>by have:=(h3.ow.1.lt c e).1;omega),h4.any _ _ _,h5.any _ _ _⟩,
    fun W _ h t=>by
     obtain⟨x,y,z,e⟩:=t;subst e;obtain⟨h1,h2,h3,⟨x1,y1,z1,h4⟩,x2,y2,z2,h5⟩:=h;exact⟨qH _ _ _ h1 tO,h2.keep (by rw[qZ];exact zae _) fun c hc=>qI _ _ _ _ _ (hc.elim (fun e=>tO) fun e=>by have:=(h2.ow.1.lt c e).1;omega),h3.keep (by rw[qZ];exact zae _) fun c hc=>qI _ _ _ _ _ (hc.elim (fun e=>tO) fun e=>by have:=(h3.ow.1.lt c e).1;omega),h4.any _ _ _,h5.any _ _ _⟩,trivial⟩
  ⟨fun _ _ _ _ _ _ t h=>by obtain⟨x,y,z,e⟩:=t;subst e;exact h.other tO,trivial⟩ (fun vs=> ?_)
 refine⟨fun W' _ _ hI hD hK=> ?_,?_⟩
 ·obtain⟨z0,z1,z2⟩:=hI.o.2.1.cs;go_simp;exact hK.o _ _ rfl rfl
 simp only[zaf,zaa,zab,zac,Sg.pick,Nat.reduceAdd];refine⟨fun W' _ _ hI hD hK=> ?_,?_⟩
 ·obtain⟨z0,z1,z2⟩:=hI.o.2.2.1.cs;go_simp;exact hK.o _ _ rfl rfl
 simp only[zaf,zaa,zab,zac,Sg.pick,Nat.reduceAdd];refine⟨fun W' _ _ hI hD hK=> ?_,?_⟩
 ·obtain⟨x',y',z',hx⟩:=hI.o.2.2.2.1;obtain⟨z0,z1,z2⟩:=hx.cs;have u0:=hx.fz 0;have u1:=hx.fz 1;have u2:=hx.fz 2;go_simp;exact hK.o undef _ ⟨_,_,_,rfl⟩ (hx.setv _ _ _)
 simp only[zaf,zaa,zab,zac,Sg.pick,Nat.reduceAdd];refine⟨fun W' _ _ hI hD hK=> ?_,?_⟩
 ·obtain⟨x',y',z',hx⟩:=hI.o.2.2.2.2;obtain⟨z0,z1,z2⟩:=hx.cs;have u0:=hx.fz 0;have u1:=hx.fz 1;have u2:=hx.fz 2;go_simp;exact hK.o undef _ ⟨_,_,_,rfl⟩ (hx.setv _ _ _)
 simp only[zaf,zaa,zab,zac,Sg.pick,Nat.reduceAdd];intro W9 hI9 hD9;have ji:=(show CBx W9 w (.int .i64 q1) (.int .i64 q2) (.slice A2 qs.length bg) from hD9.o 2 tD);have jk:=(show CBx W9 (w.heap.size+1) (.int .i64 r1) (.int .i64 r2) (.slice A3 rs.length d7) from hD9.o 3 tD);have J9:=qA hI9.o.1;have jg:=qA hI9.o.2.1;have iH:=qA hI9.o.2.2.1;obtain⟨e0,e1,e2⟩:=ji.cs;obtain⟨e3,e4,e5⟩:=jk.cs;clear hI9 hD9;go_wp2;exact Wj (v:= .tuple #[.agg #[.int .i64 q1, .int .i64 q2, .slice A2 qs.length bg], .agg #[.int .i64 r1, .int .i64 r2, .slice A3 rs.length d7]]) (by simp[results,Tryz.results32,go_sem,e0,e1,e2,e3,e4,e5]) rfl ⟨_,_,(q1,q2,qs),(r1,r2,rs),rfl,⟨_,rfl,jg.o.i1,jg.o.i2,jg.o.ow.mono tO⟩,⟨_,rfl,iH.o.i1,iH.o.i2,iH.o.ow.mono tO⟩,J9.o⟩
theorem qKN (v:Wh) (cs:List Int) (w:Wg) (h:ArgC w v cs) (hl:cs.length<=1048576):
  Wk Tryz.prog 114 #[v] w fun e w'=> ∃av bv xv a b xs,e= .returned (.tuple #[av,bv,xv])/\OwG w' w av a/\OwG w' w bv b/\OwI w' w xv xs/\xs.length<=100/\Wf w w w':=by
 have HN:=qA (fun W (h:ArgC W v cs)=>qGq v cs W h hl);have cA:=qA (fun W (hb:Wf w w W)=>qCw h hb);go_enter Tryz.func114,Tryz.ntmps114
 go_wp2_with fail;obtain⟨W0,ah⟩: ∃W,W=w.alloc (.cells #[.int .i64 0,.int .i64 0, .slice none 0 0] 26):=⟨_,rfl⟩;rw[<-ah];obtain⟨xb,b0,s0⟩:=CBx.new ah;clear ah;obtain⟨W1,aq⟩: ∃W,W=W0.alloc (.cells #[.int .i64 0,.int .i64 0, .slice none 0 0] 26):=⟨_,rfl⟩;rw[<-aq];obtain⟨yb,b1,s1⟩:=CBx.new aq;clear aq;rw[s0] at yb s1;have X0:=qA (xb.below b1);have Y0:=qA yb;have B0:=qA (b0.trans (b1.mono tO));clear xb yb b0 b1;refine(HN W1 (cA _ B0)).mono ?_
 rintro e w1 ⟨p,A,cap,rfl,c1,hp,b1⟩;have X2:=qA (X0.below b1);have Y2:=qA (Y0.below b1);have BZ:=qA (B0.trans (b1.mono tO));have aE:=b1.size;have rm:=c1.lt;have C2:=qA c1;clear b1 c1 X0 Y0 B0 HN s0;go_wp2_with fail;refine(qHc _ cs w1 (cA _ BZ) hl).mono ?_
 rintro e w3 ⟨av,bv,⟨q1,q2,qs⟩,⟨r1,r2,rs⟩,rfl,⟨s2,rfl,j1,j2,bI⟩,⟨s3,rfl,k1,k2,aY⟩,b3⟩;obtain⟨A2,bg,rfl,_⟩:=bI.form;obtain⟨A3,d7,rfl,_⟩:=aY.form;simp only at j1 j2 bI k1 k2 aY⊢
 replace X2:=qA (X2.below b3);replace Y2:=qA (Y2.below b3);replace BZ:=qA (BZ.trans (b3.mono tO));replace C2:=qA (C2.below b3);have dL:=qA bI;have dI:=qA aY;have d5:=b3.size;clear b3 bI aY;obtain⟨WA,dk⟩: ∃W,W=w3.alloc (.cells #[.int .i64 q1,.int .i64 q2, .slice A2 qs.length bg] 26):=⟨_,rfl⟩;have gA:=GBx.new (m:=(q1,q2,qs)) dL.o j1 j2 dk;obtain⟨-,bA,sA⟩:=CBx.new dk;obtain⟨WB,dA⟩: ∃W,W=WA.alloc (.cells #[.int .i64 r1,.int .i64 r2, .slice A3 rs.length d7] 26):=⟨_,rfl⟩;have gB:=GBx.new (m:=(r1,r2,rs)) (dI.below bA) k1 k2 dA;obtain⟨-,bB,sB⟩:=CBx.new dA;have G:=qA (gA.below bB);have K:=qA gB;rw[sA] at K;replace X2:=qA ((X2.below bA).below bB);replace Y2:=qA ((Y2.below bA).below bB);replace C2:=qA ((C2.below bA).below bB);replace BZ:=qA ((BZ.trans (bA.mono BZ.size)).trans (bB.mono (by have:=BZ.o.size;omega)));go_wp2_with fail;rw[<-dk,<-dA];clear dk dA gA gB bA bB dL dI;generalize Fy:w3.heap.size=ba at*;refine qAm [.val (.agg #[.int .i64 q1, .int .i64 q2, .slice A2 qs.length bg]), .val (.agg #[.int .i64 r1, .int .i64 r2, .slice A3 rs.length d7]), .val (.pointer (some ⟨p,0,none⟩)), .mem (fun _ W v=>(∃(xs:List Int) (Ax:Option Addr) (cx:Nat),v= .slice Ax xs.length cx/\OwI W w1 (.slice Ax xs.length cx) xs/\xs.length<=100)), .mem (fun _ W _=>CBx W w (.int .i64 q1) (.int .i64 q2) (.slice A2 qs.length bg)), .mem (fun _ W _=>CBx W (w.heap.size+1) (.int .i64 r1) (.int .i64 r2) (.slice A3 rs.length d7)), .pur (fun us v=>v=us 3)]
  [none,none,none,some (fun W W'=>Tr p (p+1) W W'/\Cur p A cap cs W'),some (fun W W'=> ∃x y z,W'=((W.setCell ⟨w,0,none⟩ x).setCell ⟨w,1,none⟩ y).setCell ⟨w,2,none⟩ z),some (fun W W'=> ∃x y z,W'=((W.setCell ⟨(w.heap.size+1),0,none⟩ x).setCell ⟨(w.heap.size+1),1,none⟩ y).setCell ⟨(w.heap.size+1),2,none⟩ z),none]
  (fun W=>Wf w w W/\GBx W ba w1 A2 bg (q1,q2,qs)/\GBx W (ba+1) w1 A3 d7 (r1,r2,rs)/\w1.heap.size<=W.heap.size/\(∃x y z,CBx W w x y z)/\ ∃x y z,CBx W (w.heap.size+1) x y z) (fun W=>Cur p A cap cs W) [4,5] [(3,4),(3,5),(4,5)] tK tK (by rfl) (by rfl)
  ⟨BZ.o.drew,G.below (zad _ _).drew,K.below (zad _ _).drew,(show w1.heap.size<=WB.heap.size by omega),⟨_,_,_,X2.below (zad _ _).drew⟩,_,_,_,Y2.o.below (zad _ _).drew⟩ (C2.below (zad _ _).drew)
  ⟨fun _ _ h t=>⟨Tr.bw h.1 t.1 tO (by have:=h.2.2.2.1;omega),h.2.1.trP t.1 tO tO,h.2.2.1.trP t.1 tO tO,zax h.2.2.2.1 t.1.size,by obtain⟨x,y,z,hx⟩:=h.2.2.2.2.1;exact⟨x,y,z,hx.trP t.1 tO⟩,by obtain⟨x,y,z,hx⟩:=h.2.2.2.2.2;exact⟨x,y,z,hx.trP t.1 tO⟩⟩,
   fun W _ h t=>by
    obtain⟨x,y,z,e⟩:=t;subst e;obtain⟨h1,h2,oF,h3,⟨x1,y1,z1,h4⟩,x2,y2,z2,h5⟩:=h;exact⟨qH _ _ _ h1 tO,h2.keep (by rw[qZ];exact zae _) fun c hc=>qI _ _ _ _ _ (hc.elim (fun e=>tO) fun e=>by have:=(h2.ow.1.lt c e).1;omega),oF.keep (by rw[qZ];exact zae _) fun c hc=>qI _ _ _ _ _ (hc.elim (fun e=>tO) fun e=>by have:=(oF.ow.1.lt c e).1;omega),by rw[qZ];exact h3,h4.any _ _ _,h5.any _ _ _⟩,
   fun W _ h t=>by
    obtain⟨x,y,z,e⟩:=t;subst e;obtain⟨h1,h2,oF,h3,⟨x1,y1,z1,h4⟩,x2,y2,z2,h5⟩:=h;exact⟨qH _ _ _ h1 tO,h2.keep (by rw[qZ];exact zae _) fun c hc=>qI _ _ _ _ _ (hc.elim (fun e=>tO) fun e=>by have:=(h2.ow.1.lt c e).1;omega),oF.keep (by rw[qZ];exact zae _) fun c hc=>qI _ _ _ _ _ (hc.elim (fun e=>tO) fun e=>by have:=(oF.ow.1.lt c e).1;omega),by rw[qZ];exact h3,h4.any _ _ _,h5.any _ _ _⟩,trivial⟩
  ⟨.inr fun _ _ _ h t=>t.2, .inl tZ, .inl tZ,trivial⟩
  ⟨fun _ _ _ _ _ _ t h=>by obtain⟨x,y,z,e⟩:=t;subst e;obtain⟨xs,Ax,cx,e,o,l⟩:=h;exact⟨xs,Ax,cx,e,o.keepB fun c hc=>qI _ _ _ _ _ (by have:=(o.1.lt c hc).1;omega),l⟩,fun _ _ _ _ _ _ t h=>by obtain⟨x,y,z,e⟩:=t;subst e;obtain⟨xs,Ax,cx,e,o,l⟩:=h;exact⟨xs,Ax,cx,e,o.keepB fun c hc=>qI _ _ _ _ _ (by have:=(o.1.lt c hc).1;omega),l⟩,fun _ _ _ _ _ _ t h=>by obtain⟨x,y,z,e⟩:=t;subst e;exact h.other tO,trivial⟩ (fun vs=> ?_)
 refine⟨fun W' _ _ hI hD hK=> ?_,?_⟩
 ·obtain⟨z0,z1,z2⟩:=hI.o.1.2.1.cs;go_simp;exact hK.o _ _ rfl rfl
 simp only[zaf,zaa,zab,zac,Sg.pick,Nat.reduceAdd];refine⟨fun W' _ _ hI hD hK=> ?_,?_⟩
 ·obtain⟨z0,z1,z2⟩:=hI.o.1.2.2.1.cs;go_simp;exact hK.o _ _ rfl rfl
 simp only[zaf,zaa,zab,zac,Sg.pick,Nat.reduceAdd];refine⟨fun W' _ _ hI hD hK=> ?_,?_⟩
 ·skip;go_simp;exact hK.o _ _ rfl rfl
 simp only[zaf,zaa,zab,zac,Sg.pick,Nat.reduceAdd];refine⟨fun W' _ _ hI hD hK=> ?_,?_⟩
 ·skip;go_simp;refine(qLB p A cap cs 2 3 _ (hI.o.2 tK) tO tO tO tO).mono ?_;rintro e w' ⟨wv,ys,rfl,oy,hy,c,t⟩;obtain⟨Ay,cy,rfl,_⟩:=oy.form;exact hK.o _ _ ⟨t,c⟩ ⟨ys,Ay,cy,rfl,oy.mono hI.o.1.2.2.2.1,by have:=hy.1;omega⟩
 simp only[zaf,zaa,zab,zac,Sg.pick,Nat.reduceAdd];refine⟨fun W' _ _ hI hD hK=> ?_,?_⟩
 ·obtain⟨x',y',z',hx⟩:=hI.o.1.2.2.2.2.1;obtain⟨z0,z1,z2⟩:=hx.cs;have u0:=hx.fz 0;have u1:=hx.fz 1;have u2:=hx.fz 2;go_simp;exact hK.o undef _ ⟨_,_,_,rfl⟩ (hx.setv _ _ _)
 simp only[zaf,zaa,zab,zac,Sg.pick,Nat.reduceAdd];refine⟨fun W' _ _ hI hD hK=> ?_,?_⟩
 ·obtain⟨x',y',z',hx⟩:=hI.o.1.2.2.2.2.2;obtain⟨z0,z1,z2⟩:=hx.cs;have u0:=hx.fz 0;have u1:=hx.fz 1;have u2:=hx.fz 2;go_simp;exact hK.o undef _ ⟨_,_,_,rfl⟩ (hx.setv _ _ _)
 simp only[zaf,zaa,zab,zac,Sg.pick,Nat.reduceAdd];refine⟨fun W' _ _ hI hD hK=> ?_,?_⟩
 ·obtain⟨xs,Ax,cx,e3,o3,l3⟩:=(show(∃(xs:List Int) (Ax:Option Addr) (cx:Nat),vs 3= .slice Ax xs.length cx/\OwI W' w1 (.slice Ax xs.length cx) xs/\xs.length<=100) from hD.o 3 tK);rw[e3] at hK⊢;go_simp;exact hK.o _ _ rfl ((qBn tK).trans e3).symm
 simp only[zaf,zaa,zab,zac,Sg.pick,Nat.reduceAdd];intro W9 hI9 hD9;obtain⟨xs,Ax,cx,ew,ow,lw⟩:=(show(∃(xs:List Int) (Ax:Option Addr) (cx:Nat),vs 3= .slice Ax xs.length cx/\OwI W9 w1 (.slice Ax xs.length cx) xs/\xs.length<=100) from hD9.o 3 tD);have er:=(show vs 6=qBw _ 6 vs 3 from hD9.o 6 tD);rw[qBn tK,ew] at er;rw[er];have ji:=(show CBx W9 w (.int .i64 q1) (.int .i64 q2) (.slice A2 qs.length bg) from hD9.o 4 tD);have jk:=(show CBx W9 (w.heap.size+1) (.int .i64 r1) (.int .i64 r2) (.slice A3 rs.length d7) from hD9.o 5 tD);have J9:=qA hI9.o.1.1;have jg:=qA hI9.o.1.2.1;have iH:=qA hI9.o.1.2.2.1;have H0:=qA ow;obtain⟨e0,e1,e2⟩:=ji.cs;obtain⟨e3,e4,e5⟩:=jk.cs;clear hI9 hD9 ew er ow;go_wp2;exact Wj (v:= .tuple #[.agg #[.int .i64 q1, .int .i64 q2, .slice A2 qs.length bg], .agg #[.int .i64 r1, .int .i64 r2, .slice A3 rs.length d7], .slice Ax xs.length cx]) (by simp[results,Tryz.results114,go_sem,e0,e1,e2,e3,e4,e5]) rfl ⟨_,_,_,(q1,q2,qs),(r1,r2,rs),xs,rfl,⟨_,rfl,jg.o.i1,jg.o.i2,jg.o.ow.mono tO⟩,⟨_,rfl,iH.o.i1,iH.o.i2,iH.o.ow.mono tO⟩,H0.o.mono tO,lw,J9.o⟩
theorem qKF (v:Wh) (cs:List Int) (w:Wg) (h:ArgC w v cs) (hl:cs.length<=1048576):
  Wk Tryz.prog 33 #[v] w fun e w'=> ∃av bv xv a b xs,e= .returned (.tuple #[av,bv,xv])/\OwG w' w av a/\OwG w' w bv b/\OwI w' w xv xs/\xs.length<=100/\Wf w w w':=by
 have cA:=qA (fun W (hb:Wf w w W)=>qCw h hb);go_enter Tryz.func33,Tryz.ntmps33
 go_wp2_with fail;obtain⟨W0,ah⟩: ∃W,W=w.alloc (.cells #[.int .i64 0,.int .i64 0, .slice none 0 0] 26):=⟨_,rfl⟩;rw[<-ah];obtain⟨xb,b0,s0⟩:=CBx.new ah;clear ah;obtain⟨W1,aq⟩: ∃W,W=W0.alloc (.cells #[.int .i64 0,.int .i64 0, .slice none 0 0] 26):=⟨_,rfl⟩;rw[<-aq];obtain⟨yb,b1,s1⟩:=CBx.new aq;clear aq;rw[s0] at yb s1;have X0:=qA (xb.below b1);have Y0:=qA yb;have B0:=qA (b0.trans (b1.mono tO));clear xb yb b0 b1;refine(qKN _ cs W1 (cA _ B0) hl).mono ?_
 rintro e w1 ⟨av,bv,xv,⟨q1,q2,qs⟩,⟨r1,r2,rs⟩,xs,rfl,⟨s2,rfl,j1,j2,bI⟩,⟨s3,rfl,k1,k2,aY⟩,ox,ei,b3⟩;obtain⟨A2,bg,rfl,_⟩:=bI.form;obtain⟨A3,d7,rfl,_⟩:=aY.form;obtain⟨Ax,cx,rfl,_⟩:=ox.form;simp only at j1 j2 bI k1 k2 aY⊢
 have X2:=qA (X0.below b3);have Y2:=qA (Y0.below b3);have BZ:=qA (B0.trans (b3.mono tO));have dL:=qA bI;have dI:=qA aY;have OX:=qA ox;have d5:=b3.size;clear b3 bI aY ox X0 Y0 B0;obtain⟨WA,dk⟩: ∃W,W=w1.alloc (.cells #[.int .i64 q1,.int .i64 q2, .slice A2 qs.length bg] 26):=⟨_,rfl⟩;have gA:=GBx.new (m:=(q1,q2,qs)) dL.o j1 j2 dk;obtain⟨-,bA,sA⟩:=CBx.new dk;obtain⟨WB,dA⟩: ∃W,W=WA.alloc (.cells #[.int .i64 r1,.int .i64 r2, .slice A3 rs.length d7] 26):=⟨_,rfl⟩;have gB:=GBx.new (m:=(r1,r2,rs)) (dI.below bA) k1 k2 dA;obtain⟨-,bB,sB⟩:=CBx.new dA;have G:=qA (gA.below bB);have K:=qA gB;rw[sA] at K;replace X2:=qA ((X2.below bA).below bB);replace Y2:=qA ((Y2.below bA).below bB);replace OX:=qA ((OX.below bA).below bB);replace BZ:=qA ((BZ.trans (bA.mono BZ.size)).trans (bB.mono (by have:=BZ.o.size;omega)));go_wp2_with fail;rw[<-dk,<-dA];clear dk dA gA gB bA bB dL dI;generalize Fy:w1.heap.size=ba at*;refine qAj [.val (.agg #[.int .i64 q1, .int .i64 q2, .slice A2 qs.length bg]), .val (.agg #[.int .i64 r1, .int .i64 r2, .slice A3 rs.length d7]), .val (.slice Ax xs.length cx), .mem (fun _ W _=>CBx W w (.int .i64 q1) (.int .i64 q2) (.slice A2 qs.length bg)), .mem (fun _ W _=>CBx W (w.heap.size+1) (.int .i64 r1) (.int .i64 r2) (.slice A3 rs.length d7)), .val (.slice Ax xs.length cx)]
  [none,none,none,some (fun W W'=> ∃x y z,W'=((W.setCell ⟨w,0,none⟩ x).setCell ⟨w,1,none⟩ y).setCell ⟨w,2,none⟩ z),some (fun W W'=> ∃x y z,W'=((W.setCell ⟨(w.heap.size+1),0,none⟩ x).setCell ⟨(w.heap.size+1),1,none⟩ y).setCell ⟨(w.heap.size+1),2,none⟩ z),none]
  (fun W=>Wf w w W/\GBx W ba W1 A2 bg (q1,q2,qs)/\GBx W (ba+1) W1 A3 d7 (r1,r2,rs)/\OwI W W1 (.slice Ax xs.length cx) xs/\(∃x y z,CBx W w x y z)/\ ∃x y z,CBx W (w.heap.size+1) x y z) [(3,4)] tK tK (by rfl) (by rfl)
  ⟨BZ.o.drew,G.below (zad _ _).drew,K.below (zad _ _).drew,OX.below (zad _ _).drew,⟨_,_,_,X2.below (zad _ _).drew⟩,_,_,_,Y2.below (zad _ _).drew⟩
  ⟨fun W _ h t=>by
    obtain⟨x,y,z,e⟩:=t;subst e;obtain⟨h1,h2,oF,h3,⟨x1,y1,z1,h4⟩,x2,y2,z2,h5⟩:=h;exact⟨qH _ _ _ h1 tO,h2.keep (by rw[qZ];exact zae _) fun c hc=>qI _ _ _ _ _ (hc.elim (fun e=>tO) fun e=>by have:=(h2.ow.1.lt c e).1;omega),oF.keep (by rw[qZ];exact zae _) fun c hc=>qI _ _ _ _ _ (hc.elim (fun e=>tO) fun e=>by have:=(oF.ow.1.lt c e).1;omega),h3.keepB fun c hc=>qI _ _ _ _ _ (by have:=(h3.1.lt c hc).1;omega),h4.any _ _ _,h5.any _ _ _⟩,
   fun W _ h t=>by
    obtain⟨x,y,z,e⟩:=t;subst e;obtain⟨h1,h2,oF,h3,⟨x1,y1,z1,h4⟩,x2,y2,z2,h5⟩:=h;exact⟨qH _ _ _ h1 tO,h2.keep (by rw[qZ];exact zae _) fun c hc=>qI _ _ _ _ _ (hc.elim (fun e=>tO) fun e=>by have:=(h2.ow.1.lt c e).1;omega),oF.keep (by rw[qZ];exact zae _) fun c hc=>qI _ _ _ _ _ (hc.elim (fun e=>tO) fun e=>by have:=(oF.ow.1.lt c e).1;omega),h3.keepB fun c hc=>qI _ _ _ _ _ (by have:=(h3.1.lt c hc).1;omega),h4.any _ _ _,h5.any _ _ _⟩,trivial⟩
  ⟨fun _ _ _ _ _ _ t h=>by obtain⟨x,y,z,e⟩:=t;subst e;exact h.other tO,trivial⟩ (fun vs=> ?_)
 refine⟨fun W' _ _ hI hD hK=> ?_,?_⟩
 ·obtain⟨z0,z1,z2⟩:=hI.o.2.1.cs;go_simp;exact hK.o _ _ rfl rfl
 simp only[zaf,zaa,zab,zac,Sg.pick,Nat.reduceAdd];refine⟨fun W' _ _ hI hD hK=> ?_,?_⟩
 ·obtain⟨z0,z1,z2⟩:=hI.o.2.2.1.cs;go_simp;exact hK.o _ _ rfl rfl
 simp only[zaf,zaa,zab,zac,Sg.pick,Nat.reduceAdd];refine⟨fun W' _ _ hI hD hK=> ?_,?_⟩
 ·skip;go_simp;exact hK.o _ _ rfl rfl
 simp only[zaf,zaa,zab,zac,Sg.pick,Nat.reduceAdd];refine⟨fun W' _ _ hI hD hK=> ?_,?_⟩
 ·obtain⟨x',y',z',hx⟩:=hI.o.2.2.2.2.1;obtain⟨z0,z1,z2⟩:=hx.cs;have u0:=hx.fz 0;have u1:=hx.fz 1;have u2:=hx.fz 2;go_simp;exact hK.o undef _ ⟨_,_,_,rfl⟩ (hx.setv _ _ _)
 simp only[zaf,zaa,zab,zac,Sg.pick,Nat.reduceAdd];refine⟨fun W' _ _ hI hD hK=> ?_,?_⟩
 ·obtain⟨x',y',z',hx⟩:=hI.o.2.2.2.2.2;obtain⟨z0,z1,z2⟩:=hx.cs;have u0:=hx.fz 0;have u1:=hx.fz 1;have u2:=hx.fz 2;go_simp;exact hK.o undef _ ⟨_,_,_,rfl⟩ (hx.setv _ _ _)
 simp only[zaf,zaa,zab,zac,Sg.pick,Nat.reduceAdd];refine⟨fun W' _ _ hI hD hK=> ?_,?_⟩
 ·skip;go_simp;exact hK.o _ _ rfl rfl
 simp only[zaf,zaa,zab,zac,Sg.pick,Nat.reduceAdd];intro W9 hI9 hD9;have ji:=(show CBx W9 w (.int .i64 q1) (.int .i64 q2) (.slice A2 qs.length bg) from hD9.o 3 tD);have jk:=(show CBx W9 (w.heap.size+1) (.int .i64 r1) (.int .i64 r2) (.slice A3 rs.length d7) from hD9.o 4 tD);have J9:=qA hI9.o.1;have jg:=qA hI9.o.2.1;have iH:=qA hI9.o.2.2.1;have H0:=qA hI9.o.2.2.2.1;obtain⟨e0,e1,e2⟩:=ji.cs;obtain⟨e3,e4,e5⟩:=jk.cs;clear hI9 hD9;go_wp2;exact Wj (v:= .tuple #[.agg #[.int .i64 q1, .int .i64 q2, .slice A2 qs.length bg], .agg #[.int .i64 r1, .int .i64 r2, .slice A3 rs.length d7], .slice Ax xs.length cx]) (by simp[results,Tryz.results33,go_sem,e0,e1,e2,e3,e4,e5]) rfl ⟨_,_,_,(q1,q2,qs),(r1,r2,rs),xs,rfl,⟨_,rfl,jg.o.i1,jg.o.i2,jg.o.ow.mono tO⟩,⟨_,rfl,iH.o.i1,iH.o.i2,iH.o.ow.mono tO⟩,H0.o.mono tO,ei,J9.o⟩
theorem qJR (xs:List Int):(invL xs).length=xs.length:=by simp[invL,negL]
theorem qDd (v u:Wh) (xs ys:List Int) (w:Wg) (h:RdI w v xs) (h':RdI w u ys) (hx:xs.length<=100000) (hy:ys.length<=100000):
  Wk Tryz.prog 27 #[v,u] w fun e w'=> ∃r,e= .returned r/\OwI w' w r (redL [] (redL [] (invL ys++xs)++ys))/\Wf w w w':=by
 have X:=qA h;have Y:=qA h';obtain⟨A,c,rfl,-⟩:=h.arg;obtain⟨A',c',rfl,-⟩:=h'.arg;clear h h';go_enter Tryz.func27,Tryz.ntmps27
 go_wp2_with fail;refine(qAa _ ys w Y tO).mono ?_
 rintro e w1 ⟨r1,rfl,o1,b1⟩;obtain⟨A1,c1,rfl,-⟩:=o1.form;have R1:=qA o1.rd;replace X:=qA (X.below b1);replace Y:=qA (Y.below b1);have BC:=qA b1;have bk:(invL ys).length<=100000:=by rw[qJR];exact hy
 clear o1 b1;go_wp2_with fail;refine(qAF _ _ (invL ys) xs w1 R1 X tO tO).mono ?_
 rintro e w2 ⟨r2,rfl,o2,b2⟩;obtain⟨A2,c2,rfl,-⟩:=o2.form;have R2:=qA o2.rd;replace Y:=qA (Y.below b2);replace BC:=qA (BC.trans (b2.mono BC.size));have ud:(redL [] (invL ys++xs)).length<=200000:=by
  have:=qBQ [] (invL ys++xs)
  simp only[zah,zaI] at this;omega
 clear o2 b2 R1 X;go_wp2_with fail;refine(qAF _ _ (redL [] (invL ys++xs)) ys w2 R2 Y tO tO).mono ?_
 rintro e w3 ⟨r3,rfl,o3,b3⟩;obtain⟨A3,c3,rfl,-⟩:=o3.form;have R3:=qA o3;have hs:=BC.o.size;replace BC:=qA (BC.trans (b3.mono BC.size));clear o3 b3;go_wp2;go_ret;exact⟨_,rfl,R3.mono hs,BC⟩
theorem qGB (v vw:Wh) (g:GrD) (ws:List Int) (w:Wg) (h:ArgG w v g) (hw:RdI w vw ws) (hc:qS g=true) (hl:ws.length<=536870912):
  Wk Tryz.prog 26 #[v,vw] w fun e w'=>e= .returned (.bool (decide (qQ g.2.2 0 (redL [] ws)=0)))/\Wf w w w':=by
 have HG:=qA h;have HW:=qA hw;have yO:=qA (fun W (h:ArgG W v g)=>qr v g W h);rw[hc] at yO;have lm:=qA (fun W u (h:ArgG W v g) (h':RdI W u (redL [] ws))=>qMt v u g (redL [] ws) W h h' (qEd hc));have yk:=qA (fun W (h:RdI W vw ws)=>qDu vw ws W h hl);generalize redL [] ws=x at*;generalize decide (qQ g.2.2 0 x=0)=o at*;obtain⟨s,rfl,aN,aQ,ha⟩:=h;obtain⟨A,cap,rfl⟩:=ha.form;obtain⟨Aw,cw,rfl,_⟩:=hw.arg;clear ha hc hw;go_enter Tryz.func26,Tryz.ntmps26
 have bx:Wf w w (w.alloc (.cells #[.int .i64 g.1,.int .i64 g.2.1, .slice A g.2.2.length cap] 26)):=(zad _ _).alloc (zae _) _;have XB:=qA (CBx.new (w:=w) (W:=w.alloc (.cells #[.int .i64 g.1,.int .i64 g.2.1, .slice A g.2.2.length cap] 26)) rfl).1;have BX:=qA bx;clear bx;go_wp2_with fail;generalize w.alloc (.cells #[.int .i64 g.1,.int .i64 g.2.1, .slice A g.2.2.length cap] 26)=W at*;obtain⟨u0,u1,u2⟩:=XB.o.cs;have BD:=qA BX.o.drew;have XD:=qA (XB.below (zad W W).drew);go_region_held3 (fun w'=>w'.cell? ⟨w,0,none⟩=some (.int .i64 g.1)/\w'.cell? ⟨w,1,none⟩=some (.int .i64 g.2.1)/\w'.cell? ⟨w,2,none⟩=some (.slice A g.2.2.length cap))
  (first | go_keep | exact⟨q0,q1,q2⟩)
  (first
   | (go_at_call 93;(with_reducible refine(yO.o _ (HG.o.below BD.o)).mono ?_);rintro e w2 ⟨rfl,b2⟩;have B2:=qA (BD.o.trans (b2.mono BD.o.size));have X2:=qA (XD.o.below b2);obtain⟨q0,q1,q2⟩:=X2.o.cs;clear b2 XD BD)
   | (go_at_call 109;(with_reducible refine(yk.o _ (HW.o.below B2.o)).mono ?_);rintro e w3 ⟨r3,rfl,o3,b3⟩;have B3:=qA (B2.o.trans (b3.mono B2.o.size));have X3:=qA (X2.o.below b3);have R3:=qA o3.rd;obtain⟨q0,q1,q2⟩:=X3.o.cs;clear b3 o3 X2 B2)
   | (go_at_call 108;(with_reducible refine(lm.o _ _ (HG.o.below B3.o) R3.o).mono ?_);rintro e w4 ⟨rfl,b4⟩;have B4:=qA (B3.o.trans (b4.mono B3.o.size));have X4:=qA (X3.o.below b4);obtain⟨q0,q1,q2⟩:=X4.o.cs;clear b4 X3 B3))
 go_wp2;exact Wj (v:= .bool o) (by simp[results,Tryz.results26,go_sem]) rfl ⟨rfl,B4⟩
theorem qMn {w:List Int} (h:redP w):redL [] w=w:=by
 have:=qNg (acc:= []) (xs:=w) (by simpa using h)
 simpa using this
theorem qMc {w:List Int} (h:redP w) (hw: ∀y∈w,Lt3 y) (h0:w≠ []):qGC w≠ []:=fun e=>by
 have hl:=qEx w;rw[e] at hl;have fN:=qDr w;have hp:0<w.length:=zaB.2 h0;simp only[zaI] at hl;have h1:=qGy (c:=w) w.length 0 (fun i hi=>tO) (qAK w-1) (show qAK w-1<qBl w w.length 0 by show qAK w-1<qAK w;omega);have h2:=h (qAK w-1) tO;rw[show w.length-1-(qAK w-1)=qAK w-1+1 by omega] at h1;rw[h1] at h2;cases h2
section
variable {g:GrD} (hg:grB g=true) (hf:Fol g.2.2)
include hg
theorem qKu {w:List Int} (hn:NoB w) {v:Int} (hv:0<=v/\v<g.2.1) {u:Int} (hu:0<=u):qQ g.2.2 v w=u↔runS g.2.2 (v,[]) w=(u,[]):=by
 constructor
 ·intro e;rw[qBd tO,e]
 ·intro e;rcases Int.lt_or_le (qQ g.2.2 v w) 0 with q | q
  ·have:=qEt hg hn hv q
   rw[e] at this;exact absurd rfl this
  ·rw[qBd q] at e;injection e
omit hg in
theorem qPA {c:List Int} (hc:c≠ []): ∀k,1<=k->(repW c k).getLast? =c.getLast?
 | k+1,_=>by
   show(repW c k++c).getLast? =_
   rw[List.getLast?_append];cases h:c.getLast? with
   | none=>exact absurd (List.getLast?_eq_none_iff.1 h) hc
   | some z=>rfl
omit hg in
theorem qNq {c:List Int} (hc:cycP c) (hw: ∀y∈c,Lt3 y) (hn:NoB c) (h0:c≠ []): ∀k,NoB (repW c k)
 | 0=>trivial
 | k+1=>by
   show NoB (repW c k++c)
   refine NoB.app (qNq hc hw hn h0 k) hn fun x hx y hy e=> ?_;rcases Nat.eq_zero_or_pos k with q | q
   ·subst q;simp[repW] at hx
   ·rw[qPA h0 k q] at hx;have hp:0<c.length:=zaB.2 h0;have ex:x=c.getD (c.length-1) 0:=by
     rw[List.getLast?_eq_getElem?] at hx;rw[zat,show c[c.length-1]? =some x from hx];rfl
    have ey:y=c.getD 0 0:=by
     rw[List.head?_eq_getElem?] at hy;rw[zat,show c[0]? =some y from hy];rfl
    have oQ:Lt3 x:=hw x (List.mem_of_getLast? hx);have EU:Lt3 y:=hw y (List.mem_of_head? hy);rcases zay c.length 2 with z | z
    ·have:x=y:=by rw[ex,ey];congr 1;omega
     have h1:=oQ.2.2;omega
    ·have h1:=hc.2 z;rw[<-ey,<-ex] at h1;have h2:invB y x=true:=(Lt3.inv EU).2 tO;rw[h1] at h2;cases h2
include hf
end
theorem qGA (v vw:Wh) (g:GrD) (ws:List Int) (w:Wg) (h:ArgG w v g) (hw:RdI w vw ws) (hc:qS g=true) (hl:ws.length<=536870912):
  Wk Tryz.prog 31 #[v,vw] w fun e w'=>e= .returned (.bool (decide (qQ g.2.2 0 (redL [] ws)=0)))/\Wf w w w':=by
 have HG:=qA h;have HW:=qA hw;have ar:=(qD (qBz hc)).2.1;have yO:=qA (fun W (h:ArgG W v g)=>qY v g W h);rw[hc] at yO;have yk:=qA (fun W (h:RdI W vw ws)=>qAY vw ws W h tO);have Um:=qA (fun W u (h:ArgG W v g) (h':RdI W u (redL [] ws))=>qFr v u g 0 (redL [] ws) W h h' (qEd hc) tO);obtain⟨s,rfl,aN,aQ,ha⟩:=h;obtain⟨A,cap,rfl⟩:=ha.form;obtain⟨Aw,cw,rfl,_⟩:=hw.arg;obtain⟨g1,N,es⟩:=g;simp only at*
 generalize redL [] ws=x at*;generalize qQ es 0 x=k at*;clear ha hc hw ar;go_enter Tryz.func31,Tryz.ntmps31
 go_wp2_with fail;obtain⟨W,hW⟩: ∃W,W=w.alloc (.cells #[.int .i64 g1,.int .i64 N, .slice A es.length cap] 26):=⟨_,rfl⟩;rw[<-hW];obtain⟨xb,b0,s0⟩:=CBx.new hW;clear hW;have XB:=qA xb;have B0:=qA b0;clear xb b0;refine qAj [.val (.agg #[.int .i64 g1, .int .i64 N, .slice A es.length cap]), .val (.slice Aw ws.length cw), .mem (fun _ W v=> ∃A c,v= .slice A x.length c/\RdI W v x), .val (.tuple #[.int .i64 k, .bool (decide (0<=k))]), .val (.tuple #[.int .i64 k, .bool (decide (0<=k))]), .val (.int .i64 k), .val (.bool (decide (0<=k))), .val (.int .i64 k), .val (.bool (decide (0<=k)))]
  [none,none,some (fun W W'=>Wf W.heap.size W W'),some (fun W W'=>Wf W.heap.size W W'),none,none,none,none,none] (fun W'=>Wf W.heap.size W W') [(2,3)] tK tK (by rfl) (by rfl)
  (zad _ _).drew ⟨fun _ _ h t=>h.trans (t.mono h.size),fun _ _ h t=>h.trans (t.mono h.size),trivial⟩
  ⟨fun _ _ _ _ _ _ t h=>by obtain⟨A,c,e,h⟩:=h;exact⟨A,c,e,h.below t⟩,trivial⟩ (fun vs=> ?_)
 refine⟨fun W' _ _ hI hD hK=> ?_,?_⟩
 ·obtain⟨z0,z1,z2⟩:=(XB.below hI).cs;go_simp;exact hK.o _ _ rfl rfl
 simp only[zaf,zaa,zab,zac,Sg.pick,Nat.reduceAdd];refine⟨fun W' _ _ hI hD hK=> ?_,?_⟩
 ·skip;go_simp;exact hK.o _ _ rfl rfl
 simp only[zaf,zaa,zab,zac,Sg.pick,Nat.reduceAdd];refine⟨fun W' _ _ hI hD hK=> ?_,?_⟩
 ·skip;go_simp;refine(yk _ (HW.below (B0.trans (hI.mono tO)))).mono ?_;rintro e w' ⟨r,rfl,o,b⟩;obtain⟨A',c',rfl,_⟩:=o.form;exact hK.o _ _ b ⟨A',c',rfl,o.rd⟩
 simp only[zaf,zaa,zab,zac,Sg.pick,Nat.reduceAdd];refine⟨fun W' _ _ hI hD hK=> ?_,?_⟩
 ·obtain⟨A',c',e2,r2⟩:=(show ∃A c,vs 2= .slice A x.length c/\RdI W' (vs 2) x from hD.o 2 tK);rw[e2] at hK r2⊢;go_simp;refine(Um _ _ (HG.below (B0.trans (hI.mono tO))) r2).mono ?_;rintro e w' ⟨rfl,b⟩;exact hK.o _ _ b rfl
 simp only[zaf,zaa,zab,zac,Sg.pick,Nat.reduceAdd]
 iterate 5
  refine⟨fun W' _ _ hI hD hK=> ?_,?_⟩
  ·skip;go_simp;exact hK.o _ _ rfl rfl
  simp only[zaf,zaa,zab,zac,Sg.pick,Nat.reduceAdd]
 intro W9 hI9 hD9;have I9:=qA hI9.o;have X9:=qA (XB.below hI9);have B9:=qA (B0.trans (hI9.mono tO));clear hI9 hD9 XB;obtain⟨u0,u1,u2⟩:=X9.o.cs;by_cases hk:0<=k
 ·have zD:decide (0<=k)=true:=decide_eq_true hk;go_wp2_with fail;refine(yO _ (HG.below B9)).mono ?_
  rintro e w3 ⟨rfl,b3⟩;have B3:=qA (B9.trans (b3.mono B9.size));clear b3;by_cases l5:k=0
  ·subst l5;go_wp2;exact Wj (v:= .bool true) (by simp[results,Tryz.results31,go_sem]) rfl ⟨rfl,B3⟩
  ·go_wp2;exact Wj (v:= .bool false) (by simp[results,Tryz.results31,go_sem,l5]) rfl ⟨by rw[decide_eq_false l5],B3.o⟩
 ·have zD:decide (0<=k)=false:=decide_eq_false hk;have l5: ¬k=0:=tO;go_wp2_with fail;refine(yO _ (HG.below B9)).mono ?_
  rintro e w3 ⟨rfl,b3⟩;have B3:=qA (B9.trans (b3.mono B9.size));clear b3;go_wp2;exact Wj (v:= .bool false) (by simp[results,Tryz.results31,go_sem]) rfl ⟨by rw[decide_eq_false l5],B3.o⟩
theorem qGh (v y:Wh) (g:GrD) (a b:Int) (t:List Int) (w:Wg) (h:ArgG w v g) (ht:RdI w y t) (hg:grB g=true) (ha:0<=a/\a<g.2.1) (hb:0<=b/\b<g.2.1) (hw:qAG g.1 t=true) (h0:t.length≠0) (hl:t.length<=1073741824):
  Wk Tryz.prog 241 #[v, .int .i64 a,y, .int .i64 b] w fun x w'=> ∃r,x= .returned (.tuple #[r, .bool (qBF g t)])/\OwG w' w r (if qBF g t=true then addG g a b t else g)/\Wf w w w':=by
 have HG:=qA h;have HY:=qA ht;have aK:=qA hg;have HW:=qA hw;have HA:=qA ha;have sM:=qA hb;obtain⟨jB,bn,a7,_⟩:=qD hg;obtain⟨s,rfl,aN,aQ,cj⟩:=h;obtain⟨A,cap,rfl⟩:=cj.form;obtain⟨T,tc,rfl,_⟩:=ht.arg;obtain⟨g1,N,es⟩:=g;simp only at*
 clear cj hg hw ha hb;obtain⟨OK,vJ⟩: ∃o,o=qBF (g1,N,es) t:=⟨_,rfl⟩;rw[<-vJ];obtain⟨RES,lE⟩: ∃R,R=(if OK=true then addG (g1,N,es) a b t else(g1,N,es)):=⟨_,rfl⟩;rw[<-lE];have bH:=qA vJ;have kT:=qA lE;clear lE vJ;go_enter Tryz.func241,Tryz.ntmps241
 go_wp2_with fail;obtain⟨W1,aq⟩: ∃W,W=w.alloc (.cells #[.int .i64 g1,.int .i64 N, .slice A es.length cap] 26):=⟨_,rfl⟩;rw[<-aq];obtain⟨aE,b1,aJ,_⟩:=gbox aq;obtain⟨W,hW⟩: ∃W,W=W1.alloc (.cells #[.int .i64 0,.int .i64 0, .slice none 0 0] 26):=⟨_,rfl⟩;rw[<-hW];obtain⟨dQ,b2,dp,db⟩:=gbox hW;have aH:W.heap.size=w.heap.size+2:=tO;have fE:=qA aJ;have io:=qA dp;have jf:=qA db;have uR:=qA b1;have kA:=qA b2;have BX:Wi (Wf w w W):=qA (b1.trans (b2.mono tO));have aW:Wi (∀w',Wf (w.heap.size+2) W w'->w'.cell? ⟨w,0,none⟩=some (.int .i64 g1)/\w'.cell? ⟨w,1,none⟩=some (.int .i64 N)/\w'.cell? ⟨w,2,none⟩=some (.slice A es.length cap)):=qA fun w' hb=>fE.o w' ((kA.mono tO).trans (hb.mono tO));have kM:Wi (∀w',Wf (w.heap.size+2) W w'->(w'.cell? ⟨w.heap.size+1,0,none⟩=some (.int .i64 0)/\w'.cell? ⟨w.heap.size+1,1,none⟩=some (.int .i64 0)/\w'.cell? ⟨w.heap.size+1,2,none⟩=some (.slice none 0 0))/\ ∀j,w'.frozen? ⟨w.heap.size+1,j,none⟩=false):=qA fun w' hb=>by
  have e:Wf (W1.heap.size+1) W w':=hb.mono tO;have h1:=io.o w' e;have h2:=fun j=>jf.o j w' e;rw[aE] at h1 h2;exact⟨h1,h2⟩
 have oR:Wi (∀w',Wf (w.heap.size+2) W w'->ArgG w' (.agg #[.int .i64 g1, .int .i64 N, .slice A es.length cap]) (g1,N,es)):=qA fun w' hb=>HG.o.below (BX.trans (hb.mono tO));have iF:Wi (∀w',Wf (w.heap.size+2) W w'->RdI w' (.slice T t.length tc) t):=qA fun w' hb=>HY.o.below (BX.trans (hb.mono tO));clear aq hW aJ dp db b1 b2 fE io jf uR kA aE dQ;obtain⟨q0,q1,q2⟩:=aW.o W ((zad W W).mono tO);refine(xP10 _ (.inr ⟨rfl,xPb⟩) _ (g1,N,es) W (oR W ((zad W W).mono tO)) (by simp only;omega)).mono ?_
 clear q0 q1 q2;rintro e w5 ⟨r,rfl,o5,b5⟩;have fg:=b5.size;have B5:Wi (Wf (w.heap.size+2) W w5):=qA (b5.mono tO);obtain⟨s1,rfl,_,_,bF⟩:=o5;obtain⟨A1,c1,rfl,_⟩:=bF.form;simp only at*
 clear b5;have mk:Wf w5 w5 (w5.alloc (.cells #[.int .i64 g1,.int .i64 N, .slice A1 es.length c1] 26)):=(zad _ _).alloc (zae _) _;obtain⟨q0,q1,q2⟩:=aW.o _ (B5.trans (mk.mono tO));clear mk;go_wp2_with fail;clear q0 q1 q2;obtain⟨W6,cH⟩: ∃W,W=w5.alloc (.cells #[.int .i64 g1,.int .i64 N, .slice A1 es.length c1] 26):=⟨_,rfl⟩;have iU:=qA (GBx.new (m:=(g1,N,es)) bF aN aQ cH);obtain⟨eU,b6,_,_⟩:=gbox cH;rw[<-cH];have B6:Wi (Wf (w.heap.size+2) W W6):=qA (B5.trans (b6.mono tO));clear cH b6 bF;obtain⟨p,hp⟩: ∃p,p=w5.heap.size:=⟨_,rfl⟩;rw[<-hp] at iU⊢;have rp:w.heap.size+2<=p:=tO;have Gw:p<W6.heap.size:=tO;clear hp eU fg;have fC:=qA (qAf _ (g1,N,es) W6 (oR W6 B6));rw[aK.o] at fC;refine fC.o.mono ?_;clear fC;rintro e w7 ⟨rfl,b7⟩;have B7:=qA (B6.trans (b7.mono (by have:=B6.o.size;omega)));have fD:=qA (iU.below b7);clear b7;have E1:inB a 0 (wrap64 (N-1))=true:=by rw[IntWalk.wrap64_in _ ⟨tO,tO⟩];unfold inB;simp;have:=HA.o;omega
 have E2:inB b 0 (wrap64 (N-1))=true:=by rw[IntWalk.wrap64_in _ ⟨tO,tO⟩];unfold inB;simp;have:=sM.o;omega
 have zu:=qA E1;have zS:=qA E2;clear E1 E2;obtain⟨q0,q1,q2⟩:=aW.o w7 B7.o;go_wp2_with fail;clear q0 q1 q2;refine(qBH g1 N A es.length cap a w7).mono ?_
 rintro e wa ⟨rfl,ba⟩;rw[zu.o];have FE:=qA (B7.trans (ba.mono (by have:=B7.o.size;omega)));have DR:=qA (fD.below ba);clear ba;obtain⟨q0,q1,q2⟩:=aW.o wa FE.o;go_wp2_with fail;clear q0 q1 q2;refine(qBH g1 N A es.length cap b wa).mono ?_
 rintro e wb ⟨rfl,bb⟩;rw[zS.o];have FD:=qA (FE.trans (bb.mono (by have:=FE.o.size;omega)));have BV:=qA (DR.below bb);clear bb;obtain⟨q0,q1,q2⟩:=aW.o wb FD.o;have Bb:((t.length:Int)==0)=false:=beq_eq_false_iff_ne.2 tO;have Dx: ¬t= []:=fun q=>h0 (by rw[q];rfl);have pD: ¬(t.length:Int)=0:=tO;have EW:=qA (qEP g1 _ t wb (iF wb FD).arg tO);rw[HW.o] at EW;go_wp2_with fail;refine EW.o.mono ?_;clear EW q0 q1 q2 Bb Dx pD;rintro e w8 ⟨rfl,lO⟩;obtain⟨B8,dN⟩:Wi (Wf (w.heap.size+2) W w8)/\Wi (GBx w8 p W A1 c1 (g1,N,es)):=by subst lO;exact⟨FD,BV⟩
 clear lO FD BV FE DR B7 fD;obtain⟨q0,q1,q2⟩:=aW.o w8 B8.o;obtain⟨z0,z1,z2⟩:=dN.o.cs;simp only at z0 z1 z2
 obtain⟨⟨r0,r1,r2⟩,eM⟩:=kM.o w8 B8.o;have fh:=eM 0;have fu:=eM 1;have fd:=eM 2;have pD: ¬(t.length:Int)=0:=tO;have Dx: ¬t= []:=fun q=>h0 (by rw[q];rfl);clear eM;by_cases hA:N+t.length-1<=40
 ·by_cases hE:(es.length:Int)+t.length<=120
  ·have af:qBF (g1,N,es) t=true:=decide_eq_true ⟨hA,hE⟩;have HK:Wi (OK=true/\RES=addG (g1,N,es) a b t):=qA (by have:=bH.o.trans af;exact⟨this,by rw[kT.o,this];rfl⟩);clear af;obtain⟨n,rfl⟩: ∃n:Nat,N=(n:Int):=⟨N.toNat,tO⟩;have nZ:srt cmpE es=es:=qLL (qHe aK);have mC:=qA nZ;clear nZ;have Bb:((t.length:Int)==0)=false:=beq_eq_false_iff_ne.2 pD;have rD: ¬40<(n:Int)+t.length-1:=tO;have Jw: ¬120<(es.length:Int)+t.length:=tO;go_wp2_with fail;clear q0 q1 q2 r0 r1 r2 fh fu fd z0 z1 z2 pD Dx Bb rD Jw;go_loopw [11,66] (fun q i wr=> ∃(k:Nat) (L:List EdD) (A2:Option Addr) (c2:Nat),k<=t.length/\i= .int .i64 k/\q= .int .i64 (atP n t.length a b k)/\Wi (L=es++pthL n a b t k)/\L.length=es.length+k/\GBx wr p (w.heap.size+2) A2 c2 (g1,((szP n t.length k:Nat):Int),L)/\Wf (w.heap.size+2) W wr) (fun _ i _=>t.length-(intOf i).toNat)
   case atStart=>
    refine⟨0,es,A1,c1,Nat.zero_le _,rfl,rfl,qA ?_,rfl,?_,B8⟩
    ·show es=es++ []
     rw[List.append_nil]
    ·exact dN.o.mono tO
   case round=>
    obtain⟨k,L,A2,c2,hk,rfl,rfl,hL,oq,dg,bJ⟩:=hrel;obtain⟨wk,rfl⟩: ∃wk:Wg,wk=wr:=⟨_,rfl⟩;have aS:=qA dg;have fl:=qA bJ;have iq:=dg.lt;obtain⟨z0,z1,z2⟩:=dg.cs;have ig:=dg.fz 1;have gI:=dg.fz 2;simp only at z0 z1 z2
    clear dg bJ;rcases zay k t.length with ac | uy
    ·have nj:=qCO HW.o k ac;obtain⟨bt,off,rfl,Cf,no⟩:=HY.o.at tO;have Fo:Wi (∀W',Wf (w.heap.size+2) W W'->W'.cell? ⟨bt,off+k,none⟩=some (.int .i64 t[k])):=qA fun W' hb=>((BX.trans (hb.mono tO)).cell (p:=⟨bt,off+k,none⟩) Cf).trans (no k ac);have cz:=Fo.o wk fl.o;have jW:Wi (pthL n a b t (k+1)=pthL n a b t k++ [stpE (atP n t.length a b k) t[k] (nxP n t.length b k)]):=qA (by rw[qJn];unfold pthE;rw[qAx ac]);have Ex:=qJX (N:=n) (len:=t.length) (j:=k) HA.o sM.o;have Fm:=qJb (N:=n) (len:=t.length) (j:=k) sM.o;have mX:=qA (qLU (N:=n) ac);have Jt:=qA (fun q=>qPc (N:=n) (len:=t.length) (j:=k) q);have dJ:Wi (nxP n t.length b k=if k+1<t.length then((n+k:Nat):Int) else b):=qA rfl;have vF:Wi (atP n t.length a b (k+1)=nxP n t.length b k):=qA rfl;generalize t[k]=z at*;generalize atP n t.length a b k=q at*;generalize nxP n t.length b k=m at*;have Ag: -3<=z/\z<=3:=tO;obtain⟨e1,e2,e3,Je⟩: ∃e1 e2 e3,stE q z m=(e1,e2,e3):=⟨_,_,_,rfl⟩;have vU:Wi (stpE q z m=(e1,e2,e3)):=qA (by rw[<-Je];unfold stpE stE;by_cases hh:0<z;rw[Wm hh,Wn tO];rw[Wn hh,Wm tO]);have ce:Wi (E64 (e1,e2,e3)):=qA (by rw[<-vU.o];unfold stpE;split<;>exact⟨⟨by simp only;omega,by simp only;omega⟩,⟨by simp only;omega,by simp only;omega⟩,⟨by simp only;omega,by simp only;omega⟩⟩);have Pr:Wi (∀m',m'=m->edV (stE q z m')= .agg #[.int .i64 e1, .int .i64 e2, .int .i64 e3]):=qA fun m' e=>by rw[e,Je];rfl
     have HL:Wi (L++ [(e1,e2,e3)]=es++pthL n a b t (k+1)):=qA (by rw[jW.o,<-List.append_assoc,vU.o,hL.o]);clear no jW Je;generalize aE:szP n t.length k=S1 at*;have PV:S1<=n+24:=by rw[<-aE];unfold szP;have:=qDt HW.o;omega
     clear aE;have JP:=qDt HW.o;obtain⟨S2,rE⟩: ∃S,S=szP n t.length (k+1):=⟨_,rfl⟩;rw[<-rE] at mX;have nC:=qA rE;clear rE;have Af:IntKind.i64.wrap ((S1:Int)+1)=(S1:Int)+1:=by rw[IntKind.wrap_i64];omega
     have Qt:IntKind.i64.wrap ((t.length:Int)-1)=(t.length:Int)-1:=by rw[IntKind.wrap_i64];omega
     have Km:L.length<=1073741824:=tO;have oY:=qA oq;have Ct:=qA hk;have Sy:=qA Ag;have Dy:I64 ((S2:Nat):Int):=by
      have:S2<=S1+1:=by rw[mX.o];split<;>omega
      exact⟨tO,tO⟩
     have kS:=qA Dy;clear hL oq nj Ex Fm Dy Ag;have th:Wi ((k+1<t.length->(k:Int)<(t.length:Int)-1)/\(¬k+1<t.length-> ¬(k:Int)<(t.length:Int)-1)):=qA ⟨fun _=>tO,fun _=>tO⟩;by_cases h1:k+1<t.length
     all_goals
      have uQ:=qA h1;first | (have Ll:=th.o.1 h1) | (have Ll:=th.o.2 h1)
      go_wp2_with fail;have l5:=Ct.o;first
       | (have kE:k+1<t.length:=uQ.o
          obtain⟨wn,nt⟩: ∃W,W=wk.setCell ⟨p,1,none⟩ (.int .i64 ((S1:Int)+1)):=⟨_,rfl⟩;rw[<-nt];have HM:Wi (m=(S1:Int)):=qA (by rw[dJ.o,Wm kE];have:=Jt.o kE;omega);have GBN:Wi (GBx wn p (w.heap.size+2) A2 c2 (g1,((S2:Nat):Int),L)):=qA (by
           have e:(S2:Int)=(S1:Int)+1:=by rw[mX.o,Wm kE];rfl
           have hi:=kS.o;rw[e] at hi;rw[nt,e];exact aS.o.sz hi)
          have BN:Wi (Wf (w.heap.size+2) W wn):=qA (by rw[nt];exact fl.o.setCell rp _);clear nt)
       | (have kE: ¬k+1<t.length:=uQ.o
          obtain⟨wn,rfl⟩: ∃W,W=wk:=⟨_,rfl⟩;have HM:Wi (m=b):=qA (by rw[dJ.o,Wn kE]);have GBN:Wi (GBx wn p (w.heap.size+2) A2 c2 (g1,((S2:Nat):Int),L)):=qA (by rw[show S2=S1 by rw[mX.o,Wn kE]];exact aS.o);have BN:Wi (Wf (w.heap.size+2) W wn):=qA fl.o)
      clear h1 l5 z0 z1 z2 cz ig gI iq Ll;have z2:=GBN.o.c2;simp only at z2
      have km:=GBN.o.lt;refine qCf (n:=9) (S:=fun w'=>w'.cell? ⟨p,2,none⟩=some (.slice A2 L.length c2)) tK (by rfl) z2 (fun hHeld=> ?_);(refine qL (n:=9) (i:=0) (v:= ?_) rfl tK rfl tD tK tK tK tK (fun _ _ _ h=>h) (Or.inl ⟨by rfl,?_⟩) (by assumption) ?_;rotate_left;focus (intro ww an;(try dsimp only at an);go_simp;try with_reducible rfl);(try simp only[zaf,zaa,zab,zac]));(refine qL (n:=9) (i:=1) (v:= ?_) rfl tK rfl tD tK tK tK tK (fun _ _ _ h=>h) (Or.inl ⟨by rfl,?_⟩) (by assumption) ?_;rotate_left;focus (intro ww an;(try dsimp only at an);go_simp;try with_reducible rfl);(try simp only[zaf,zaa,zab,zac]));(refine qL (n:=9) (i:=2) (v:= ?_) rfl tK rfl tD tK tK tK tK (fun _ _ _ h=>h) (Or.inl ⟨by rfl,?_⟩) (by assumption) ?_;rotate_left;focus (intro ww an;(try dsimp only at an);go_simp;try with_reducible rfl);(try simp only[zaf,zaa,zab,zac]));(refine qL (n:=9) (i:=3) (v:= ?_) rfl tK rfl tD tK tK tK tK (fun _ _ _ h=>h) (Or.inl ⟨by rfl,?_⟩) (by assumption) ?_;rotate_left;focus (intro ww an;(try dsimp only at an);go_simp;try with_reducible rfl);(try simp only[zaf,zaa,zab,zac]));(refine qL (n:=9) (i:=4) (v:= ?_) rfl tK rfl tD tK tK tK tK (fun _ _ _ h=>h) (Or.inl ⟨by rfl,?_⟩) (by assumption) ?_;rotate_left;focus (intro ww an;(try dsimp only at an);go_simp;try with_reducible rfl);(try simp only[zaf,zaa,zab,zac]))
      refine qAU (i:=5) tK rfl fun K' hK=> ?_;go_simp;refine(qGX _ _ _ _ Sy).mono ?_
      rintro e cG ⟨rfl,ec⟩;rw[Pr.o _ HM.o.symm];have oM:wn.heap.size<=cG.heap.size:=ec.size;have jO:Wf wn wn cG:=(zad _ _).drew.trans ec;clear ec;have tp:cG.cell? ⟨p,2,none⟩=some (.slice A2 L.length c2):=(jO.cell (p:=⟨p,2,none⟩) km).trans z2;refine hK.o _ _ tp (fun _=> ?_);clear hK hHeld;refine qAU (i:=6) tK rfl fun K' hK=> ?_;go_simp;have pI:Wf cG cG (cG.alloc (.cells #[.int .i64 e1,.int .i64 e2,.int .i64 e3] 97)):=(zad _ _).alloc (zae _) _;have nE: ∀j u,(edC (e1,e2,e3))[j]? =some u->(cG.alloc (.cells #[.int .i64 e1,.int .i64 e2,.int .i64 e3] 97)).cell? ⟨cG,j,none⟩=some u:=fun j u hj=>by
       rcases j with _ | _ | _ | j<;>simp[edC] at hj<;>subst hj<;>simp[go_sem]
      have sV:(cG.alloc (.cells #[.int .i64 e1,.int .i64 e2,.int .i64 e3] 97)).heap.size=cG.heap.size+1:=tZ;have n7:(cG.alloc (.cells #[.int .i64 e1,.int .i64 e2,.int .i64 e3] 97)).cell? ⟨p,2,none⟩=some (.slice A2 L.length c2):=(pI.cell (p:=⟨p,2,none⟩) tB).trans tp;refine hK.o _ _ n7 (fun _=> ?_);clear hK;generalize cG.alloc (.cells #[.int .i64 e1,.int .i64 e2,.int .i64 e3] 97)=V at pI nE sV n7⊢;have bXV:Wf wn wn V:=jO.trans (pI.mono oM);have gE:=qA (GBN.o.below bXV);refine qAU (i:=7) tK rfl fun K' hK=> ?_;rw[Wm (by rfl)];refine qBs (.tmp 84) (.tmp 89) rfl (w.heap.size+2) _ L gE.o.ow rfl cG (e1,e2,e3) rfl nE ce.o Km tO ?_;intro v' w' o' g' p';obtain⟨jK,jF,rfl,_⟩:=OwE.form o';have xn:=qA o';have Na:=g'.size;clear o';have bD: ∀y,(zap A2 L.length c2).ownBlock=some y->y≠p/\w.heap.size+2<=y:=fun y hy=>⟨GBN.o.ne y hy,(GBN.o.ow.1.lt y hy).1⟩;have AA:w'.cell? ⟨p,2,none⟩=some (.slice A2 L.length c2):=(zam (w:=V) (g'.block p tO (fun e=>(bD p e.symm).1 rfl))).trans n7;refine hK.o _ _ AA (fun _=> ?_);clear hK;simp only[zaf,zaa,zab,zac];(refine qL (n:=9) (i:=8) (v:= ?_) rfl tK rfl tD tK tK tK tK (fun _ _ _ h=>h) (Or.inl ⟨by rfl,?_⟩) (by assumption) ?_;rotate_left;focus (intro ww an;(try dsimp only at an);go_simp;try with_reducible rfl);(try simp only[zaf,zaa,zab,zac]))
      have ki:=qA (fun j=>((zaA (w:=V) (g'.block p tO (fun e=>(bD p e.symm).1 rfl))).trans (gE.fz j):w'.frozen? ⟨p,j,none⟩=false));have qf:=ki.o 2;refine qDL (n:=9) tK rfl tK fun K' hK=> ?_;go_simp;refine hK.o _ _ ?_;clear hK;go_wp2;have Cg:p<V.heap.size:=by have:=bXV.size;omega
      have hC:CBx w' p (.int .i64 g1) (.int .i64 ((S2:Nat):Int)) (.slice A2 L.length c2):=by
       have hb:=g'.block p Cg (fun e=>(bD p e.symm).1 rfl);exact⟨(zam (w:=V) hb).trans gE.c0,(zam (w:=V) hb).trans gE.c1,(zam (w:=V) hb).trans gE.c2,fun j=>(zaA (w:=V) hb).trans (gE.fz j),tO⟩
      have a8:Wi (∀y,(zap jK (L++ [(e1,e2,e3)]).length jF).ownBlock=some y->y≠p):=qA fun y hy e=>by
       rcases p' with p' | p'
       ·exact(bD y (p'.symm.trans hy)).1 e
       ·rw[hy] at p';injection p' with p';omega
      go_roundw
      case rel=>
       exact⟨k+1,L++ [(e1,e2,e3)],jK,jF,by have:=Ct.o;omega,by go_num,by rw[vF.o,HM.o],qA HL.o,by rw[zah,oY.o];rfl,by rw[<-nC.o,show(zap jK (L.length+1) jF)= .slice jK (L++ [(e1,e2,e3)]).length jF by rw[zah];rfl];exact hC.put xn.o a8.o aS.o.i1 kS.o,((BN.trans (bXV.mono tO)).grown g' tO fun y hy=>(bD y hy).2).setCell rp _⟩
      case measure=>exact tM
    ·have Ga:k=t.length:=tO;subst Ga;clear ig;have oY:Wi (L.length<=1073741824):=qA tO;clear oq;go_wp2_with fail;refine(qDN _ _ _ aS.o.ow.arg oY).mono ?_
     rintro e' w9 ⟨r9,rfl,o9,b9⟩;have rg:=qA (aS.below b9);have B9:=qA (fl.trans (b9.mono tO));have lJ:=b9.size;obtain⟨A9,c9,rfl,_⟩:=o9.form;have O9:=qA o9;clear o9 b9 z0 z1 z2 gI;have mD:Wi (RES=(g1,((szP n t.length t.length:Nat):Int),srt cmpE L)):=qA (by
      rw[HK.o.2,hL.o];show(g1,(((n:Int).toNat+(t.length-1):Nat):Int),srt cmpE (es++pthL (n:Int).toNat a b t t.length))=_
      rw[zav,show szP n t.length t.length=n+(t.length-1) by unfold szP;omega])
     generalize srt cmpE L=M at O9 mD⊢;generalize szP n t.length t.length=S1 at*;have Hh:=qA (rg.o.put O9 fun y hy=>by have:=(O9.o.1.lt y hy).1;omega);have BP:Wi (Wf (w.heap.size+2) W (w9.setCell ⟨p,2,none⟩ (.slice A9 M.length c9))):=qA (B9.o.setCell rp _);obtain⟨⟨r0,r1,r2⟩,eM⟩:=kM.o w9 B9.o;have fh:=eM 0;have fu:=eM 1;have fd:=eM 2;obtain⟨z0,z1,z2⟩:=rg.o.cs;have gI:=rg.o.fz 2;simp only at z0 z1 z2
     have Bf:w.heap.size+1≠p:=tO;clear eM;go_wp2;clear r0 r1 r2 fh fu fd z0 z1 z2 gI;generalize w9.setCell ⟨p,2,none⟩ (.slice A9 M.length c9)=wz at Hh BP⊢;obtain⟨⟨r0,r1,r2⟩,_⟩:=kM.o wz BP.o;obtain⟨e0,e1,e2⟩:=qo (.int .i64 g1) (.int .i64 (S1:Int)) (.slice A9 M.length c9) r0 r1 r2;have bw:=qH (.int .i64 g1) (.int .i64 (S1:Int)) (.slice A9 M.length c9) (BX.trans (BP.mono tO)) (show w.heap.size<=w.heap.size+1 by omega);have ow:=Hh.o.ow.keep (w':=((wz.setCell ⟨w.heap.size+1,0,none⟩ (.int .i64 g1)).setCell ⟨w.heap.size+1,1,none⟩ (.int .i64 (S1:Int))).setCell ⟨w.heap.size+1,2,none⟩ (.slice A9 M.length c9)) fun y hy=>qI _ _ _ _ _ (by have h1:=(Hh.o.ow.1.lt y hy).1;omega);exact Wj (v:= .tuple #[.agg #[.int .i64 g1, .int .i64 (S1:Int), .slice A9 M.length c9], .bool true]) (by simp[results,Tryz.results241,go_sem,e0,e1,e2]) rfl ⟨_,by rw[HK.o.1],by rw[mD.o];exact⟨.slice A9 M.length c9,rfl,aN,rg.o.i2,ow.mono tO⟩,bw⟩
  ·have af:qBF (g1,N,es) t=false:=decide_eq_false fun q=>hE q.2;have HK:Wi (OK=false/\RES=(g1,N,es)):=qA (by have:=bH.o.trans af;exact⟨this,by rw[kT.o,this];rfl⟩);clear af;go_wp2;obtain⟨e0,e1,e2⟩:=qo (.int .i64 g1) (.int .i64 N) (.slice A1 es.length c1) r0 r1 r2;have bw:Wf w w (((w8.setCell ⟨w.heap.size+1,0,none⟩ (.int .i64 g1)).setCell ⟨w.heap.size+1,1,none⟩ (.int .i64 N)).setCell ⟨w.heap.size+1,2,none⟩ (.slice A1 es.length c1)):=qH _ _ _ (BX.trans (B8.mono tO)) tO;have ow:OwE (((w8.setCell ⟨w.heap.size+1,0,none⟩ (.int .i64 g1)).setCell ⟨w.heap.size+1,1,none⟩ (.int .i64 N)).setCell ⟨w.heap.size+1,2,none⟩ (.slice A1 es.length c1)) W (.slice A1 es.length c1) es:=dN.o.ow.keep fun b hb=>qI _ _ _ _ _ (by have:=(dN.o.ow.1.lt b hb).1;omega);exact Wj (v:= .tuple #[.agg #[.int .i64 g1, .int .i64 N, .slice A1 es.length c1], .bool false]) (by simp[results,Tryz.results241,go_sem,e0,e1,e2]) rfl ⟨_,by rw[HK.o.1],by rw[HK.o.2];exact⟨.slice A1 es.length c1,rfl,aN,aQ,ow.mono tO⟩,bw⟩
 ·have af:qBF (g1,N,es) t=false:=decide_eq_false fun q=>hA q.1;have HK:Wi (OK=false/\RES=(g1,N,es)):=qA (by have:=bH.o.trans af;exact⟨this,by rw[kT.o,this];rfl⟩);clear af;go_wp2;obtain⟨e0,e1,e2⟩:=qo (.int .i64 g1) (.int .i64 N) (.slice A1 es.length c1) r0 r1 r2;have bw:Wf w w (((w8.setCell ⟨w.heap.size+1,0,none⟩ (.int .i64 g1)).setCell ⟨w.heap.size+1,1,none⟩ (.int .i64 N)).setCell ⟨w.heap.size+1,2,none⟩ (.slice A1 es.length c1)):=qH _ _ _ (BX.trans (B8.mono tO)) tO;have ow:OwE (((w8.setCell ⟨w.heap.size+1,0,none⟩ (.int .i64 g1)).setCell ⟨w.heap.size+1,1,none⟩ (.int .i64 N)).setCell ⟨w.heap.size+1,2,none⟩ (.slice A1 es.length c1)) W (.slice A1 es.length c1) es:=dN.o.ow.keep fun b hb=>qI _ _ _ _ _ (by have:=(dN.o.ow.1.lt b hb).1;omega);exact Wj (v:= .tuple #[.agg #[.int .i64 g1, .int .i64 N, .slice A1 es.length c1], .bool false]) (by simp[results,Tryz.results241,go_sem,e0,e1,e2]) rfl ⟨_,by rw[HK.o.1],by rw[HK.o.2];exact⟨.slice A1 es.length c1,rfl,aN,aQ,ow.mono tO⟩,bw⟩
section
variable {g:GrD} {t:List Int}
theorem qIr (es:List EdD): ∀(w:List Int) (v:Int),0<=v->qQ es v (w.take (qX es v w).2)=(qX es v w).1/\0<=(qX es v w).1
 | [],v,hv=>⟨rfl,hv⟩
 | x::w,v,hv=>by
   unfold qX;by_cases h:qF es v x<0
   ·rw[Wm h];exact⟨rfl,hv⟩
   ·rw[Wn h];simp only[zaC];rw[qV,Wn h];exact qIr es w _ tO
theorem qBj (hg:grB g=true): ∀(w:List Int) (v:Int),0<=v/\v<g.2.1->0<=(qX g.2.2 v w).1/\(qX g.2.2 v w).1<g.2.1
 | [],v,hv=>hv
 | x::w,v,hv=>by
   unfold qX;by_cases h:qF g.2.2 v x<0
   ·rw[Wm h];exact hv
   ·rw[Wn h];exact qBj hg w _ (by rcases qR hg v x with q | q<;>omega)
theorem qGx (es:List EdD): ∀(w:List Int) (v:Int) (h:(qX es v w).2<w.length),qF es (qX es v w).1 w[(qX es v w).2]<0
 | [],v,h=>absurd h tZ
 | x::w,v,h=>by
   by_cases q:qF es v x<0
   ·have e:qX es v (x::w)=(v,0):=by unfold qX;rw[Wm q]
    simp only[e];exact q
   ·have e:qX es v (x::w)=((qX es (qF es v x) w).1,(qX es (qF es v x) w).2+1):=by rw[qX,Wn q]
    rw[e] at h;simp only[e];exact qGx es w _ (by simpa using h)
def qAz (g:GrD):GrD:=(g.1,g.2.1+1,g.2.2)
theorem qFV (hf:qO g=true) (h:g.2.1<40):qO (qAz g)=true:=by
 obtain⟨h1,h2⟩:=qE hf;obtain⟨k1,k2,k3,_⟩:=qD h1;unfold qO;rw[qEr (g:=qAz g) k1 (by show 1<=g.2.1+1/\g.2.1+1<=40;omega) k3 (show Srt cmpE g.2.2 from qHe h1) fun e he=>by have:=qM h1 he;show(0<=e.1/\e.1<g.2.1+1)/\(1<=e.2.1/\e.2.1<=g.1)/\(0<=e.2.2/\e.2.2<g.2.1+1);omega,zaO,decide_eq_true_eq];exact h2
theorem qPU (hf:qO g=true) (x:Int):qF g.2.2 g.2.1 x<0:=by
 rcases Int.lt_or_le (qF g.2.2 g.2.1 x) 0 with h | h
 ·exact h
 ·exfalso
  obtain⟨e,he,hm⟩:=qBf h;have hr:=qM (qE hf).1 he;unfold mt at hm;split at hm
  ·split at hm
   ·rename_i q;omega
   ·cases hm
  ·split at hm
   ·split at hm
    ·rename_i q;omega
    ·cases hm
   ·cases hm
def cjY (g:GrD) (t:List Int):GrD:=addG (qAz g) (qX g.2.2 0 t).1 g.2.1 (t.drop (qX g.2.2 0 t).2)
theorem qFM (hf:qO g=true) (hw:qAG g.1 t=true) (hn:(qX g.2.2 0 t).2<t.length) (bn:g.2.1<40) (af:qBF (qAz g) (t.drop (qX g.2.2 0 t).2)=true):qO (cjY g t)=true:=by
 have hg:=(qE hf).1;have hN:=(qD hg).2.1;have hr:=qBj hg t 0 tO;refine qOE (qFV hf bn) (by show _/\_<g.2.1+1;omega) (by show _/\_<g.2.1+1;omega) (qFX hw _) (by simp;omega) af ?_ (qPU hf _) (fun e=>tO);rw[List.getElem_drop];show qF g.2.2 _ _<0
 simpa using qGx g.2.2 t 0 hn
theorem qGW (h:0<=g.2.1):g.2.1<(cjY g t).2.1:=by
 show g.2.1<(((qAz g).2.1.toNat+((t.drop (qX g.2.2 0 t).2).length-1):Nat):Int)
 have:(qAz g).2.1=g.2.1+1:=rfl
 omega
def qBE (g:GrD) (t:List Int):GrD×Bool:=
 if qS g=true/\qAG g.1 t=true then
  (if(qX g.2.2 0 t).2=t.length then(movG g (qX g.2.2 0 t).1.toNat,true)
   else if g.2.1<40/\qBF (qAz g) (t.drop (qX g.2.2 0 t).2)=true then(movG (cjY g t) g.2.1.toNat,true) else((0,0,[]),false))
 else((0,0,[]),false)
def dclF (a b:GrD) (t:List Int):Int:=if(qBE b t).2=true/\(intF a (qBE b t).1).2=true then qHw (intF a (qBE b t).1).1 else-1
end
theorem CBx.fin {w wk:Wg} {B p base:Nat} {x y z a b s:Wh} {es:List EdD} (h:CBx wk p x y z) (hb:Wf B w wk) (hp:B<=p) (o:OwE wk base s es) (hn: ∀b,s.ownBlock=some b->b≠p):
  (((wk.setCell ⟨p,0,none⟩ a).setCell ⟨p,1,none⟩ b).setCell ⟨p,2,none⟩ s).cell? ⟨p,0,none⟩=some a/\(((wk.setCell ⟨p,0,none⟩ a).setCell ⟨p,1,none⟩ b).setCell ⟨p,2,none⟩ s).cell? ⟨p,1,none⟩=some b/\(((wk.setCell ⟨p,0,none⟩ a).setCell ⟨p,1,none⟩ b).setCell ⟨p,2,none⟩ s).cell? ⟨p,2,none⟩=some s/\
    Wf B w (((wk.setCell ⟨p,0,none⟩ a).setCell ⟨p,1,none⟩ b).setCell ⟨p,2,none⟩ s)/\OwE (((wk.setCell ⟨p,0,none⟩ a).setCell ⟨p,1,none⟩ b).setCell ⟨p,2,none⟩ s) base s es:=by
 obtain⟨e0,e1,e2⟩:=qo a b s h.c0 h.c1 h.c2;exact⟨e0,e1,e2,qH _ _ _ hb hp,o.keep fun y hy=>qI _ _ _ _ _ (hn y hy)⟩
theorem qHS (v vw:Wh) (g:GrD) (u:Int) (ws:List Int) (w:Wg) (h:ArgG w v g) (hw:RdI w vw ws) (hf:qO g=true) (hu:0<=u/\u<g.2.1):
  Wk Tryz.prog 180 #[v, .int .i64 u,vw] w fun e w'=>e= .returned (.int .i64 ((qX g.2.2 u ws).2:Nat))/\Wf w w w':=by
 have HG:=qA h;have HW:=qA hw;have HF:=qA hf;obtain⟨hg,aO⟩:=qE hf;have ONE:=qA (qAH aO);obtain⟨aF,aA,aD,_⟩:=qD hg;have NV:Wi (∀v x,qF g.2.2 v x= -1\/(0<=qF g.2.2 v x/\qF g.2.2 v x<g.2.1)):=qA fun v x=>qR hg v x;have cY:inB u 0 (wrap64 (g.2.1-1))=true:=by
  rw[IntWalk.wrap64_in _ ⟨tO,tO⟩];exact qm.2 ⟨hu.1,tO⟩
 have bC:IntKind.i64.wrap (g.2.1-1)=g.2.1-1:=by rw[IntKind.wrap_i64];omega
 have oh:inB u 0 (g.2.1-1)=true:=qm.2 ⟨hu.1,tO⟩;have sZ:=qA cY;have yo:=qA oh;obtain⟨s,rfl,aN,aQ,ha⟩:=h;obtain⟨A,cap,rfl⟩:=ha.form;obtain⟨Aw,capw,rfl,l8,Bj,_⟩:=hw.arg;unfold maxLen at Bj;clear hf hg aO ha hw cY oh;have HR:Wi ((qX g.2.2 u ws).2=0+(qX g.2.2 u (ws.drop 0)).2):=qA (by rw[List.drop_zero,Nat.zero_add]);generalize (qX g.2.2 u ws).2=R at*;go_enter Tryz.func180,Tryz.ntmps180
 go_wp2_with fail;have bx:Wf w w (w.alloc (.cells #[.int .i64 g.1,.int .i64 g.2.1, .slice A g.2.2.length cap] 26)):=(by repeat(first | exact .refl _ _ | (refine BxS ?_ _) | (refine qC ?_ _) | (refine Below.drew ?_) | (refine BxA ?_ _)));have l0:(w.alloc (.cells #[.int .i64 g.1,.int .i64 g.2.1, .slice A g.2.2.length cap] 26)).cell? ⟨w,0,none⟩=some (.int .i64 g.1):=by simp[go_sem]
 have l1:(w.alloc (.cells #[.int .i64 g.1,.int .i64 g.2.1, .slice A g.2.2.length cap] 26)).cell? ⟨w,1,none⟩=some (.int .i64 g.2.1):=by simp[go_sem]
 have l2:(w.alloc (.cells #[.int .i64 g.1,.int .i64 g.2.1, .slice A g.2.2.length cap] 26)).cell? ⟨w,2,none⟩=some (.slice A g.2.2.length cap):=by simp[go_sem]
 have sA:w.heap.size<(w.alloc (.cells #[.int .i64 g.1,.int .i64 g.2.1, .slice A g.2.2.length cap] 26)).heap.size:=tZ;generalize w.alloc (.cells #[.int .i64 g.1,.int .i64 g.2.1, .slice A g.2.2.length cap] 26)=W at bx l0 l1 l2 sA⊢;have BX:=qA bx;have HA:Wi (∀w',Wf W W w'->ArgG w' (.agg #[.int .i64 g.1, .int .i64 g.2.1, .slice A g.2.2.length cap]) g):=qA fun w' hb=>HG.o.below (BX.trans (hb.mono tO));have dW:=qj _ g W (HA _ (zad _ _));rw[HF.o] at dW;have gU:=qA dW;clear bx dW;refine gU.o.mono ?_;rintro e w1 ⟨rfl,b1⟩;have q0:=(b1.cell (p:=⟨w,0,none⟩) sA).trans l0;have q1:=(b1.cell (p:=⟨w,1,none⟩) sA).trans l1;have q2:=(b1.cell (p:=⟨w,2,none⟩) sA).trans l2;have BW:=qA b1;have L0:=qA l0;have L1:=qA l1;have L2:=qA l2;clear b1 gU l0 l1 l2;go_wp2_with fail;refine(qi _ _ _ _).mono ?_
 rintro e w2 ⟨rfl,rfl⟩;simp only[yo.o];go_wp2;go_loopw [1,7] (fun a i wr=> ∃(k:Nat) (u':Int),k<=ws.length/\i= .int .i64 k/\a= .int .i64 u'/\(0<=u'/\u'<g.2.1)/\R=k+(qX g.2.2 u' (ws.drop k)).2/\Wf W W wr) (fun _ i _=>ws.length-(intOf i).toNat)
 case atStart=>exact⟨0,u,Nat.zero_le _,rfl,rfl,hu,HR,BW⟩
 case round=>
  obtain⟨k,u',hk,rfl,rfl,DX,hR,ab⟩:=hrel;have HB:=qA ab;have pf:=qA hR;have hs:=ab.size;have q0:=(ab.cell (p:=⟨w,0,none⟩) sA).trans L0.o;have q1:=(ab.cell (p:=⟨w,1,none⟩) sA).trans L1.o;have q2:=(ab.cell (p:=⟨w,2,none⟩) sA).trans L2.o;have iX:w.heap.size<wr.heap.size:=tO;by_cases ac:k<ws.length
  ·have Ch:=qA (HW.below (BX.trans (ab.mono tO)));obtain⟨bw,offw,rfl,fv,jZ⟩:=Ch.o.at tO;have c0:=jZ k ac;have ST:=qA (qHa g.2.2 u' ws k ac);generalize ws[k]=x at c0 ST;have NX:=qA (NV u' x);have dJ:=qA (fun W' (h:ArgG W' (.agg #[.int .i64 g.1, .int .i64 g.2.1, .slice A g.2.2.length cap]) g)=>qe _ g u' x W' h (ONE u' x));clear ab hR jZ;go_wp2_with fail;have f0:=BelW.cell q0 iX;have f1:=BelW.cell q1 iX;have f2:=BelW.cell q2 iX;have f3:=BelW.cell c0 fv;(refine qG tK tK ?_;(repeat(go_big_quiet_step (first | (go_at_call 86;exact Calls.bel_of (dJ _ (HA _ (HB.trans ((BelW.h _).mono tO))))))));refine wpQuiet_nil ?_;intro wq hw';obtain⟨pq,ae⟩:=hw';have bq:=pq.h;rw[<-ae] at bq;clear ae pq)
   clear f0 f1 f2 f3 q0 q1 q2 c0;have HQ:=qA (HB.trans (bq.mono tO));have sq:=bq.size;clear bq;generalize qF g.2.2 u' x=y at*;rcases NX.o with hy | hy
   ·subst hy;have F:Wi (R=k):=qA (by rw[pf.o,ST.o];rfl);go_wp2;go_ret;exact⟨qAP (by rw[F.o]),BX.o.trans (HQ.mono tO)⟩
   ·have eK: ¬y<0:=tO;have F:Wi (R=(k+1)+(qX g.2.2 y (ws.drop (k+1))).2):=qA (by rw[pf.o,ST.o,Wn eK];simp only;omega);go_wp2;go_roundw;exact⟨k+1,y,tO,by go_num,rfl,hy,F.o,HQ.o⟩;exact tM
  ·obtain rfl:k=ws.length:=tO
   have F:Wi (R=ws.length):=qA (by rw[pf.o,List.drop_length];rfl);clear ab hR;go_wp2;go_ret;exact⟨qAP (by rw[F.o]),BX.o.trans (HB.mono tO)⟩
theorem xP5 (n:Nat) (hn:n=181/\xPA\/n=240/\xPB) (v:Wh) (g:GrD) (w:Wg) (h:ArgG w v g) (hg:grB g=true):
  Wk Tryz.prog n #[v] w fun e w'=> ∃r,e= .returned (.tuple #[r, .bool (decide (g.2.1<40))])/\OwG w' w r (if g.2.1<40 then(g.1,g.2.1+1,g.2.2) else g)/\Wf w w w':=by
 rcases hn with ⟨rfl,hD⟩ | ⟨rfl,hD⟩
 all_goals
  have HG:=qA h;have aK:=qA hg;obtain⟨jB,bn,a7,_⟩:=qD hg;obtain⟨s,rfl,aN,aQ,cj⟩:=h;obtain⟨A,cap,rfl⟩:=cj.form;obtain⟨g1,N,es⟩:=g;simp only at*
  clear hg cj;first | go_enter Tryz.func181,Tryz.ntmps181 | go_enter Tryz.func240,Tryz.ntmps240
  go_wp2_with fail;obtain⟨W1,aq⟩: ∃W,W=w.alloc (.cells #[.int .i64 g1,.int .i64 N, .slice A es.length cap] 26):=⟨_,rfl⟩;rw[<-aq];obtain⟨c1,b1,s1⟩:=CBx.new aq;obtain⟨W,hW⟩: ∃W,W=W1.alloc (.cells #[.int .i64 0,.int .i64 0, .slice none 0 0] 26):=⟨_,rfl⟩;rw[<-hW];obtain⟨c2,b2,s2⟩:=CBx.new hW;have BX:Wi (Wf w w W):=qA (b1.trans (b2.mono tO));have X1:Wi (CBx W w (.int .i64 g1) (.int .i64 N) (.slice A es.length cap)):=qA (c1.below b2);have X2:Wi (CBx W (w.heap.size+1) (.int .i64 0) (.int .i64 0) (.slice none 0 0)):=qA (by rw[<-s1];exact c2);have aH:w.heap.size+2=W.heap.size:=tO;clear aq hW c1 c2 b1 b2 s1 s2;obtain⟨y0,y1,y2⟩:=X1.o.cs;first | refine(xP10 _ (.inl ⟨rfl,xPa⟩) _ (g1,N,es) W (HG.below BX) (by simp only;omega)).mono ?_ | refine(xP10 _ (.inr ⟨rfl,xPb⟩) _ (g1,N,es) W (HG.below BX) (by simp only;omega)).mono ?_
  rintro e w5 ⟨r,rfl,o5,b5⟩;have B5:=qA b5;have KD:=qA (X1.below b5);have VU:=qA (X2.below b5);have fg:=b5.size;obtain⟨s1,rfl,_,_,bF⟩:=o5;obtain⟨A1,c1,rfl,_⟩:=bF.form;simp only at*
  clear b5 y0 y1 y2;have mk:Wf w5 w5 (w5.alloc (.cells #[.int .i64 g1,.int .i64 N, .slice A1 es.length c1] 26)):=(zad _ _).alloc (zae _) _;obtain⟨y0,y1,y2⟩:=(KD.below mk).cs;clear mk;go_wp2_with fail;clear y0 y1 y2;obtain⟨W6,cH⟩: ∃W,W=w5.alloc (.cells #[.int .i64 g1,.int .i64 N, .slice A1 es.length c1] 26):=⟨_,rfl⟩;have iU:=qA (GBx.new (m:=(g1,N,es)) bF aN aQ cH);obtain⟨eU,b6,_,_⟩:=gbox cH;rw[<-cH];have B6:Wi (Wf W.heap.size W W6):=qA (B5.trans (b6.mono tO));clear cH b6 bF;obtain⟨p,hp⟩: ∃p,p=w5.heap.size:=⟨_,rfl⟩;rw[<-hp] at iU⊢;have rp:W.heap.size<=p:=tO;clear hp eU fg;first | (have hE:xPA:=hD;have fC:=qA (qk _ (g1,N,es) W6 (HG.below (BX.trans (B6.mono tO))))) | have fC:=qA (qAf _ (g1,N,es) W6 (HG.below (BX.trans (B6.mono tO))))
  rw[aK.o] at fC;refine fC.o.mono ?_;clear fC;rintro e w7 ⟨rfl,b7⟩;have B7:=qA (B6.trans (b7.mono (by have:=B6.o.size;omega)));have fD:=qA (iU.below b7);clear b7;obtain⟨y0,y1,y2⟩:=(X1.below B7).cs;obtain⟨r0,r1,r2⟩:=(X2.below B7).cs;have fh:=(X2.below B7).fz 0;have fu:=(X2.below B7).fz 1;have fd:=(X2.below B7).fz 2;obtain⟨z0,z1,z2⟩:=fD.o.cs;have ig:=fD.o.fz 1;simp only at z0 z1 z2
  have Bf:w.heap.size+1≠p:=tO;have Lc:w.heap.size≠p:=tO;have Af:IntKind.i64.wrap (N+1)=N+1:=by rw[IntKind.wrap_i64];omega
  by_cases hN:N<40
  ·first | (have hE:xPA:=hD;have uy: ¬40<=N:=tO) | have uy:(N==40)=false:=beq_eq_false_iff_ne.2 tO
   have HN:=qA hN;have HI:Wi (I64 (N+1)):=qA ⟨tO,tO⟩;clear hN;go_wp2_with fail;have GBS:=qA (fD.o.sz HI);have BS:Wi (Wf W W (w7.setCell ⟨p,1,none⟩ (.int .i64 (N+1)))):=qA (B7.o.setCell rp _);have XS:=qA (X2.below BS);have ss:(w7.setCell ⟨p,1,none⟩ (.int .i64 (N+1))).heap.size=w7.heap.size:=tZ;generalize w7.setCell ⟨p,1,none⟩ (.int .i64 (N+1))=w8 at GBS BS XS ss⊢;clear r0 r1 r2 fh fu fd z0 z1 z2 ig y0 y1 y2;obtain⟨r0,r1,r2⟩:=XS.o.cs;have fh:=XS.o.fz 0;have fu:=XS.o.fz 1;have fd:=XS.o.fz 2;obtain⟨z0,z1,z2⟩:=GBS.o.cs;simp only at z0 z1 z2
   go_wp2;obtain⟨e0,e1,e2⟩:=qo (.int .i64 g1) (.int .i64 (N+1)) (.slice A1 es.length c1) r0 r1 r2;have bw:=qH (.int .i64 g1) (.int .i64 (N+1)) (.slice A1 es.length c1) (BX.trans (BS.mono tO)) (show w.heap.size<=w.heap.size+1 by omega);have ow:=GBS.o.ow.keep (w':=((w8.setCell ⟨w.heap.size+1,0,none⟩ (.int .i64 g1)).setCell ⟨w.heap.size+1,1,none⟩ (.int .i64 (N+1))).setCell ⟨w.heap.size+1,2,none⟩ (.slice A1 es.length c1)) fun b hb=>qI _ _ _ _ _ (by have:=(GBS.o.ow.1.lt b hb).1;omega);exact Wj (v:= .tuple #[.agg #[.int .i64 g1, .int .i64 (N+1), .slice A1 es.length c1], .bool true]) (by simp[results,Tryz.results181,Tryz.results240,go_sem,e0,e1,e2]) rfl ⟨_,rfl,⟨.slice A1 es.length c1,rfl,aN,HI,ow.mono tO⟩,bw⟩
  ·first | (have hE:xPA:=hD;have uy:40<=N:=tO) | have uy:(N==40)=true:=beq_iff_eq.2 tO
   first | (have hE:xPA:=hD;skip) | (have CK: ¬N<40:=hN)
   have HN:=qA hN;clear hN;go_wp2;obtain⟨e0,e1,e2⟩:=qo (.int .i64 g1) (.int .i64 N) (.slice A1 es.length c1) r0 r1 r2;have bw:=qH (.int .i64 g1) (.int .i64 N) (.slice A1 es.length c1) (BX.trans (B7.mono tO)) (show w.heap.size<=w.heap.size+1 by omega);have ow:=fD.o.ow.keep (w':=((w7.setCell ⟨w.heap.size+1,0,none⟩ (.int .i64 g1)).setCell ⟨w.heap.size+1,1,none⟩ (.int .i64 N)).setCell ⟨w.heap.size+1,2,none⟩ (.slice A1 es.length c1)) fun b hb=>qI _ _ _ _ _ (by have:=(fD.o.ow.1.lt b hb).1;omega);exact Wj (v:= .tuple #[.agg #[.int .i64 g1, .int .i64 N, .slice A1 es.length c1], .bool false]) (by simp[results,Tryz.results181,Tryz.results240,go_sem,e0,e1,e2]) rfl ⟨_,rfl,⟨.slice A1 es.length c1,rfl,aN,aQ,ow.mono tO⟩,bw⟩
structure CjH (g:GrD) (t:List Int) (R:GrD×Bool):Prop where
 c0:qS g=false->R=((0,0,[]),false)
 c1:qAG g.1 t=false->R=((0,0,[]),false)
 c2:qS g=true->qAG g.1 t=true->(qX g.2.2 0 t).2=t.length->R=(movG g (qX g.2.2 0 t).1.toNat,true)
 c3:(qX g.2.2 0 t).2<t.length->40<=g.2.1->R=((0,0,[]),false)
 c4:(qX g.2.2 0 t).2<t.length->qBF (qAz g) (t.drop (qX g.2.2 0 t).2)=false->R=((0,0,[]),false)
 c5:qS g=true->qAG g.1 t=true->(qX g.2.2 0 t).2<t.length->g.2.1<40->qBF (qAz g) (t.drop (qX g.2.2 0 t).2)=true->R=(movG (cjY g t) g.2.1.toNat,true)
theorem qLF (g:GrD) (t:List Int):CjH g t (qBE g t):=by
 have n2: ∀ {a b:Prop} [Decidable a] [Decidable b],(¬a)->(if a then(if b then(movG g (qX g.2.2 0 t).1.toNat,true) else((0,0,[]),false)) else(((0,0,[]),false):GrD×Bool))=((0,0,[]),false):=fun h=>Wn h;refine⟨fun h=> ?_,fun h=> ?_,fun h1 h2 h3=> ?_,fun h1 h2=> ?_,fun h1 h2=> ?_,fun h1 h2 h3 h4 h5=> ?_⟩<;>unfold qBE
 ·rw[Wn fun q=>by rw[h] at q;exact absurd q.1 tD]
 ·rw[Wn fun q=>by rw[h] at q;exact absurd q.2 tD]
 ·rw[Wm ⟨h1,h2⟩,Wm h3]
 ·split
  ·rw[Wn tO,Wn tO]
  ·rfl
 ·split
  ·rw[Wn tO,Wn fun q=>by rw[h2] at q;exact absurd q.2 tD]
  ·rfl
 ·rw[Wm ⟨h1,h2⟩,Wn tO,Wm ⟨h4,h5⟩]
theorem qCo (v y:Wh) (g:GrD) (t:List Int) (w:Wg) (h:ArgG w v g) (ht:RdI w y t) (hl:t.length<=1073741824):
  Wk Tryz.prog 112 #[v,y] w fun e w'=> ∃r,e= .returned (.tuple #[r, .bool (qBE g t).2])/\OwG w' w r (qBE g t).1/\Wf w w w':=by
 have HG:=qA h;have HY:=qA ht;have HC:=qA (qLF g t);generalize qBE g t=RES at*;obtain⟨s,rfl,aN,aQ,cj⟩:=h;obtain⟨A,cap,rfl⟩:=cj.form;obtain⟨T,tc,rfl,Fx,xS,_⟩:=ht.arg;unfold maxLen at xS;obtain⟨g1,N,es⟩:=g;simp only at*
 clear cj ht;go_enter Tryz.func112,Tryz.ntmps112
 go_wp2_with fail;obtain⟨W1,aq⟩: ∃W,W=w.alloc (.cells #[.int .i64 g1, .int .i64 N, .slice A es.length cap] 26):=⟨_,rfl⟩;rw[<-aq];obtain⟨xG,bG,sG⟩:=CBx.new aq;clear aq;obtain⟨W,hW⟩: ∃W,W=W1.alloc (.cells #[.int .i64 0, .int .i64 0, .slice none 0 0] 26):=⟨_,rfl⟩;rw[<-hW];obtain⟨xR,bR,sR⟩:=CBx.new hW;clear hW;have XG:=qA (xG.below bR);have XR:=qA xR;rw[sG] at XR;have BX:Wi (Wf w w W):=qA (bG.trans (bR.mono tO));have aH:w.heap.size+2<=W.heap.size:=tO;clear xG bG sG xR bR sR;have HA:Wi (∀w',Wf W.heap.size W w'->ArgG w' (.agg #[.int .i64 g1, .int .i64 N, .slice A es.length cap]) (g1,N,es)):=qA fun w' hb=>HG.o.below (BX.trans (hb.mono tO));have HT:Wi (∀w',Wf W.heap.size W w'->RdI w' (.slice T t.length tc) t):=qA fun w' hb=>HY.o.below (BX.trans (hb.mono tO));refine(qY _ (g1,N,es) W (HA W (zad _ _))).mono ?_
 rintro e w1 ⟨rfl,b1⟩;have B1:=qA b1;have dh:=b1.size;clear b1;rcases e1:qS (g1,N,es) with _ | _
 ·have F:=qA (HC.c0 e1);clear e1;obtain⟨dS,dT,dO⟩:=(XR.below B1).cs;have eD:=(XR.below B1).fz 0;have eA:=(XR.below B1).fz 1;have eB:=(XR.below B1).fz 2;go_wp2;obtain⟨e0,e1,e2,bw,ow⟩:=(XR.below B1).fin (a:= .int .i64 0) (b:= .int .i64 0) (BX.trans (B1.mono tO)) tO (OwE.nil (base:=w.heap.size)) (fun b hb=>by cases hb);exact Wj (v:= .tuple #[.agg #[.int .i64 0, .int .i64 0, .slice none 0 0], .bool false]) (by simp[results,Tryz.results112,go_sem,e0,e1,e2]) rfl ⟨_,by rw[F.o],by rw[F.o];exact⟨.slice none 0 0,rfl,⟨by decide,by decide⟩,⟨by decide,by decide⟩,ow⟩,bw⟩
 have hf:=qAQ e1;have aC:=(qE hf).1;obtain⟨jB,bn,a7,_⟩:=qD aC;simp only at jB bn a7
 have HF:=qA hf;have aK:=qA aC;clear hf aC;have fG:=qA e1;clear e1;obtain⟨az,aw,ay⟩:=(XG.below B1).cs;go_wp2_with fail;refine(qBK g1 _ t w1 (HT w1 B1).arg tO).mono ?_
 rintro e w2 ⟨rfl,nd,je⟩;have B2:Wi (Wf W W w2):=qA (by rw[je];exact qC B1.o _);have dQ:w1.heap.size=w2.heap.size:=by rw[je];rfl
 clear az aw ay;clear je;rcases e2:qAG g1 t with _ | _
 ·have F:=qA (HC.c1 e2);clear e2;obtain⟨dS,dT,dO⟩:=(XR.below B2).cs;have eD:=(XR.below B2).fz 0;have eA:=(XR.below B2).fz 1;have eB:=(XR.below B2).fz 2;go_wp2;obtain⟨e0,e1,e2,bw,ow⟩:=(XR.below B2).fin (a:= .int .i64 0) (b:= .int .i64 0) (BX.trans (B2.mono tO)) tO (OwE.nil (base:=w.heap.size)) (fun b hb=>by cases hb);exact Wj (v:= .tuple #[.agg #[.int .i64 0, .int .i64 0, .slice none 0 0], .bool false]) (by simp[results,Tryz.results112,go_sem,e0,e1,e2]) rfl ⟨_,by rw[F.o],by rw[F.o];exact⟨.slice none 0 0,rfl,⟨by decide,by decide⟩,⟨by decide,by decide⟩,ow⟩,bw⟩
 have ng:=qA e2;clear e2;obtain⟨az,aw,ay⟩:=(XG.below B2).cs;go_wp2_with fail;refine(qHS _ _ (g1,N,es) 0 t w2 (HA w2 B2) (HT w2 B2) HF (by simp only;omega)).mono ?_
 rintro e w3 ⟨rfl,b3⟩;have B3:=qA (B2.trans (b3.mono tO));have d5:=b3.size;clear az aw ay;clear b3;have fN:=qEv es t 0;have m8:=qIr es t 0 tO;have zl:=qBj aK.o t 0 (by simp only;omega);have yw:Wi (∀(_:(qX es 0 t).2<t.length) (_:N<40) (_:qBF (qAz (g1,N,es)) (t.drop (qX es 0 t).2)=true),qO (cjY (g1,N,es) t)=true):=qA (qFM HF ng);have N3:Wi (N<(cjY (g1,N,es) t).2.1):=qA (qGW (g:=(g1,N,es)) (by show 0<=N;omega));have dC:Wi (cjY (g1,N,es) t=addG (qAz (g1,N,es)) (qX es 0 t).1 N (t.drop (qX es 0 t).2)):=qA rfl;have TP:Wi (∀(_:(qX es 0 t).2<t.length),qF es (qX es 0 t).1 (t.getD (qX es 0 t).2 0)<0):=qA fun h=>by rw[qAx h];exact qGx es t 0 h
 have eQ:=qA (HC.c2 fG ng);have eI:=qA HC.o.c3;have nF:=qA HC.o.c4;have jt:=qA (HC.o.c5 fG ng);simp only at fN m8 zl eQ eI nF jt
 clear HC;generalize (qX es 0 t).2=n at*;generalize (qX es 0 t).1=u at*;generalize cjY (g1,N,es) t=Y at*;obtain⟨u,rfl⟩: ∃u':Nat,u=(u':Int):=⟨u.toNat,tO⟩;have FX:=qA m8.1;have JD:=qA (fun W' (hb:Wf W W W')=>qFr (.agg #[.int .i64 g1, .int .i64 N, .slice A es.length cap]) (.slice T n tc) (g1,N,es) 0 (t.take n) W' (HA W' hb) ((HT W' hb).head rfl fN) HF (by simp only;omega));simp only at JD
 rw[FX.o] at JD;have iS:(0:Int)<=(n:Int):=tO;have Kd:(n:Int)<=(tc:Int):=tO;have me:w.heap.size<w3.heap.size:=tO;obtain⟨az,aw,ay⟩:=(XG.below B3).cs;clear m8;go_wp2_with fail;have f0:=BelW.cell az me;have f1:=BelW.cell aw me;have f2:=BelW.cell ay me;(refine qG tK tK ?_;(repeat(go_big_quiet_step (first | (go_at_call 83;exact Calls.bel_of (JD _ (B3.trans ((BelW.h _).mono tO)))))));refine wpQuiet_nil ?_;intro wq hw';obtain⟨pq,ae⟩:=hw';have bq:=pq.h;rw[<-ae] at bq;clear ae pq)
 clear f0 f1 f2;have B4:=qA (B3.trans (bq.mono tO));have jY:=bq.size;clear az aw ay;clear bq;obtain⟨az,aw,ay⟩:=(XG.below B4).cs;go_wp2_with fail;refine(xP10 _ (.inl ⟨rfl,xPa⟩) _ (g1,N,es) wq (HA wq B4) (by simp only;omega)).mono ?_
 rintro e w5 ⟨r,rfl,o5,b5⟩;have B5:=qA (B4.trans (b5.mono tO));have fg:=b5.size;obtain⟨s1,rfl,_,_,bF⟩:=o5;obtain⟨A1,c1,rfl,_⟩:=bF.form;simp only at bF⊢
 have tG:=qA bF;clear az aw ay;clear b5;obtain⟨W6,cH⟩: ∃W,W=w5.alloc (.cells #[.int .i64 g1,.int .i64 N, .slice A1 es.length c1] 26):=⟨_,rfl⟩;have iU:=qA (GBx.new (m:=(g1,N,es)) bF aN aQ cH);obtain⟨eU,b6,_,_⟩:=gbox cH;have B6:Wi (Wf W.heap.size W W6):=qA (B5.trans (b6.mono tO));have Dl:=qA (bF.below b6);clear b6 bF tG;have rz:(n:Int)<(t.length:Int)\/n=t.length:=tO;rcases rz with ac | lG
 rotate_left
 ·subst lG;have ac: ¬((t.length:Int)<(t.length:Int)):=tO;have F:=qA (eQ rfl);clear eQ eI nF jt yw dC TP;go_wp2_with fail;rw[<-cH];have oR:ArgG W6 (.agg #[.int .i64 g1, .int .i64 N, .slice A1 es.length c1]) (g1,N,es):=⟨_,rfl,aN,aQ,Dl.arg⟩;refine(xP3 _ (.inl ⟨rfl,xPa⟩) _ (g1,N,es) u W6 oR HF (by simp only;omega)).mono ?_
  clear cH oR;rintro e w7 ⟨r7,rfl,o7,b7⟩;have B7:=qA (B6.trans (b7.mono (by have:=B6.o.size;omega)));have pe:=b7.size;clear b7;rw[show((u:Int)).toNat=u from rfl] at F;generalize movG (g1,N,es) u=M at*;obtain⟨m1,m2,ms⟩:=M;obtain⟨s7,rfl,ch,bV,iC⟩:=o7;obtain⟨A7,c7,rfl,_⟩:=iC.form;simp only at ch bV iC⊢
  have b8:Wf w7 w7 (w7.alloc (.cells #[.int .i64 m1,.int .i64 m2, .slice A7 ms.length c7] 26)):=(zad _ _).alloc (zae _) _;have O8:=qA (iC.below b8);have B8:=qA (B7.trans (b8.mono tO));clear b8 iC;obtain⟨dS,dT,dO⟩:=(XR.below B8).cs;have eD:=(XR.below B8).fz 0;have eA:=(XR.below B8).fz 1;have eB:=(XR.below B8).fz 2;go_wp2;obtain⟨e0,e1,e2,bw,ow⟩:=(XR.below B8).fin (a:= .int .i64 m1) (b:= .int .i64 m2) (BX.trans (B8.mono tO)) tO O8.o (fun b hb=>by have:=(O8.o.1.lt b hb).1;omega);exact Wj (v:= .tuple #[.agg #[.int .i64 m1, .int .i64 m2, .slice A7 ms.length c7], .bool true]) (by simp[results,Tryz.results112,go_sem,e0,e1,e2]) rfl ⟨_,by rw[F.o],by rw[F.o];exact⟨_,rfl,ch,bV,ow.mono tO⟩,bw⟩
 have iV:n<t.length:=tO;have eI:=qA (eI iV);have nF:=qA (nF iV);have jt:=qA (jt iV);clear eQ;obtain⟨az,aw,ay⟩:=(XG.below B6).cs;rw[cH] at az aw ay;go_wp2_with fail;rw[<-cH];clear az aw ay;clear cH;refine(xP5 _ (.inl ⟨rfl,xPa⟩) _ (g1,N,es) W6 (HA W6 B6) aK).mono ?_
 rintro e w7 ⟨r7,rfl,o7,b7⟩;have B7:=qA (B6.trans (b7.mono (by have:=B6.o.size;omega)));have fD:=qA (iU.below b7);have pe:=b7.size;clear b7;by_cases hN:N<40
 rotate_left
 ·have F:=qA (eI tO);rw[Wn hN] at o7;simp only[decide_eq_false hN];obtain⟨s7,rfl,ch,bV,iC⟩:=o7;obtain⟨A7,c7,rfl,_⟩:=iC.form;have b8:Wf w7 w7 (w7.alloc (.cells #[.int .i64 g1,.int .i64 N, .slice A7 es.length c7] 26)):=(zad _ _).alloc (zae _) _;have B8:=qA (B7.trans (b8.mono tO));clear b8 hN;obtain⟨dS,dT,dO⟩:=(XR.below B8).cs;have eD:=(XR.below B8).fz 0;have eA:=(XR.below B8).fz 1;have eB:=(XR.below B8).fz 2;go_wp2;obtain⟨e0,e1,e2,bw,ow⟩:=(XR.below B8).fin (a:= .int .i64 0) (b:= .int .i64 0) (BX.trans (B8.mono tO)) tO (OwE.nil (base:=w.heap.size)) (fun b hb=>by cases hb);exact Wj (v:= .tuple #[.agg #[.int .i64 0, .int .i64 0, .slice none 0 0], .bool false]) (by simp[results,Tryz.results112,go_sem,e0,e1,e2]) rfl ⟨_,by rw[F.o],by rw[F.o];exact⟨.slice none 0 0,rfl,⟨by decide,by decide⟩,⟨by decide,by decide⟩,ow⟩,bw⟩
 rw[Wm hN] at o7;simp only[decide_eq_true hN];obtain⟨s7,rfl,ch,bV,iC⟩:=o7;obtain⟨A7,c7,rfl,_⟩:=iC.form;simp only at ch bV iC⊢
 obtain⟨W8,jU⟩: ∃W,W=w7.alloc (.cells #[.int .i64 g1,.int .i64 (N+1), .slice A7 es.length c7] 26):=⟨_,rfl⟩;have dN:=qA (GBx.new (m:=(g1,N+1,es)) iC ch bV jU);obtain⟨pV,b8,_,_⟩:=gbox jU;have B8:Wi (Wf W.heap.size W W8):=qA (B7.trans (b8.mono tO));have IM:=qA (fD.below b8);clear b8 iC;go_wp2_with fail;rw[<-jU];clear jU;have sL:=qA (fun h=>yw.o iV hN h);have HN:=qA hN;have jt:=qA (jt hN);clear hN eI yw;obtain⟨bt,off,rfl,_,_⟩:=HY.o.at tO;have lD: ¬tc=n:=tO;have Ix:Wi (∀w',Wf W.heap.size W w'->RdI w' (.slice (some ⟨bt,off+n,none⟩) (t.length-n) (tc-n)) (t.drop n)):=qA fun w' hb=>by
  have:=(HT w' hb).cut (k:=n) rfl fN
  rw[Wn lD] at this;simpa[Addr.add_lit] using this
 have mZ:Wi ((t.drop n).length=t.length-n):=qA tZ;have su:Wi (qAG g1 (t.drop n)=true):=qA (qFX ng n);have yZ:=qA (qE (qFV HF HN)).1;generalize t.drop n=d at*;have uA:=qA (fun W' (hb:Wf W8 W8 W')=>qDf (.agg #[.int .i64 g1, .int .i64 (N+1), .slice A7 es.length c7]) (.slice (some ⟨bt,off+n,none⟩) (t.length-n) (tc-n)) (qAz (g1,N,es)) u N d W' (dN.arg.below hb) (Ix W' (B8.trans (hb.mono B8.size))) yZ (by show _/\_<N+1;omega) (by show _/\_<N+1;omega) su.o (by have:=mZ.o;omega) (by have:=mZ.o;omega));obtain⟨R9,xu⟩: ∃R,R=(if qBF (qAz (g1,N,es)) d=true then addG (qAz (g1,N,es)) (u:Int) N d else qAz (g1,N,es)):=⟨_,rfl⟩;rw[<-xu] at uA;have gO:=qA xu;clear xu;obtain⟨K9,yt⟩: ∃K,K=qBF (qAz (g1,N,es)) d:=⟨_,rfl⟩;rw[<-yt] at uA;have lQ:=qA yt;clear yt;obtain⟨n1,n2,ns⟩:=R9;have DD:Wi (Wf W8 W8 W8.drew):=qA (zad _ _).drew;have DA:Wi (Wf W8 W8 (W8.alloc (.cells #[.int .i64 0,.int .i64 0,zap none 0 0] 26)).drew):=qA ((zad _ _).alloc (zae _) _).drew;have XA:Wi (CBx (W8.alloc (.cells #[.int .i64 0,.int .i64 0,zap none 0 0] 26)).drew W8 (.int .i64 0) (.int .i64 0) (.slice none 0 0)):=qA ((CBx.new (t:=26) rfl).1.below (zad _ _).drew);obtain⟨z0,z1,z2⟩:=dN.o.cs;simp only at z0 z1 z2
 have y1:=(XG.below B8).c1;have yQ:w7.heap.size<W8.heap.size:=tO;have cB:w.heap.size<W8.heap.size:=tO;have F8:w7.heap.size+1<=W8.heap.size:=tO;have sw:w5.heap.size+1<=W6.heap.size:=tO;clear pV eU;go_region_held3 (fun w'=>w'.cell? ⟨w7,0,none⟩=some (.int .i64 g1)/\w'.cell? ⟨w7,1,none⟩=some (.int .i64 (N+1))/\w'.cell? ⟨w7,2,none⟩=some (.slice A7 es.length c7)/\w'.cell? ⟨w,1,none⟩=some (.int .i64 N))
  (first | go_keep | exact⟨q0,q1,q2,q3⟩ | (refine⟨?_,?_,?_,?_⟩<;>simp[go_sem,q0,q1,q2,q3]))
  (first
   | (go_at_call 182;(with_reducible refine(uA.o _ DD.o).mono ?_);rintro e w9 ⟨r9,rfl,o9,b9⟩;have B9:Wi (Wf W8 W8 w9):=qA (DD.o.trans (b9.mono (zae _)));have lJ:=B9.o.size;have q0:=(B9.o.cell (p:=⟨w7,0,none⟩) yQ).trans z0;have q1:=(B9.o.cell (p:=⟨w7,1,none⟩) yQ).trans z1;have q2:=(B9.o.cell (p:=⟨w7,2,none⟩) yQ).trans z2;have q3:=(B9.o.cell (p:=⟨w,1,none⟩) cB).trans y1;clear b9;obtain⟨s9,rfl,js,fo,iB⟩:=o9;obtain⟨A9,c9,rfl,_⟩:=iB.form;have l6:=qA iB;simp only at js fo;clear iB)
   | (go_at_call 182;(with_reducible refine(uA.o _ DA.o).mono ?_);rintro e w9 ⟨r9,rfl,o9,b9⟩;have B9:Wi (Wf W8 W8 w9):=qA (DA.o.trans (b9.mono (by simp[go_sem])));have lJ:=B9.o.size;have q0:=(B9.o.cell (p:=⟨w7,0,none⟩) yQ).trans z0;have q1:=(B9.o.cell (p:=⟨w7,1,none⟩) yQ).trans z1;have q2:=(B9.o.cell (p:=⟨w7,2,none⟩) yQ).trans z2;have q3:=(B9.o.cell (p:=⟨w,1,none⟩) cB).trans y1;have XN:=qA (XA.o.below b9);obtain⟨t0,t1,t2⟩:=XN.o.cs;have UY:=XN.o.fz 0;have U0:=XN.o.fz 1;have VP:=XN.o.fz 2;have UZ:W8.heap.size<w9.heap.size:=(by have:=b9.size;simp[go_sem] at this;omega);have T5:W8.heap.size≠w7.heap.size:=tO;have sJ:W8.heap.size≠w.heap.size:=tO;clear b9;obtain⟨s9,rfl,js,fo,iB⟩:=o9;obtain⟨A9,c9,rfl,_⟩:=iB.form;have l6:=qA iB;simp only at js fo;clear iB))
 all_goals
  clear DD DA z0 z1 z2 y1;first
   | (obtain⟨yG,eT⟩: ∃W,W=(((w9.setCell ⟨W8,0,none⟩ (.int .i64 n1)).setCell ⟨W8,1,none⟩ (.int .i64 n2)).setCell ⟨W8,2,none⟩ (.slice A9 ns.length c9)):=⟨_,rfl⟩
      rw[<-eT];have ia:Wi (Wf W8 W8 yG):=qA (by rw[eT];exact qH _ _ _ B9.o (zae _));have GT:=qA (XN.o.set (m:=(n1,n2,ns)) l6 (fun b hb=>by have:=(l6.o.1.lt b hb).1;simp[go_sem] at this;omega) js fo);simp only at GT
      rw[<-eT] at GT;obtain⟨FI,nH⟩: ∃p,p=W8.heap.size:=⟨_,rfl⟩;rw[<-nH] at GT⊢;have E7:W8.heap.size<=FI:=tO;clear eT nH)
   | (obtain⟨yG,eT⟩: ∃W,W=w9.alloc (.cells #[.int .i64 n1,.int .i64 n2,zap A9 ns.length c9] 26):=⟨_,rfl⟩
      have GT:=qA (GBx.new (m:=(n1,n2,ns)) l6 js fo eT);have ia:Wi (Wf W8 W8 yG):=qA (B9.trans ((gbox eT).2.1.mono lJ));rw[<-eT];obtain⟨FI,nH⟩: ∃p,p=w9.heap.size:=⟨_,rfl⟩;rw[<-nH] at GT⊢;have E7:W8.heap.size<=FI:=tO;clear eT nH)
  clear q0 q1 q2 q3 l6;have BT:=qA (B8.trans (ia.mono B8.size));cases K9
  ·have F:=qA (nF lQ.o.symm);obtain⟨dS,dT,dO⟩:=(XR.below BT).cs;have eD:=(XR.below BT).fz 0;have eA:=(XR.below BT).fz 1;have eB:=(XR.below BT).fz 2;go_wp2;obtain⟨e0,e1,e2,bw,ow⟩:=(XR.below BT).fin (a:= .int .i64 0) (b:= .int .i64 0) (BX.trans (BT.mono tO)) tO (OwE.nil (base:=w.heap.size)) (fun b hb=>by cases hb);exact Wj (v:= .tuple #[.agg #[.int .i64 0, .int .i64 0, .slice none 0 0], .bool false]) (by simp[results,Tryz.results112,go_sem,e0,e1,e2]) rfl ⟨_,by rw[F.o],by rw[F.o];exact⟨.slice none 0 0,rfl,⟨by decide,by decide⟩,⟨by decide,by decide⟩,ow⟩,bw⟩
  have F:=qA (jt lQ.o.symm);have hY:=gO.o;rw[<-lQ.o,Wm rfl] at hY;have Nc:=sL.o lQ.o.symm;obtain rfl:Y=(n1,n2,ns):=dC.o.trans hY.symm
  have Nc:=qA (sL lQ.o.symm);have tz:N<n2:=N3.o;obtain⟨M,rfl⟩: ∃M:Nat,N=(M:Int):=⟨N.toNat,tO⟩;clear hY gO lQ nF jt dC N3 sL;have GP:=qA (IM.below ia);have Gw:w5.heap.size<W8.heap.size:=tO;have Ge:w5.heap.size≠FI:=tO;have zP:w.heap.size≠w5.heap.size:=tO;have XP:=qA GP.o.cbx;have XT:=qA GT.o.cbx;simp only at XP XT
  obtain⟨ve,yy,wB⟩:=XP.o.cs;have uU:=XP.o.fz 0;have wM:=XP.o.fz 1;have wK:=XP.o.fz 2;obtain⟨CI,Ec,C8⟩:=XT.o.cs;obtain⟨az,aw,ay⟩:=(XG.below BT).cs;go_wp2_with fail;have GS:=qA (XP.o.set (m:=(n1,n2,ns)) GT.o.ow (fun b hb=>by have:=(GT.o.ow.1.lt b hb).1;(try simp[go_sem] at this);omega) js fo);simp only at GS
  have BS:Wi (Wf W W (((yG.setCell ⟨w5,0,none⟩ (.int .i64 n1)).setCell ⟨w5,1,none⟩ (.int .i64 n2)).setCell ⟨w5,2,none⟩ (.slice A9 ns.length c9))):=qA (qH _ _ _ BT tO);refine(xP3 _ (.inl ⟨rfl,xPa⟩) _ (n1,n2,ns) M _ GS.arg Nc (by simp only;omega)).mono ?_
  generalize (((yG.setCell ⟨w5,0,none⟩ (.int .i64 n1)).setCell ⟨w5,1,none⟩ (.int .i64 n2)).setCell ⟨w5,2,none⟩ (.slice A9 ns.length c9))=W11 at GS BS⊢;clear uU wM wK ve yy wB CI Ec C8 az aw ay;rintro e Gh ⟨UF,rfl,Sv,Ka⟩;have kW:=qA (BS.trans (Ka.mono (by have:=BS.o.size;omega)));have Qs:=Ka.size;clear Ka;rw[show((M:Int)).toNat=M from rfl] at F;generalize movG (n1,n2,ns) M=R12 at*;obtain⟨m1,m2,ms⟩:=R12;obtain⟨Tl,rfl,ch,bV,sh⟩:=Sv;obtain⟨KU,Nl,rfl,_⟩:=sh.form;simp only at ch bV sh⊢
  have b8:Wf Gh Gh (Gh.alloc (.cells #[.int .i64 m1,.int .i64 m2, .slice KU ms.length Nl] 26)):=(zad _ _).alloc (zae _) _;have O8:=qA (sh.below b8);have py:=qA (kW.trans (b8.mono (by have:=BS.o.size;omega)));have jJ:=qA BS.o.size;clear b8 sh;obtain⟨dS,dT,dO⟩:=(XR.below py).cs;have eD:=(XR.below py).fz 0;have eA:=(XR.below py).fz 1;have eB:=(XR.below py).fz 2;go_wp2;obtain⟨e0,e1,e2,bw,ow⟩:=(XR.below py).fin (a:= .int .i64 m1) (b:= .int .i64 m2) (BX.trans (py.mono tO)) tO O8.o (fun b hb=>by have h1:=(O8.o.1.lt b hb).1;have h2:=jJ.o;omega);exact Wj (v:= .tuple #[.agg #[.int .i64 m1, .int .i64 m2, .slice KU ms.length Nl], .bool true]) (by simp[results,Tryz.results112,go_sem,e0,e1,e2]) rfl ⟨_,by rw[F.o],by rw[F.o];exact⟨_,rfl,ch,bV,ow.mono (by have h2:=jJ.o;omega)⟩,bw⟩
theorem qFT (es:List EdD): ∀(w:List Int) (v:Int),qQ es v (w.take (qX es v w).2)=(qX es v w).1
 | [],v=>rfl
 | x::w,v=>by
   unfold qX;split
   ·rfl
   ·rename_i q
    simp only[zaC];rw[qV,Wn q];exact qFT es w _
section
variable {g:GrD} (hc:qS g=true)
include hc
theorem qAd:grB g=true/\Fol g.2.2:=qE (qEd hc)
theorem wdL3 {v:Int} (hv:0<=v/\v<g.2.1): ∀y∈wdO g v,Lt3 y:=fun y hy=>by
 obtain⟨hg,_⟩:=qAd hc;have h1:=qPi hg (qBS hc hv) y hy;have h2:=qw.1 h1;have h3:=qFi hg (qBS hc hv) y hy;exact⟨h3.1,h3.2,tO⟩
theorem qPs {v:Int} (hv:0<=v/\v<g.2.1):runS g.2.2 (0,[]) (wdO g v)=(v,[]):=by
 obtain⟨hg,_⟩:=qAd hc;have h:=qGl hg (qBS hc hv);rw[qBd tO,h]
omit hc in
theorem qKW: ∀ {es:List EdD} {v:Int} {r:List Int},okR es v r->NoB r.reverse/\(∀y∈r,Lt3 y)/\ ∀y∈r.reverse.head?,qF es v y<0
 | _,_,[],_=>by
   refine⟨trivial,fun y hy=> ?_,fun y hy=> ?_⟩
   ·cases hy
   ·cases hy
 | _,_,[y],h=>by
   refine⟨trivial,fun z hz=> ?_,fun z hz=> ?_⟩
   ·rw[zag.1 hz];exact h.2
   ·injection hz with hz
    subst hz;exact h.1
 | es,v,y::z::r,h=>by
   obtain⟨h1,h2,h3⟩:=qKW (r:=z::r) h.2.2;refine⟨?_,fun x hx=> ?_,fun x hx=> ?_⟩
   ·rw[zal];refine NoB.app h1 trivial fun a ha b hb=> ?_;have e:b=y:=by injection hb with hb;exact hb.symm
    have e2:a=z:=by
     rw[zal,List.getLast?_concat] at ha;injection ha with ha;exact ha.symm
    subst e;subst e2;exact h.1
   ·rcases zaP.1 hx with e | e
    ·subst e;exact h.2.1
    ·exact h2 x e
   ·refine h3 x ?_;rw[zal] at hx;rcases hq:(z::r).reverse with _ | ⟨p,q⟩
    ·simp at hq
    ·rw[hq] at hx;exact hx
theorem ok0:okS g ((0:Int),([]:List Int)):=by
 obtain⟨_,ar,_,_⟩:=qD (qAd hc).1;exact⟨⟨by simp only;omega,by simp only;omega⟩,trivial⟩
end
theorem qCg {g:GrD} (hg:grB g=true): ∀ {w:List Int} {v:Int},(∀x∈w,-3<=x/\x<=3)->0<=qQ g.2.2 v w-> ∀x∈w,x∈qB g.1.toNat
 | [],_,_,_,x,hx=>by cases hx
 | y::w,v,hl,h,x,hx=>by
   rw[qV] at h;split at h
   ·exact absurd h tD
   ·rename_i q
    rcases zaP.1 hx with e | e
    ·subst e;exact qGv hg (hl x tZ) (zan.1 q)
    ·exact qCg hg (fun z hz=>hl z (by simp[hz])) h x e
theorem qEh {g:GrD} (hg:grB g=true) {w:List Int} (h: ∀x∈w,x∈qB g.1.toNat): ∀x∈w,Lt3 x:=fun x hx=>by
 have h1:=qw.1 (h x hx);have h2:=(qD hg).1;exact⟨tO,tO,tO⟩
theorem qNo {g:GrD} (hf:qO g=true) {u:Nat} (hu:(u:Int)<g.2.1) (hc:Conn g.2.2 0 u):(movG g u).1=g.1/\ ∀w,(∀x∈w,Lt3 x)->NoB w->(qQ (movG g u).2.2 0 w=0↔qQ g.2.2 u w=u):=by
 obtain⟨s,hs,hz⟩:=Sub.mov hf hu hc;obtain⟨hg,aX⟩:=qE hf;have hx:=qBz (qHH hf hu);have ar:=(qD hx).2.1;refine⟨hs.rk,fun w hl hn=>⟨fun h=> ?_,fun h=> ?_⟩⟩
 ·have:=hs.walk hx w 0 tO tO (fun x hx=>(hl x hx).b3) tO
  rwa [h,hz] at this
 ·refine hs.lp 0 w tO tO .base (fun x hx=>(hl x hx).b3) hn ?_;rw[hz];exact h
section
variable {g:GrD} (hfi:finB g=true)
include hfi
end
theorem qQg {p x y:Int} {e:EdD} (hx: -3<=x/\x<=3) (h:mt p x e=some y):hE e p x:=by
 unfold hE;rcases(qES hx).1 h with ⟨_,a,b,_⟩ | ⟨_,a,b,_⟩
 ·exact .inl ⟨b,a⟩
 ·exact .inr ⟨b,a⟩
theorem qIl {a b:GrD} (fH:Fol b.2.2) (bC: ∀e∈a.2.2,e∈b.2.2) {p x:Int} (h:0<=qF a.2.2 p x):qF b.2.2 p x=qF a.2.2 p x:=by
 obtain⟨e,he,hm⟩:=qBf h;exact qEC fH (bC e he) hm
theorem qJi {a b:GrD} (fH:Fol b.2.2) (bC: ∀e∈a.2.2,e∈b.2.2): ∀ {w:List Int} {p:Int},0<=qQ a.2.2 p w->qQ b.2.2 p w=qQ a.2.2 p w
 | [],_,_=>rfl
 | x::w,p,h=>by
   rw[qV] at h;split at h
   ·exact absurd h tD
   ·rename_i q
    rw[qV,qV,qIl fH bC (zan.1 q),Wn q,Wn q];exact qJi fH bC h
def upS (b:GrD) (s:Int×List Int):Int×List Int:=runS b.2.2 (s.1,[]) s.2.reverse
theorem qQw {a b:GrD} (cj:grB a=true) (dg:grB b=true) (fH:Fol b.2.2) (bC: ∀e∈a.2.2,e∈b.2.2) (ar:a.2.1<=b.2.1) {s:Int×List Int} (hs:okS a s) {x:Int} (hx:Lt3 x):
  upS b (actS a.2.2 s x)=actS b.2.2 (upS b s) x:=by
 obtain⟨p,r⟩:=s;obtain⟨hp,hr⟩:=hs;simp only at hp hr
 match r with
 | []=>
   by_cases q:qF a.2.2 p x<0
   ·have e:actS a.2.2 (p,[]) x=(p,[x]):=by unfold actS;simp only;rw[Wm q]
    rw[e];rfl
   ·have e:actS a.2.2 (p,[]) x=(qF a.2.2 p x,[]):=by unfold actS;simp only;rw[Wn q]
    have k:=qIl fH bC (zan.1 q);rw[e];show(qF a.2.2 p x,[])=actS b.2.2 (p,[]) x
    unfold actS;simp only
    rw[k,Wn q]
 | y::r=>
   have af:okS b (runS b.2.2 (p,[]) r.reverse):=qCQ dg (s:=(p,[])) ⟨⟨hp.1,by show p<b.2.1;omega⟩,trivial⟩ fun z hz=>(qKW hr).2.1 z (by simp at hz;simp[hz]);have hy:Lt3 y:=qQp hr;have e2:upS b (p,y::r)=actS b.2.2 (runS b.2.2 (p,[]) r.reverse) y:=by
    unfold upS;simp only[zal];rw[qAV];rfl
   by_cases e:y= -x
   ·have e1:actS a.2.2 (p,y::r) x=(p,r):=by unfold actS;simp only;rw[Wm e]
    rw[e1,e2,show x= -y by omega,qHz dg fH af hy];rfl
   ·have e1:actS a.2.2 (p,y::r) x=(p,x::y::r):=by unfold actS;simp only;rw[Wn e]
    rw[e1];unfold upS;simp only[zal];rw[qAV];rfl
theorem qPm {a b:GrD} (cj:grB a=true) (dg:grB b=true) (fH:Fol b.2.2) (bC: ∀e∈a.2.2,e∈b.2.2) (ar:a.2.1<=b.2.1): ∀ {w:List Int} {s:Int×List Int},okS a s->(∀x∈w,Lt3 x)->upS b (runS a.2.2 s w)=runS b.2.2 (upS b s) w
 | [],_,_,_=>rfl
 | x::w,s,hs,hw=>by
   rw[qDB,qDB,<-qQw cj dg fH bC ar hs (hw x tZ)];exact qPm cj dg fH bC ar (qNL cj hs (hw x tZ)) fun y hy=>hw y (by simp[hy])
section
variable {g:GrD} {t:List Int}
def cjV (g:GrD) (t:List Int):Int:=(qX g.2.2 0 t).1
def cjW (g:GrD) (t:List Int):List Int:=t.drop (qX g.2.2 0 t).2
def cjN (g:GrD):Nat:=(qAz g).2.1.toNat
theorem qKs {e:EdD}:e∈(cjY g t).2.2↔e∈g.2.2\/ ∃j,j<(cjW g t).length/\e=pthE (cjN g) (cjV g t) g.2.1 (cjW g t) j:=by
 have et:=(qAq qz (g.2.2++pthL (cjN g) (cjV g t) g.2.1 (cjW g t) (cjW g t).length)).2 e;show e∈srt cmpE (g.2.2++pthL (cjN g) (cjV g t) g.2.1 (cjW g t) (cjW g t).length)↔_
 rw[et,zaj,qFf]
variable (hf:qO g=true) (hw:qAG g.1 t=true) (hn:(qX g.2.2 0 t).2<t.length) (bn:g.2.1<40) (af:qBF (qAz g) (t.drop (qX g.2.2 0 t).2)=true)
include hf hw hn bn af
theorem qCh:grB (cjY g t)=true/\Fol (cjY g t).2.2/\g.2.1<(cjY g t).2.1/\(0<=cjV g t/\cjV g t<g.2.1)/\(∀x∈cjW g t,Lt3 x)/\NoB (cjW g t)/\0<(cjW g t).length/\(cjN g:Int)=g.2.1+1/\1<=g.2.1:=by
 obtain⟨h1,h2⟩:=qE (qFM hf hw hn bn af);have ar:=(qD (qE hf).1).2.1;have dZ:=qDw hw;have La: ∀x∈cjW g t,Lt3 x:=fun x hx=>dZ x (List.drop_subset _ _ hx);refine⟨h1,h2,qGW tO,qBj (qE hf).1 t 0 tO,La,qEH (qJp (qLy hw) _) La,?_,?_,ar.1⟩
 ·unfold cjW;rw[List.length_drop];omega
 ·show(((qAz g).2.1.toNat:Nat):Int)=_
  have:(qAz g).2.1=g.2.1+1:=rfl
  omega
theorem qKP {j:Nat} (hj:j<(cjW g t).length):qF (cjY g t).2.2 (atP (cjN g) (cjW g t).length (cjV g t) g.2.1 j) (cjW g t)[j]=nxP (cjN g) (cjW g t).length g.2.1 j:=by
 obtain⟨hg,aX,_,_,hl,_,_,_,_⟩:=qCh hf hw hn bn af;have hx:=hl _ (zao hj);refine qEC aX (qKs.2 (.inr ⟨j,hj,rfl⟩)) ?_;rw[qES hx.b3];unfold pthE stpE;rw[qAx hj];have:=hx.2.2
 by_cases h0:0<(cjW g t)[j]
 ·rw[Wm h0];exact .inl ⟨h0,rfl,rfl,rfl⟩
 ·rw[Wn h0];exact .inr ⟨tO,rfl,rfl,rfl⟩
theorem qMV {p x:Int} (hx: -3<=x/\x<=3) (h:0<=qF (cjY g t).2.2 p x):(0<=qF g.2.2 p x/\p<g.2.1)\/ ∃j,∃hj:j<(cjW g t).length,(p=atP (cjN g) (cjW g t).length (cjV g t) g.2.1 j/\x=(cjW g t)[j])\/(p=nxP (cjN g) (cjW g t).length g.2.1 j/\x= -(cjW g t)[j]):=by
 obtain⟨hg,aX,_,_,hl,_,_,_,_⟩:=qCh hf hw hn bn af;obtain⟨e,he,hm⟩:=qBf h;have hh:=qQg hx hm;rcases qKs.1 he with q | ⟨j,hj,rfl⟩
 ·have:=qJP hf q hh
  exact .inl ⟨this.1,this.2.2⟩
 ·refine .inr ⟨j,hj,?_⟩;have hz:=(hl _ (zao hj)).2.2;unfold pthE at hh;rw[qAx hj] at hh;exact(qGN hz).1 hh
theorem qMZ {j:Nat}:g.2.1<=nxP (cjN g) (cjW g t).length g.2.1 j:=by
 obtain⟨_,_,_,_,_,_,_,hN,_⟩:=qCh hf hw hn bn af;unfold nxP;split<;>omega
theorem qPq: ∀(q:List Int) (j:Nat) (hj:j<(cjW g t).length),(∀x∈q,Lt3 x)->NoB ((cjW g t)[j]::q)->qQ (cjY g t).2.2 (nxP (cjN g) (cjW g t).length g.2.1 j) q<0\/g.2.1<=qQ (cjY g t).2.2 (nxP (cjN g) (cjW g t).length g.2.1 j) q
 | [],j,hj,_,_=> .inr (qMZ hf hw hn bn af)
 | x::q,j,hj,hq,hb=>by
   obtain⟨hg,aX,_,hv,hl,_,_,hN,aE⟩:=qCh hf hw hn bn af;rw[qV];by_cases h0:qF (cjY g t).2.2 (nxP (cjN g) (cjW g t).length g.2.1 j) x<0
   ·rw[Wm h0];exact .inl tO
   ·rw[Wn h0];have ej:=qMZ hf hw hn bn af (j:=j);have ai:x≠ -(cjW g t)[j]:=hb.1;have Lo:(0<=g.2.1/\g.2.1<(qAz g).2.1):=by show 0<=g.2.1/\g.2.1<g.2.1+1;omega
    rcases qMV hf hw hn bn af (hq x tZ).b3 (zan.1 h0) with ⟨_,y⟩ | ⟨i,hi,(⟨y,z⟩ | ⟨y,z⟩)⟩
    ·omega
    ·have dU:i=j+1:=by
      cases i with
      | zero=>rw[qGV] at y;omega
      | succ i=>
        rw[qBN] at y;have:j=i:=qMa (g:=qAz g) (t:=cjW g t) (v:=g.2.1) Lo hj tO y
        omega
     subst dU;have e:=qKP hf hw hn bn af hi;rw[qBN,<-z] at e;rw[e];refine qPq q (j+1) hi (fun y hy=>hq y (by simp[hy])) ?_;rw[<-z];exact hb.2
    ·have:j=i:=qMa (g:=qAz g) (t:=cjW g t) (v:=g.2.1) Lo hj hi y
     subst this;exact absurd z ai
theorem qQn {p x:Int} {q:List Int} (hp:0<=p/\p<g.2.1) (hq: ∀y∈x::q,Lt3 y) (hb:NoB (x::q)) (h0:qF g.2.2 p x<0):qQ (cjY g t).2.2 p (x::q)<0\/g.2.1<=qQ (cjY g t).2.2 p (x::q):=by
 obtain⟨hg,aX,_,hv,hl,_,_,hN,aE⟩:=qCh hf hw hn bn af;rw[qV];by_cases h1:qF (cjY g t).2.2 p x<0
 ·rw[Wm h1];exact .inl tO
 ·rw[Wn h1];rcases qMV hf hw hn bn af (hq x tZ).b3 (zan.1 h1) with ⟨y,_⟩ | ⟨i,hi,(⟨y,z⟩ | ⟨y,z⟩)⟩
  ·omega
  ·have e:=qKP hf hw hn bn af hi;rw[<-y,<-z] at e;rw[e];refine qPq hf hw hn bn af q i hi (fun y hy=>hq y (by simp[hy])) ?_;rw[<-z];exact hb
  ·have:=qMZ hf hw hn bn af (j:=i)
   omega
theorem qQP {w:List Int} (h3: ∀x∈w,Lt3 x):runS (cjY g t).2.2 (0,[]) w=(0,[])↔runS g.2.2 (0,[]) w=(0,[]):=by
 obtain⟨hg,aX,ar,hv,hl,_,_,hN,aE⟩:=qCh hf hw hn bn af;obtain⟨cj,gQ⟩:=qE hf;have bC: ∀e∈g.2.2,e∈(cjY g t).2.2:=fun e he=>qKs.2 (.inl he);have rL:okS g ((0:Int),([]:List Int)):=⟨⟨by simp only;omega,by simp only;omega⟩,trivial⟩;have OJ:=qPm cj hg aX bC tO (s:=(0,[])) rL h3;have e0:upS (cjY g t) (0,[])=(0,[]):=rfl;rw[e0] at OJ;rw[<-OJ];constructor
 ·intro h;have hs:=qCQ cj rL h3;generalize runS g.2.2 (0,[]) w=s at*;obtain⟨p,r⟩:=s;obtain⟨hp,hr⟩:=hs;simp only at hp hr
  obtain⟨k1,k2,k3⟩:=qKW hr;unfold upS at h;simp only at h
  rcases hq:r.reverse with _ | ⟨x,q⟩
  ·have:r= []:=by simpa using hq
   subst this;exact h
  ·exfalso
   rw[hq] at h k1 k3;have oQ: ∀y∈x::q,Lt3 y:=fun y hy=>k2 y (by rw[<-hq] at hy;simpa using hy);rcases qQn hf hw hn bn af hp oQ k1 (k3 x rfl) with z | z
   ·have:=qEt hg k1 (v:=p) ⟨hp.1,tO⟩ z
    rw[h] at this;exact this rfl
   ·rw[qBd tO] at h;injection h with h
    omega
 ·intro h;rw[h];rfl
theorem qKx: ∀m,m<=(cjW g t).length->qQ (cjY g t).2.2 (cjV g t) ((cjW g t).take m)=atP (cjN g) (cjW g t).length (cjV g t) g.2.1 m
 | 0,_=>by rw[List.take_zero];rfl
 | m+1,hm=>by
   obtain⟨hg,aX,ar,hv,hl,_,_,hN,aE⟩:=qCh hf hw hn bn af;have ih:=qKx m tO;have e:=qKP hf hw hn bn af (j:=m) hm;have ej:=qMZ hf hw hn bn af (j:=m);have ha:0<=atP (cjN g) (cjW g t).length (cjV g t) g.2.1 m:=by
    cases m with
    | zero=>rw[qGV];omega
    | succ m=>rw[qBN];have:=qMZ hf hw hn bn af (j:=m);omega
   rw[zak hm,qAs _ _ _ _ tO,ih,qFF _ _ _ tO,e,qBN]
theorem qRF:qQ (cjY g t).2.2 0 t=g.2.1:=by
 obtain⟨hg,aX,ar,hv,hl,_,aM,hN,aE⟩:=qCh hf hw hn bn af;have bC: ∀e∈g.2.2,e∈(cjY g t).2.2:=fun e he=>qKs.2 (.inl he);have h1:=qFT g.2.2 t 0;have h2:=qJi (a:=g) (b:=cjY g t) aX bC (w:=t.take (qX g.2.2 0 t).2) (p:=0) (by rw[h1];exact hv.1);rw[h1] at h2;have h3:=qKx hf hw hn bn af (cjW g t).length (zae _);rw[zaz] at h3;have key: ∀(es:List EdD) (k:Nat),0<=qQ es 0 (t.take k)->qQ es 0 t=qQ es (qQ es 0 (t.take k)) (t.drop k):=fun es k h=>by
  rw[<-qAs _ _ _ _ h,List.take_append_drop]
 rw[key _ (qX g.2.2 0 t).2 (by rw[h2];exact hv.1),h2];show qQ (cjY g t).2.2 (cjV g t) (cjW g t)=g.2.1
 rw[h3];obtain⟨m,hm⟩: ∃m,(cjW g t).length=m+1:=⟨(cjW g t).length-1,tO⟩;rw[hm,qBN];unfold nxP;rw[Wn tO]
end
theorem qKt {Y:GrD} (hf:qO Y=true) {t:List Int} (ht: ∀x∈t,Lt3 x) {n:Nat} (hn:(n:Int)<Y.2.1) (iq:qQ Y.2.2 0 t=n):
  (movG Y n).1=Y.1/\ ∀w,(∀x∈w,Lt3 x)->NoB w->(qQ (movG Y n).2.2 0 w=0↔runS Y.2.2 (0,[]) (t++w++invN t)=(0,[])):=by
 obtain⟨hg,aX⟩:=qE hf;have ar:=(qD hg).2.1;have hc:Conn Y.2.2 0 (n:Int):=by
  have:=qIh t 0 (fun x hx=>(ht x hx).b3) (.base (es:=Y.2.2) (v:=0)) tO
  rwa [iq] at this
 obtain⟨h1,h2⟩:=qNo hf hn hc;have rL:okS Y ((0:Int),([]:List Int)):=⟨⟨by simp only;omega,by simp only;omega⟩,trivial⟩;have J2:okS Y ((n:Int),([]:List Int)):=⟨⟨by simp only;omega,hn⟩,trivial⟩;have KQ: ∀x∈invN t,Lt3 x:=fun y hy=>by have:=(ht _ (qCj hy)).neg;rwa [Int.neg_neg] at this
 refine⟨h1,fun w h3 hb=> ?_⟩;have m8:runS Y.2.2 (0,[]) t=((n:Int),[]):=by rw[qBd tO,iq]
 rw[h2 w h3 hb,qKu hg hb ⟨tO,hn⟩ tO,qAV,qAV,m8];constructor
 ·intro h;rw[h,<-m8,qCW hg aX rL ht]
 ·intro h;have:=qCW hg aX (qCQ hg J2 h3) KQ
  rw[h,qIA,m8] at this;exact this.symm
theorem qOh {g:GrD} {t:List Int} (hs:(qBE g t).2=true):qS g=true/\qAG g.1 t=true/\qS (qBE g t).1=true/\(qBE g t).1.1=g.1/\
  ∀w,(∀x∈w,Lt3 x)->NoB w->(qQ (qBE g t).1.2.2 0 w=0↔runS g.2.2 (0,[]) (t++w++invN t)=(0,[])):=by
 unfold qBE at hs⊢;by_cases hc:qS g=true/\qAG g.1 t=true
 ·rw[Wm hc] at hs⊢;obtain⟨hc,hw⟩:=hc;have hf:=qAQ hc;obtain⟨hg,aX⟩:=qE hf;have ar:=(qD hg).2.1;have dZ:=qDw hw;refine⟨hc,hw,?_⟩;have zl:=qBj hg t 0 ⟨tO,tO⟩;by_cases hl:(qX g.2.2 0 t).2=t.length
  ·rw[Wm hl];have h1:=qFT g.2.2 t 0;rw[hl,zaz] at h1;generalize (qX g.2.2 0 t).1=v at*;obtain⟨n,rfl⟩: ∃n:Nat,v=n:=⟨v.toNat,tO⟩;rw[zav];have:=qKt hf dZ zl.2 h1
   exact⟨qHH hf zl.2,this.1,this.2⟩
  ·rw[Wn hl] at hs⊢;by_cases hk:g.2.1<40/\qBF (qAz g) (t.drop (qX g.2.2 0 t).2)=true
   ·rw[Wm hk];obtain⟨bn,af⟩:=hk;have hn:(qX g.2.2 0 t).2<t.length:=by have:=qEv g.2.2 t 0;omega
    have hY:=qFM hf hw hn bn af;have Qf:=qGW (g:=g) (t:=t) tO;have he:=qRF hf hw hn bn af;have Bn:((g.2.1.toNat:Nat):Int)=g.2.1:=tO;obtain⟨m1,m2⟩:=qKt hY dZ (n:=g.2.1.toNat) tO tO;refine⟨qHH hY tO,m1,fun w h3 hb=> ?_⟩;rw[m2 w h3 hb];refine qQP hf hw hn bn af fun x hx=> ?_;rcases zaj.1 hx with q | q
    ·rcases zaj.1 q with q | q
     ·exact dZ x q
     ·exact h3 x q
    ·have:=(dZ _ (qCj q)).neg;rwa [Int.neg_neg] at this
   ·rw[Wn hk] at hs;cases hs
 ·rw[Wn hc] at hs;cases hs
def eqPc (B:Nat) (l:List Nat):Bool:=l.any fun p=>decide (p/B=p%B)
theorem qOR (B:Nat) (l:List Nat) (k:Nat) (h:k<l.length):eqPc B (l.take (k+1))=(eqPc B (l.take k)||decide (l[k]/B=l[k]%B)):=by
 unfold eqPc;rw[zak h,List.any_append];simp
def cntP (ea eb:List EdD) (B p:Nat) (ls:List Int) (m:Nat):Nat:=((ls.take m).filter fun x=>decide (0<x)&&(pnx ea eb B p x).isSome).length
theorem qMh (ea eb:List EdD) (B p:Nat) (ls:List Int) (m:Nat) (h:m<ls.length):cntP ea eb B p ls (m+1)=cntP ea eb B p ls m+if 0<ls[m]/\(pnx ea eb B p ls[m]).isSome=true then 1 else 0:=by
 unfold cntP;rw[zak h,zar,zah];congr 1
 simp only[zaF,zaJ];by_cases hc:0<ls[m]/\(pnx ea eb B p ls[m]).isSome=true
 ·rw[Wm hc,Wm (by simp[hc.1,hc.2])];rfl
 ·rw[Wn hc,Wn (fun h=>hc (by simpa using h))];rfl
theorem qQc (ea eb:List EdD) (B p:Nat) (ls:List Int) (m:Nat):cntP ea eb B p ls m<=m:=by
 unfold cntP;refine zax (List.length_filter_le _ _) ?_;rw[List.length_take];omega
theorem qML (ea eb:List EdD) (B p:Nat): ∀r:Nat,cntP ea eb B p (qB r) (qB r).length=edgN ea eb B r p:=by
 intro r;unfold cntP edgN;rw[zaz];induction r with
 | zero=>rfl
 | succ r ih=>
   unfold qB;rw[zar,zah,ih,zaK,zar,zah];congr 1
   have e1:decide ((0:Int)<(r:Int)+1)=true:=decide_eq_true tO;have e2:decide ((0:Int)< -((r:Int)+1))=false:=decide_eq_false tO;simp only[zaF,zaJ,e1,e2,zaO,Bool.false_and];cases (pnx ea eb B p ((r:Int)+1)).isSome<;>rfl
theorem qMb (ea eb:List EdD) (B r:Nat) (o:List Nat) (k:Nat) (h:k<o.length):edgL ea eb B r (o.take (k+1))=edgL ea eb B r (o.take k)+edgN ea eb B r o[k]:=by
 rw[qGw _ _ _ _ _ _ h];rfl
def pcD (a b:GrD) (A B r i:Nat):PcD:=(((i/B:Nat):Int),((i%B:Nat):Int),((prsL a b A B (qB r) i).length:Int),(edgL a.2.2 b.2.2 B r (prsL a b A B (qB r) i):Int),eqPc B (prsL a b A B (qB r) i))
def pst2 (a b:GrD) (A B r:Nat) (s:List Nat×List PcD) (i:Nat):List Nat×List PcD:=
 if i∈s.1 then s else(s.1++prsL a b A B (qB r) i,s.2++ [pcD a b A B r i])
def pcs (a b:GrD) (A B r k:Nat):List Nat×List PcD:=(zaw k).foldl (pst2 a b A B r) ([],[])
theorem qCE (a b:GrD) (A B r k:Nat):pcs a b A B r (k+1)=pst2 a b A B r (pcs a b A B r k) k:=by
 unfold pcs;rw[zaK,List.foldl_append];rfl
def pcR (d:PcD):Int:=d.2.2.2.1-d.2.2.1+1
theorem qGT (a b:GrD) (A B r k:Nat):(pcs a b A B r k).1=(qCZ a b A B r k).1/\(pcs a b A B r k).2.map pcR=(qCZ a b A B r k).2:=by
 induction k with
 | zero=>exact⟨rfl,rfl⟩
 | succ k ih=>
   rw[qCE,qEA];unfold pst2 cst;rw[ih.1];split
   ·exact ih
   ·refine⟨rfl,?_⟩;simp only[List.map_append,ih.2];rfl
theorem qHu (a b:GrD) (A B r k:Nat):(pcs a b A B r k).2.length<=k:=by
 induction k with
 | zero=>simp[pcs]
 | succ k ih=>
   rw[qCE];unfold pst2;split
   ·omega
   ·simp;omega
theorem qPx {a b:GrD} {A B:Nat} (h:Two a b A B) {r:Nat} (hr:r<=3) {k:Nat} (hk:k<=A*B) {p q:Nat} {x:Int} (hx:x∈qB r) (hp:p∉(pcs a b A B r k).1) (hq:pnx a.2.2 b.2.2 B p x=some q):q∉(pcs a b A B r k).1:=by
 rw[(qGT a b A B r k).1] at*;intro zC;exact hp ((qDi h hr k hk).2 q zC (-x) p (qAT hr x hx).2 (qBT h (qAT hr x hx).1 hq))
theorem qQM {a b:GrD} {A B:Nat} (h:Two a b A B) {ls:List Int} {p q:Nat} (f i:Nat) (o:List Nat) (hq:q∈o):q∈bfsF a.2.2 b.2.2 B ls f i o:=by
 have: ∀(f i:Nat) (o:List Nat),q∈o->q∈bfsF a.2.2 b.2.2 B ls f i o:=by
  intro f;induction f with
  | zero=>intro i o ho;exact ho
  | succ f ih=>
    intro i o ho;unfold bfsF;cases o[i]? with
    | none=>exact ho
    | some q=>exact ih _ _ (qFA ls q o ho)
 exact this f i o hq
theorem qHv {a b:GrD} {A B:Nat} (h:Two a b A B) (r:Nat): ∀k q,q<k->q∈(pcs a b A B r k).1:=by
 intro k;induction k with
 | zero=>intro q hq;omega
 | succ k ih=>
   intro q hq;rw[qCE];unfold pst2;split
   ·rename_i hk
    rcases zay q k with h1 | h1
    ·exact ih q h1
    ·rwa [show q=k by omega]
   ·rcases zay q k with h1 | h1
    ·exact List.mem_append_left _ (ih q h1)
    ·exact List.mem_append_right _ (by rw[show q=k by omega];exact qCI h)
def rtP (a b:GrD) (A B r p:Nat):Nat:=((zaw (A*B)).find? fun q=>decide (p∈prsL a b A B (qB r) q)).getD 0
def ixP (a b:GrD) (A B r p:Nat):Int:=((pcs a b A B r (rtP a b A B r p)).2.length:Int)
section
variable {a b:GrD} {A B:Nat} (h:Two a b A B) {r:Nat} (hr:r<=3)
include h hr
theorem qQE {k:Nat} (hk:k<=A*B) {q p:Nat} (hq:q<k) (hp:p∈prsL a b A B (qB r) q):p∈(pcs a b A B r k).1:=by
 have hc:=(qDi h hr k hk).2;rw[<-(qGT a b A B r k).1] at hc;exact qEg (S:=fun z=>z∈(pcs a b A B r k).1) (fun z x y hz hx hy=>hc z hz x y hx hy) _ _ _ (fun z hz=>by rw[zag.1 hz];exact qHv h r k q hq) p hp
theorem qQv {k:Nat} (hk:k<A*B) (hn:k∉(pcs a b A B r k).1) {p:Nat} (hp:p∈prsL a b A B (qB r) k):rtP a b A B r p=k:=by
 have hc:=(qDi h hr k (Nat.le_of_lt hk)).2;rw[<-(qGT a b A B r k).1] at hc;have km:=qMy h (qAT hr) hc hn p hp;unfold rtP;have:(zaw (A*B)).find? (fun q=>decide (p∈prsL a b A B (qB r) q))=some k:=by
  rw[List.find?_range_eq_some];refine⟨by simpa using hp,zaN.2 hk,fun j hj=> ?_⟩;simp only[Bool.not_eq_true',decide_eq_false_iff_not];exact fun bV=>km (qQE h hr (Nat.le_of_lt hk) hj bV)
 rw[this];rfl
theorem qPl {k:Nat} (hk:k<A*B) (hn:k∉(pcs a b A B r k).1) {p:Nat} (hp:p∈prsL a b A B (qB r) k):ixP a b A B r p=((pcs a b A B r k).2.length:Int):=by
 unfold ixP;rw[qQv h hr hk hn hp]
end
def qIx (G:Nat->Int) (A B:Nat) (f:Nat->Nat->Int) (M:List Nat):Prop:= ∀i j,i<A->j<B->(I64 (f i j)/\(0<=f i j↔i*B+j∈M))/\(i*B+j∈M->f i j=G (i*B+j))
theorem qHL {G:Nat->Int} {A B:Nat} {f:Nat->Nat->Int} {M:List Nat} (h:qIx G A B f M) {i j:Nat} (hj:j<B) {z:Int} (hz:0<=z) (bQ:I64 z) (hG:G (i*B+j)=z):qIx G A B (upd f i j z) (M++ [i*B+j]):=by
 intro i' j' dB jR;unfold upd;by_cases hc:i'=i/\j'=j
 ·rw[Wm hc,hc.1,hc.2];exact⟨⟨bQ,by simp[hz]⟩,fun _=>hG.symm⟩
 ·rw[Wn hc];obtain⟨⟨h1,h2⟩,h3⟩:=h i' j' dB jR;have ai:i'*B+j'≠i*B+j:=fun e=>by
   refine absurd ?_ hc;have e1:(i'*B+j')/B=(i*B+j)/B:=by rw[e]
   have e2:(i'*B+j')%B=(i*B+j)%B:=by rw[e]
   rw[zaq,zaL tO,zaG jR,zaq i,zaL tO,zaG hj] at e1;rw[zaq,zaM,zaH jR,zaq i,zaM,zaH hj] at e2;exact⟨tO,e2⟩
  refine⟨⟨h1,?_⟩,fun hm=>h3 ?_⟩
  ·rw[h2,zaj,zag];exact⟨fun h=> .inl h,fun h=>h.elim id fun e=>absurd e ai⟩
  ·rcases zaj.1 hm with q | q
   ·exact q
   ·exact absurd (zag.1 q) ai
theorem qDQ {l:List Nat} {i d:Nat} (h:i<l.length):l.getD i d=l[i]:=by simp[h]
section
variable {a b:GrD} {A B:Nat} (h:Two a b A B) {r:Nat} (hr:r<=3)
include h hr
theorem qOv {p q:Nat} (hp:p<A*B) (hq:q∈prsL a b A B (qB r) p): ∀z,z∈prsL a b A B (qB r) q↔z∈prsL a b A B (qB r) p:=by
 have hx:=fun x (hx:x∈qB r)=>(qAT hr x hx).1;have pz:=qHC h hp q hq;have fwd: ∀p q,p<A*B->q∈prsL a b A B (qB r) p-> ∀z∈prsL a b A B (qB r) q,z∈prsL a b A B (qB r) p:=fun p q hp hq=>
  qEg (S:=fun z=>z∈prsL a b A B (qB r) p) (fun z x y hz ei hy=>qBC h hx hp z hz x y ei hy) _ _ _ fun z hz=>by rw[zag.1 hz];exact hq
 have Dz:p∈prsL a b A B (qB r) q:=by
  by_cases pv:p∈prsL a b A B (qB r) q
  ·exact pv
  ·exact absurd (qCI h) (qMy h (qAT hr) (M:=prsL a b A B (qB r) q) (fun z hz x y ei hy=>qBC h hx pz z hz x y ei hy) pv q hq)
 exact fun z=>⟨fwd p q hp hq z,fwd q p pz Dz z⟩
theorem qIP {p q:Nat} (hp:p<A*B) (hq:q∈prsL a b A B (qB r) p):(prsL a b A B (qB r) q).Perm (prsL a b A B (qB r) p):=
 (zau (qCL _) (qCL _)).2 (qOv h hr hp hq)
omit h hr in
theorem qOn {k p:Nat} (hk:k<=A*B) (hp:p∈(pcs a b A B r k).1): ∃q,q<k/\q∉(pcs a b A B r q).1/\p∈prsL a b A B (qB r) q:=by
 induction k with
 | zero=>simp[pcs] at hp
 | succ k ih=>
   rw[qCE] at hp;unfold pst2 at hp;split at hp
   ·obtain⟨q,h1,h2⟩:=ih tO hp;exact⟨q,tO,h2⟩
   ·rename_i hn
    rcases zaj.1 hp with q | q
    ·obtain⟨q,h1,h2⟩:=ih tO q;exact⟨q,tO,h2⟩
    ·exact⟨k,tO,hn,q⟩
omit h hr in
theorem qQd {k n:Nat} (Pd:k<=n) {i:Nat} {d:PcD} (hi:(pcs a b A B r k).2[i]? =some d):(pcs a b A B r n).2[i]? =some d:=by
 obtain⟨m,rfl⟩: ∃m,n=k+m:=⟨n-k,tO⟩;induction m with
 | zero=>exact hi
 | succ m ih=>
   rw[<-Nat.add_assoc,qCE];unfold pst2;have h1:=ih tO;split
   ·exact h1
   ·rw[List.getElem?_append_left (List.getElem?_eq_some_iff.1 h1).1];exact h1
theorem qNR {p:Nat} (hp:p<A*B): ∃(c q:Nat) (d:PcD),ixP a b A B r p=(c:Int)/\(pcs a b A B r (A*B)).2[c]? =some d/\d.2.2.1=((prsL a b A B (qB r) p).length:Int)/\d.2.2.2.1=(edgL a.2.2 b.2.2 B r (prsL a b A B (qB r) p):Int)/\q<A*B:=by
 obtain⟨q,hq,hn,hm⟩:=qOn (zae _) (qHv h r (A*B) p hp);refine⟨(pcs a b A B r q).2.length,q,pcD a b A B r q,qPl h hr hq hn hm,qQd (k:=q+1) tO ?_,?_,?_,hq⟩
 ·rw[qCE];unfold pst2;rw[Wn hn,List.getElem?_append_right (zae _)];simp
 ·show((prsL a b A B (qB r) q).length:Int)=_
  rw[(qIP h hr hq hm).length_eq]
 ·show(edgL a.2.2 b.2.2 B r (prsL a b A B (qB r) q):Int)=_
  unfold edgL;rw[((qIP h hr hq hm).map _).sum_nat]
end
def okMw (g:GrD) (N r p:Nat):Bool:=decide (p/N≠p%N)&&decide ((prsL g g N N (qB r) p).length<=edgL g.2.2 g.2.2 N r (prsL g g N N (qB r) p))
def fstW (g:GrD):Option Nat:=(zaw (g.2.1.toNat*g.2.1.toNat)).find? (okMw g g.2.1.toNat g.1.toNat)
theorem qOf {L:List EdD} (h:L.Nodup):(srt cmpE L).length=L.length:=by
 have hs:=qAq qz L;have hn:(srt cmpE L).Nodup:=hs.1.imp fun {x y} hxy e=>by rw[e,qBc.2 rfl] at hxy;omega
 exact((zau hn h).2 hs.2).length_eq
section
variable {a b:GrD} {u v:Nat}
theorem qQi (h1:qO a=true) (h2:qO b=true) (hu:(u:Int)<a.2.1) (hv:(v:Int)<b.2.1): ∀i,i<(pbP a b u v).length->Conn (pbG a b u v).2.2 0 (i:Int):=by
 have hT:=qBP h1 h2;have hg:=(qD (qE h1).1).1;have bT:a.1.toNat<=3:=tO;have wA:=(qD (qE h1).1).2.1;have Hp:=(qD (qE h2).1).2.1;have n9:u*b.2.1.toNat+v<a.2.1.toNat*b.2.1.toNat:=qDO tO tO;have iJ: ∀x,x∈qB a.1.toNat->(-3<=x/\x<=3)/\ -x∈qB a.1.toNat:=qAT bT;have dx: ∀e,e∈peL a.2.2 b.2.2 b.2.1.toNat a.1.toNat (pbP a b u v) (pbP a b u v).length->e∈(pbG a b u v).2.2:=fun e he=>((qAq qz _).2 e).2 he;have edge: ∀(p q:Nat) (x:Int),p∈pbP a b u v->q∈pbP a b u v->1<=x->x<=a.1.toNat->pnx a.2.2 b.2.2 b.2.1.toNat p x=some q->(((pbP a b u v).idxOf p:Int),x,((pbP a b u v).idxOf q:Int))∈(pbG a b u v).2.2:=fun p q x hp hq gt ij hn=>by
  refine dx _ (qFo.2 ⟨(pbP a b u v).idxOf p,(x-1).toNat,zai hp,tO,?_⟩);unfold peE;rw[qDQ (zai hp),zas,show(((x-1).toNat:Nat):Int)+1=x by omega,hn];rfl
 have key: ∀p∈pbP a b u v,p∈pbP a b u v/\Conn (pbG a b u v).2.2 0 ((pbP a b u v).idxOf p:Int):=by
  refine qEg (S:=fun p=>p∈pbP a b u v/\Conn (pbG a b u v).2.2 0 ((pbP a b u v).idxOf p:Int)) (fun p x q ⟨hp,hc⟩ ei hn=> ?_) _ _ _ fun p hp=> ?_
  ·have hq:q∈pbP a b u v:=qBC hT (fun x hx=>(iJ x hx).1) n9 p hp x q ei hn;refine⟨hq,?_⟩;rcases qw.1 ei with hx | hx
   ·exact Conn.fwd _ (edge p q x hp hq hx.1 hx.2 hn) hc
   ·have hb:=qBT hT (iJ x ei).1 hn;exact Conn.back _ (edge q p (-x) hq hp tO tO hb) hc
  ·rw[zag.1 hp];have h0:(pbP a b u v)[0]? =some (u*b.2.1.toNat+v):=by
    have: ∀(f i:Nat) (o:List Nat),o[0]? =some (u*b.2.1.toNat+v)->(bfsF a.2.2 b.2.2 b.2.1.toNat (qB a.1.toNat) f i o)[0]? =some (u*b.2.1.toNat+v):=by
     intro f;induction f with
     | zero=>intro i o ho;exact ho
     | succ f ih=>
       intro i o ho;unfold bfsF;cases o[i]? with
       | none=>exact ho
       | some q=>exact ih _ _ (qAO (a:=a) (b:=b) _ q o ho)
    exact this _ _ _ rfl
   have hm:u*b.2.1.toNat+v∈pbP a b u v:=List.mem_of_getElem? h0;refine⟨hm,?_⟩;have:(pbP a b u v).idxOf (u*b.2.1.toNat+v)=0:=by
    cases hl:pbP a b u v with
    | nil=>rw[hl] at h0;simp at h0
    | cons z l=>rw[hl] at h0;simp at h0;subst h0;simp
   rw[this];exact Conn.base
 intro i hi;have:=(key (pbP a b u v)[i] (zao hi)).2
 have hj:=zai (zao hi);have e:(pbP a b u v).idxOf (pbP a b u v)[i]=i:=qDp (qCL _) hj hi (zas hj);rwa [e] at this
theorem qMO {g:GrD} (hf:qO g=true) (aG: ∀y,0<=y/\y<g.2.1->y∈canO g) (hE:g.2.1<=(g.2.2.length:Int)):extL g≠ []:=fun h0=>by
 obtain⟨hg,aX⟩:=qE hf;have hN:=(qD hg).2.1;have hx: ∀e∈g.2.2,exB g e=false:=fun e he=>by
  cases hb:exB g e with
  | false=>rfl
  | true=>
    have:e∈extL g:=List.mem_filter.2 ⟨he,hb⟩
    rw[h0] at this;cases this
 have bC:g.2.2 ⊆ (zaw (g.2.1.toNat-1)).map fun (i:Nat)=>tE g ((i:Int)+1):=fun e he=>by
  obtain⟨y,hy,eK,rfl⟩:=(qPh hg aX he).2 (hx e he);have hr:=(qAD hg).2.1 y hy;refine List.mem_map.2 ⟨(y-1).toNat,zaN.2 tO,?_⟩;rw[show(((y-1).toNat:Nat):Int)+1=y by omega]
 have:=(qHs hg).2.length_le_of_subset bC
 simp at this
 omega
theorem qRH (h1:qO a=true) (h2:qO b=true) (hu:(u:Int)<a.2.1) (hv:(v:Int)<b.2.1) (af:pbOk a b u v=true) (hE:(pbP a b u v).length<=edgL a.2.2 b.2.2 b.2.1.toNat a.1.toNat (pbP a b u v)):
  extL (pbG a b u v)≠ []/\ ∀y,0<=y/\y<(pbG a b u v).2.1->y∈canO (pbG a b u v):=by
 have hf:=qGY h1 h2 hu hv af;have aG: ∀y,0<=y/\y<(pbG a b u v).2.1->y∈canO (pbG a b u v):=fun y hy=>by
  have hs:(pbG a b u v).2.1=((pbP a b u v).length:Int):=rfl;have:=qOB hf (qQi h1 h2 hu hv y.toNat tO)
  rwa [show((y.toNat:Nat):Int)=y by omega] at this
 refine⟨qMO hf aG ?_,aG⟩;have hl:(pbG a b u v).2.2.length=edgL a.2.2 b.2.2 b.2.1.toNat a.1.toNat (pbP a b u v):=by
  have e1:=qNI (a:=a) (b:=b) (u:=u) (v:=v) h1 h2;rw[<-e1];exact qOf (qNv _ _ _ _ _ _)
 rw[hl];show((pbP a b u v).length:Int)<=_
 omega
end
section
variable {a b:GrD} {u v:Nat}
theorem qNj (h1:qO a=true) (h2:qO b=true) (hu:(u:Int)<a.2.1) (hv:(v:Int)<b.2.1) {e:EdD} (he:e∈(pbG a b u v).2.2):
  pnx a.2.2 b.2.2 b.2.1.toNat ((pbP a b u v).getD e.1.toNat 0) e.2.1=some ((pbP a b u v).getD e.2.2.toNat 0):=by
 have hT:=qBP h1 h2;have hg:=(qD (qE h1).1).1;have wA:=(qD (qE h1).1).2.1;have Hp:=(qD (qE h2).1).2.1;have n9:u*b.2.1.toNat+v<a.2.1.toNat*b.2.1.toNat:=qDO tO tO;have iJ: ∀x,x∈qB a.1.toNat->(-3<=x/\x<=3)/\ -x∈qB a.1.toNat:=qAT tO;have hm:e∈peL a.2.2 b.2.2 b.2.1.toNat a.1.toNat (pbP a b u v) (pbP a b u v).length:=((qAq qz _).2 e).1 he;obtain⟨i,j,hi,hj,hp⟩:=qFo.1 hm;obtain⟨q,hq,rfl⟩:=qBx hp;have dx:(pbP a b u v).getD i 0∈pbP a b u v:=by rw[qDQ hi];exact zao hi
 have zC:q∈pbP a b u v:=qBC hT (fun x hx=>(iJ x hx).1) n9 _ dx _ q (qw.2 (.inl ⟨tO,tO⟩)) hq;simp only[zav];rw[qDQ (zai zC),zas];exact hq
theorem qQa (h1:qO a=true) (h2:qO b=true) (hu:(u:Int)<a.2.1) (hv:(v:Int)<b.2.1) (af:pbOk a b u v=true) {i l:Int} (hl: -3<=l/\l<=3) (h0:0<=qF (pbG a b u v).2.2 i l):
  pnx a.2.2 b.2.2 b.2.1.toNat ((pbP a b u v).getD i.toNat 0) l=some ((pbP a b u v).getD (qF (pbG a b u v).2.2 i l).toNat 0):=by
 obtain⟨gx,fx⟩:=qE (qGY h1 h2 hu hv af);rcases(qIV gx fx (v:=i) (x:=l) (y:=qF (pbG a b u v).2.2 i l) hl h0).1 rfl with q | q
 ·exact qNj h1 h2 hu hv q.2
 ·have:=qBT (qBP h1 h2) (x:= -l) tO (qNj h1 h2 hu hv q.2)
  simpa using this
theorem qKL (h1:qO a=true) (h2:qO b=true) (hu:(u:Int)<a.2.1) (hv:(v:Int)<b.2.1) (af:pbOk a b u v=true): ∀(w:List Int) (i:Int),(∀x∈w,-3<=x/\x<=3)->0<=qQ (pbG a b u v).2.2 i w->
  qQ a.2.2 (((pbP a b u v).getD i.toNat 0/b.2.1.toNat:Nat):Int) w=(((pbP a b u v).getD (qQ (pbG a b u v).2.2 i w).toNat 0/b.2.1.toNat:Nat):Int)/\
  qQ b.2.2 (((pbP a b u v).getD i.toNat 0%b.2.1.toNat:Nat):Int) w=(((pbP a b u v).getD (qQ (pbG a b u v).2.2 i w).toNat 0%b.2.1.toNat:Nat):Int)
 | [],_,_,_=>⟨rfl,rfl⟩
 | l::w,i,hw,h0=>by
   rw[qV] at h0;split at h0
   ·omega
   ·rename_i hn
    have hs:=qQa h1 h2 hu hv af (hw l tZ) (zan.1 hn);obtain⟨p1,p2⟩:=qHM (qBP h1 h2) hs;obtain⟨w1,w2⟩:=qKL h1 h2 hu hv af w _ (fun x hx=>hw x (by simp[hx])) h0;rw[qV,qV,qV,Wn hn,<-p1,<-p2,Wn (zan.2 (zaE _)),Wn (zan.2 (zaE _))];exact⟨w1,w2⟩
theorem qLO:(pbP a b u v)[0]? =some (u*b.2.1.toNat+v):=by
 have: ∀(f i:Nat) (o:List Nat),o[0]? =some (u*b.2.1.toNat+v)->(bfsF a.2.2 b.2.2 b.2.1.toNat (qB a.1.toNat) f i o)[0]? =some (u*b.2.1.toNat+v):=by
  intro f;induction f with
  | zero=>intro i o ho;exact ho
  | succ f ih=>
    intro i o ho;unfold bfsF;cases o[i]? with
    | none=>exact ho
    | some q=>exact ih _ _ (qAO (a:=a) (b:=b) _ q o ho)
 exact this _ _ _ rfl
end
def qDD (a b:GrD):List Int:=if qS a&&qS b&&decide (a.1=b.1) then(qCZ a b a.2.1.toNat b.2.1.toNat a.1.toNat (a.2.1.toNat*b.2.1.toNat)).2 else []
theorem qKw {a b:GrD} (h1:qS a=true) (h2:qS b=true):Two a b a.2.1.toNat b.2.1.toNat:=by
 obtain⟨g1,f1⟩:=qE (qCM h1);obtain⟨g2,f2⟩:=qE (qCM h2);have s1:=(qD g1).2.1;have s2:=(qD g2).2.1;exact⟨g1,g2,f1,f2,tO,tO⟩
theorem qGz {a b:GrD} {A B r p:Nat} (h:Two a b A B) (hr:r<=3) (hp:p<A*B):(prsL a b A B (qB r) p).length<=1600/\edgL a.2.2 b.2.2 B r (prsL a b A B (qB r) p)<=4800:=by
 have h1:=qBr (qCL (a:=a) (b:=b) (A:=A) (B:=B) (p:=p) (qB r)) (qHC h hp);have h2:=qGn a.2.2 b.2.2 B r hr (prsL a b A B (qB r) p);obtain⟨⟨_,hA⟩,_,hB⟩:=h.bd;have:A*B<=1600:=Nat.mul_le_mul hA hB
 omega
theorem qIg (a b:GrD) (A B r k:Nat):(qCZ a b A B r k).2.length<=k:=by
 induction k with
 | zero=>simp[qCZ]
 | succ k ih=>
   rw[qEA];unfold cst;split
   ·omega
   ·simp;omega
theorem qPk {i B:Nat}:i=i/B*B+i%B:=by
 have:=Nat.div_add_mod i B
 rw[zaq] at this;omega
end Go.Proofs.YtnjpoljbagfdnaaGreat
