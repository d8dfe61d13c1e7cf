/- The law FnMalnormal. -/
import Derived.Test.YtnjpoljbagfdnaaGreatM11
import Derived.Test.YtnjpoljbagfdnaaGreatRows
import Derived.Test.YtnjpoljbagfdnaaGreatCloFnMalnormal
import Derived.Deep.DeepCutAuto
namespace Go.Proofs.YtnjpoljbagfdnaaGreat.fnMalnormal
open _root_.List renaming setIfInBounds_toArray->zaa,set_cons_zero->zab,set_cons_succ->zac
open Go.Act renaming put->zad
open Go.RowKit.Below renaming refl->zae
open Go.RowKit renaming Below→Wf,Hid→Wi
open Go renaming Calls→Wk,Value→Wh,World→Wg
set_option maxRecDepth 20000
set_option linter.unusedVariables false
set_option linter.unusedSimpArgs false
open Go.ChangeShapes Go.WideShapes Go.ChangeAt Go.RowKit
open Go.ChangeMaps (open_string shut_string)
theorem mal_core {g:GrD} (h:malB g=true):qS g=true/\1<=g.1/\g.1<=3:=by
 unfold malB at h;simp only[Bool.and_eq_true] at h;have:=(qD (qAd h.2).1).1
 exact⟨h.2,this⟩
theorem invL_back {w:List Int} (h: ∀y∈w,Lt3 y):invL (invL w)=w:=by
 have h1:invL w=invN w:=qGe fun y hy=>(h y hy).b3;have h2:invL (invN w)=invN (invN w):=qGe fun y hy=>by have:=(h _ (qCj hy)).b3;omega
 rw[h1,h2,qIA]
set_option maxRecDepth 100000 in
set_option maxHeartbeats 16000000 in
theorem walk (v0:Wh) (x0:List Int) (w:Wg) (h0:ArgC w v0 x0):
  Wk Tryz.prog 4 #[v0] w fun e w'=>e= .returned (.bool true)/\Wf w w w':=by
 have sU:=qA (qQK v0 x0 w h0);have V:=qA h0;obtain⟨A0,c0,rfl,_⟩:=h0;by_cases hl:(1048576:Int)<x0.length
 ·have hd:decide ((1048576:Int)<x0.length)=true:=decide_eq_true hl;rw[hd] at sU;clear hd hl;go_enter Tryz.func4,Tryz.ntmps4
  go_wp2_with fail;refine sU.o.mono ?_;rintro e w1 ⟨rfl,rfl⟩;go_wp2;go_ret;exact⟨rfl,zae _ _⟩
 have hd:decide ((1048576:Int)<x0.length)=false:=decide_eq_false hl;rw[hd] at sU;have ri:x0.length<=1048576:=tO;clear hd hl;go_enter Tryz.func4,Tryz.ntmps4
 go_wp2_with fail;refine sU.o.mono ?_;rintro e w1 ⟨rfl,rfl⟩;go_wp2_with fail;refine(qKE _ x0 _ V ri).mono ?_
 rintro e w1 ⟨gv,⟨q1,q2,qs⟩,rfl,⟨s1,rfl,j1,j2,dM⟩,pz,b1⟩;obtain⟨A1,c1,rfl,_⟩:=dM.form;simp only at j1 j2 dM pz⊢
 have BZ:=qA b1;replace V:=qA (V.below b1);have jq:=qA dM;clear dM b1 pz;obtain⟨W2,aT⟩: ∃W,W=w1.alloc (.cells #[.int .i64 q1,.int .i64 q2, .slice A1 qs.length c1] 26):=⟨_,rfl⟩;have g2:=GBx.new (m:=(q1,q2,qs)) jq.o j1 j2 aT;obtain⟨-,b2,s2⟩:=CBx.new aT;have G:=qA g2;replace V:=qA (V.below b2);replace BZ:=qA (BZ.trans (b2.mono BZ.size));have tu:=qA (fun W (h:ArgG W (.agg #[.int .i64 q1, .int .i64 q2, .slice A1 qs.length c1]) (q1,q2,qs))=>qDA _ (q1,q2,qs) W h);have Ef:=qA (fun W (h:ArgG W (.agg #[.int .i64 q1, .int .i64 q2, .slice A1 qs.length c1]) (q1,q2,qs))=>qCs _ (q1,q2,qs) W h);have nc:=qA (fun W (h:ArgG W (.agg #[.int .i64 q1, .int .i64 q2, .slice A1 qs.length c1]) (q1,q2,qs))=>qEX _ (q1,q2,qs) W h);have lV:=qA (fun W (h:ArgG W (.agg #[.int .i64 q1, .int .i64 q2, .slice A1 qs.length c1]) (q1,q2,qs))=>qEa _ (q1,q2,qs) W h);have ua:=qA (fun W (h:ArgG W (.agg #[.int .i64 q1, .int .i64 q2, .slice A1 qs.length c1]) (q1,q2,qs))=>qCR _ (q1,q2,qs) W h);have aI:=qA (fun W (h:ArgG W (.agg #[.int .i64 q1, .int .i64 q2, .slice A1 qs.length c1]) (q1,q2,qs))=>qCN _ (q1,q2,qs) W h);have tg:=qA (fun (hc:qS (q1,q2,qs)=true) W u ys (h:ArgG W (.agg #[.int .i64 q1, .int .i64 q2, .slice A1 qs.length c1]) (q1,q2,qs)) (h':RdI W u ys) (hl:ys.length<=536870912)=>qGB _ u (q1,q2,qs) ys W h h' hc hl);have uj:=qA (fun (hc:qS (q1,q2,qs)=true) W u ys (h:ArgG W (.agg #[.int .i64 q1, .int .i64 q2, .slice A1 qs.length c1]) (q1,q2,qs)) (h':RdI W u ys) (hl:ys.length<=536870912)=>qGA _ u (q1,q2,qs) ys W h h' hc hl);have vz:=qA (fun (hm:malB (q1,q2,qs)=true) t (hs:(metF (q1,q2,qs) (q1,q2,qs) t).2=true) (hn:qQ qs 0 (redL [] t)≠0)=>qQm hm hs hn);have Cx:=qA (fun (hm:malB (q1,q2,qs)=true)=>mal_core hm);have DY:=qA (fun W u t (h:ArgG W (.agg #[.int .i64 q1, .int .i64 q2, .slice A1 qs.length c1]) (q1,q2,qs)) (h':RdI W u t) (hl:t.length<=1073741824)=>xP7 _ (.inl ⟨rfl,xPa⟩) _ _ u (q1,q2,qs) (q1,q2,qs) t W h h h' hl);have nK:=qA (fun ws xs (h:malF (q1,q2,qs)=(ws,xs,true))=>qPt h);obtain⟨⟨ws,xs,is⟩,hR⟩: ∃r,r=malF (q1,q2,qs):=⟨_,rfl⟩;rw[<-hR] at tu Ef;replace nK:Wi (is=true->malB (q1,q2,qs)=false/\qS (q1,q2,qs)=true/\qQ qs 0 (redL [] ws)≠0/\xs≠ []/\qQ qs 0 (redL [] xs)=0/\qQ qs 0 (redL [] (redL [] (redL [] (ws++xs)++invL ws)))=0/\(ws.length<=100/\xs.length<=400)/\(∀y∈ws,Lt3 y)/\ ∀y∈xs,Lt3 y):=qA fun h=>nK.o ws xs (by rw[<-hR,h]);clear hR;generalize malB (q1,q2,qs)=mb at*;generalize offR (q1,q2,qs)=OF at*;simp only at tu Ef
 go_wp2_with fail;rw[<-aT];clear aT g2 b2 jq;generalize w1.heap.size=gb at*;refine(tu _ G.arg).mono ?_
 rintro e w3 ⟨r3,s3,rfl,o3,p3,-,b⟩;obtain⟨A2,c2,rfl,-⟩:=o3.form;obtain⟨A3,c3,rfl,-⟩:=p3.form;have P1:=qA o3.rd;have P2:=qA p3.rd;clear tu o3 p3;replace V:=qA (V.below b);replace G:=qA (G.below b);replace BZ:=qA (BZ.trans (b.mono BZ.size));clear b;obtain⟨u0,u1,u2⟩:=G.o.cs;simp only at u0 u1 u2
 go_wp2_with fail;refine(Ef _ G.arg).mono ?_
 rintro e w4 ⟨r4,s4,rfl,o4,p4,-,b⟩;obtain⟨A4,c4,rfl,-⟩:=o4.form;obtain⟨A5,c5,rfl,-⟩:=p4.form;have S1:=qA o4.rd;have S2:=qA p4.rd;clear Ef o4 p4 u0 u1 u2;replace V:=qA (V.below b);replace G:=qA (G.below b);replace P1:=qA (P1.below b);replace P2:=qA (P2.below b);replace BZ:=qA (BZ.trans (b.mono BZ.size));clear b;go_upto_region 6 with fail
 go_cut [63] (fun s wx=>s= .bool false/\Wf w4 w4 wx)
 case first=>as_aux_lemma=>
  clear nK vz Cx DY tg uj;refine qAy [] [.val (.bool is), .val (.bool is), .val (.bool false), .val (.bool false), .val (.slice A2 ws.length c2), .val (.slice A4 ws.length c4), .val (.bool true), .val (.bool false), .val (.bool false), .val (.bool false), .val (.slice A3 xs.length c3), .val (.slice A5 xs.length c5), .val (.bool true), .val (.bool false), .val (.bool false), .val (.bool false), .val (.agg #[.int .i64 q1, .int .i64 q2, .slice A1 qs.length c1]), .val (.bool mb), .val (.agg #[.int .i64 q1, .int .i64 q2, .slice A1 qs.length c1]), .val (.bool mb), .val (.bool false), .val (.bool false), .val (.bool false), .val (.agg #[.int .i64 q1, .int .i64 q2, .slice A1 qs.length c1]), .mem (fun _ W v=> ∃A c,v= .slice A OF.length c/\RdI W v OF), .val (.agg #[.int .i64 q1, .int .i64 q2, .slice A1 qs.length c1]), .mem (fun _ W v=> ∃A c,v= .slice A OF.length c/\RdI W v OF), .val (.bool true), .val (.bool false), .val (.bool false)]
   [none,none,none,none,none,none,some (fun W W'=>Wf W.heap.size W W'),none,none,none,none,none,some (fun W W'=>Wf W.heap.size W W'),none,none,none,none,some (fun W W'=>Wf W.heap.size W W'),none,some (fun W W'=>Wf W.heap.size W W'),none,none,none,none,some (fun W W'=>Wf W.heap.size W W'),none,some (fun W W'=>Wf W.heap.size W W'),some (fun W W'=>Wf W.heap.size W W'),none,none]
   (fun W=>Wf w4 w4 W) (fun _=>True) [] [(24,26),(24,27),(26,27)] tK tK tK
   trivial (by rfl) (by rfl) (zae _ _).drew trivial
   ⟨fun _ _ h t=>h.trans (t.mono h.size),fun _ _ h t=>h.trans (t.mono h.size),fun _ _ h t=>h.trans (t.mono h.size),fun _ _ h t=>h.trans (t.mono h.size),fun _ _ h t=>h.trans (t.mono h.size),fun _ _ h t=>h.trans (t.mono h.size),fun _ _ h t=>h.trans (t.mono h.size),trivial⟩ (qEi _ 0)
   ⟨fun _ _ _ _ _ _ t h=>by obtain⟨A,c,e,h⟩:=h;exact⟨A,c,e,h.below t⟩,fun _ _ _ _ _ _ t h=>by obtain⟨A,c,e,h⟩:=h;exact⟨A,c,e,h.below t⟩,fun _ _ _ _ _ _ t h=>by obtain⟨A,c,e,h⟩:=h;exact⟨A,c,e,h.below t⟩,trivial⟩ (fun vs=> ?_)
  iterate 6
   refine⟨fun W' _ _ hI hD hK=> ?_,?_⟩
   ·skip;go_simp;exact hK.o _ _ rfl rfl
   simp only[zad,zaa,zab,zac,Sg.pick,Nat.reduceAdd]
  refine⟨fun W' _ _ hI hD hK=> ?_,?_⟩
  ·skip;go_simp;refine(qQU _ _ ws ws _ (P1.below hI.o.1) (S1.below hI.o.1)).mono ?_;rintro e w' ⟨rfl,b⟩;simp only[decide_true];exact hK.o _ _ b rfl
  simp only[zad,zaa,zab,zac,Sg.pick,Nat.reduceAdd]
  iterate 5
   refine⟨fun W' _ _ hI hD hK=> ?_,?_⟩
   ·skip;go_simp;exact hK.o _ _ rfl rfl
   simp only[zad,zaa,zab,zac,Sg.pick,Nat.reduceAdd]
  refine⟨fun W' _ _ hI hD hK=> ?_,?_⟩
  ·skip;go_simp;refine(qQU _ _ xs xs _ (P2.below hI.o.1) (S2.below hI.o.1)).mono ?_;rintro e w' ⟨rfl,b⟩;simp only[decide_true];exact hK.o _ _ b rfl
  simp only[zad,zaa,zab,zac,Sg.pick,Nat.reduceAdd]
  iterate 3
   refine⟨fun W' _ _ hI hD hK=> ?_,?_⟩
   ·skip;go_simp;exact hK.o _ _ rfl rfl
   simp only[zad,zaa,zab,zac,Sg.pick,Nat.reduceAdd]
  refine⟨fun W' _ _ hI hD hK=> ?_,?_⟩
  ·obtain⟨z0,z1,z2⟩:=(G.below hI.o.1).cs;go_simp;exact hK.o _ _ rfl rfl
  simp only[zad,zaa,zab,zac,Sg.pick,Nat.reduceAdd];refine⟨fun W' _ _ hI hD hK=> ?_,?_⟩
  ·skip;go_simp;refine(nc _ (G.below hI.o.1).arg).mono ?_;rintro e w' ⟨rfl,b⟩;exact hK.o _ _ b rfl
  simp only[zad,zaa,zab,zac,Sg.pick,Nat.reduceAdd];refine⟨fun W' _ _ hI hD hK=> ?_,?_⟩
  ·obtain⟨z0,z1,z2⟩:=(G.below hI.o.1).cs;go_simp;exact hK.o _ _ rfl rfl
  simp only[zad,zaa,zab,zac,Sg.pick,Nat.reduceAdd];refine⟨fun W' _ _ hI hD hK=> ?_,?_⟩
  ·skip;go_simp;refine(lV _ (G.below hI.o.1).arg).mono ?_;rintro e w' ⟨rfl,b⟩;exact hK.o _ _ b rfl
  simp only[zad,zaa,zab,zac,Sg.pick,Nat.reduceAdd]
  iterate 3
   refine⟨fun W' _ _ hI hD hK=> ?_,?_⟩
   ·skip;go_simp;exact hK.o _ _ rfl rfl
   simp only[zad,zaa,zab,zac,Sg.pick,Nat.reduceAdd]
  refine⟨fun W' _ _ hI hD hK=> ?_,?_⟩
  ·obtain⟨z0,z1,z2⟩:=(G.below hI.o.1).cs;go_simp;exact hK.o _ _ rfl rfl
  simp only[zad,zaa,zab,zac,Sg.pick,Nat.reduceAdd];refine⟨fun W' _ _ hI hD hK=> ?_,?_⟩
  ·skip;go_simp;refine(ua _ (G.below hI.o.1).arg).mono ?_;rintro e w' ⟨o,rfl,oo,b⟩;obtain⟨A,c,rfl,-⟩:=oo.form;exact hK.o _ _ b ⟨A,c,rfl,oo.rd⟩
  simp only[zad,zaa,zab,zac,Sg.pick,Nat.reduceAdd];refine⟨fun W' _ _ hI hD hK=> ?_,?_⟩
  ·obtain⟨z0,z1,z2⟩:=(G.below hI.o.1).cs;go_simp;exact hK.o _ _ rfl rfl
  simp only[zad,zaa,zab,zac,Sg.pick,Nat.reduceAdd];refine⟨fun W' _ _ hI hD hK=> ?_,?_⟩
  ·skip;go_simp;refine(aI _ (G.below hI.o.1).arg).mono ?_;rintro e w' ⟨o,rfl,oo,b⟩;obtain⟨A,c,rfl,-⟩:=oo.form;exact hK.o _ _ b ⟨A,c,rfl,oo.rd⟩
  simp only[zad,zaa,zab,zac,Sg.pick,Nat.reduceAdd];refine⟨fun W' _ _ hI hD hK=> ?_,?_⟩
  ·obtain⟨Ax,cx,ex,lx⟩:=(show ∃A c,vs 24= .slice A OF.length c/\RdI W' (vs 24) OF from hD.o 24 tK);rw[ex] at lx;obtain⟨Ay,cy,ey,ly⟩:=(show ∃A c,vs 26= .slice A OF.length c/\RdI W' (vs 26) OF from hD.o 26 tK);rw[ey] at ly;rw[ex,ey] at hK⊢;go_simp;refine(qQU _ _ OF OF _ lx ly).mono ?_;rintro e w' ⟨rfl,b⟩;simp only[decide_true];exact hK.o _ _ b rfl
  simp only[zad,zaa,zab,zac,Sg.pick,Nat.reduceAdd]
  iterate 2
   refine⟨fun W' _ _ hI hD hK=> ?_,?_⟩
   ·skip;go_simp;exact hK.o _ _ rfl rfl
   simp only[zad,zaa,zab,zac,Sg.pick,Nat.reduceAdd]
  intro W9 hI9 hD9;have I9:=qA hI9.o.1;clear hI9 hD9;go_wp2_with fail;go_meet;exact⟨rfl,I9⟩
 case rest=>as_aux_lemma=>
  obtain⟨rfl,b⟩:=hcut;replace V:=qA (V.below b);replace G:=qA (G.below b);replace P1:=qA (P1.below b);replace P2:=qA (P2.below b);replace BZ:=qA (BZ.trans (b.mono BZ.size));clear b lV ua aI S1 S2;rename Wg=>wa
  go_upto_region 8 with fail
  go_cut [93] (fun s wx=>s= .bool false/\Wf wa wa wx)
  case first=>as_aux_lemma=>
   clear vz Cx DY uj;cases is
   ·clear nK;refine qAy [2,3,4,5,6,7,8,9,10,11,12,13,14,15,16,17,18,19,20,21,22,23,24,25,26,27,28] [.val (.bool false), .val (.bool false), .val undef, .val undef, .val undef, .val undef, .val undef, .val undef, .val undef, .val undef, .val undef, .val undef, .val undef, .val undef, .val undef, .val undef, .val undef, .val undef, .val undef, .val undef, .val undef, .val undef, .val undef, .val undef, .val undef, .val undef, .val undef, .val undef, .val undef, .val (.bool false)]
     [none,none,none,none,none,none,none,none,none,none,none,none,none,none,none,none,none,none,none,none,none,none,none,none,none,none,none,none,none,none]
     (fun W=>Wf wa wa W) (fun _=>True) [] [] tK tK tK
     ⟨⟨rfl,rfl⟩,⟨rfl,rfl⟩,⟨rfl,rfl⟩,⟨rfl,rfl⟩,⟨rfl,rfl⟩,⟨rfl,rfl⟩,⟨rfl,rfl⟩,⟨rfl,rfl⟩,⟨rfl,rfl⟩,⟨rfl,rfl⟩,⟨rfl,rfl⟩,⟨rfl,rfl⟩,⟨rfl,rfl⟩,⟨rfl,rfl⟩,⟨rfl,rfl⟩,⟨rfl,rfl⟩,⟨rfl,rfl⟩,⟨rfl,rfl⟩,⟨rfl,rfl⟩,⟨rfl,rfl⟩,⟨rfl,rfl⟩,⟨rfl,rfl⟩,⟨rfl,rfl⟩,⟨rfl,rfl⟩,⟨rfl,rfl⟩,⟨rfl,rfl⟩,⟨rfl,rfl⟩,trivial⟩ (by rfl) (by rfl) (zae _ _).drew trivial
     trivial (qEi _ 0)
     trivial (fun vs=> ?_)
    iterate 2
     refine⟨fun W' _ _ hI hD hK=> ?_,?_⟩
     ·skip;go_simp;exact hK.o _ _ rfl rfl
     simp only[zad,zaa,zab,zac,Sg.pick,Nat.reduceAdd]
    iterate 27
     refine⟨trivial,?_⟩;simp only[zad,zaa,zab,zac,Sg.pick,Nat.reduceAdd]
    refine⟨fun W' _ _ hI hD hK=> ?_,?_⟩
    ·skip;go_simp;exact hK.o _ _ rfl rfl
    simp only[zad,zaa,zab,zac,Sg.pick,Nat.reduceAdd];intro W9 hI9 hD9;have I9:=qA hI9.o.1;clear hI9 hD9;go_wp2_with fail;go_meet;exact⟨rfl,I9⟩
   ·obtain⟨Sa,iN,hw,ek,hx,l8,⟨DO,ei⟩,dZ,oQ⟩:=nK.o rfl;subst Sa;clear nK;have R4: ¬xs= []:=ek;have PI: ¬xs.length=0:=fun q=>ek (List.eq_nil_of_length_eq_zero q);have Rv:((xs.length:Int)==0)=false:=by rw[beq_eq_false_iff_ne];omega
    have Pn:decide ((xs.length:Int)=0)=false:=decide_eq_false tO;have Lp:=invL_back dZ;have kJ:(invL ws).length<=100:=by rw[qJR];exact DO
    have QW:=qA (fun W (h:RdI W (.slice A2 ws.length c2) ws)=>qAa _ ws W h tO);have tk:=qA (fun W u (h:RdI W (.slice A3 xs.length c3) xs) (h':RdI W u (invL ws))=>qDd _ u xs (invL ws) W h h' tO tO);rw[Lp] at tk;have aZ:(redL [] (redL [] (ws++xs)++invL ws)).length<=1000:=by
     have h1:=qBQ [] (ws++xs);have h2:=qBQ [] (redL [] (ws++xs)++invL ws);simp only[List.length_append,List.length_nil] at h1 h2;omega
    generalize redL [] (redL [] (ws++xs)++invL ws)=CW at*;generalize invL ws=IV at*;clear Lp dZ oQ ek;refine qAy [] [.val (.bool true), .val (.bool true), .val (.agg #[.int .i64 q1, .int .i64 q2, .slice A1 qs.length c1]), .val (.bool false), .val (.bool false), .val (.agg #[.int .i64 q1, .int .i64 q2, .slice A1 qs.length c1]), .val (.slice A2 ws.length c2), .val (.bool false), .val (.bool false), .val (.bool false), .val (.slice A3 xs.length c3), .val (.int .i64 xs.length), .val (.bool false), .val (.bool false), .val (.bool false), .val (.agg #[.int .i64 q1, .int .i64 q2, .slice A1 qs.length c1]), .val (.slice A3 xs.length c3), .val (.bool true), .val (.bool false), .val (.bool false), .val (.bool false), .val (.agg #[.int .i64 q1, .int .i64 q2, .slice A1 qs.length c1]), .val (.slice A3 xs.length c3), .val (.slice A2 ws.length c2), .mem (fun _ W v=> ∃A c,v= .slice A IV.length c/\RdI W v IV), .mem (fun _ W v=> ∃A c,v= .slice A CW.length c/\RdI W v CW), .val (.bool true), .val (.bool false), .val (.bool false), .val (.bool false)]
     [none,none,none,some (fun W W'=>Wf W.heap.size W W'),none,none,none,some (fun W W'=>Wf W.heap.size W W'),none,none,none,none,none,none,none,none,none,some (fun W W'=>Wf W.heap.size W W'),none,none,none,none,none,none,some (fun W W'=>Wf W.heap.size W W'),some (fun W W'=>Wf W.heap.size W W'),some (fun W W'=>Wf W.heap.size W W'),none,none,none]
     (fun W=>Wf wa wa W) (fun _=>True) [] [(24,25),(24,26),(25,26)] tK tK tK
     trivial (by rfl) (by rfl) (zae _ _).drew trivial
     ⟨fun _ _ h t=>h.trans (t.mono h.size),fun _ _ h t=>h.trans (t.mono h.size),fun _ _ h t=>h.trans (t.mono h.size),fun _ _ h t=>h.trans (t.mono h.size),fun _ _ h t=>h.trans (t.mono h.size),fun _ _ h t=>h.trans (t.mono h.size),trivial⟩ (qEi _ 0)
     ⟨fun _ _ _ _ _ _ t h=>by obtain⟨A,c,e,h⟩:=h;exact⟨A,c,e,h.below t⟩,fun _ _ _ _ _ _ t h=>by obtain⟨A,c,e,h⟩:=h;exact⟨A,c,e,h.below t⟩,fun _ _ _ _ _ _ t h=>by obtain⟨A,c,e,h⟩:=h;exact⟨A,c,e,h.below t⟩,trivial⟩ (fun vs=> ?_)
    iterate 2
     refine⟨fun W' _ _ hI hD hK=> ?_,?_⟩
     ·skip;go_simp;exact hK.o _ _ rfl rfl
     simp only[zad,zaa,zab,zac,Sg.pick,Nat.reduceAdd]
    refine⟨fun W' _ _ hI hD hK=> ?_,?_⟩
    ·obtain⟨z0,z1,z2⟩:=(G.below hI.o.1).cs;go_simp;exact hK.o _ _ rfl rfl
    simp only[zad,zaa,zab,zac,Sg.pick,Nat.reduceAdd];refine⟨fun W' _ _ hI hD hK=> ?_,?_⟩
    ·skip;go_simp;refine(nc _ (G.below hI.o.1).arg).mono ?_;rintro e w' ⟨rfl,b⟩;exact hK.o _ _ b rfl
    simp only[zad,zaa,zab,zac,Sg.pick,Nat.reduceAdd];refine⟨fun W' _ _ hI hD hK=> ?_,?_⟩
    ·skip;go_simp;exact hK.o _ _ rfl rfl
    simp only[zad,zaa,zab,zac,Sg.pick,Nat.reduceAdd];refine⟨fun W' _ _ hI hD hK=> ?_,?_⟩
    ·obtain⟨z0,z1,z2⟩:=(G.below hI.o.1).cs;go_simp;exact hK.o _ _ rfl rfl
    simp only[zad,zaa,zab,zac,Sg.pick,Nat.reduceAdd];refine⟨fun W' _ _ hI hD hK=> ?_,?_⟩
    ·skip;go_simp;exact hK.o _ _ rfl rfl
    simp only[zad,zaa,zab,zac,Sg.pick,Nat.reduceAdd];refine⟨fun W' _ _ hI hD hK=> ?_,?_⟩
    ·skip;go_simp;refine(tg iN _ _ ws (G.below hI.o.1).arg (P1.below hI.o.1) tO).mono ?_;rintro e w' ⟨rfl,b⟩;rw[decide_eq_false hw];exact hK.o _ _ b rfl
    simp only[zad,zaa,zab,zac,Sg.pick,Nat.reduceAdd]
    iterate 7
     refine⟨fun W' _ _ hI hD hK=> ?_,?_⟩
     ·skip;go_simp;exact hK.o _ _ rfl rfl
     simp only[zad,zaa,zab,zac,Sg.pick,Nat.reduceAdd]
    refine⟨fun W' _ _ hI hD hK=> ?_,?_⟩
    ·obtain⟨z0,z1,z2⟩:=(G.below hI.o.1).cs;go_simp;exact hK.o _ _ rfl rfl
    simp only[zad,zaa,zab,zac,Sg.pick,Nat.reduceAdd];refine⟨fun W' _ _ hI hD hK=> ?_,?_⟩
    ·skip;go_simp;exact hK.o _ _ rfl rfl
    simp only[zad,zaa,zab,zac,Sg.pick,Nat.reduceAdd];refine⟨fun W' _ _ hI hD hK=> ?_,?_⟩
    ·skip;go_simp;refine(tg iN _ _ xs (G.below hI.o.1).arg (P2.below hI.o.1) tO).mono ?_;rintro e w' ⟨rfl,b⟩;rw[decide_eq_true hx];exact hK.o _ _ b rfl
    simp only[zad,zaa,zab,zac,Sg.pick,Nat.reduceAdd]
    iterate 3
     refine⟨fun W' _ _ hI hD hK=> ?_,?_⟩
     ·skip;go_simp;exact hK.o _ _ rfl rfl
     simp only[zad,zaa,zab,zac,Sg.pick,Nat.reduceAdd]
    refine⟨fun W' _ _ hI hD hK=> ?_,?_⟩
    ·obtain⟨z0,z1,z2⟩:=(G.below hI.o.1).cs;go_simp;exact hK.o _ _ rfl rfl
    simp only[zad,zaa,zab,zac,Sg.pick,Nat.reduceAdd]
    iterate 2
     refine⟨fun W' _ _ hI hD hK=> ?_,?_⟩
     ·skip;go_simp;exact hK.o _ _ rfl rfl
     simp only[zad,zaa,zab,zac,Sg.pick,Nat.reduceAdd]
    refine⟨fun W' _ _ hI hD hK=> ?_,?_⟩
    ·skip;go_simp;refine(QW _ (P1.below hI.o.1)).mono ?_;rintro e w' ⟨o,rfl,oo,b⟩;obtain⟨A,c,rfl,-⟩:=oo.form;exact hK.o _ _ b ⟨A,c,rfl,oo.rd⟩
    simp only[zad,zaa,zab,zac,Sg.pick,Nat.reduceAdd];refine⟨fun W' _ _ hI hD hK=> ?_,?_⟩
    ·obtain⟨Ax,cx,ex,lx⟩:=(show ∃A c,vs 24= .slice A IV.length c/\RdI W' (vs 24) IV from hD.o 24 tK);rw[ex] at lx;rw[ex] at hK⊢;go_simp;refine(tk _ _ (P2.below hI.o.1) lx).mono ?_;rintro e w' ⟨o,rfl,oo,b⟩;obtain⟨A,c,rfl,-⟩:=oo.form;exact hK.o _ _ b ⟨A,c,rfl,oo.rd⟩
    simp only[zad,zaa,zab,zac,Sg.pick,Nat.reduceAdd];refine⟨fun W' _ _ hI hD hK=> ?_,?_⟩
    ·obtain⟨Ay,cy,ey,ly⟩:=(show ∃A c,vs 25= .slice A CW.length c/\RdI W' (vs 25) CW from hD.o 25 tK);rw[ey] at ly;rw[ey] at hK⊢;go_simp;refine(tg iN _ _ CW (G.below hI.o.1).arg ly tO).mono ?_;rintro e w' ⟨rfl,b⟩;rw[decide_eq_true l8];exact hK.o _ _ b rfl
    simp only[zad,zaa,zab,zac,Sg.pick,Nat.reduceAdd]
    iterate 3
     refine⟨fun W' _ _ hI hD hK=> ?_,?_⟩
     ·skip;go_simp;exact hK.o _ _ rfl rfl
     simp only[zad,zaa,zab,zac,Sg.pick,Nat.reduceAdd]
    intro W9 hI9 hD9;have I9:=qA hI9.o.1;clear hI9 hD9;go_wp2_with fail;go_meet;exact⟨rfl,I9⟩
  case rest=>as_aux_lemma=>
   obtain⟨rfl,b⟩:=hcut;replace V:=qA (V.below b);replace G:=qA (G.below b);replace BZ:=qA (BZ.trans (b.mono BZ.size));clear b nK tg P1 P2;rename Wg=>wb
   go_upto_region 10 with fail
   go_cut [95] (fun s wx=>s= .bool mb/\Wf wb wb wx)
   case first=>as_aux_lemma=>
    obtain⟨u0,u1,u2⟩:=G.o.cs;simp only at u0 u1 u2
    go_wp2_with fail;refine(nc _ G.arg).mono ?_
    rintro e w9 ⟨rfl,b⟩;go_wp2_with fail;go_meet;exact⟨rfl,b⟩
   case rest=>as_aux_lemma=>
    obtain⟨rfl,b⟩:=hcut;replace V:=qA (V.below b);replace G:=qA (G.below b);replace BZ:=qA (BZ.trans (b.mono BZ.size));clear b nc;rename Wg=>wc
    go_upto_if 95 with fail
    go_cut [10,11,12] (fun _ _ _ wx=>Wf wc wc wx)
    case first=>as_aux_lemma=>
     cases mb
     ·go_wp2_with fail;go_meet;exact zae _ _
     ·obtain⟨iN,uo,Tv⟩:=Cx.o rfl;obtain⟨u0,u1,u2⟩:=G.o.cs;simp only at u0 u1 u2
      go_wp2_with fail;refine(qIe _ x0 q1 _ V ri uo Tv).mono ?_
      rintro e wd ⟨uv,us,rfl,ou,⟨Vj,-,-⟩,b⟩;obtain⟨Au,cu,rfl,-⟩:=ou.form;have U:=qA ou.rd;have BC:=qA b;replace G:=qA (G.below b);clear ou b u0 u1 u2 V;have HE:=qA (fun W (h:ArgG W (.agg #[.int .i64 q1, .int .i64 q2, .slice A1 qs.length c1]) (q1,q2,qs)) (h':RdI W (.slice Au us.length cu) us)=>DY.o W _ us h h' tO);have HS:=qA (fun W (h:ArgG W (.agg #[.int .i64 q1, .int .i64 q2, .slice A1 qs.length c1]) (q1,q2,qs)) (h':RdI W (.slice Au us.length cu) us)=>uj.o iN W _ us h h' tO);have HL:=qA (vz (by trivial) us);clear DY uj vz Cx iN;obtain⟨⟨mg,fine⟩,Ae⟩: ∃r,r=metF (q1,q2,qs) (q1,q2,qs) us:=⟨_,rfl⟩;obtain⟨m1,m2,ms⟩:=mg;rw[<-Ae] at HE HL;simp only at HE HL
      clear Ae;obtain⟨u0,u1,u2⟩:=G.o.cs;simp only at u0 u1 u2
      go_wp2_with fail;refine(HE _ G.arg U).mono ?_
      rintro e we ⟨rv,rfl,⟨s8,rfl,i8,k8,Ew⟩,b⟩;obtain⟨A8,c8,rfl,-⟩:=Ew.form;simp only at i8 k8 Ew⊢
      have L9:=qA Ew;replace G:=qA (G.below b);replace U:=qA (U.below b);replace BC:=qA (BC.trans (b.mono BC.size));clear Ew b u0 u1 u2 HE;obtain⟨W8,jU⟩: ∃W,W=we.alloc (.cells #[.int .i64 m1,.int .i64 m2, .slice A8 ms.length c8] 26):=⟨_,rfl⟩;have g8:=GBx.new (m:=(m1,m2,ms)) L9.o i8 k8 jU;obtain⟨-,b8,Vo⟩:=CBx.new jU;have M:=qA g8;replace G:=qA (G.below b8);replace U:=qA (U.below b8);replace BC:=qA (BC.trans (b8.mono BC.size));have S5:=qA (fun W (h:ArgG W (.agg #[.int .i64 m1, .int .i64 m2, .slice A8 ms.length c8]) (m1,m2,ms))=>xP9 _ (.inl ⟨rfl,xPa⟩) _ (m1,m2,ms) W h);generalize qHw (m1,m2,ms)=rk at*;cases fine
      ·go_wp2_with fail;go_meet;rw[<-jU];exact BC.o
      ·obtain⟨u0,u1,u2⟩:=G.o.cs;simp only at u0 u1 u2
       rw[jU] at u0 u1 u2;go_wp2_with fail;rw[<-jU];clear jU g8 b8 L9 u0 u1 u2;generalize we.heap.size=kb at*;refine(HS _ G.arg U).mono ?_
       rintro e wf ⟨rfl,b⟩;replace M:=qA (M.below b);replace BC:=qA (BC.trans (b.mono BC.size));clear b;have xg:Wi (decide (qQ qs 0 (redL [] us)=0)=false->decide (0<rk)=false):=qA fun h=>decide_eq_false (by have:=HL.o (by trivial) (of_decide_eq_false h);omega);clear HL;generalize decide (qQ qs 0 (redL [] us)=0)=cb at*;cases cb
       ·have UP:=xg.o rfl;clear xg;obtain⟨u0,u1,u2⟩:=M.o.cs;simp only at u0 u1 u2
        go_wp2_with fail;refine(S5 _ M.arg).mono ?_
        rintro e wg ⟨rfl,b⟩;replace BC:=qA (BC.trans (b.mono BC.size));clear b u0 u1 u2;go_wp2_with fail;go_meet;exact BC.o
       ·go_wp2_with fail;go_meet;exact BC.o
    case rest=>as_aux_lemma=>
     have b:=hcut;clear hcut vz Cx DY uj;replace V:=qA (V.below b);replace BZ:=qA (BZ.trans (b.mono BZ.size));clear b G;rename Wg=>wd
     go_wp2_with fail;refine(qKC _ x0 _ V ri).mono ?_
     rintro e we ⟨av,bv,⟨d1,d2,ds⟩,⟨f1,f2,fs⟩,rfl,⟨s6,rfl,vS,xr,oea⟩,⟨s7,rfl,xL,vR,oeb⟩,b⟩;obtain⟨A6,c6,rfl,_⟩:=oea.form;obtain⟨A7,c7,rfl,_⟩:=oeb.form;simp only at vS xr oea xL vR oeb⊢
     have OEa:=qA oea;have OEb:=qA oeb;replace V:=qA (V.below b);replace BZ:=qA (BZ.trans (b.mono BZ.size));clear oea oeb b;obtain⟨WA,dk⟩: ∃W,W=we.alloc (.cells #[.int .i64 d1,.int .i64 d2, .slice A6 ds.length c6] 26):=⟨_,rfl⟩;have gA:=GBx.new (m:=(d1,d2,ds)) OEa.o vS xr dk;obtain⟨-,bA,sA⟩:=CBx.new dk;obtain⟨WB,dA⟩: ∃W,W=WA.alloc (.cells #[.int .i64 f1,.int .i64 f2, .slice A7 fs.length c7] 26):=⟨_,rfl⟩;have gB:=GBx.new (m:=(f1,f2,fs)) (OEb.below bA) xL vR dA;obtain⟨-,bB,sB⟩:=CBx.new dA;have GA:=qA (gA.below bB);have GB:=qA gB;rw[sA] at GB;replace BZ:=qA ((BZ.trans (bA.mono BZ.size)).trans (bB.mono (by have:=BZ.o.size;omega)));replace V:=qA ((V.below bA).below bB);have yz:=qA (fun W (h:ArgG W (.agg #[.int .i64 d1, .int .i64 d2, .slice A6 ds.length c6]) (d1,d2,ds)) (h':ArgG W (.agg #[.int .i64 f1, .int .i64 f2, .slice A7 fs.length c7]) (f1,f2,fs))=>qDo _ _ (d1,d2,ds) (f1,f2,fs) W h h');have kS:=qA (fun W (h:ArgG W (.agg #[.int .i64 d1, .int .i64 d2, .slice A6 ds.length c6]) (d1,d2,ds)) (h':ArgG W (.agg #[.int .i64 f1, .int .i64 f2, .slice A7 fs.length c7]) (f1,f2,fs))=>qDc _ _ (d1,d2,ds) (f1,f2,fs) W h h');generalize indB (d1,d2,ds) (f1,f2,fs)=ib at*;go_wp2_with fail;rw[<-dk,<-dA];clear dk dA gA gB bA bB sA sB OEa OEb vS xr xL vR;generalize we.heap.size=ga at*;refine(qKF _ x0 _ V ri).mono ?_
     rintro e wf ⟨av,bv,xv,⟨m1,m2,ms⟩,⟨n1,n2,ns⟩,ts,rfl,⟨s8,rfl,vS,xr,oea⟩,⟨s9,rfl,xL,vR,oeb⟩,ot,Cs,b⟩;obtain⟨A8,c8,rfl,_⟩:=oea.form;obtain⟨A9,c9,rfl,_⟩:=oeb.form;obtain⟨At,ct,rfl,_⟩:=ot.form;simp only at vS xr oea xL vR oeb⊢
     have OEa:=qA oea;have OEb:=qA oeb;have Z:=qA ot.rd;replace GA:=qA (GA.below b);replace GB:=qA (GB.below b);replace BZ:=qA (BZ.trans (b.mono BZ.size));clear oea oeb ot b V;obtain⟨WA,dk⟩: ∃W,W=wf.alloc (.cells #[.int .i64 m1,.int .i64 m2, .slice A8 ms.length c8] 26):=⟨_,rfl⟩;have gA:=GBx.new (m:=(m1,m2,ms)) OEa.o vS xr dk;obtain⟨-,bA,sA⟩:=CBx.new dk;obtain⟨WB,dA⟩: ∃W,W=WA.alloc (.cells #[.int .i64 n1,.int .i64 n2, .slice A9 ns.length c9] 26):=⟨_,rfl⟩;have gB:=GBx.new (m:=(n1,n2,ns)) (OEb.below bA) xL vR dA;obtain⟨-,bB,sB⟩:=CBx.new dA;have GC:=qA (gA.below bB);have GD:=qA gB;rw[sA] at GD;replace BZ:=qA ((BZ.trans (bA.mono BZ.size)).trans (bB.mono (by have:=BZ.o.size;omega)));replace GA:=qA ((GA.below bA).below bB);replace GB:=qA ((GB.below bA).below bB);replace Z:=qA ((Z.below bA).below bB);have T6:=qA (fun W (h:ArgG W (.agg #[.int .i64 m1, .int .i64 m2, .slice A8 ms.length c8]) (m1,m2,ms)) (h':ArgG W (.agg #[.int .i64 n1, .int .i64 n2, .slice A9 ns.length c9]) (n1,n2,ns)) (h2:RdI W (.slice At ts.length ct) ts)=>xP8 _ (.inr ⟨rfl,xPb⟩) _ _ _ (m1,m2,ms) (n1,n2,ns) ts W h h' h2 tO);have vI:=qA (fun W (h:ArgG W (.agg #[.int .i64 m1, .int .i64 m2, .slice A8 ms.length c8]) (m1,m2,ms)) (h':ArgG W (.agg #[.int .i64 n1, .int .i64 n2, .slice A9 ns.length c9]) (n1,n2,ns)) (h2:RdI W (.slice At ts.length ct) ts)=>xP8 _ (.inl ⟨rfl,xPa⟩) _ _ _ (m1,m2,ms) (n1,n2,ns) ts W h h' h2 tO);generalize dclF (m1,m2,ms) (n1,n2,ns) ts=dv at*;go_upto_region 17 with fail
     rw[<-dk,<-dA];clear dk dA gA gB bA bB sA sB OEa OEb vS xr xL vR;generalize wf.heap.size=gc at*;refine qAy [] [.val (.agg #[.int .i64 d1, .int .i64 d2, .slice A6 ds.length c6]), .val (.agg #[.int .i64 f1, .int .i64 f2, .slice A7 fs.length c7]), .val (.bool ib), .val (.agg #[.int .i64 d1, .int .i64 d2, .slice A6 ds.length c6]), .val (.agg #[.int .i64 f1, .int .i64 f2, .slice A7 fs.length c7]), .val (.bool ib), .val (.bool true), .val (.bool true), .val (.agg #[.int .i64 m1, .int .i64 m2, .slice A8 ms.length c8]), .val (.agg #[.int .i64 n1, .int .i64 n2, .slice A9 ns.length c9]), .val (.slice At ts.length ct), .val (.int .i64 dv), .val (.agg #[.int .i64 m1, .int .i64 m2, .slice A8 ms.length c8]), .val (.agg #[.int .i64 n1, .int .i64 n2, .slice A9 ns.length c9]), .val (.slice At ts.length ct), .val (.int .i64 dv), .val (.bool true), .val (.bool true), .val (.bool true)]
      [none,none,some (fun W W'=>Wf W.heap.size W W'),none,none,some (fun W W'=>Wf W.heap.size W W'),none,none,none,none,none,some (fun W W'=>Wf W.heap.size W W'),none,none,none,some (fun W W'=>Wf W.heap.size W W'),none,none,none]
      (fun W=>Wf WB WB W) (fun _=>True) [] [] tK tK tK
      trivial (by rfl) (by rfl) (zae _ _).drew trivial
      ⟨fun _ _ h t=>h.trans (t.mono h.size),fun _ _ h t=>h.trans (t.mono h.size),fun _ _ h t=>h.trans (t.mono h.size),fun _ _ h t=>h.trans (t.mono h.size),trivial⟩ (qEi _ 0)
      trivial (fun vs=> ?_)
     refine⟨fun W' _ _ hI hD hK=> ?_,?_⟩
     ·obtain⟨z0,z1,z2⟩:=(GA.below hI.o.1).cs;go_simp;exact hK.o _ _ rfl rfl
     simp only[zad,zaa,zab,zac,Sg.pick,Nat.reduceAdd];refine⟨fun W' _ _ hI hD hK=> ?_,?_⟩
     ·obtain⟨z0,z1,z2⟩:=(GB.below hI.o.1).cs;go_simp;exact hK.o _ _ rfl rfl
     simp only[zad,zaa,zab,zac,Sg.pick,Nat.reduceAdd];refine⟨fun W' _ _ hI hD hK=> ?_,?_⟩
     ·skip;go_simp;refine(yz _ (GA.below hI.o.1).arg (GB.below hI.o.1).arg).mono ?_;rintro e w' ⟨rfl,b⟩;exact hK.o _ _ b rfl
     simp only[zad,zaa,zab,zac,Sg.pick,Nat.reduceAdd];refine⟨fun W' _ _ hI hD hK=> ?_,?_⟩
     ·obtain⟨z0,z1,z2⟩:=(GA.below hI.o.1).cs;go_simp;exact hK.o _ _ rfl rfl
     simp only[zad,zaa,zab,zac,Sg.pick,Nat.reduceAdd];refine⟨fun W' _ _ hI hD hK=> ?_,?_⟩
     ·obtain⟨z0,z1,z2⟩:=(GB.below hI.o.1).cs;go_simp;exact hK.o _ _ rfl rfl
     simp only[zad,zaa,zab,zac,Sg.pick,Nat.reduceAdd];refine⟨fun W' _ _ hI hD hK=> ?_,?_⟩
     ·skip;go_simp;refine(kS _ (GA.below hI.o.1).arg (GB.below hI.o.1).arg).mono ?_;rintro e w' ⟨rfl,b⟩;exact hK.o _ _ b rfl
     simp only[zad,zaa,zab,zac,Sg.pick,Nat.reduceAdd]
     iterate 2
      refine⟨fun W' _ _ hI hD hK=> ?_,?_⟩
      ·skip;go_simp;exact hK.o _ _ rfl rfl
      simp only[zad,zaa,zab,zac,Sg.pick,Nat.reduceAdd]
     refine⟨fun W' _ _ hI hD hK=> ?_,?_⟩
     ·obtain⟨z0,z1,z2⟩:=(GC.below hI.o.1).cs;go_simp;exact hK.o _ _ rfl rfl
     simp only[zad,zaa,zab,zac,Sg.pick,Nat.reduceAdd];refine⟨fun W' _ _ hI hD hK=> ?_,?_⟩
     ·obtain⟨z0,z1,z2⟩:=(GD.below hI.o.1).cs;go_simp;exact hK.o _ _ rfl rfl
     simp only[zad,zaa,zab,zac,Sg.pick,Nat.reduceAdd];refine⟨fun W' _ _ hI hD hK=> ?_,?_⟩
     ·skip;go_simp;exact hK.o _ _ rfl rfl
     simp only[zad,zaa,zab,zac,Sg.pick,Nat.reduceAdd];refine⟨fun W' _ _ hI hD hK=> ?_,?_⟩
     ·skip;go_simp;refine(T6 _ (GC.below hI.o.1).arg (GD.below hI.o.1).arg (Z.below hI.o.1)).mono ?_;rintro e w' ⟨rfl,b⟩;exact hK.o _ _ b rfl
     simp only[zad,zaa,zab,zac,Sg.pick,Nat.reduceAdd];refine⟨fun W' _ _ hI hD hK=> ?_,?_⟩
     ·obtain⟨z0,z1,z2⟩:=(GC.below hI.o.1).cs;go_simp;exact hK.o _ _ rfl rfl
     simp only[zad,zaa,zab,zac,Sg.pick,Nat.reduceAdd];refine⟨fun W' _ _ hI hD hK=> ?_,?_⟩
     ·obtain⟨z0,z1,z2⟩:=(GD.below hI.o.1).cs;go_simp;exact hK.o _ _ rfl rfl
     simp only[zad,zaa,zab,zac,Sg.pick,Nat.reduceAdd];refine⟨fun W' _ _ hI hD hK=> ?_,?_⟩
     ·skip;go_simp;exact hK.o _ _ rfl rfl
     simp only[zad,zaa,zab,zac,Sg.pick,Nat.reduceAdd];refine⟨fun W' _ _ hI hD hK=> ?_,?_⟩
     ·skip;go_simp;refine(vI _ (GC.below hI.o.1).arg (GD.below hI.o.1).arg (Z.below hI.o.1)).mono ?_;rintro e w' ⟨rfl,b⟩;exact hK.o _ _ b rfl
     simp only[zad,zaa,zab,zac,Sg.pick,Nat.reduceAdd]
     iterate 3
      refine⟨fun W' _ _ hI hD hK=> ?_,?_⟩
      ·skip;go_simp;exact hK.o _ _ rfl rfl
      simp only[zad,zaa,zab,zac,Sg.pick,Nat.reduceAdd]
     intro W9 hI9 hD9;have I9:=qA hI9.o.1;clear hI9 hD9;go_wp2;go_ret;exact⟨rfl,BZ.trans (I9.mono BZ.size)⟩
set_option maxRecDepth 100000 in
theorem lifted (os:Os) (started:os.Started) (H:Type) (enc:TypeId×Wh->H):
  ReturnsInHanded {} Tryz.checked os 4 .any (Rows.fnMalnormalSpec.pre6 enc Tryz.prog Tryz.f4 Rows.fnMalnormalRow.domain false) (Rows.fnMalnormalSpec.post enc Tryz.prog Tryz.f4 false true false false):=by
 refine returnsInHanded_of_change (C:=Tryz.checked) own started tK Tryz.func4
  (ChangeSpec.witness6 (enc:=enc) (C:=Tryz.checked) false ⟨#[],#[.slice none 0 0],[]⟩ 8 tK tK tK tK) ?_
 intro W base args ds gs before hval0 hW hcnd _;have sD: ∀(j:Nat) t v,Tryz.f4.params[j]? =some t->args[j]? =some v->Value.okWide Tryz.prog W .any base t v:=hval0;have Qv:=hW;obtain⟨p,q,wA,hV,rfl,zy,eL⟩:=hW;have hA:DataW.TrodAll enc Tryz.prog W 0 (fun _=>true) true Tryz.f4.params.toList args.toList ds p:=wA;rw[Tryz.params4] at hA sD;obtain⟨v0,UJ,d0,U1,p0,q0,Ma,rfl,rfl,h0,r0⟩:=trodAll_cons hA;obtain⟨rfl,rfl,rfl⟩:=trodAll_nil r0;obtain rfl:args= #[v0]:=by cases args;simp_all
 obtain⟨rfl,rfl⟩:=trodVars_none hV;have k0:=h0;have Ug: ∀x∈p0,x.block<W.heap.size:=by obtain⟨m,hm⟩:=k0;exact DataW.trod_lt m _ _ _ hm
 obtain⟨x0,a0⟩:=qMR (sD 0 22 v0 rfl rfl) h0;clear wA hval0;refine(walk v0 x0 W a0).mono fun e W' ⟨he,bel⟩=> ?_
 subst he;exact⟨_,rfl,_,_,_,[],_,[],Qv,trodAll_mk1 (shut_bool Tryz.underlying4 _),(trodAll_cons_mk (Below.trod qQl tK (of_decide_eq_true tK) k0 bel Ug) trodAll_mk0),rfl,bel.frame _,fun h=>by cases h⟩
theorem proved:Rows.FnMalnormalSaid:=
 OpenClaim.holds_of_wide 4 Tryz.f4 rfl rfl rfl rfl rfl rfl rfl ⟨rfl,rfl,rfl,rfl,rfl⟩ rfl rfl rfl rfl rfl (by as_aux_lemma=>kernel_rfl) Tryz.func4 closed
  (of_decide_eq_true (by as_aux_lemma=>kernel_rfl)) (by unfold Func.isWrapper;first | (rw[Wm (by decide+kernel)];kernel_rfl) | (rw[Wn (by decide+kernel)];exact⟨rfl,rfl⟩))
  (fun os started H enc _=>lifted os started H enc)
#print axioms proved
end Go.Proofs.YtnjpoljbagfdnaaGreat.fnMalnormal
