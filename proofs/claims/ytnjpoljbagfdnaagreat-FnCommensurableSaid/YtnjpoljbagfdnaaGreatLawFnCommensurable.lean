/- The law FnCommensurable. -/
import Derived.Test.YtnjpoljbagfdnaaGreatP10
import Derived.Test.YtnjpoljbagfdnaaGreatP08
import Derived.Test.YtnjpoljbagfdnaaGreatP07
import Derived.Test.YtnjpoljbagfdnaaGreatP09
import Derived.Test.YtnjpoljbagfdnaaGreatRows
import Derived.Test.YtnjpoljbagfdnaaGreatCloFnCommensurable
import Derived.Deep.DeepCutAuto
namespace Go.Proofs.YtnjpoljbagfdnaaGreat.fnCommensurable
open _root_.List renaming setIfInBounds_toArray→zaa,set_cons_zero→zab,set_cons_succ→zac
open Go.Act renaming put→zad
open Go.RowKit.Below renaming refl→zae
set_option maxRecDepth 20000
set_option linter.unusedVariables false
set_option linter.unusedSimpArgs false
open Go.ChangeShapes Go.WideShapes Go.ChangeAt Go.RowKit
open Go.ChangeMaps (open_string shut_string)
theorem idxO_le (g:GrD): -1≤idxO g∧idxO g≤40:=by
 unfold idxO;split
 ·rename_i h
  have:=(qB (qz (qBc h)).1).2.1
  omega
 ·omega
theorem rank_le (g:GrD): -1000≤qFc g∧qFc g≤1000:=by
 unfold qFc;split
 ·rename_i h
  have h1:=qB (qz h).1;omega
 ·omega
theorem wr_in {x:Int} (h: -1000000≤x∧x≤1000000):IntKind.i64.wrap x=x:=by
 rw[IntKind.wrap_i64];omega
set_option maxRecDepth 100000 in
set_option maxHeartbeats 16000000 in
theorem walk (v0:Value) (x0:List Int) (w:World) (h0:ArgC w v0 x0):
  Calls Tryz.prog 3 #[v0] w fun e w'=>e= .returned (.bool true)∧Below w.heap.size w w':=by
 have rM:=qA (qOl v0 x0 w h0);have V:=qA h0;obtain⟨A0,c0,rfl,_⟩:=h0;by_cases hl:(1048576:Int)<x0.length
 ·have hd:decide ((1048576:Int)<x0.length)=true:=decide_eq_true hl;rw[hd] at rM;clear hd hl;go_enter Tryz.func3,Tryz.ntmps3
  go_wp2_with fail;refine rM.out.mono ?_;rintro e w1 ⟨rfl,rfl⟩;go_wp2;go_ret;exact⟨rfl,zae _ _⟩
 have hd:decide ((1048576:Int)<x0.length)=false:=decide_eq_false hl;rw[hd] at rM;have wV:x0.length≤1048576:=tO;clear hd hl;go_enter Tryz.func3,Tryz.ntmps3
 go_wp2_with fail;refine rM.out.mono ?_;rintro e w1 ⟨rfl,rfl⟩;go_wp2_with fail;refine(qJL _ x0 _ V.out wV).mono ?_
 rintro e w1 ⟨av,bv,⟨q1,q2,qs⟩,⟨p1,p2,ps⟩,rfl,⟨s1,rfl,j1,j2,dG⟩,⟨s2,rfl,k1,k2,cB⟩,b1⟩;obtain⟨A1,c1,rfl,_⟩:=dG.form;obtain⟨A2,c2,rfl,_⟩:=cB.form;simp only at j1 j2 dG k1 k2 cB⊢
 have BZ:=qA b1;have gP:=qA dG;have eK:=qA cB;clear dG cB b1 V;obtain⟨WA,dK⟩: ∃W,W=w1.alloc (.cells #[.int .i64 q1,.int .i64 q2, .slice A1 qs.length c1] 26):=⟨_,rfl⟩;have gA:=GBx.new (m:=(q1,q2,qs)) gP.out j1 j2 dK;obtain⟨-,bA,sA⟩:=CBx.new dK;obtain⟨WB,dY⟩: ∃W,W=WA.alloc (.cells #[.int .i64 p1,.int .i64 p2, .slice A2 ps.length c2] 26):=⟨_,rfl⟩;have gB:=GBx.new (m:=(p1,p2,ps)) (eK.out.below bA) k1 k2 dY;obtain⟨-,bB,sB⟩:=CBx.new dY;have G:=qA (gA.below bB);have K:=qA gB;rw[sA] at K;replace BZ:=qA ((BZ.out.trans (bA.mono BZ.out.size)).trans (bB.mono (by have:=BZ.out.size;omega)));clear gA gB bA bB;have oX:=qA (fun va vb W h h'=>qCD va vb (q1,q2,qs) (p1,p2,ps) W h h');have dL:=qA (fun va vb W h h'=>qBy va vb (q1,q2,qs) (p1,p2,ps) W h h');have dZ:=qA (fun va vb W h h'=>qAl va vb (q1,q2,qs) (p1,p2,ps) W h h');have gU:=qA (fun va vb W h h'=>qAk va vb (q1,q2,qs) (p1,p2,ps) W h h');have wI:=qA (fun va vb W h h'=>qCd va vb (q1,q2,qs) (p1,p2,ps) W h h');have ph:=qA (fun va vb W h h'=>qCh va vb (q1,q2,qs) (p1,p2,ps) W h h');have n3:=qA (fun va W h=>qBz va (q1,q2,qs) W h);have jj:=qA (fun va W h=>qBz va (p1,p2,ps) W h);have jb:=qA (fun va W h=>qEC va (q1,q2,qs) W h);have fO:=qA (fun va W h=>qEC va (p1,p2,ps) W h);have HS:=qA (fun va vb W h h'=>qAh va vb (q1,q2,qs) (p1,p2,ps) W h h');have i9:Hid (arF (q1,q2,qs) (p1,p2,ps)=(decide (0<(ixF (q1,q2,qs) (p1,p2,ps)).1)&&decide (0<(ixF (q1,q2,qs) (p1,p2,ps)).2))):=qA rfl;have bM:=qA (fun h=>qOv (a:=(q1,q2,qs)) (b:=(p1,p2,ps)) h);have cG:=qA (fun h ha hb=>qOe (a:=(q1,q2,qs)) (b:=(p1,p2,ps)) h ha hb);have cR:=qA (And.intro (idxO_le (q1,q2,qs)) (And.intro (idxO_le (p1,p2,ps)) (And.intro (rank_le (q1,q2,qs)) (And.intro (rank_le (p1,p2,ps)) (idxO_le (intF (q1,q2,qs) (p1,p2,ps)).1)))));generalize idxF (q1,q2,qs) (p1,p2,ps)=n at*;generalize arF (q1,q2,qs) (p1,p2,ps)=ar at*;generalize ixF (q1,q2,qs) (p1,p2,ps)=ix at*;generalize idxO (q1,q2,qs)=ia at*;generalize idxO (p1,p2,ps)=ib at*;generalize qFc (q1,q2,qs)=ra at*;generalize qFc (p1,p2,ps)=rb at*;obtain⟨x,y⟩:=ix;simp only at dZ gU i9 cG
 go_wp2_with fail;rw[←dK,←dY];clear dK dY sA sB gP eK;generalize w1.heap.size=ga at*;refine(oX.out _ _ _ G.out.arg K.out.arg).mono ?_
 rintro e w3 ⟨rfl,b⟩;clear oX;replace G:=qA (G.out.below b);replace K:=qA (K.out.below b);replace BZ:=qA (BZ.out.trans (b.mono BZ.out.size));clear b;obtain⟨u0,u1,u2⟩:=G.out.cs;obtain⟨y0,y1,y2⟩:=K.out.cs;simp only at u0 u1 u2 y0 y1 y2
 go_wp2_with fail;refine(dZ.out _ _ _ G.out.arg K.out.arg).mono ?_
 rintro e w4 ⟨rfl,b⟩;clear dZ u0 u1 u2 y0 y1 y2;replace G:=qA (G.out.below b);replace K:=qA (K.out.below b);replace BZ:=qA (BZ.out.trans (b.mono BZ.out.size));clear b;obtain⟨u0,u1,u2⟩:=G.out.cs;obtain⟨y0,y1,y2⟩:=K.out.cs;simp only at u0 u1 u2 y0 y1 y2
 go_wp2_with fail;refine(gU.out _ _ _ G.out.arg K.out.arg).mono ?_
 rintro e w5 ⟨rfl,b⟩;clear gU u0 u1 u2 y0 y1 y2;replace G:=qA (G.out.below b);replace K:=qA (K.out.below b);replace BZ:=qA (BZ.out.trans (b.mono BZ.out.size));clear b;go_upto_region 7 with fail
 go_cut [69] (fun s wx=>s= .bool false∧Below w5.heap.size w5 wx)
 case first=>as_aux_lemma=>
  clear bM cG cR n3 jj jb fO HS;by_cases hx:0<x
  ·have Bc:decide (0<x)=true:=decide_eq_true hx;by_cases hy:0<y
   ·have lY:decide (0<y)=true:=decide_eq_true hy;have so:ar=true:=by rw[i9.out,Bc,lY];rfl
    subst so;clear i9;refine qm [] [.val (.int .i64 n), .val (.agg #[.int .i64 q1, .int .i64 q2, .slice A1 qs.length c1]), .val (.agg #[.int .i64 p1, .int .i64 p2, .slice A2 ps.length c2]), .val (.int .i64 n), .val (.bool false), .val (.bool false), .val (.int .i64 x), .val (.int .i64 x), .val (.bool false), .val (.bool false), .val (.bool false), .val (.int .i64 y), .val (.int .i64 y), .val (.bool false), .val (.bool false), .val (.bool false), .val (.agg #[.int .i64 q1, .int .i64 q2, .slice A1 qs.length c1]), .val (.agg #[.int .i64 p1, .int .i64 p2, .slice A2 ps.length c2]), .val (.bool true), .val (.agg #[.int .i64 q1, .int .i64 q2, .slice A1 qs.length c1]), .val (.agg #[.int .i64 p1, .int .i64 p2, .slice A2 ps.length c2]), .val (.bool true), .val (.bool false), .val (.bool false), .val (.bool false), .val (.agg #[.int .i64 q1, .int .i64 q2, .slice A1 qs.length c1]), .val (.agg #[.int .i64 p1, .int .i64 p2, .slice A2 ps.length c2]), .val (.bool true), .val (.int .i64 x), .val (.bool true), .val (.bool true), .val (.int .i64 y), .val (.bool true), .val (.bool true), .val (.bool false), .val (.bool false)]
     [none,none,none,some (fun W W'=>Below W.heap.size W W'),none,none,none,none,none,none,none,none,none,none,none,none,none,none,some (fun W W'=>Below W.heap.size W W'),none,none,some (fun W W'=>Below W.heap.size W W'),none,none,none,none,none,some (fun W W'=>Below W.heap.size W W'),none,none,none,none,none,none,none,none]
     (fun W=>Below w5.heap.size w5 W) (fun _=>True) [] [] tK tK tK
     trivial (by rfl) (by rfl) (zae _ _).drew trivial
     ⟨fun _ _ h t=>h.trans (t.mono h.size),fun _ _ h t=>h.trans (t.mono h.size),fun _ _ h t=>h.trans (t.mono h.size),fun _ _ h t=>h.trans (t.mono h.size),trivial⟩ (qBE _ 0)
     trivial (fun vs=> ?_)
    refine⟨fun W' _ _ hI hD hK=> ?_,?_⟩
    ·skip;go_simp;exact hK.out _ _ rfl rfl
    simp only[zad,zaa,zab,zac,Sg.pick,Nat.reduceAdd];refine⟨fun W' _ _ hI hD hK=> ?_,?_⟩
    ·obtain⟨z0,z1,z2⟩:=(G.out.below hI.out.1).cs;go_simp;exact hK.out _ _ rfl rfl
    simp only[zad,zaa,zab,zac,Sg.pick,Nat.reduceAdd];refine⟨fun W' _ _ hI hD hK=> ?_,?_⟩
    ·obtain⟨z0,z1,z2⟩:=(K.out.below hI.out.1).cs;go_simp;exact hK.out _ _ rfl rfl
    simp only[zad,zaa,zab,zac,Sg.pick,Nat.reduceAdd];refine⟨fun W' _ _ hI hD hK=> ?_,?_⟩
    ·skip;go_simp;refine(dL.out _ _ _ (G.out.below hI.out.1).arg (K.out.below hI.out.1).arg).mono ?_;rintro e w' ⟨rfl,b⟩;exact hK.out _ _ b rfl
    simp only[zad,zaa,zab,zac,Sg.pick,Nat.reduceAdd]
    iterate 12
     refine⟨fun W' _ _ hI hD hK=> ?_,?_⟩
     ·skip;go_simp;exact hK.out _ _ rfl rfl
     simp only[zad,zaa,zab,zac,Sg.pick,Nat.reduceAdd]
    refine⟨fun W' _ _ hI hD hK=> ?_,?_⟩
    ·obtain⟨z0,z1,z2⟩:=(G.out.below hI.out.1).cs;go_simp;exact hK.out _ _ rfl rfl
    simp only[zad,zaa,zab,zac,Sg.pick,Nat.reduceAdd];refine⟨fun W' _ _ hI hD hK=> ?_,?_⟩
    ·obtain⟨z0,z1,z2⟩:=(K.out.below hI.out.1).cs;go_simp;exact hK.out _ _ rfl rfl
    simp only[zad,zaa,zab,zac,Sg.pick,Nat.reduceAdd];refine⟨fun W' _ _ hI hD hK=> ?_,?_⟩
    ·skip;go_simp;refine(wI.out _ _ _ (G.out.below hI.out.1).arg (K.out.below hI.out.1).arg).mono ?_;rintro e w' ⟨rfl,b⟩;exact hK.out _ _ b rfl
    simp only[zad,zaa,zab,zac,Sg.pick,Nat.reduceAdd];refine⟨fun W' _ _ hI hD hK=> ?_,?_⟩
    ·obtain⟨z0,z1,z2⟩:=(G.out.below hI.out.1).cs;go_simp;exact hK.out _ _ rfl rfl
    simp only[zad,zaa,zab,zac,Sg.pick,Nat.reduceAdd];refine⟨fun W' _ _ hI hD hK=> ?_,?_⟩
    ·obtain⟨z0,z1,z2⟩:=(K.out.below hI.out.1).cs;go_simp;exact hK.out _ _ rfl rfl
    simp only[zad,zaa,zab,zac,Sg.pick,Nat.reduceAdd];refine⟨fun W' _ _ hI hD hK=> ?_,?_⟩
    ·skip;go_simp;refine(ph.out _ _ _ (G.out.below hI.out.1).arg (K.out.below hI.out.1).arg).mono ?_;rintro e w' ⟨rfl,b⟩;exact hK.out _ _ b rfl
    simp only[zad,zaa,zab,zac,Sg.pick,Nat.reduceAdd]
    iterate 3
     refine⟨fun W' _ _ hI hD hK=> ?_,?_⟩
     ·skip;go_simp;exact hK.out _ _ rfl rfl
     simp only[zad,zaa,zab,zac,Sg.pick,Nat.reduceAdd]
    refine⟨fun W' _ _ hI hD hK=> ?_,?_⟩
    ·obtain⟨z0,z1,z2⟩:=(G.out.below hI.out.1).cs;go_simp;exact hK.out _ _ rfl rfl
    simp only[zad,zaa,zab,zac,Sg.pick,Nat.reduceAdd];refine⟨fun W' _ _ hI hD hK=> ?_,?_⟩
    ·obtain⟨z0,z1,z2⟩:=(K.out.below hI.out.1).cs;go_simp;exact hK.out _ _ rfl rfl
    simp only[zad,zaa,zab,zac,Sg.pick,Nat.reduceAdd];refine⟨fun W' _ _ hI hD hK=> ?_,?_⟩
    ·skip;go_simp;refine(wI.out _ _ _ (G.out.below hI.out.1).arg (K.out.below hI.out.1).arg).mono ?_;rintro e w' ⟨rfl,b⟩;exact hK.out _ _ b rfl
    simp only[zad,zaa,zab,zac,Sg.pick,Nat.reduceAdd]
    iterate 8
     refine⟨fun W' _ _ hI hD hK=> ?_,?_⟩
     ·skip;go_simp;exact hK.out _ _ rfl rfl
     simp only[zad,zaa,zab,zac,Sg.pick,Nat.reduceAdd]
    intro W9 hI9 hD9;have I9:=qA hI9.out.1;clear hI9 hD9;go_wp2_with fail;go_meet;exact⟨rfl,I9.out⟩
   ·have lY:decide (0<y)=false:=decide_eq_false hy;have so:ar=false:=by rw[i9.out,Bc,lY];rfl
    subst so;clear i9;refine qm [] [.val (.int .i64 n), .val (.agg #[.int .i64 q1, .int .i64 q2, .slice A1 qs.length c1]), .val (.agg #[.int .i64 p1, .int .i64 p2, .slice A2 ps.length c2]), .val (.int .i64 n), .val (.bool false), .val (.bool false), .val (.int .i64 x), .val (.int .i64 x), .val (.bool false), .val (.bool false), .val (.bool false), .val (.int .i64 y), .val (.int .i64 y), .val (.bool false), .val (.bool false), .val (.bool false), .val (.agg #[.int .i64 q1, .int .i64 q2, .slice A1 qs.length c1]), .val (.agg #[.int .i64 p1, .int .i64 p2, .slice A2 ps.length c2]), .val (.bool false), .val (.agg #[.int .i64 q1, .int .i64 q2, .slice A1 qs.length c1]), .val (.agg #[.int .i64 p1, .int .i64 p2, .slice A2 ps.length c2]), .val (.bool false), .val (.bool false), .val (.bool false), .val (.bool false), .val (.agg #[.int .i64 q1, .int .i64 q2, .slice A1 qs.length c1]), .val (.agg #[.int .i64 p1, .int .i64 p2, .slice A2 ps.length c2]), .val (.bool false), .val (.int .i64 x), .val (.bool true), .val (.bool true), .val (.int .i64 y), .val (.bool false), .val (.bool false), .val (.bool false), .val (.bool false)]
     [none,none,none,some (fun W W'=>Below W.heap.size W W'),none,none,none,none,none,none,none,none,none,none,none,none,none,none,some (fun W W'=>Below W.heap.size W W'),none,none,some (fun W W'=>Below W.heap.size W W'),none,none,none,none,none,some (fun W W'=>Below W.heap.size W W'),none,none,none,none,none,none,none,none]
     (fun W=>Below w5.heap.size w5 W) (fun _=>True) [] [] tK tK tK
     trivial (by rfl) (by rfl) (zae _ _).drew trivial
     ⟨fun _ _ h t=>h.trans (t.mono h.size),fun _ _ h t=>h.trans (t.mono h.size),fun _ _ h t=>h.trans (t.mono h.size),fun _ _ h t=>h.trans (t.mono h.size),trivial⟩ (qBE _ 0)
     trivial (fun vs=> ?_)
    refine⟨fun W' _ _ hI hD hK=> ?_,?_⟩
    ·skip;go_simp;exact hK.out _ _ rfl rfl
    simp only[zad,zaa,zab,zac,Sg.pick,Nat.reduceAdd];refine⟨fun W' _ _ hI hD hK=> ?_,?_⟩
    ·obtain⟨z0,z1,z2⟩:=(G.out.below hI.out.1).cs;go_simp;exact hK.out _ _ rfl rfl
    simp only[zad,zaa,zab,zac,Sg.pick,Nat.reduceAdd];refine⟨fun W' _ _ hI hD hK=> ?_,?_⟩
    ·obtain⟨z0,z1,z2⟩:=(K.out.below hI.out.1).cs;go_simp;exact hK.out _ _ rfl rfl
    simp only[zad,zaa,zab,zac,Sg.pick,Nat.reduceAdd];refine⟨fun W' _ _ hI hD hK=> ?_,?_⟩
    ·skip;go_simp;refine(dL.out _ _ _ (G.out.below hI.out.1).arg (K.out.below hI.out.1).arg).mono ?_;rintro e w' ⟨rfl,b⟩;exact hK.out _ _ b rfl
    simp only[zad,zaa,zab,zac,Sg.pick,Nat.reduceAdd]
    iterate 12
     refine⟨fun W' _ _ hI hD hK=> ?_,?_⟩
     ·skip;go_simp;exact hK.out _ _ rfl rfl
     simp only[zad,zaa,zab,zac,Sg.pick,Nat.reduceAdd]
    refine⟨fun W' _ _ hI hD hK=> ?_,?_⟩
    ·obtain⟨z0,z1,z2⟩:=(G.out.below hI.out.1).cs;go_simp;exact hK.out _ _ rfl rfl
    simp only[zad,zaa,zab,zac,Sg.pick,Nat.reduceAdd];refine⟨fun W' _ _ hI hD hK=> ?_,?_⟩
    ·obtain⟨z0,z1,z2⟩:=(K.out.below hI.out.1).cs;go_simp;exact hK.out _ _ rfl rfl
    simp only[zad,zaa,zab,zac,Sg.pick,Nat.reduceAdd];refine⟨fun W' _ _ hI hD hK=> ?_,?_⟩
    ·skip;go_simp;refine(wI.out _ _ _ (G.out.below hI.out.1).arg (K.out.below hI.out.1).arg).mono ?_;rintro e w' ⟨rfl,b⟩;exact hK.out _ _ b rfl
    simp only[zad,zaa,zab,zac,Sg.pick,Nat.reduceAdd];refine⟨fun W' _ _ hI hD hK=> ?_,?_⟩
    ·obtain⟨z0,z1,z2⟩:=(G.out.below hI.out.1).cs;go_simp;exact hK.out _ _ rfl rfl
    simp only[zad,zaa,zab,zac,Sg.pick,Nat.reduceAdd];refine⟨fun W' _ _ hI hD hK=> ?_,?_⟩
    ·obtain⟨z0,z1,z2⟩:=(K.out.below hI.out.1).cs;go_simp;exact hK.out _ _ rfl rfl
    simp only[zad,zaa,zab,zac,Sg.pick,Nat.reduceAdd];refine⟨fun W' _ _ hI hD hK=> ?_,?_⟩
    ·skip;go_simp;refine(ph.out _ _ _ (G.out.below hI.out.1).arg (K.out.below hI.out.1).arg).mono ?_;rintro e w' ⟨rfl,b⟩;exact hK.out _ _ b rfl
    simp only[zad,zaa,zab,zac,Sg.pick,Nat.reduceAdd]
    iterate 3
     refine⟨fun W' _ _ hI hD hK=> ?_,?_⟩
     ·skip;go_simp;exact hK.out _ _ rfl rfl
     simp only[zad,zaa,zab,zac,Sg.pick,Nat.reduceAdd]
    refine⟨fun W' _ _ hI hD hK=> ?_,?_⟩
    ·obtain⟨z0,z1,z2⟩:=(G.out.below hI.out.1).cs;go_simp;exact hK.out _ _ rfl rfl
    simp only[zad,zaa,zab,zac,Sg.pick,Nat.reduceAdd];refine⟨fun W' _ _ hI hD hK=> ?_,?_⟩
    ·obtain⟨z0,z1,z2⟩:=(K.out.below hI.out.1).cs;go_simp;exact hK.out _ _ rfl rfl
    simp only[zad,zaa,zab,zac,Sg.pick,Nat.reduceAdd];refine⟨fun W' _ _ hI hD hK=> ?_,?_⟩
    ·skip;go_simp;refine(wI.out _ _ _ (G.out.below hI.out.1).arg (K.out.below hI.out.1).arg).mono ?_;rintro e w' ⟨rfl,b⟩;exact hK.out _ _ b rfl
    simp only[zad,zaa,zab,zac,Sg.pick,Nat.reduceAdd]
    iterate 8
     refine⟨fun W' _ _ hI hD hK=> ?_,?_⟩
     ·skip;go_simp;exact hK.out _ _ rfl rfl
     simp only[zad,zaa,zab,zac,Sg.pick,Nat.reduceAdd]
    intro W9 hI9 hD9;have I9:=qA hI9.out.1;clear hI9 hD9;go_wp2_with fail;go_meet;exact⟨rfl,I9.out⟩
  ·have Bc:decide (0<x)=false:=decide_eq_false hx;have so:ar=false:=by rw[i9.out,Bc];rfl
   subst so;clear i9;refine qm [31,32] [.val (.int .i64 n), .val (.agg #[.int .i64 q1, .int .i64 q2, .slice A1 qs.length c1]), .val (.agg #[.int .i64 p1, .int .i64 p2, .slice A2 ps.length c2]), .val (.int .i64 n), .val (.bool false), .val (.bool false), .val (.int .i64 x), .val (.int .i64 x), .val (.bool false), .val (.bool false), .val (.bool false), .val (.int .i64 y), .val (.int .i64 y), .val (.bool false), .val (.bool false), .val (.bool false), .val (.agg #[.int .i64 q1, .int .i64 q2, .slice A1 qs.length c1]), .val (.agg #[.int .i64 p1, .int .i64 p2, .slice A2 ps.length c2]), .val (.bool false), .val (.agg #[.int .i64 q1, .int .i64 q2, .slice A1 qs.length c1]), .val (.agg #[.int .i64 p1, .int .i64 p2, .slice A2 ps.length c2]), .val (.bool false), .val (.bool false), .val (.bool false), .val (.bool false), .val (.agg #[.int .i64 q1, .int .i64 q2, .slice A1 qs.length c1]), .val (.agg #[.int .i64 p1, .int .i64 p2, .slice A2 ps.length c2]), .val (.bool false), .val (.int .i64 x), .val (.bool false), .val (.bool false), .val undef, .val undef, .val (.bool false), .val (.bool false), .val (.bool false)]
    [none,none,none,some (fun W W'=>Below W.heap.size W W'),none,none,none,none,none,none,none,none,none,none,none,none,none,none,some (fun W W'=>Below W.heap.size W W'),none,none,some (fun W W'=>Below W.heap.size W W'),none,none,none,none,none,some (fun W W'=>Below W.heap.size W W'),none,none,none,none,none,none,none,none]
    (fun W=>Below w5.heap.size w5 W) (fun _=>True) [] [] tK tK tK
    ⟨⟨rfl,rfl⟩,⟨rfl,rfl⟩,trivial⟩ (by rfl) (by rfl) (zae _ _).drew trivial
    ⟨fun _ _ h t=>h.trans (t.mono h.size),fun _ _ h t=>h.trans (t.mono h.size),fun _ _ h t=>h.trans (t.mono h.size),fun _ _ h t=>h.trans (t.mono h.size),trivial⟩ (qBE _ 0)
    trivial (fun vs=> ?_)
   refine⟨fun W' _ _ hI hD hK=> ?_,?_⟩
   ·skip;go_simp;exact hK.out _ _ rfl rfl
   simp only[zad,zaa,zab,zac,Sg.pick,Nat.reduceAdd];refine⟨fun W' _ _ hI hD hK=> ?_,?_⟩
   ·obtain⟨z0,z1,z2⟩:=(G.out.below hI.out.1).cs;go_simp;exact hK.out _ _ rfl rfl
   simp only[zad,zaa,zab,zac,Sg.pick,Nat.reduceAdd];refine⟨fun W' _ _ hI hD hK=> ?_,?_⟩
   ·obtain⟨z0,z1,z2⟩:=(K.out.below hI.out.1).cs;go_simp;exact hK.out _ _ rfl rfl
   simp only[zad,zaa,zab,zac,Sg.pick,Nat.reduceAdd];refine⟨fun W' _ _ hI hD hK=> ?_,?_⟩
   ·skip;go_simp;refine(dL.out _ _ _ (G.out.below hI.out.1).arg (K.out.below hI.out.1).arg).mono ?_;rintro e w' ⟨rfl,b⟩;exact hK.out _ _ b rfl
   simp only[zad,zaa,zab,zac,Sg.pick,Nat.reduceAdd]
   iterate 12
    refine⟨fun W' _ _ hI hD hK=> ?_,?_⟩
    ·skip;go_simp;exact hK.out _ _ rfl rfl
    simp only[zad,zaa,zab,zac,Sg.pick,Nat.reduceAdd]
   refine⟨fun W' _ _ hI hD hK=> ?_,?_⟩
   ·obtain⟨z0,z1,z2⟩:=(G.out.below hI.out.1).cs;go_simp;exact hK.out _ _ rfl rfl
   simp only[zad,zaa,zab,zac,Sg.pick,Nat.reduceAdd];refine⟨fun W' _ _ hI hD hK=> ?_,?_⟩
   ·obtain⟨z0,z1,z2⟩:=(K.out.below hI.out.1).cs;go_simp;exact hK.out _ _ rfl rfl
   simp only[zad,zaa,zab,zac,Sg.pick,Nat.reduceAdd];refine⟨fun W' _ _ hI hD hK=> ?_,?_⟩
   ·skip;go_simp;refine(wI.out _ _ _ (G.out.below hI.out.1).arg (K.out.below hI.out.1).arg).mono ?_;rintro e w' ⟨rfl,b⟩;exact hK.out _ _ b rfl
   simp only[zad,zaa,zab,zac,Sg.pick,Nat.reduceAdd];refine⟨fun W' _ _ hI hD hK=> ?_,?_⟩
   ·obtain⟨z0,z1,z2⟩:=(G.out.below hI.out.1).cs;go_simp;exact hK.out _ _ rfl rfl
   simp only[zad,zaa,zab,zac,Sg.pick,Nat.reduceAdd];refine⟨fun W' _ _ hI hD hK=> ?_,?_⟩
   ·obtain⟨z0,z1,z2⟩:=(K.out.below hI.out.1).cs;go_simp;exact hK.out _ _ rfl rfl
   simp only[zad,zaa,zab,zac,Sg.pick,Nat.reduceAdd];refine⟨fun W' _ _ hI hD hK=> ?_,?_⟩
   ·skip;go_simp;refine(ph.out _ _ _ (G.out.below hI.out.1).arg (K.out.below hI.out.1).arg).mono ?_;rintro e w' ⟨rfl,b⟩;exact hK.out _ _ b rfl
   simp only[zad,zaa,zab,zac,Sg.pick,Nat.reduceAdd]
   iterate 3
    refine⟨fun W' _ _ hI hD hK=> ?_,?_⟩
    ·skip;go_simp;exact hK.out _ _ rfl rfl
    simp only[zad,zaa,zab,zac,Sg.pick,Nat.reduceAdd]
   refine⟨fun W' _ _ hI hD hK=> ?_,?_⟩
   ·obtain⟨z0,z1,z2⟩:=(G.out.below hI.out.1).cs;go_simp;exact hK.out _ _ rfl rfl
   simp only[zad,zaa,zab,zac,Sg.pick,Nat.reduceAdd];refine⟨fun W' _ _ hI hD hK=> ?_,?_⟩
   ·obtain⟨z0,z1,z2⟩:=(K.out.below hI.out.1).cs;go_simp;exact hK.out _ _ rfl rfl
   simp only[zad,zaa,zab,zac,Sg.pick,Nat.reduceAdd];refine⟨fun W' _ _ hI hD hK=> ?_,?_⟩
   ·skip;go_simp;refine(wI.out _ _ _ (G.out.below hI.out.1).arg (K.out.below hI.out.1).arg).mono ?_;rintro e w' ⟨rfl,b⟩;exact hK.out _ _ b rfl
   simp only[zad,zaa,zab,zac,Sg.pick,Nat.reduceAdd]
   iterate 3
    refine⟨fun W' _ _ hI hD hK=> ?_,?_⟩
    ·skip;go_simp;exact hK.out _ _ rfl rfl
    simp only[zad,zaa,zab,zac,Sg.pick,Nat.reduceAdd]
   iterate 2
    refine⟨trivial,?_⟩;simp only[zad,zaa,zab,zac,Sg.pick,Nat.reduceAdd]
   iterate 3
    refine⟨fun W' _ _ hI hD hK=> ?_,?_⟩
    ·skip;go_simp;exact hK.out _ _ rfl rfl
    simp only[zad,zaa,zab,zac,Sg.pick,Nat.reduceAdd]
   intro W9 hI9 hD9;have I9:=qA hI9.out.1;clear hI9 hD9;go_wp2_with fail;go_meet;exact⟨rfl,I9.out⟩
 case rest=>as_aux_lemma=>
  obtain⟨rfl,b⟩:=hcut;replace G:=qA (G.out.below b);replace K:=qA (K.out.below b);replace BZ:=qA (BZ.out.trans (b.mono BZ.out.size));clear b wI ph dL i9;rename World=>wa
  go_upto_region 9 with fail
  go_cut [98] (fun s wx=>s= .bool false∧Below wa.heap.size wa wx)
  case first=>as_aux_lemma=>
   clear cG jb fO HS;by_cases hn:0<n
   ·have xn:decide (0<n)=true:=decide_eq_true hn;obtain⟨h1,h2,-⟩:=bM.out hn;have ii:=cR.out.1;clear bM cR;by_cases hi:0<ib
    ·have tn:decide (0<ib)=true:=decide_eq_true hi;have Ai:0<ia:=by rw[tn] at h1;exact of_decide_eq_true h1
     have DU:decide (0<ia)=true:=decide_eq_true Ai;have cV:IntKind.i64.wrap (n*ib)=ia:=by rw[←h2 hi];exact wr_in tO
     clear h1 h2 ii;refine qm [] [.val (.int .i64 n), .val (.bool true), .val (.bool true), .val (.agg #[.int .i64 q1, .int .i64 q2, .slice A1 qs.length c1]), .val (.int .i64 ia), .val (.bool true), .val (.agg #[.int .i64 p1, .int .i64 p2, .slice A2 ps.length c2]), .val (.int .i64 ib), .val (.bool true), .val (.bool false), .val (.bool false), .val (.bool false), .val (.int .i64 n), .val (.bool true), .val (.bool true), .val (.agg #[.int .i64 p1, .int .i64 p2, .slice A2 ps.length c2]), .val (.int .i64 ib), .val (.bool true), .val (.bool true), .val (.bool true), .val (.agg #[.int .i64 q1, .int .i64 q2, .slice A1 qs.length c1]), .val (.int .i64 ia), .val (.int .i64 n), .val (.agg #[.int .i64 p1, .int .i64 p2, .slice A2 ps.length c2]), .val (.int .i64 ib), .val (.int .i64 ia), .val (.bool false), .val (.bool false), .val (.bool false)]
      [none,none,none,none,some (fun W W'=>Below W.heap.size W W'),none,none,some (fun W W'=>Below W.heap.size W W'),none,none,none,none,none,none,none,none,some (fun W W'=>Below W.heap.size W W'),none,none,none,none,some (fun W W'=>Below W.heap.size W W'),none,none,some (fun W W'=>Below W.heap.size W W'),none,none,none,none]
      (fun W=>Below wa.heap.size wa W) (fun _=>True) [] [] tK tK tK
      trivial (by rfl) (by rfl) (zae _ _).drew trivial
      ⟨fun _ _ h t=>h.trans (t.mono h.size),fun _ _ h t=>h.trans (t.mono h.size),fun _ _ h t=>h.trans (t.mono h.size),fun _ _ h t=>h.trans (t.mono h.size),fun _ _ h t=>h.trans (t.mono h.size),trivial⟩ (qBE _ 0)
      trivial (fun vs=> ?_)
     iterate 3
      refine⟨fun W' _ _ hI hD hK=> ?_,?_⟩
      ·skip;go_simp;exact hK.out _ _ rfl rfl
      simp only[zad,zaa,zab,zac,Sg.pick,Nat.reduceAdd]
     refine⟨fun W' _ _ hI hD hK=> ?_,?_⟩
     ·obtain⟨z0,z1,z2⟩:=(G.out.below hI.out.1).cs;go_simp;exact hK.out _ _ rfl rfl
     simp only[zad,zaa,zab,zac,Sg.pick,Nat.reduceAdd];refine⟨fun W' _ _ hI hD hK=> ?_,?_⟩
     ·skip;go_simp;refine(n3.out _ _ (G.out.below hI.out.1).arg).mono ?_;rintro e w' ⟨rfl,b⟩;exact hK.out _ _ b rfl
     simp only[zad,zaa,zab,zac,Sg.pick,Nat.reduceAdd];refine⟨fun W' _ _ hI hD hK=> ?_,?_⟩
     ·skip;go_simp;exact hK.out _ _ rfl rfl
     simp only[zad,zaa,zab,zac,Sg.pick,Nat.reduceAdd];refine⟨fun W' _ _ hI hD hK=> ?_,?_⟩
     ·obtain⟨z0,z1,z2⟩:=(K.out.below hI.out.1).cs;go_simp;exact hK.out _ _ rfl rfl
     simp only[zad,zaa,zab,zac,Sg.pick,Nat.reduceAdd];refine⟨fun W' _ _ hI hD hK=> ?_,?_⟩
     ·skip;go_simp;refine(jj.out _ _ (K.out.below hI.out.1).arg).mono ?_;rintro e w' ⟨rfl,b⟩;exact hK.out _ _ b rfl
     simp only[zad,zaa,zab,zac,Sg.pick,Nat.reduceAdd]
     iterate 7
      refine⟨fun W' _ _ hI hD hK=> ?_,?_⟩
      ·skip;go_simp;exact hK.out _ _ rfl rfl
      simp only[zad,zaa,zab,zac,Sg.pick,Nat.reduceAdd]
     refine⟨fun W' _ _ hI hD hK=> ?_,?_⟩
     ·obtain⟨z0,z1,z2⟩:=(K.out.below hI.out.1).cs;go_simp;exact hK.out _ _ rfl rfl
     simp only[zad,zaa,zab,zac,Sg.pick,Nat.reduceAdd];refine⟨fun W' _ _ hI hD hK=> ?_,?_⟩
     ·skip;go_simp;refine(jj.out _ _ (K.out.below hI.out.1).arg).mono ?_;rintro e w' ⟨rfl,b⟩;exact hK.out _ _ b rfl
     simp only[zad,zaa,zab,zac,Sg.pick,Nat.reduceAdd]
     iterate 3
      refine⟨fun W' _ _ hI hD hK=> ?_,?_⟩
      ·skip;go_simp;exact hK.out _ _ rfl rfl
      simp only[zad,zaa,zab,zac,Sg.pick,Nat.reduceAdd]
     refine⟨fun W' _ _ hI hD hK=> ?_,?_⟩
     ·obtain⟨z0,z1,z2⟩:=(G.out.below hI.out.1).cs;go_simp;exact hK.out _ _ rfl rfl
     simp only[zad,zaa,zab,zac,Sg.pick,Nat.reduceAdd];refine⟨fun W' _ _ hI hD hK=> ?_,?_⟩
     ·skip;go_simp;refine(n3.out _ _ (G.out.below hI.out.1).arg).mono ?_;rintro e w' ⟨rfl,b⟩;exact hK.out _ _ b rfl
     simp only[zad,zaa,zab,zac,Sg.pick,Nat.reduceAdd];refine⟨fun W' _ _ hI hD hK=> ?_,?_⟩
     ·skip;go_simp;exact hK.out _ _ rfl rfl
     simp only[zad,zaa,zab,zac,Sg.pick,Nat.reduceAdd];refine⟨fun W' _ _ hI hD hK=> ?_,?_⟩
     ·obtain⟨z0,z1,z2⟩:=(K.out.below hI.out.1).cs;go_simp;exact hK.out _ _ rfl rfl
     simp only[zad,zaa,zab,zac,Sg.pick,Nat.reduceAdd];refine⟨fun W' _ _ hI hD hK=> ?_,?_⟩
     ·skip;go_simp;refine(jj.out _ _ (K.out.below hI.out.1).arg).mono ?_;rintro e w' ⟨rfl,b⟩;exact hK.out _ _ b rfl
     simp only[zad,zaa,zab,zac,Sg.pick,Nat.reduceAdd]
     iterate 4
      refine⟨fun W' _ _ hI hD hK=> ?_,?_⟩
      ·skip;go_simp;exact hK.out _ _ rfl rfl
      simp only[zad,zaa,zab,zac,Sg.pick,Nat.reduceAdd]
     intro W9 hI9 hD9;have I9:=qA hI9.out.1;clear hI9 hD9;go_wp2_with fail;go_meet;exact⟨rfl,I9.out⟩
    ·have tn:decide (0<ib)=false:=decide_eq_false hi;have Ai: ¬0<ia:=by rw[tn] at h1;exact of_decide_eq_false h1
     have DU:decide (0<ia)=false:=decide_eq_false Ai;clear h1 h2 ii;refine qm [20,21,22,23,24,25,26] [.val (.int .i64 n), .val (.bool true), .val (.bool true), .val (.agg #[.int .i64 q1, .int .i64 q2, .slice A1 qs.length c1]), .val (.int .i64 ia), .val (.bool false), .val (.agg #[.int .i64 p1, .int .i64 p2, .slice A2 ps.length c2]), .val (.int .i64 ib), .val (.bool false), .val (.bool false), .val (.bool false), .val (.bool false), .val (.int .i64 n), .val (.bool true), .val (.bool true), .val (.agg #[.int .i64 p1, .int .i64 p2, .slice A2 ps.length c2]), .val (.int .i64 ib), .val (.bool false), .val (.bool false), .val (.bool false), .val undef, .val undef, .val undef, .val undef, .val undef, .val undef, .val undef, .val (.bool false), .val (.bool false)]
      [none,none,none,none,some (fun W W'=>Below W.heap.size W W'),none,none,some (fun W W'=>Below W.heap.size W W'),none,none,none,none,none,none,none,none,some (fun W W'=>Below W.heap.size W W'),none,none,none,none,none,none,none,none,none,none,none,none]
      (fun W=>Below wa.heap.size wa W) (fun _=>True) [] [] tK tK tK
      ⟨⟨rfl,rfl⟩,⟨rfl,rfl⟩,⟨rfl,rfl⟩,⟨rfl,rfl⟩,⟨rfl,rfl⟩,⟨rfl,rfl⟩,⟨rfl,rfl⟩,trivial⟩ (by rfl) (by rfl) (zae _ _).drew trivial
      ⟨fun _ _ h t=>h.trans (t.mono h.size),fun _ _ h t=>h.trans (t.mono h.size),fun _ _ h t=>h.trans (t.mono h.size),trivial⟩ (qBE _ 0)
      trivial (fun vs=> ?_)
     iterate 3
      refine⟨fun W' _ _ hI hD hK=> ?_,?_⟩
      ·skip;go_simp;exact hK.out _ _ rfl rfl
      simp only[zad,zaa,zab,zac,Sg.pick,Nat.reduceAdd]
     refine⟨fun W' _ _ hI hD hK=> ?_,?_⟩
     ·obtain⟨z0,z1,z2⟩:=(G.out.below hI.out.1).cs;go_simp;exact hK.out _ _ rfl rfl
     simp only[zad,zaa,zab,zac,Sg.pick,Nat.reduceAdd];refine⟨fun W' _ _ hI hD hK=> ?_,?_⟩
     ·skip;go_simp;refine(n3.out _ _ (G.out.below hI.out.1).arg).mono ?_;rintro e w' ⟨rfl,b⟩;exact hK.out _ _ b rfl
     simp only[zad,zaa,zab,zac,Sg.pick,Nat.reduceAdd];refine⟨fun W' _ _ hI hD hK=> ?_,?_⟩
     ·skip;go_simp;exact hK.out _ _ rfl rfl
     simp only[zad,zaa,zab,zac,Sg.pick,Nat.reduceAdd];refine⟨fun W' _ _ hI hD hK=> ?_,?_⟩
     ·obtain⟨z0,z1,z2⟩:=(K.out.below hI.out.1).cs;go_simp;exact hK.out _ _ rfl rfl
     simp only[zad,zaa,zab,zac,Sg.pick,Nat.reduceAdd];refine⟨fun W' _ _ hI hD hK=> ?_,?_⟩
     ·skip;go_simp;refine(jj.out _ _ (K.out.below hI.out.1).arg).mono ?_;rintro e w' ⟨rfl,b⟩;exact hK.out _ _ b rfl
     simp only[zad,zaa,zab,zac,Sg.pick,Nat.reduceAdd]
     iterate 7
      refine⟨fun W' _ _ hI hD hK=> ?_,?_⟩
      ·skip;go_simp;exact hK.out _ _ rfl rfl
      simp only[zad,zaa,zab,zac,Sg.pick,Nat.reduceAdd]
     refine⟨fun W' _ _ hI hD hK=> ?_,?_⟩
     ·obtain⟨z0,z1,z2⟩:=(K.out.below hI.out.1).cs;go_simp;exact hK.out _ _ rfl rfl
     simp only[zad,zaa,zab,zac,Sg.pick,Nat.reduceAdd];refine⟨fun W' _ _ hI hD hK=> ?_,?_⟩
     ·skip;go_simp;refine(jj.out _ _ (K.out.below hI.out.1).arg).mono ?_;rintro e w' ⟨rfl,b⟩;exact hK.out _ _ b rfl
     simp only[zad,zaa,zab,zac,Sg.pick,Nat.reduceAdd]
     iterate 3
      refine⟨fun W' _ _ hI hD hK=> ?_,?_⟩
      ·skip;go_simp;exact hK.out _ _ rfl rfl
      simp only[zad,zaa,zab,zac,Sg.pick,Nat.reduceAdd]
     iterate 7
      refine⟨trivial,?_⟩;simp only[zad,zaa,zab,zac,Sg.pick,Nat.reduceAdd]
     iterate 2
      refine⟨fun W' _ _ hI hD hK=> ?_,?_⟩
      ·skip;go_simp;exact hK.out _ _ rfl rfl
      simp only[zad,zaa,zab,zac,Sg.pick,Nat.reduceAdd]
     intro W9 hI9 hD9;have I9:=qA hI9.out.1;clear hI9 hD9;go_wp2_with fail;go_meet;exact⟨rfl,I9.out⟩
   ·have xn:decide (0<n)=false:=decide_eq_false hn;clear bM cR;refine qm [3,4,5,6,7,8,9,15,16,17,20,21,22,23,24,25,26] [.val (.int .i64 n), .val (.bool false), .val (.bool false), .val undef, .val undef, .val undef, .val undef, .val undef, .val undef, .val undef, .val (.bool false), .val (.bool false), .val (.int .i64 n), .val (.bool false), .val (.bool false), .val undef, .val undef, .val undef, .val (.bool false), .val (.bool false), .val undef, .val undef, .val undef, .val undef, .val undef, .val undef, .val undef, .val (.bool false), .val (.bool false)]
     [none,none,none,none,none,none,none,none,none,none,none,none,none,none,none,none,none,none,none,none,none,none,none,none,none,none,none,none,none]
     (fun W=>Below wa.heap.size wa W) (fun _=>True) [] [] tK tK tK
     ⟨⟨rfl,rfl⟩,⟨rfl,rfl⟩,⟨rfl,rfl⟩,⟨rfl,rfl⟩,⟨rfl,rfl⟩,⟨rfl,rfl⟩,⟨rfl,rfl⟩,⟨rfl,rfl⟩,⟨rfl,rfl⟩,⟨rfl,rfl⟩,⟨rfl,rfl⟩,⟨rfl,rfl⟩,⟨rfl,rfl⟩,⟨rfl,rfl⟩,⟨rfl,rfl⟩,⟨rfl,rfl⟩,⟨rfl,rfl⟩,trivial⟩ (by rfl) (by rfl) (zae _ _).drew trivial
     trivial (qBE _ 0)
     trivial (fun vs=> ?_)
    iterate 3
     refine⟨fun W' _ _ hI hD hK=> ?_,?_⟩
     ·skip;go_simp;exact hK.out _ _ rfl rfl
     simp only[zad,zaa,zab,zac,Sg.pick,Nat.reduceAdd]
    iterate 7
     refine⟨trivial,?_⟩;simp only[zad,zaa,zab,zac,Sg.pick,Nat.reduceAdd]
    iterate 5
     refine⟨fun W' _ _ hI hD hK=> ?_,?_⟩
     ·skip;go_simp;exact hK.out _ _ rfl rfl
     simp only[zad,zaa,zab,zac,Sg.pick,Nat.reduceAdd]
    iterate 3
     refine⟨trivial,?_⟩;simp only[zad,zaa,zab,zac,Sg.pick,Nat.reduceAdd]
    iterate 2
     refine⟨fun W' _ _ hI hD hK=> ?_,?_⟩
     ·skip;go_simp;exact hK.out _ _ rfl rfl
     simp only[zad,zaa,zab,zac,Sg.pick,Nat.reduceAdd]
    iterate 7
     refine⟨trivial,?_⟩;simp only[zad,zaa,zab,zac,Sg.pick,Nat.reduceAdd]
    iterate 2
     refine⟨fun W' _ _ hI hD hK=> ?_,?_⟩
     ·skip;go_simp;exact hK.out _ _ rfl rfl
     simp only[zad,zaa,zab,zac,Sg.pick,Nat.reduceAdd]
    intro W9 hI9 hD9;have I9:=qA hI9.out.1;clear hI9 hD9;go_wp2_with fail;go_meet;exact⟨rfl,I9.out⟩
  case rest=>as_aux_lemma=>
   obtain⟨rfl,b⟩:=hcut;replace G:=qA (G.out.below b);replace K:=qA (K.out.below b);replace BZ:=qA (BZ.out.trans (b.mono BZ.out.size));clear b;rename World=>wb
   go_upto_region 11 with fail
   go_cut [111] (fun s wx=>s= .bool false∧Below wb.heap.size wb wx)
   case first=>as_aux_lemma=>
    clear cG n3 jj HS;by_cases hn:0<n
    ·have xn:decide (0<n)=true:=decide_eq_true hn;obtain⟨-,-,h3⟩:=bM.out hn;have ii:=cR.out.2.2;have fL:IntKind.i64.wrap (ra-1)=ra-1:=wr_in tO;have pD:IntKind.i64.wrap (rb-1)=rb-1:=wr_in tO;have cV:IntKind.i64.wrap (n*(rb-1))=ra-1:=by rw[←h3];exact wr_in tO
     clear bM cR h3 ii;refine qm [] [.val (.int .i64 n), .val (.bool true), .val (.bool true), .val (.agg #[.int .i64 q1, .int .i64 q2, .slice A1 qs.length c1]), .val (.int .i64 ra), .val (.int .i64 (ra-1)), .val (.int .i64 n), .val (.agg #[.int .i64 p1, .int .i64 p2, .slice A2 ps.length c2]), .val (.int .i64 rb), .val (.int .i64 (rb-1)), .val (.int .i64 (ra-1)), .val (.bool false), .val (.bool false)]
      [none,none,none,none,some (fun W W'=>Below W.heap.size W W'),none,none,none,some (fun W W'=>Below W.heap.size W W'),none,none,none,none]
      (fun W=>Below wb.heap.size wb W) (fun _=>True) [] [] tK tK tK
      trivial (by rfl) (by rfl) (zae _ _).drew trivial
      ⟨fun _ _ h t=>h.trans (t.mono h.size),fun _ _ h t=>h.trans (t.mono h.size),trivial⟩ (qBE _ 0)
      trivial (fun vs=> ?_)
     iterate 3
      refine⟨fun W' _ _ hI hD hK=> ?_,?_⟩
      ·skip;go_simp;exact hK.out _ _ rfl rfl
      simp only[zad,zaa,zab,zac,Sg.pick,Nat.reduceAdd]
     refine⟨fun W' _ _ hI hD hK=> ?_,?_⟩
     ·obtain⟨z0,z1,z2⟩:=(G.out.below hI.out.1).cs;go_simp;exact hK.out _ _ rfl rfl
     simp only[zad,zaa,zab,zac,Sg.pick,Nat.reduceAdd];refine⟨fun W' _ _ hI hD hK=> ?_,?_⟩
     ·skip;go_simp;refine(jb.out _ _ (G.out.below hI.out.1).arg).mono ?_;rintro e w' ⟨rfl,b⟩;exact hK.out _ _ b rfl
     simp only[zad,zaa,zab,zac,Sg.pick,Nat.reduceAdd]
     iterate 2
      refine⟨fun W' _ _ hI hD hK=> ?_,?_⟩
      ·skip;go_simp;exact hK.out _ _ rfl rfl
      simp only[zad,zaa,zab,zac,Sg.pick,Nat.reduceAdd]
     refine⟨fun W' _ _ hI hD hK=> ?_,?_⟩
     ·obtain⟨z0,z1,z2⟩:=(K.out.below hI.out.1).cs;go_simp;exact hK.out _ _ rfl rfl
     simp only[zad,zaa,zab,zac,Sg.pick,Nat.reduceAdd];refine⟨fun W' _ _ hI hD hK=> ?_,?_⟩
     ·skip;go_simp;refine(fO.out _ _ (K.out.below hI.out.1).arg).mono ?_;rintro e w' ⟨rfl,b⟩;exact hK.out _ _ b rfl
     simp only[zad,zaa,zab,zac,Sg.pick,Nat.reduceAdd]
     iterate 4
      refine⟨fun W' _ _ hI hD hK=> ?_,?_⟩
      ·skip;go_simp;exact hK.out _ _ rfl rfl
      simp only[zad,zaa,zab,zac,Sg.pick,Nat.reduceAdd]
     intro W9 hI9 hD9;have I9:=qA hI9.out.1;clear hI9 hD9;go_wp2_with fail;go_meet;exact⟨rfl,I9.out⟩
    ·have xn:decide (0<n)=false:=decide_eq_false hn;clear bM cR;refine qm [3,4,5,6,7,8,9,10,11] [.val (.int .i64 n), .val (.bool false), .val (.bool false), .val undef, .val undef, .val undef, .val undef, .val undef, .val undef, .val undef, .val undef, .val undef, .val (.bool false)]
      [none,none,none,none,none,none,none,none,none,none,none,none,none]
      (fun W=>Below wb.heap.size wb W) (fun _=>True) [] [] tK tK tK
      ⟨⟨rfl,rfl⟩,⟨rfl,rfl⟩,⟨rfl,rfl⟩,⟨rfl,rfl⟩,⟨rfl,rfl⟩,⟨rfl,rfl⟩,⟨rfl,rfl⟩,⟨rfl,rfl⟩,⟨rfl,rfl⟩,trivial⟩ (by rfl) (by rfl) (zae _ _).drew trivial
      trivial (qBE _ 0)
      trivial (fun vs=> ?_)
     iterate 3
      refine⟨fun W' _ _ hI hD hK=> ?_,?_⟩
      ·skip;go_simp;exact hK.out _ _ rfl rfl
      simp only[zad,zaa,zab,zac,Sg.pick,Nat.reduceAdd]
     iterate 9
      refine⟨trivial,?_⟩;simp only[zad,zaa,zab,zac,Sg.pick,Nat.reduceAdd]
     refine⟨fun W' _ _ hI hD hK=> ?_,?_⟩
     ·skip;go_simp;exact hK.out _ _ rfl rfl
     simp only[zad,zaa,zab,zac,Sg.pick,Nat.reduceAdd];intro W9 hI9 hD9;have I9:=qA hI9.out.1;clear hI9 hD9;go_wp2_with fail;go_meet;exact⟨rfl,I9.out⟩
   case rest=>as_aux_lemma=>
    obtain⟨rfl,b⟩:=hcut;replace G:=qA (G.out.below b);replace K:=qA (K.out.below b);replace BZ:=qA (BZ.out.trans (b.mono BZ.out.size));clear b bM jb fO;rename World=>wc
    obtain⟨⟨ig,is⟩,wZ⟩: ∃r,r=intF (q1,q2,qs) (p1,p2,ps):=⟨_,rfl⟩;obtain⟨r1,r2,rs⟩:=ig;rw[←wZ] at HS cG cR;simp only at HS cG cR
    clear wZ;obtain⟨u0,u1,u2⟩:=G.out.cs;obtain⟨y0,y1,y2⟩:=K.out.cs;simp only at u0 u1 u2 y0 y1 y2
    go_wp2_with fail;refine(HS.out _ _ _ G.out.arg K.out.arg).mono ?_
    rintro e wd ⟨rv,rfl,⟨s3,rfl,i1,i2,aU⟩,b⟩;clear u0 u1 u2 y0 y1 y2;obtain⟨A3,c3,rfl,-⟩:=aU.form;simp only at i1 i2 aU⊢
    replace G:=qA (G.out.below b);replace K:=qA (K.out.below b);replace BZ:=qA (BZ.out.trans (b.mono BZ.out.size));have en:=qA aU;clear b aU HS;obtain⟨W8,nt⟩: ∃W,W=wd.alloc (.cells #[.int .i64 r1,.int .i64 r2, .slice A3 rs.length c3] 26):=⟨_,rfl⟩;have g8:=GBx.new (m:=(r1,r2,rs)) en.out i1 i2 nt;obtain⟨-,b8,s8⟩:=CBx.new nt;have J:=qA g8;replace G:=qA (G.out.below b8);replace K:=qA (K.out.below b8);replace BZ:=qA (BZ.out.trans (b8.mono BZ.out.size));have H9:=qA (fun va W h=>qBz va (r1,r2,rs) W h);generalize idxO (r1,r2,rs)=ig at*;go_upto_region 14 with fail
    rw[←nt];clear nt g8 b8 en;generalize wd.heap.size=kb at*;cases is
    ·clear cG cR;refine qm [3,4,5,8,9,10,13,14,15,16,17,18,19,20,21,22,23,24,25,26,27,28,29,30,31,32,33,34,35,36] [.val (.bool false), .val (.bool true), .val (.bool true), .val undef, .val undef, .val undef, .val (.bool true), .val (.bool true), .val undef, .val undef, .val undef, .val (.bool true), .val (.bool true), .val undef, .val undef, .val undef, .val undef, .val undef, .val undef, .val undef, .val undef, .val undef, .val undef, .val undef, .val undef, .val undef, .val undef, .val undef, .val undef, .val undef, .val undef, .val undef, .val undef, .val undef, .val undef, .val undef, .val undef, .val (.bool true), .val (.bool true)]
      [none,none,none,none,none,none,none,none,none,none,none,none,none,none,none,none,none,none,none,none,none,none,none,none,none,none,none,none,none,none,none,none,none,none,none,none,none,none,none]
      (fun W=>Below W8.heap.size W8 W) (fun _=>True) [] [] tK tK tK
      ⟨⟨rfl,rfl⟩,⟨rfl,rfl⟩,⟨rfl,rfl⟩,⟨rfl,rfl⟩,⟨rfl,rfl⟩,⟨rfl,rfl⟩,⟨rfl,rfl⟩,⟨rfl,rfl⟩,⟨rfl,rfl⟩,⟨rfl,rfl⟩,⟨rfl,rfl⟩,⟨rfl,rfl⟩,⟨rfl,rfl⟩,⟨rfl,rfl⟩,⟨rfl,rfl⟩,⟨rfl,rfl⟩,⟨rfl,rfl⟩,⟨rfl,rfl⟩,⟨rfl,rfl⟩,⟨rfl,rfl⟩,⟨rfl,rfl⟩,⟨rfl,rfl⟩,⟨rfl,rfl⟩,⟨rfl,rfl⟩,⟨rfl,rfl⟩,⟨rfl,rfl⟩,⟨rfl,rfl⟩,⟨rfl,rfl⟩,⟨rfl,rfl⟩,⟨rfl,rfl⟩,trivial⟩ (by rfl) (by rfl) (zae _ _).drew trivial
      trivial (qBE _ 0)
      trivial (fun vs=> ?_)
     iterate 3
      refine⟨fun W' _ _ hI hD hK=> ?_,?_⟩
      ·skip;go_simp;exact hK.out _ _ rfl rfl
      simp only[zad,zaa,zab,zac,Sg.pick,Nat.reduceAdd]
     iterate 3
      refine⟨trivial,?_⟩;simp only[zad,zaa,zab,zac,Sg.pick,Nat.reduceAdd]
     iterate 2
      refine⟨fun W' _ _ hI hD hK=> ?_,?_⟩
      ·skip;go_simp;exact hK.out _ _ rfl rfl
      simp only[zad,zaa,zab,zac,Sg.pick,Nat.reduceAdd]
     iterate 3
      refine⟨trivial,?_⟩;simp only[zad,zaa,zab,zac,Sg.pick,Nat.reduceAdd]
     iterate 2
      refine⟨fun W' _ _ hI hD hK=> ?_,?_⟩
      ·skip;go_simp;exact hK.out _ _ rfl rfl
      simp only[zad,zaa,zab,zac,Sg.pick,Nat.reduceAdd]
     iterate 24
      refine⟨trivial,?_⟩;simp only[zad,zaa,zab,zac,Sg.pick,Nat.reduceAdd]
     iterate 2
      refine⟨fun W' _ _ hI hD hK=> ?_,?_⟩
      ·skip;go_simp;exact hK.out _ _ rfl rfl
      simp only[zad,zaa,zab,zac,Sg.pick,Nat.reduceAdd]
     intro W9 hI9 hD9;have I9:=qA hI9.out.1;clear hI9 hD9;go_wp2;go_ret;exact⟨rfl,BZ.out.trans (I9.out.mono BZ.out.size)⟩
    ·have ii:=cR.out;clear cR;by_cases ha:ia<1
     ·have fI:decide (ia<1)=true:=decide_eq_true ha;clear cG ii;refine qm [8,9,10,13,14,15,16,17,18,19,20,21,22,23,24,25,26,27,28,29,30,31,32,33,34,35,36] [.val (.bool true), .val (.bool false), .val (.bool false), .val (.agg #[.int .i64 q1, .int .i64 q2, .slice A1 qs.length c1]), .val (.int .i64 ia), .val (.bool true), .val (.bool true), .val (.bool true), .val undef, .val undef, .val undef, .val (.bool true), .val (.bool true), .val undef, .val undef, .val undef, .val undef, .val undef, .val undef, .val undef, .val undef, .val undef, .val undef, .val undef, .val undef, .val undef, .val undef, .val undef, .val undef, .val undef, .val undef, .val undef, .val undef, .val undef, .val undef, .val undef, .val undef, .val (.bool true), .val (.bool true)]
       [none,none,none,none,some (fun W W'=>Below W.heap.size W W'),none,none,none,none,none,none,none,none,none,none,none,none,none,none,none,none,none,none,none,none,none,none,none,none,none,none,none,none,none,none,none,none,none,none]
       (fun W=>Below W8.heap.size W8 W) (fun _=>True) [] [] tK tK tK
       ⟨⟨rfl,rfl⟩,⟨rfl,rfl⟩,⟨rfl,rfl⟩,⟨rfl,rfl⟩,⟨rfl,rfl⟩,⟨rfl,rfl⟩,⟨rfl,rfl⟩,⟨rfl,rfl⟩,⟨rfl,rfl⟩,⟨rfl,rfl⟩,⟨rfl,rfl⟩,⟨rfl,rfl⟩,⟨rfl,rfl⟩,⟨rfl,rfl⟩,⟨rfl,rfl⟩,⟨rfl,rfl⟩,⟨rfl,rfl⟩,⟨rfl,rfl⟩,⟨rfl,rfl⟩,⟨rfl,rfl⟩,⟨rfl,rfl⟩,⟨rfl,rfl⟩,⟨rfl,rfl⟩,⟨rfl,rfl⟩,⟨rfl,rfl⟩,⟨rfl,rfl⟩,⟨rfl,rfl⟩,trivial⟩ (by rfl) (by rfl) (zae _ _).drew trivial
       ⟨fun _ _ h t=>h.trans (t.mono h.size),trivial⟩ (qBE _ 0)
       trivial (fun vs=> ?_)
      iterate 3
       refine⟨fun W' _ _ hI hD hK=> ?_,?_⟩
       ·skip;go_simp;exact hK.out _ _ rfl rfl
       simp only[zad,zaa,zab,zac,Sg.pick,Nat.reduceAdd]
      refine⟨fun W' _ _ hI hD hK=> ?_,?_⟩
      ·obtain⟨z0,z1,z2⟩:=(G.out.below hI.out.1).cs;go_simp;exact hK.out _ _ rfl rfl
      simp only[zad,zaa,zab,zac,Sg.pick,Nat.reduceAdd];refine⟨fun W' _ _ hI hD hK=> ?_,?_⟩
      ·skip;go_simp;refine(n3.out _ _ (G.out.below hI.out.1).arg).mono ?_;rintro e w' ⟨rfl,b⟩;exact hK.out _ _ b rfl
      simp only[zad,zaa,zab,zac,Sg.pick,Nat.reduceAdd]
      iterate 3
       refine⟨fun W' _ _ hI hD hK=> ?_,?_⟩
       ·skip;go_simp;exact hK.out _ _ rfl rfl
       simp only[zad,zaa,zab,zac,Sg.pick,Nat.reduceAdd]
      iterate 3
       refine⟨trivial,?_⟩;simp only[zad,zaa,zab,zac,Sg.pick,Nat.reduceAdd]
      iterate 2
       refine⟨fun W' _ _ hI hD hK=> ?_,?_⟩
       ·skip;go_simp;exact hK.out _ _ rfl rfl
       simp only[zad,zaa,zab,zac,Sg.pick,Nat.reduceAdd]
      iterate 24
       refine⟨trivial,?_⟩;simp only[zad,zaa,zab,zac,Sg.pick,Nat.reduceAdd]
      iterate 2
       refine⟨fun W' _ _ hI hD hK=> ?_,?_⟩
       ·skip;go_simp;exact hK.out _ _ rfl rfl
       simp only[zad,zaa,zab,zac,Sg.pick,Nat.reduceAdd]
      intro W9 hI9 hD9;have I9:=qA hI9.out.1;clear hI9 hD9;go_wp2;go_ret;exact⟨rfl,BZ.out.trans (I9.out.mono BZ.out.size)⟩
     ·have fI:decide (ia<1)=false:=decide_eq_false ha;by_cases hb:ib<1
      ·have cA:decide (ib<1)=true:=decide_eq_true hb;clear cG ii;refine qm [13,14,15,16,17,18,19,20,21,22,23,24,25,26,27,28,29,30,31,32,33,34,35,36] [.val (.bool true), .val (.bool false), .val (.bool false), .val (.agg #[.int .i64 q1, .int .i64 q2, .slice A1 qs.length c1]), .val (.int .i64 ia), .val (.bool false), .val (.bool false), .val (.bool false), .val (.agg #[.int .i64 p1, .int .i64 p2, .slice A2 ps.length c2]), .val (.int .i64 ib), .val (.bool true), .val (.bool true), .val (.bool true), .val undef, .val undef, .val undef, .val undef, .val undef, .val undef, .val undef, .val undef, .val undef, .val undef, .val undef, .val undef, .val undef, .val undef, .val undef, .val undef, .val undef, .val undef, .val undef, .val undef, .val undef, .val undef, .val undef, .val undef, .val (.bool true), .val (.bool true)]
        [none,none,none,none,some (fun W W'=>Below W.heap.size W W'),none,none,none,none,some (fun W W'=>Below W.heap.size W W'),none,none,none,none,none,none,none,none,none,none,none,none,none,none,none,none,none,none,none,none,none,none,none,none,none,none,none,none,none]
        (fun W=>Below W8.heap.size W8 W) (fun _=>True) [] [] tK tK tK
        ⟨⟨rfl,rfl⟩,⟨rfl,rfl⟩,⟨rfl,rfl⟩,⟨rfl,rfl⟩,⟨rfl,rfl⟩,⟨rfl,rfl⟩,⟨rfl,rfl⟩,⟨rfl,rfl⟩,⟨rfl,rfl⟩,⟨rfl,rfl⟩,⟨rfl,rfl⟩,⟨rfl,rfl⟩,⟨rfl,rfl⟩,⟨rfl,rfl⟩,⟨rfl,rfl⟩,⟨rfl,rfl⟩,⟨rfl,rfl⟩,⟨rfl,rfl⟩,⟨rfl,rfl⟩,⟨rfl,rfl⟩,⟨rfl,rfl⟩,⟨rfl,rfl⟩,⟨rfl,rfl⟩,⟨rfl,rfl⟩,trivial⟩ (by rfl) (by rfl) (zae _ _).drew trivial
        ⟨fun _ _ h t=>h.trans (t.mono h.size),fun _ _ h t=>h.trans (t.mono h.size),trivial⟩ (qBE _ 0)
        trivial (fun vs=> ?_)
       iterate 3
        refine⟨fun W' _ _ hI hD hK=> ?_,?_⟩
        ·skip;go_simp;exact hK.out _ _ rfl rfl
        simp only[zad,zaa,zab,zac,Sg.pick,Nat.reduceAdd]
       refine⟨fun W' _ _ hI hD hK=> ?_,?_⟩
       ·obtain⟨z0,z1,z2⟩:=(G.out.below hI.out.1).cs;go_simp;exact hK.out _ _ rfl rfl
       simp only[zad,zaa,zab,zac,Sg.pick,Nat.reduceAdd];refine⟨fun W' _ _ hI hD hK=> ?_,?_⟩
       ·skip;go_simp;refine(n3.out _ _ (G.out.below hI.out.1).arg).mono ?_;rintro e w' ⟨rfl,b⟩;exact hK.out _ _ b rfl
       simp only[zad,zaa,zab,zac,Sg.pick,Nat.reduceAdd]
       iterate 3
        refine⟨fun W' _ _ hI hD hK=> ?_,?_⟩
        ·skip;go_simp;exact hK.out _ _ rfl rfl
        simp only[zad,zaa,zab,zac,Sg.pick,Nat.reduceAdd]
       refine⟨fun W' _ _ hI hD hK=> ?_,?_⟩
       ·obtain⟨z0,z1,z2⟩:=(K.out.below hI.out.1).cs;go_simp;exact hK.out _ _ rfl rfl
       simp only[zad,zaa,zab,zac,Sg.pick,Nat.reduceAdd];refine⟨fun W' _ _ hI hD hK=> ?_,?_⟩
       ·skip;go_simp;refine(jj.out _ _ (K.out.below hI.out.1).arg).mono ?_;rintro e w' ⟨rfl,b⟩;exact hK.out _ _ b rfl
       simp only[zad,zaa,zab,zac,Sg.pick,Nat.reduceAdd]
       iterate 3
        refine⟨fun W' _ _ hI hD hK=> ?_,?_⟩
        ·skip;go_simp;exact hK.out _ _ rfl rfl
        simp only[zad,zaa,zab,zac,Sg.pick,Nat.reduceAdd]
       iterate 24
        refine⟨trivial,?_⟩;simp only[zad,zaa,zab,zac,Sg.pick,Nat.reduceAdd]
       iterate 2
        refine⟨fun W' _ _ hI hD hK=> ?_,?_⟩
        ·skip;go_simp;exact hK.out _ _ rfl rfl
        simp only[zad,zaa,zab,zac,Sg.pick,Nat.reduceAdd]
       intro W9 hI9 hD9;have I9:=qA hI9.out.1;clear hI9 hD9;go_wp2;go_ret;exact⟨rfl,BZ.out.trans (I9.out.mono BZ.out.size)⟩
      ·have cA:decide (ib<1)=false:=decide_eq_false hb;obtain⟨hx,hy,e1,e2⟩:=cG.out rfl tO tO;have Bc:decide (0<x)=true:=decide_eq_true hx;have lY:decide (0<y)=true:=decide_eq_true hy;have dj:IntKind.i64.wrap (x*ia)=ig:=by rw[←e1];exact wr_in tO
       have fF:IntKind.i64.wrap (y*ib)=ig:=by rw[←e2];exact wr_in tO
       clear cG ii e1 e2;refine qm [] [.val (.bool true), .val (.bool false), .val (.bool false), .val (.agg #[.int .i64 q1, .int .i64 q2, .slice A1 qs.length c1]), .val (.int .i64 ia), .val (.bool false), .val (.bool false), .val (.bool false), .val (.agg #[.int .i64 p1, .int .i64 p2, .slice A2 ps.length c2]), .val (.int .i64 ib), .val (.bool false), .val (.bool false), .val (.bool false), .val (.int .i64 x), .val (.bool true), .val (.bool true), .val (.int .i64 y), .val (.bool true), .val (.bool true), .val (.bool true), .val (.agg #[.int .i64 r1, .int .i64 r2, .slice A3 rs.length c3]), .val (.int .i64 ig), .val (.int .i64 x), .val (.agg #[.int .i64 q1, .int .i64 q2, .slice A1 qs.length c1]), .val (.int .i64 ia), .val (.int .i64 ig), .val (.bool true), .val (.bool true), .val (.bool true), .val (.agg #[.int .i64 r1, .int .i64 r2, .slice A3 rs.length c3]), .val (.int .i64 ig), .val (.int .i64 y), .val (.agg #[.int .i64 p1, .int .i64 p2, .slice A2 ps.length c2]), .val (.int .i64 ib), .val (.int .i64 ig), .val (.bool true), .val (.bool true), .val (.bool true), .val (.bool true)]
        [none,none,none,none,some (fun W W'=>Below W.heap.size W W'),none,none,none,none,some (fun W W'=>Below W.heap.size W W'),none,none,none,none,none,none,none,none,none,none,none,some (fun W W'=>Below W.heap.size W W'),none,none,some (fun W W'=>Below W.heap.size W W'),none,none,none,none,none,some (fun W W'=>Below W.heap.size W W'),none,none,some (fun W W'=>Below W.heap.size W W'),none,none,none,none,none]
        (fun W=>Below W8.heap.size W8 W) (fun _=>True) [] [] tK tK tK
        trivial (by rfl) (by rfl) (zae _ _).drew trivial
        ⟨fun _ _ h t=>h.trans (t.mono h.size),fun _ _ h t=>h.trans (t.mono h.size),fun _ _ h t=>h.trans (t.mono h.size),fun _ _ h t=>h.trans (t.mono h.size),fun _ _ h t=>h.trans (t.mono h.size),fun _ _ h t=>h.trans (t.mono h.size),trivial⟩ (qBE _ 0)
        trivial (fun vs=> ?_)
       iterate 3
        refine⟨fun W' _ _ hI hD hK=> ?_,?_⟩
        ·skip;go_simp;exact hK.out _ _ rfl rfl
        simp only[zad,zaa,zab,zac,Sg.pick,Nat.reduceAdd]
       refine⟨fun W' _ _ hI hD hK=> ?_,?_⟩
       ·obtain⟨z0,z1,z2⟩:=(G.out.below hI.out.1).cs;go_simp;exact hK.out _ _ rfl rfl
       simp only[zad,zaa,zab,zac,Sg.pick,Nat.reduceAdd];refine⟨fun W' _ _ hI hD hK=> ?_,?_⟩
       ·skip;go_simp;refine(n3.out _ _ (G.out.below hI.out.1).arg).mono ?_;rintro e w' ⟨rfl,b⟩;exact hK.out _ _ b rfl
       simp only[zad,zaa,zab,zac,Sg.pick,Nat.reduceAdd]
       iterate 3
        refine⟨fun W' _ _ hI hD hK=> ?_,?_⟩
        ·skip;go_simp;exact hK.out _ _ rfl rfl
        simp only[zad,zaa,zab,zac,Sg.pick,Nat.reduceAdd]
       refine⟨fun W' _ _ hI hD hK=> ?_,?_⟩
       ·obtain⟨z0,z1,z2⟩:=(K.out.below hI.out.1).cs;go_simp;exact hK.out _ _ rfl rfl
       simp only[zad,zaa,zab,zac,Sg.pick,Nat.reduceAdd];refine⟨fun W' _ _ hI hD hK=> ?_,?_⟩
       ·skip;go_simp;refine(jj.out _ _ (K.out.below hI.out.1).arg).mono ?_;rintro e w' ⟨rfl,b⟩;exact hK.out _ _ b rfl
       simp only[zad,zaa,zab,zac,Sg.pick,Nat.reduceAdd]
       iterate 10
        refine⟨fun W' _ _ hI hD hK=> ?_,?_⟩
        ·skip;go_simp;exact hK.out _ _ rfl rfl
        simp only[zad,zaa,zab,zac,Sg.pick,Nat.reduceAdd]
       refine⟨fun W' _ _ hI hD hK=> ?_,?_⟩
       ·obtain⟨z0,z1,z2⟩:=(J.out.below hI.out.1).cs;go_simp;exact hK.out _ _ rfl rfl
       simp only[zad,zaa,zab,zac,Sg.pick,Nat.reduceAdd];refine⟨fun W' _ _ hI hD hK=> ?_,?_⟩
       ·skip;go_simp;refine(H9.out _ _ (J.out.below hI.out.1).arg).mono ?_;rintro e w' ⟨rfl,b⟩;exact hK.out _ _ b rfl
       simp only[zad,zaa,zab,zac,Sg.pick,Nat.reduceAdd];refine⟨fun W' _ _ hI hD hK=> ?_,?_⟩
       ·skip;go_simp;exact hK.out _ _ rfl rfl
       simp only[zad,zaa,zab,zac,Sg.pick,Nat.reduceAdd];refine⟨fun W' _ _ hI hD hK=> ?_,?_⟩
       ·obtain⟨z0,z1,z2⟩:=(G.out.below hI.out.1).cs;go_simp;exact hK.out _ _ rfl rfl
       simp only[zad,zaa,zab,zac,Sg.pick,Nat.reduceAdd];refine⟨fun W' _ _ hI hD hK=> ?_,?_⟩
       ·skip;go_simp;refine(n3.out _ _ (G.out.below hI.out.1).arg).mono ?_;rintro e w' ⟨rfl,b⟩;exact hK.out _ _ b rfl
       simp only[zad,zaa,zab,zac,Sg.pick,Nat.reduceAdd]
       iterate 4
        refine⟨fun W' _ _ hI hD hK=> ?_,?_⟩
        ·skip;go_simp;exact hK.out _ _ rfl rfl
        simp only[zad,zaa,zab,zac,Sg.pick,Nat.reduceAdd]
       refine⟨fun W' _ _ hI hD hK=> ?_,?_⟩
       ·obtain⟨z0,z1,z2⟩:=(J.out.below hI.out.1).cs;go_simp;exact hK.out _ _ rfl rfl
       simp only[zad,zaa,zab,zac,Sg.pick,Nat.reduceAdd];refine⟨fun W' _ _ hI hD hK=> ?_,?_⟩
       ·skip;go_simp;refine(H9.out _ _ (J.out.below hI.out.1).arg).mono ?_;rintro e w' ⟨rfl,b⟩;exact hK.out _ _ b rfl
       simp only[zad,zaa,zab,zac,Sg.pick,Nat.reduceAdd];refine⟨fun W' _ _ hI hD hK=> ?_,?_⟩
       ·skip;go_simp;exact hK.out _ _ rfl rfl
       simp only[zad,zaa,zab,zac,Sg.pick,Nat.reduceAdd];refine⟨fun W' _ _ hI hD hK=> ?_,?_⟩
       ·obtain⟨z0,z1,z2⟩:=(K.out.below hI.out.1).cs;go_simp;exact hK.out _ _ rfl rfl
       simp only[zad,zaa,zab,zac,Sg.pick,Nat.reduceAdd];refine⟨fun W' _ _ hI hD hK=> ?_,?_⟩
       ·skip;go_simp;refine(jj.out _ _ (K.out.below hI.out.1).arg).mono ?_;rintro e w' ⟨rfl,b⟩;exact hK.out _ _ b rfl
       simp only[zad,zaa,zab,zac,Sg.pick,Nat.reduceAdd]
       iterate 5
        refine⟨fun W' _ _ hI hD hK=> ?_,?_⟩
        ·skip;go_simp;exact hK.out _ _ rfl rfl
        simp only[zad,zaa,zab,zac,Sg.pick,Nat.reduceAdd]
       intro W9 hI9 hD9;have I9:=qA hI9.out.1;clear hI9 hD9;go_wp2;go_ret;exact⟨rfl,BZ.out.trans (I9.out.mono BZ.out.size)⟩
set_option maxRecDepth 100000 in
theorem lifted (os:Os) (started:os.Started) (H:Type) (enc:TypeId×Value→H):
  ReturnsInHanded {} Tryz.checked os 3 .any (Rows.fnCommensurableSpec.pre6 enc Tryz.prog Tryz.f3 Rows.fnCommensurableRow.domain false) (Rows.fnCommensurableSpec.post enc Tryz.prog Tryz.f3 false true false false):=by
 refine returnsInHanded_of_change (C:=Tryz.checked) own started tK Tryz.func3
  (ChangeSpec.witness6 (enc:=enc) (C:=Tryz.checked) false ⟨#[],#[.slice none 0 0],[]⟩ 8 tK tK tK tK) ?_
 intro W base args ds gs before hval0 hW hcnd _;have pU: ∀(j:Nat) t v,Tryz.f3.params[j]? =some t→args[j]? =some v→Value.okWide Tryz.prog W .any base t v:=hval0;have LF:=hW;obtain⟨p,q,sk,hV,rfl,sr,eL⟩:=hW;have hA:DataW.TrodAll enc Tryz.prog W 0 (fun _=>true) true Tryz.f3.params.toList args.toList ds p:=sk;rw[Tryz.params3] at hA pU;obtain⟨v0,QE,d0,RL,p0,q0,Hj,rfl,rfl,h0,r0⟩:=trodAll_cons hA;obtain⟨rfl,rfl,rfl⟩:=trodAll_nil r0;obtain rfl:args= #[v0]:=by cases args;simp_all
 obtain⟨rfl,rfl⟩:=trodVars_none hV;have k0:=h0;have Lg: ∀x∈p0,x.block<W.heap.size:=by obtain⟨m,hm⟩:=k0;exact DataW.trod_lt m _ _ _ hm
 obtain⟨x0,a0⟩:=qMJ (pU 0 22 v0 rfl rfl) h0;clear sk hval0;refine(walk v0 x0 W a0).mono fun e W' ⟨he,bel⟩=> ?_
 subst he;exact⟨_,rfl,_,_,_,[],_,[],LF,trodAll_mk1 (shut_bool Tryz.underlying4 _),(trodAll_cons_mk (Below.trod qOk tK (of_decide_eq_true tK) k0 bel Lg) trodAll_mk0),rfl,bel.frame _,fun h=>by cases h⟩
theorem proved:Rows.FnCommensurableSaid:=
 OpenClaim.holds_of_wide 3 Tryz.f3 rfl rfl rfl rfl rfl rfl rfl ⟨rfl,rfl,rfl,rfl,rfl⟩ rfl rfl rfl rfl rfl (by as_aux_lemma=>kernel_rfl) Tryz.func3 closed
  (of_decide_eq_true (by as_aux_lemma=>kernel_rfl)) (by unfold Func.isWrapper;first | (rw[if_pos (by decide+kernel)];kernel_rfl) | (rw[if_neg (by decide+kernel)];exact⟨rfl,rfl⟩))
  (fun os started H enc _=>lifted os started H enc)
#print axioms proved
end Go.Proofs.YtnjpoljbagfdnaaGreat.fnCommensurable
