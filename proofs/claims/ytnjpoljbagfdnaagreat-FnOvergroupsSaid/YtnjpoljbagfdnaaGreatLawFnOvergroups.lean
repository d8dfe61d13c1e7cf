/- The law FnOvergroups. -/
import Derived.Test.YtnjpoljbagfdnaaGreatV08
import Derived.Test.YtnjpoljbagfdnaaGreatV09
import Derived.Test.YtnjpoljbagfdnaaGreatRows
import Derived.Test.YtnjpoljbagfdnaaGreatCloFnOvergroups
import Derived.Lib.SmallJoins
import Derived.Deep.DeepCutAuto
import Derived.Deep.CutBlock
namespace Go.Proofs.YtnjpoljbagfdnaaGreat.fnOvergroups
set_option maxRecDepth 20000
set_option linter.unusedVariables false
set_option linter.unusedSimpArgs false
open Go.ChangeShapes Go.WideShapes Go.ChangeAt Go.RowKit
open Go.ChangeMaps (open_string shut_string)
theorem word_of {r:Int} {x:List Int} (hr1:1≤r) (hr3:r≤3) (hl:x.length≤3) (hlr:letR r x) (hred:redP x):wordB r x=true:=
 wordB_true (inB_iff.2 ⟨hr1,hr3⟩) (by omega) fun i hi=>okAt_red hred (fun y hy=>by
   obtain⟨y0,y1,y2⟩:=hlr y hy
   unfold letB
   rw[show wrap64 (-r)= -r from IntWalk.wrap64_in _ ⟨by omega,by omega⟩,inB_iff.2 ⟨by omega,y2⟩]
   simpa using y0) i hi
def tupAt (v:Value) (i:Nat):Value:=match v with
 | .tuple a=>a.toList.getD i undef
 | _=>undef
def BoxG (W:World) (p:Nat):Prop:=(∃x y z,CBx W p x y z)∧ ∃cs,W.heap[p]? =some (.cells cs 26 (0,0))
theorem box_new (w:World) (o:Obj):(w.alloc o).heap[w.heap.size]? =some o:=by
 show(w.heap.push o)[w.heap.size]? =some o
 simp
theorem BoxG.below {W W':World} {p:Nat} (h:BoxG W p) (hb:Below W.heap.size W W'):BoxG W' p:=by
 obtain⟨⟨x,y,z,hx⟩,cs,hc⟩:=h
 exact⟨⟨x,y,z,hx.below hb⟩,cs,(hb.block p hx.lt).trans hc⟩
theorem BoxG.set3 {W:World} {p q:Nat} (h:BoxG W p) (a b c:Value):BoxG (((W.setCell ⟨q,0,none⟩ a).setCell ⟨q,1,none⟩ b).setCell ⟨q,2,none⟩ c) p:=by
 obtain⟨⟨x,y,z,hx⟩,cs,hc⟩:=h
 by_cases e:p=q
 ·subst e
  exact⟨⟨_,_,_,hx.setv a b c⟩,_,Go.Joins.block_setCell (Go.Joins.block_setCell (Go.Joins.block_setCell hc a) b) c⟩
 ·exact⟨⟨_,_,_,hx.other e⟩,cs,(set3_heap W q a b c e).trans hc⟩
theorem BoxG.ne {W:World} {p base:Nat} {A:Option Addr} {c:Nat} {es:List EdD} (h:BoxG W p) (o:OwE W base (.slice A es.length c) es): ∀b,(Value.slice A es.length c).ownBlock=some b→b≠p:=fun b hb e=>by
 subst e
 obtain⟨_,cs,hc⟩:=h
 rcases o.1.2 with ⟨h0,_⟩ | ⟨g,cap,cur,hv,_,hh,_⟩
 ·rw[h0] at hb
  cases hb
 ·rw[hv] at hb
  simp only[Value.ownBlock,Option.some.injEq] at hb
  subst hb
  rw[hh] at hc
  injection hc with hc
  injection hc with _ ht _
  exact absurd ht (by decide)
theorem BoxG.neI {W:World} {p base:Nat} {v:Value} {xs:List Int} (h:BoxG W p) (o:OwI W base v xs): ∀b,v.ownBlock=some b→b≠p:=fun b hb e=>by
 subst e
 obtain⟨_,cs,hc⟩:=h
 rcases o.1.2 with ⟨h0,_⟩ | ⟨g,cap,cur,hv,_,hh,_⟩
 ·rw[h0] at hb
  cases hb
 ·rw[hv] at hb
  simp only[Value.ownBlock,Option.some.injEq] at hb
  subst hb
  rw[hh] at hc
  injection hc with hc
  injection hc with _ ht _
  exact absurd ht (by decide)
theorem bb_at {lo hi:Nat} {w:World} {A:Option Addr} {m cap:Nat} {L:List (List Bool)} (h:OwBB lo hi (.slice A m cap) L w) {i:Nat} (hi':i<L.length):
  ∃g A2 c2,A=some ⟨g,0,none⟩∧g<w.heap.size∧w.cell? ⟨g,i,none⟩=some (.slice A2 L[i].length c2)∧OwB w 0 (.slice A2 L[i].length c2) L[i]:=by
 obtain⟨g,cs,Fe,hA,_,_,hE,_,_,_,hc,_,hg,_⟩:=h.focus EB.stable hi'
 obtain⟨s,rfl,ho,_⟩:=hE
 have c0:=hc 0 (by simp)
 simp only[List.getElem_cons_zero,Nat.add_zero,Nat.mul_one] at c0
 obtain⟨A2,c2,rfl,_⟩:=OwB.form ho
 exact⟨g,A2,c2,hA,hg,c0,ho⟩
theorem b_at {w:World} {A:Option Addr} {c:Nat} {bs:List Bool} (h:OwB w 0 (.slice A bs.length c) bs) {k:Nat} (hk:k<bs.length):
  ∃g,A=some ⟨g,0,none⟩∧g<w.heap.size∧w.cell? ⟨g,k,none⟩=some (.bool bs[k]):=by
 obtain⟨A',c',hv,_,_,_,hg⟩:=OwB.form h
 obtain⟨g,hA,_,hlt⟩:=hg (by omega)
 injection hv with e1 e2 e3
 subst e1
 subst hA
 exact⟨g,rfl,hlt,h.cellAt k hk⟩
theorem OwBB.bel {lo hi:Nat} {w w':World} {v:Value} {L:List (List Bool)} (h:OwBB lo hi v L w) (hh:hi≤w.heap.size) (hb:Below w.heap.size w w'):OwBB lo hi v L w':=
 OwnL.keep h EB.stable fun b _ hb'=>hb.block b (by omega)
def BBr (w:World) (v:Value) (L:List (List Bool)):Prop:= ∃lo hi,OwBB lo hi v L w∧hi≤w.heap.size
theorem BBr.below {w w':World} {v:Value} {L:List (List Bool)} (h:BBr w v L) (hb:Below w.heap.size w w'):BBr w' v L:=by
 obtain⟨lo,hi,h,hh⟩:=h
 exact⟨lo,hi,OwBB.bel h hh hb,Nat.le_trans hh hb.size⟩
theorem BBr.at {w:World} {A:Option Addr} {m cap:Nat} {L:List (List Bool)} (h:BBr w (.slice A m cap) L) {i:Nat} (hi':i<L.length):
  ∃g A2 c2,A=some ⟨g,0,none⟩∧g<w.heap.size∧w.cell? ⟨g,i,none⟩=some (.slice A2 L[i].length c2)∧OwB w 0 (.slice A2 L[i].length c2) L[i]:=by
 obtain⟨lo,hi,h,hh⟩:=h
 exact bb_at h hi'
theorem BBr.form {w:World} {v:Value} {L:List (List Bool)} (h:BBr w v L): ∃A c,v= .slice A L.length c∧L.length≤c∧c≤maxLen:=by
 obtain⟨lo,hi,h,hh⟩:=h
 obtain⟨A,c,e,q1,q2,_⟩:=OwnL.len h
 exact⟨A,c,e,q1,q2⟩
theorem tup2 {a b c d:Value} (h:Value.tuple #[a,b]= .tuple #[c,d]):a=c∧b=d:=by
 injection h with h
 have e0:=congrArg (fun a:Array Value=>a[0]?) h
 have e1:=congrArg (fun a:Array Value=>a[1]?) h
 simp only[List.getElem?_toArray,List.getElem?_cons_zero,List.getElem?_cons_succ,Option.some.injEq] at e0 e1
 exact⟨e0,e1⟩
theorem any_succ {α:Type} (p:α→Bool) (L:List α) (i:Nat) (h:i<L.length):(L.take (i+1)).any p=((L.take i).any p||p L[i]):=by
 rw[List.take_succ_eq_append_getElem h,List.any_append]
 simp
def fndB (L:List GrD) (g d:GrD) (i:Nat):Bool:=(L.take i).any fun q=> !decide (q=g)&&inclS q d
theorem fnd_zero (L:List GrD) (g d:GrD):fndB L g d 0=false:=by simp[fndB]
theorem fnd_succ {L:List GrD} {g d:GrD} {i:Nat} (h:i<L.length):fndB L g d (i+1)=(fndB L g d i||(!decide (L[i]=g)&&inclS L[i] d)):=any_succ _ L i h
theorem fnd_none {L:List GrD} {g d:GrD} {n:Nat} (hn:n=L.length) (h:fndB L g d n=false): ∀q∈L,¬(q≠g∧inclS q d=true):=by
 unfold fndB at h
 rw[hn,List.take_length,List.any_eq_false] at h
 intro q hq ⟨h1,h2⟩
 have:=h q hq
 simp[h1,h2] at this
set_option maxRecDepth 100000 in
set_option maxHeartbeats 16000000 in
theorem walk (v0:Value) (x0:List Int) (w:World) (h0:ArgC w v0 x0):
  Calls Tryz.prog 5 #[v0] w fun e w'=>e= .returned (.bool true)∧Below w.heap.size w w':=by
 have HBIG:=hDD (big_any v0 x0 w h0)
 have V:=hDD h0
 obtain⟨A0,c0,rfl,_⟩:=h0
 by_cases hl:(1048576:Int)<x0.length
 ·have hd:decide ((1048576:Int)<x0.length)=true:=decide_eq_true hl
  rw[hd] at HBIG
  clear hd hl
  go_enter Tryz.func5,Tryz.ntmps5
  go_wp2_with fail
  refine HBIG.out.mono ?_
  rintro e w1 ⟨rfl,rfl⟩
  go_wp2
  go_ret
  exact⟨rfl,Below.refl _ _⟩
 have hd:decide ((1048576:Int)<x0.length)=false:=decide_eq_false hl
 rw[hd] at HBIG
 have hl':x0.length≤1048576:=by omega
 clear hd hl
 go_enter Tryz.func5,Tryz.ntmps5
 go_wp2_with fail
 refine HBIG.out.mono ?_
 rintro e w1 ⟨rfl,rfl⟩
 go_wp2_with fail
 refine(drawOvg_any _ x0 _ V.out hl').mono ?_
 rintro e w1 ⟨gv,⟨q1,q2,qs⟩,rfl,⟨s1,rfl,j1,j2,oe1⟩,hql,b1⟩
 obtain⟨A1,c1,rfl,_⟩:=oe1.form
 simp only at j1 j2 oe1 hql⊢
 have BZ:=hDD b1
 replace V:=hDD (V.out.below b1)
 have OE1:=hDD oe1
 clear oe1 b1 hql
 obtain⟨W2,hW2⟩: ∃W,W=w1.alloc (Obj.cells #[Value.int IntKind.i64 q1,Value.int IntKind.i64 q2, .slice A1 qs.length c1] 26):=⟨_,rfl⟩
 have g2:=GBx.new (m:=(q1,q2,qs)) OE1.out j1 j2 hW2
 obtain⟨-,b2,s2⟩:=CBx.new hW2
 have G:=hDD g2
 replace V:=hDD (V.out.below b2)
 replace BZ:=hDD (BZ.out.trans (b2.mono BZ.out.size))
 have HO1:=hDD (fun W (h:ArgG W (.agg #[.int .i64 q1, .int .i64 q2, .slice A1 qs.length c1]) (q1,q2,qs))=>implOvergroupsOf_any _ (q1,q2,qs) W h)
 have HO2:=hDD (fun W (h:ArgG W (.agg #[.int .i64 q1, .int .i64 q2, .slice A1 qs.length c1]) (q1,q2,qs))=>specOvergroupsOf_any _ (q1,q2,qs) W h)
 have HQ1:=hDD (fun W (h:ArgG W (.agg #[.int .i64 q1, .int .i64 q2, .slice A1 qs.length c1]) (q1,q2,qs))=>implQuotientsOf_any _ (q1,q2,qs) W h)
 have HQ2:=hDD (fun W (h:ArgG W (.agg #[.int .i64 q1, .int .i64 q2, .slice A1 qs.length c1]) (q1,q2,qs))=>specQuotientsOf_any _ (q1,q2,qs) W h)
 have HRQ:=hDD (fun W (h:ArgG W (.agg #[.int .i64 q1, .int .i64 q2, .slice A1 qs.length c1]) (q1,q2,qs))=>specRankOf_any _ (q1,q2,qs) W h)
 have HUP:=hDD (fun q h=>over_up (g:=(q1,q2,qs)) q h)
 have HCB:=hDD (fun h=>(over_all (g:=(q1,q2,qs)) h).1)
 have HFD:=hDD (fun h d h1 h2 h3=>over_found (g:=(q1,q2,qs)) (h:=d) h h1 h2 h3)
 generalize quotF (q1,q2,qs)=Q at*
 generalize (overF (q1,q2,qs)).1=L at*
 generalize (overF (q1,q2,qs)).2=is at*
 generalize rankF (q1,q2,qs)=rq at*
 go_wp2_with fail
 rw[←hW2]
 clear hW2 g2 b2 OE1
 generalize w1.heap.size=gb at*
 refine(HO1.out _ G.out.arg).mono ?_
 rintro e w3 ⟨r3,rfl,o3,b⟩
 have M:=o3.arg
 obtain⟨A2,c2,rfl⟩:=M.form
 replace M:=hDD M
 clear HO1 o3
 replace V:=hDD (V.out.below b)
 replace G:=hDD (G.out.below b)
 replace BZ:=hDD (BZ.out.trans (b.mono BZ.out.size))
 clear b
 have u0:=G.out.c0
 have u1:=G.out.c1
 have u2:=G.out.c2
 simp only at u0 u1 u2
 go_wp2_with fail
 refine(HO2.out _ G.out.arg).mono ?_
 rintro e w4 ⟨r4,rfl,o4,b⟩
 have K:=o4.arg
 obtain⟨A3,c3,rfl⟩:=K.form
 replace K:=hDD K
 clear HO2 o4 u0 u1 u2
 replace V:=hDD (V.out.below b)
 replace G:=hDD (G.out.below b)
 replace M:=hDD (M.out.below b)
 replace BZ:=hDD (BZ.out.trans (b.mono BZ.out.size))
 clear b
 go_upto_region 6 with fail
 go_cut [49] (fun s wx=>s= .bool false∧Below w4.heap.size w4 wx)
 case first=>as_aux_lemma=>
  clear HUP HCB HFD HRQ
  refine wp_region_genG2 [] [.val (.bool is), .val (.bool is), .val (.bool false), .val (.bool false), .val (.slice A2 L.length c2), .val (.slice A3 L.length c3), .val (.bool true), .val (.bool false), .val (.bool false), .val (.bool false), .val (.agg #[.int .i64 q1, .int .i64 q2, .slice A1 qs.length c1]), .mem (fun _ W v=> ∃A c,v= .slice A Q.length c∧ArgGS W v Q), .val (.agg #[.int .i64 q1, .int .i64 q2, .slice A1 qs.length c1]), .mem (fun _ W v=> ∃A c,v= .slice A Q.length c∧ArgGS W v Q), .val (.bool true), .val (.bool false), .val (.bool false)]
   [none,none,none,none,none,none,some (fun W W'=>Below W.heap.size W W'),none,none,none,none,some (fun W W'=>Below W.heap.size W W'),none,some (fun W W'=>Below W.heap.size W W'),some (fun W W'=>Below W.heap.size W W'),none,none]
   (fun W=>Below w4.heap.size w4 W) (fun _=>True) [] [(11,13),(11,14),(13,14)] (by kernel_rfl) (by kernel_rfl) (by kernel_rfl)
   trivial (by rfl) (by rfl) (Below.refl _ _).drew trivial
   ⟨fun _ _ h t=>h.trans (t.mono h.size),fun _ _ h t=>h.trans (t.mono h.size),fun _ _ h t=>h.trans (t.mono h.size),fun _ _ h t=>h.trans (t.mono h.size),trivial⟩ (itD_nil _ 0)
   ⟨fun _ _ _ _ _ _ t h=>by obtain⟨A,c,e,h⟩:=h;exact⟨A,c,e,h.below t⟩,fun _ _ _ _ _ _ t h=>by obtain⟨A,c,e,h⟩:=h;exact⟨A,c,e,h.below t⟩,fun _ _ _ _ _ _ t h=>by obtain⟨A,c,e,h⟩:=h;exact⟨A,c,e,h.below t⟩,trivial⟩ (fun vs=> ?_)
  refine⟨fun W' K' Q0 hI hD hK=> ?_,?_⟩
  ·skip
   go_simp
   exact hK.out _ _ rfl rfl
  simp only[Act.put,List.setIfInBounds_toArray,List.set_cons_zero,List.set_cons_succ,Sg.pick,Nat.reduceAdd]
  refine⟨fun W' K' Q0 hI hD hK=> ?_,?_⟩
  ·skip
   go_simp
   exact hK.out _ _ rfl rfl
  simp only[Act.put,List.setIfInBounds_toArray,List.set_cons_zero,List.set_cons_succ,Sg.pick,Nat.reduceAdd]
  refine⟨fun W' K' Q0 hI hD hK=> ?_,?_⟩
  ·skip
   go_simp
   exact hK.out _ _ rfl rfl
  simp only[Act.put,List.setIfInBounds_toArray,List.set_cons_zero,List.set_cons_succ,Sg.pick,Nat.reduceAdd]
  refine⟨fun W' K' Q0 hI hD hK=> ?_,?_⟩
  ·skip
   go_simp
   exact hK.out _ _ rfl rfl
  simp only[Act.put,List.setIfInBounds_toArray,List.set_cons_zero,List.set_cons_succ,Sg.pick,Nat.reduceAdd]
  refine⟨fun W' K' Q0 hI hD hK=> ?_,?_⟩
  ·skip
   go_simp
   exact hK.out _ _ rfl rfl
  simp only[Act.put,List.setIfInBounds_toArray,List.set_cons_zero,List.set_cons_succ,Sg.pick,Nat.reduceAdd]
  refine⟨fun W' K' Q0 hI hD hK=> ?_,?_⟩
  ·skip
   go_simp
   exact hK.out _ _ rfl rfl
  simp only[Act.put,List.setIfInBounds_toArray,List.set_cons_zero,List.set_cons_succ,Sg.pick,Nat.reduceAdd]
  refine⟨fun W' K' Q0 hI hD hK=> ?_,?_⟩
  ·skip
   go_simp
   refine(sameGraphs_any _ _ L _ (M.out.below hI.out.1) (K.out.below hI.out.1)).mono ?_;rintro e w' ⟨rfl,b⟩;exact hK.out _ _ b rfl
  simp only[Act.put,List.setIfInBounds_toArray,List.set_cons_zero,List.set_cons_succ,Sg.pick,Nat.reduceAdd]
  refine⟨fun W' K' Q0 hI hD hK=> ?_,?_⟩
  ·skip
   go_simp
   exact hK.out _ _ rfl rfl
  simp only[Act.put,List.setIfInBounds_toArray,List.set_cons_zero,List.set_cons_succ,Sg.pick,Nat.reduceAdd]
  refine⟨fun W' K' Q0 hI hD hK=> ?_,?_⟩
  ·skip
   go_simp
   exact hK.out _ _ rfl rfl
  simp only[Act.put,List.setIfInBounds_toArray,List.set_cons_zero,List.set_cons_succ,Sg.pick,Nat.reduceAdd]
  refine⟨fun W' K' Q0 hI hD hK=> ?_,?_⟩
  ·skip
   go_simp
   exact hK.out _ _ rfl rfl
  simp only[Act.put,List.setIfInBounds_toArray,List.set_cons_zero,List.set_cons_succ,Sg.pick,Nat.reduceAdd]
  refine⟨fun W' K' Q0 hI hD hK=> ?_,?_⟩
  ·have z0:=(G.out.below hI.out.1).c0
   have z1:=(G.out.below hI.out.1).c1
   have z2:=(G.out.below hI.out.1).c2
   go_simp
   exact hK.out _ _ rfl rfl
  simp only[Act.put,List.setIfInBounds_toArray,List.set_cons_zero,List.set_cons_succ,Sg.pick,Nat.reduceAdd]
  refine⟨fun W' K' Q0 hI hD hK=> ?_,?_⟩
  ·skip
   go_simp
   refine(HQ1.out _ (G.out.below hI.out.1).arg).mono ?_;rintro e w' ⟨o,rfl,oo,b⟩;have oa:=oo.arg;obtain⟨A,c,rfl⟩:=oa.form;exact hK.out _ _ b ⟨A,c,rfl,oa⟩
  simp only[Act.put,List.setIfInBounds_toArray,List.set_cons_zero,List.set_cons_succ,Sg.pick,Nat.reduceAdd]
  refine⟨fun W' K' Q0 hI hD hK=> ?_,?_⟩
  ·have z0:=(G.out.below hI.out.1).c0
   have z1:=(G.out.below hI.out.1).c1
   have z2:=(G.out.below hI.out.1).c2
   go_simp
   exact hK.out _ _ rfl rfl
  simp only[Act.put,List.setIfInBounds_toArray,List.set_cons_zero,List.set_cons_succ,Sg.pick,Nat.reduceAdd]
  refine⟨fun W' K' Q0 hI hD hK=> ?_,?_⟩
  ·skip
   go_simp
   refine(HQ2.out _ (G.out.below hI.out.1).arg).mono ?_;rintro e w' ⟨o,rfl,oo,b⟩;have oa:=oo.arg;obtain⟨A,c,rfl⟩:=oa.form;exact hK.out _ _ b ⟨A,c,rfl,oa⟩
  simp only[Act.put,List.setIfInBounds_toArray,List.set_cons_zero,List.set_cons_succ,Sg.pick,Nat.reduceAdd]
  refine⟨fun W' K' Q0 hI hD hK=> ?_,?_⟩
  ·obtain⟨Ax,cx,ex,lx⟩:=(show ∃A c,vs 11= .slice A Q.length c∧ArgGS W' (vs 11) Q from hD.out 11 (by kernel_rfl))
   rw[ex] at lx
   obtain⟨Ay,cy,ey,ly⟩:=(show ∃A c,vs 13= .slice A Q.length c∧ArgGS W' (vs 13) Q from hD.out 13 (by kernel_rfl))
   rw[ey] at ly
   rw[ex,ey] at hK⊢
   go_simp
   refine(sameGraphs_any _ _ Q _ lx ly).mono ?_;rintro e w' ⟨rfl,b⟩;exact hK.out _ _ b rfl
  simp only[Act.put,List.setIfInBounds_toArray,List.set_cons_zero,List.set_cons_succ,Sg.pick,Nat.reduceAdd]
  refine⟨fun W' K' Q0 hI hD hK=> ?_,?_⟩
  ·skip
   go_simp
   exact hK.out _ _ rfl rfl
  simp only[Act.put,List.setIfInBounds_toArray,List.set_cons_zero,List.set_cons_succ,Sg.pick,Nat.reduceAdd]
  refine⟨fun W' K' Q0 hI hD hK=> ?_,?_⟩
  ·skip
   go_simp
   exact hK.out _ _ rfl rfl
  simp only[Act.put,List.setIfInBounds_toArray,List.set_cons_zero,List.set_cons_succ,Sg.pick,Nat.reduceAdd]
  intro W9 hI9 hD9
  have I9:=hDD hI9.out.1
  clear hI9 hD9
  go_wp2_with fail
  go_meet
  exact⟨rfl,I9.out⟩
 case rest=>as_aux_lemma=>
  obtain⟨rfl,b⟩:=hcut
  replace V:=hDD (V.out.below b)
  replace G:=hDD (G.out.below b)
  replace K:=hDD (K.out.below b)
  replace BZ:=hDD (BZ.out.trans (b.mono BZ.out.size))
  clear b HQ1 HQ2 M
  rename World=>wa
  go_upto_block 0 with fail
  go_cut [8] (fun _ wx=>Below wa.heap.size wa wx)
  case first=>as_aux_lemma=>
   clear HCB HFD HRQ
   go_wp2_with fail
   go_loopw [8] (fun iv wr=> ∃i:Nat,i≤L.length∧iv= .int .i64 i∧Below wa.heap.size wa wr) (fun iv _=>L.length-(intOf iv).toNat)
   case atStart=>exact⟨0,Nat.zero_le _,rfl,Below.refl _ _⟩
   case round=>
    obtain⟨i,hi,rfl,hB⟩:=hrel
    have hsb:=hB.size
    have BL:=hDD hB
    replace V:=hDD (V.out.below hB)
    replace G:=hDD (G.out.below hB)
    replace K:=hDD (K.out.below hB)
    clear hB
    by_cases hgo:i<L.length∧i<12
    ·obtain⟨hlt,h12⟩:=hgo
     have hltI:(i:Int)<(L.length:Int):=by omega
     have h12I:(i:Int)<12:=by omega
     have hwk:IntKind.i64.wrap ((i:Int)+1)=((i+1:Nat):Int):=by rw[IntKind.wrap_i64];omega
     obtain⟨lb,off,sd,rfl,hlb,y0,y1,y2,ha⟩:=K.out.at hlt
     have hin:=List.getElem_mem hlt
     have DA:=hDD ha
     obtain⟨d,hd⟩: ∃d,L[i]=d:=⟨_,rfl⟩
     rw[hd] at y0 y1 DA hin
     have HUQ:=hDD (HUP.out d hin)
     have HIN:Hid (inG L d=true):=hDD (inG_true i hlt hd)
     obtain⟨d1,d2,ds⟩:=d
     simp only at y0 y1
     clear hd hin ha
     go_wp2_with fail
     refine wp_region_genG2 [] [.val (.agg #[.int .i64 q1, .int .i64 q2, .slice A1 qs.length c1]), .val (.slice (some ⟨lb,off,none⟩) L.length c3), .val (.int .i64 i), .val (.pointer (some ⟨lb,off+i*3,none⟩)), .val (.agg #[.int .i64 d1, .int .i64 d2,sd]), .val (.bool true), .val (.bool false), .val (.bool false), .val (.slice (some ⟨lb,off,none⟩) L.length c3), .val (.slice (some ⟨lb,off,none⟩) L.length c3), .val (.int .i64 i), .val (.pointer (some ⟨lb,off+i*3,none⟩)), .val (.agg #[.int .i64 d1, .int .i64 d2,sd]), .val (.bool true), .val (.bool false), .val (.bool false)]
      [none,none,none,none,none,some (fun W W'=>Below W.heap.size W W'),none,none,none,none,none,none,none,some (fun W W'=>Below W.heap.size W W'),none,none]
      (fun W=>Below wr.heap.size wr W) (fun _=>True) [] [] (by kernel_rfl) (by kernel_rfl) (by kernel_rfl)
      trivial (by rfl) (by rfl) (Below.refl _ _).drew trivial
      ⟨fun _ _ h t=>h.trans (t.mono h.size),fun _ _ h t=>h.trans (t.mono h.size),trivial⟩ (itD_nil _ 0)
      trivial (fun vs=> ?_)
     refine⟨fun W' K' Q0 hI hD hK=> ?_,?_⟩
     ·have z0:=(G.out.below hI.out.1).c0
      have z1:=(G.out.below hI.out.1).c1
      have z2:=(G.out.below hI.out.1).c2
      go_simp
      exact hK.out _ _ rfl rfl
     simp only[Act.put,List.setIfInBounds_toArray,List.set_cons_zero,List.set_cons_succ,Sg.pick,Nat.reduceAdd]
     refine⟨fun W' K' Q0 hI hD hK=> ?_,?_⟩
     ·skip
      go_simp
      exact hK.out _ _ rfl rfl
     simp only[Act.put,List.setIfInBounds_toArray,List.set_cons_zero,List.set_cons_succ,Sg.pick,Nat.reduceAdd]
     refine⟨fun W' K' Q0 hI hD hK=> ?_,?_⟩
     ·skip
      go_simp
      exact hK.out _ _ rfl rfl
     simp only[Act.put,List.setIfInBounds_toArray,List.set_cons_zero,List.set_cons_succ,Sg.pick,Nat.reduceAdd]
     refine⟨fun W' K' Q0 hI hD hK=> ?_,?_⟩
     ·skip
      go_simp
      exact hK.out _ _ rfl rfl
     simp only[Act.put,List.setIfInBounds_toArray,List.set_cons_zero,List.set_cons_succ,Sg.pick,Nat.reduceAdd]
     refine⟨fun W' K' Q0 hI hD hK=> ?_,?_⟩
     ·have z0:=(hI.out.1.cell (p:=⟨lb,off+i*3,none⟩) hlb).trans y0
      have z1:=(hI.out.1.cell (p:=⟨lb,off+i*3+1,none⟩) hlb).trans y1
      have z2:=(hI.out.1.cell (p:=⟨lb,off+i*3+2,none⟩) hlb).trans y2
      go_simp
      exact hK.out _ _ rfl rfl
     simp only[Act.put,List.setIfInBounds_toArray,List.set_cons_zero,List.set_cons_succ,Sg.pick,Nat.reduceAdd]
     refine⟨fun W' K' Q0 hI hD hK=> ?_,?_⟩
     ·skip
      go_simp
      refine(implIsInside_any _ _ _ (d1,d2,ds) _ (G.out.below hI.out.1).arg (DA.out.below hI.out.1)).mono ?_;rintro e w' ⟨rfl,b⟩;rw[HUQ.out];exact hK.out _ _ b rfl
     simp only[Act.put,List.setIfInBounds_toArray,List.set_cons_zero,List.set_cons_succ,Sg.pick,Nat.reduceAdd]
     refine⟨fun W' K' Q0 hI hD hK=> ?_,?_⟩
     ·skip
      go_simp
      exact hK.out _ _ rfl rfl
     simp only[Act.put,List.setIfInBounds_toArray,List.set_cons_zero,List.set_cons_succ,Sg.pick,Nat.reduceAdd]
     refine⟨fun W' K' Q0 hI hD hK=> ?_,?_⟩
     ·skip
      go_simp
      exact hK.out _ _ rfl rfl
     simp only[Act.put,List.setIfInBounds_toArray,List.set_cons_zero,List.set_cons_succ,Sg.pick,Nat.reduceAdd]
     refine⟨fun W' K' Q0 hI hD hK=> ?_,?_⟩
     ·skip
      go_simp
      exact hK.out _ _ rfl rfl
     simp only[Act.put,List.setIfInBounds_toArray,List.set_cons_zero,List.set_cons_succ,Sg.pick,Nat.reduceAdd]
     refine⟨fun W' K' Q0 hI hD hK=> ?_,?_⟩
     ·skip
      go_simp
      exact hK.out _ _ rfl rfl
     simp only[Act.put,List.setIfInBounds_toArray,List.set_cons_zero,List.set_cons_succ,Sg.pick,Nat.reduceAdd]
     refine⟨fun W' K' Q0 hI hD hK=> ?_,?_⟩
     ·skip
      go_simp
      exact hK.out _ _ rfl rfl
     simp only[Act.put,List.setIfInBounds_toArray,List.set_cons_zero,List.set_cons_succ,Sg.pick,Nat.reduceAdd]
     refine⟨fun W' K' Q0 hI hD hK=> ?_,?_⟩
     ·skip
      go_simp
      exact hK.out _ _ rfl rfl
     simp only[Act.put,List.setIfInBounds_toArray,List.set_cons_zero,List.set_cons_succ,Sg.pick,Nat.reduceAdd]
     refine⟨fun W' K' Q0 hI hD hK=> ?_,?_⟩
     ·have z0:=(hI.out.1.cell (p:=⟨lb,off+i*3,none⟩) hlb).trans y0
      have z1:=(hI.out.1.cell (p:=⟨lb,off+i*3+1,none⟩) hlb).trans y1
      have z2:=(hI.out.1.cell (p:=⟨lb,off+i*3+2,none⟩) hlb).trans y2
      go_simp
      exact hK.out _ _ rfl rfl
     simp only[Act.put,List.setIfInBounds_toArray,List.set_cons_zero,List.set_cons_succ,Sg.pick,Nat.reduceAdd]
     refine⟨fun W' K' Q0 hI hD hK=> ?_,?_⟩
     ·skip
      go_simp
      refine(implIsListed_any _ _ L (d1,d2,ds) _ (K.out.below hI.out.1) (DA.out.below hI.out.1)).mono ?_;rintro e w' ⟨rfl,b⟩;rw[HIN.out];exact hK.out _ _ b rfl
     simp only[Act.put,List.setIfInBounds_toArray,List.set_cons_zero,List.set_cons_succ,Sg.pick,Nat.reduceAdd]
     refine⟨fun W' K' Q0 hI hD hK=> ?_,?_⟩
     ·skip
      go_simp
      exact hK.out _ _ rfl rfl
     simp only[Act.put,List.setIfInBounds_toArray,List.set_cons_zero,List.set_cons_succ,Sg.pick,Nat.reduceAdd]
     refine⟨fun W' K' Q0 hI hD hK=> ?_,?_⟩
     ·skip
      go_simp
      exact hK.out _ _ rfl rfl
     simp only[Act.put,List.setIfInBounds_toArray,List.set_cons_zero,List.set_cons_succ,Sg.pick,Nat.reduceAdd]
     intro W9 hI9 hD9
     have I9:=hDD hI9.out.1
     clear hI9 hD9
     replace BL:=hDD (BL.out.trans (I9.out.mono hsb))
     go_wp2
     go_roundw
     case rel=>exact⟨i+1,by omega,by go_num,BL.out⟩
     case measure=>(simp[intOf];omega)
    ·by_cases h1:(i:Int)<(L.length:Int)
     ·have h2: ¬(i:Int)<12:=fun h=>hgo ⟨by omega,by omega⟩
      go_wp2_with fail
      go_meet
      exact BL.out
     ·go_wp2_with fail
      go_meet
      exact BL.out
  case rest=>as_aux_lemma=>
   have b:=hcut
   clear hcut
   replace V:=hDD (V.out.below b)
   replace G:=hDD (G.out.below b)
   replace K:=hDD (K.out.below b)
   replace BZ:=hDD (BZ.out.trans (b.mono BZ.out.size))
   clear b HUP
   rename World=>wq
   go_upto_if 76 with fail
   go_cut [9,10,11,12] (fun _ _ _ _ wx=>Below wq.heap.size wq wx)
   case first=>as_aux_lemma=>
    cases is
    ·go_wp2_with fail
     go_meet
     exact Below.refl _ _
    ·have hcore:=HCB.out rfl
     have hqq:=(grB_parts (core_parts hcore).1).1
     have hq1:1≤q1:=hqq.1
     have hq3:q1≤3:=hqq.2
     clear hqq HCB
     have HWO:=hDD (fun W (h:ArgC W (.slice A0 x0.length c0) x0)=>lawWordC_any _ x0 q1 W h hl' hq1 hq3)
     have HJO:=hDD (fun W u us (h:ArgG W (.agg #[.int .i64 q1, .int .i64 q2, .slice A1 qs.length c1]) (q1,q2,qs)) (ht:RdI W u us) (hw:wordB q1 us=true) (hl:us.length≤1073741824)=>specJoinWord_any _ u (q1,q2,qs) us W h ht hcore hw hl)
     have HWD:=hDD (fun us (hul:us.length≤3) (hlr:letR q1 us) (hrd:redP us)=>word_of hq1 hq3 hul hlr hrd)
     have HFN:=hDD (fun d h1 h2 h3=>HFD.out (by trivial) d h1 h2 h3)
     clear hcore hq1 hq3 HFD
     have u0:=G.out.c0
     have u1:=G.out.c1
     have u2:=G.out.c2
     simp only at u0 u1 u2
     go_wp2_with fail
     refine wp_region_genG2 [] [.val (.agg #[.int .i64 q1, .int .i64 q2, .slice A1 qs.length c1]), .val (.slice A0 x0.length c0), .val (.pointer (some ⟨gb,0,none⟩)), .val (.int .i64 q1), .mem (fun _ W v=>(∃us A c,v= .slice A us.length c∧OwI W wq.heap.size (.slice A us.length c) us∧us.length≤3∧wordB q1 us=true)), .mem (fun _ W v=>(∃d1 d2 ds A c b,v= .tuple #[.agg #[.int .i64 d1, .int .i64 d2, .slice A ds.length c], .bool b]∧OwE W wq.heap.size (.slice A ds.length c) ds∧I64 d1∧I64 d2∧Hid (b=true→inclS (q1,q2,qs) (d1,d2,ds)=true))), .pur (fun us v=>v=us 5), .pur (fun us v=> ∃x,us 6= .tuple #[v,x]), .pur (fun us v=> ∃x,us 6= .tuple #[x,v]), .mem (fun _ W v=>(∃p,v= .pointer (some ⟨p,0,none⟩)∧wq.heap.size≤p∧BoxG W p)), .mem (fun us W _=>(∃p d1 d2 ds A c b,us 9= .pointer (some ⟨p,0,none⟩)∧us 6= .tuple #[.agg #[.int .i64 d1, .int .i64 d2, .slice A ds.length c], .bool b]∧GBx W p wq.heap.size A c (d1,d2,ds)∧Hid (b=true→inclS (q1,q2,qs) (d1,d2,ds)=true))), .pur (fun us v=>v=us 8)]
      [none,none,none,none,some (fun W W'=>Below W.heap.size W W'),some (fun W W'=>Below W.heap.size W W'),none,none,none,some (fun W W'=>Below W.heap.size W W'),some (fun W W'=> ∃p x y z,wq.heap.size≤p∧BoxG W p∧W'=((W.setCell ⟨p,0,none⟩ x).setCell ⟨p,1,none⟩ y).setCell ⟨p,2,none⟩ z),none]
      (fun W=>Below wq.heap.size wq W) (fun _=>True) [] [(4,5),(4,9),(4,10),(5,9),(5,10),(9,4),(9,5),(9,10)] (by kernel_rfl) (by kernel_rfl) (by kernel_rfl)
      trivial (by rfl) (by rfl) (Below.refl _ _).drew trivial
      ⟨fun _ _ h t=>h.trans (t.mono h.size),fun _ _ h t=>h.trans (t.mono h.size),fun _ _ h t=>h.trans (t.mono h.size),fun _ _ h t=>by obtain⟨p,x,y,z,hp,hb,rfl⟩:=t;exact set3_below _ _ _ h hp,trivial⟩ (itD_nil _ 0)
      ⟨fun _ _ _ _ _ _ t h=>by obtain⟨us,A,c,e,o,i,j⟩:=h;exact⟨us,A,c,e,o.below t,i,j⟩,
       fun _ _ _ _ _ _ t h=>by obtain⟨us,A,c,e,o,i,j⟩:=h;exact⟨us,A,c,e,o.below t,i,j⟩,
       fun _ _ _ _ _ _ t h=>by obtain⟨p,x,y,z,hp,hb,rfl⟩:=t;obtain⟨us,A,c,e,o,i,j⟩:=h;exact⟨us,A,c,e,o.keepB fun b' h'=>set3_heap _ _ _ _ _ (hb.neI o b' h'),i,j⟩,
       fun _ _ _ _ _ _ t h=>by obtain⟨d1,d2,ds,A,c,b,e,o,i,j⟩:=h;exact⟨d1,d2,ds,A,c,b,e,o.below t,i,j⟩,
       fun _ _ _ _ _ _ t h=>by obtain⟨p,x,y,z,hp,hb,rfl⟩:=t;obtain⟨d1,d2,ds,A,c,b,e,o,i,j⟩:=h;exact⟨d1,d2,ds,A,c,b,e,o.keep fun b' h'=>set3_heap _ _ _ _ _ (hb.ne o b' h'),i,j⟩,
       fun _ _ _ _ _ _ t h=>by obtain⟨p,e,hp,hb⟩:=h;exact⟨p,e,hp,hb.below t⟩,
       fun _ _ _ _ _ _ t h=>by obtain⟨p,e,hp,hb⟩:=h;exact⟨p,e,hp,hb.below t⟩,
       fun _ _ _ _ _ _ t h=>by obtain⟨p,x,y,z,hp,hb,rfl⟩:=t;obtain⟨p',e,hp',hb'⟩:=h;exact⟨p',e,hp',hb'.set3 _ _ _⟩,
       trivial⟩ (fun vs=> ?_)
     refine⟨fun W' K' Q0 hI hD hK=> ?_,?_⟩
     ·have z0:=(G.out.below hI.out.1).c0
      have z1:=(G.out.below hI.out.1).c1
      have z2:=(G.out.below hI.out.1).c2
      go_simp
      exact hK.out _ _ rfl rfl
     simp only[Act.put,List.setIfInBounds_toArray,List.set_cons_zero,List.set_cons_succ,Sg.pick,Nat.reduceAdd]
     refine⟨fun W' K' Q0 hI hD hK=> ?_,?_⟩
     ·skip
      go_simp
      exact hK.out _ _ rfl rfl
     simp only[Act.put,List.setIfInBounds_toArray,List.set_cons_zero,List.set_cons_succ,Sg.pick,Nat.reduceAdd]
     refine⟨fun W' K' Q0 hI hD hK=> ?_,?_⟩
     ·skip
      go_simp
      exact hK.out _ _ rfl rfl
     simp only[Act.put,List.setIfInBounds_toArray,List.set_cons_zero,List.set_cons_succ,Sg.pick,Nat.reduceAdd]
     refine⟨fun W' K' Q0 hI hD hK=> ?_,?_⟩
     ·have z0:=(G.out.below hI.out.1).c0
      go_simp
      exact hK.out _ _ rfl rfl
     simp only[Act.put,List.setIfInBounds_toArray,List.set_cons_zero,List.set_cons_succ,Sg.pick,Nat.reduceAdd]
     refine⟨fun W' K' Q0 hI hD hK=> ?_,?_⟩
     ·skip
      go_simp
      refine(HWO.out _ (V.out.below hI.out.1)).mono ?_;rintro e w' ⟨u,us,rfl,ou,⟨hul,hlr,hrd⟩,b⟩;obtain⟨A,c,rfl,-⟩:=ou.form;exact hK.out _ _ b ⟨us,A,c,rfl,ou.mono hI.out.1.size,hul,HWD.out us hul hlr hrd⟩
     simp only[Act.put,List.setIfInBounds_toArray,List.set_cons_zero,List.set_cons_succ,Sg.pick,Nat.reduceAdd]
     refine⟨fun W' K' Q0 hI hD hK=> ?_,?_⟩
     ·obtain⟨us,Au,cu,e4,o4,l4,w4⟩:=(show(∃us A c,vs 4= .slice A us.length c∧OwI W' wq.heap.size (.slice A us.length c) us∧us.length≤3∧wordB q1 us=true) from hD.out 4 (by kernel_rfl))
      rw[e4] at hK⊢
      go_simp
      refine(HJO.out _ _ us (G.out.below hI.out.1).arg o4.rd w4 (by omega)).mono ?_;rintro e w' ⟨r,⟨d1,d2,ds⟩,b0,rfl,⟨s,rfl,g1,g2,og⟩,hin,b⟩;obtain⟨A,c,rfl,-⟩:=og.form;exact hK.out _ _ b ⟨d1,d2,ds,A,c,b0,rfl,og.mono hI.out.1.size,g1,g2,hDD hin⟩
     simp only[Act.put,List.setIfInBounds_toArray,List.set_cons_zero,List.set_cons_succ,Sg.pick,Nat.reduceAdd]
     refine⟨fun W' K' Q0 hI hD hK=> ?_,?_⟩
     ·obtain⟨d1,d2,ds,A6,c6,b6,e5,o5,i5,j5,hin5⟩:=(show(∃d1 d2 ds A c b,vs 5= .tuple #[.agg #[.int .i64 d1, .int .i64 d2, .slice A ds.length c], .bool b]∧OwE W' wq.heap.size (.slice A ds.length c) ds∧I64 d1∧I64 d2∧Hid (b=true→inclS (q1,q2,qs) (d1,d2,ds)=true)) from hD.out 5 (by kernel_rfl))
      rw[e5] at hK⊢
      go_simp
      exact hK.out _ _ rfl ((mask_at (by kernel_rfl)).trans e5).symm
     simp only[Act.put,List.setIfInBounds_toArray,List.set_cons_zero,List.set_cons_succ,Sg.pick,Nat.reduceAdd]
     refine⟨fun W' K' Q0 hI hD hK=> ?_,?_⟩
     ·obtain⟨d1,d2,ds,A6,c6,b6,e5,o5,i5,j5,hin5⟩:=(show(∃d1 d2 ds A c b,vs 5= .tuple #[.agg #[.int .i64 d1, .int .i64 d2, .slice A ds.length c], .bool b]∧OwE W' wq.heap.size (.slice A ds.length c) ds∧I64 d1∧I64 d2∧Hid (b=true→inclS (q1,q2,qs) (d1,d2,ds)=true)) from hD.out 5 (by kernel_rfl))
      have e6:=(show vs 6=maskV _ 6 vs 5 from hD.out 6 (by kernel_rfl))
      rw[mask_at (by kernel_rfl),e5] at e6
      rw[e6,e5] at hK⊢
      go_simp
      exact hK.out _ _ rfl ⟨_,(mask_at (by kernel_rfl)).trans e6⟩
     simp only[Act.put,List.setIfInBounds_toArray,List.set_cons_zero,List.set_cons_succ,Sg.pick,Nat.reduceAdd]
     refine⟨fun W' K' Q0 hI hD hK=> ?_,?_⟩
     ·obtain⟨d1,d2,ds,A6,c6,b6,e5,o5,i5,j5,hin5⟩:=(show(∃d1 d2 ds A c b,vs 5= .tuple #[.agg #[.int .i64 d1, .int .i64 d2, .slice A ds.length c], .bool b]∧OwE W' wq.heap.size (.slice A ds.length c) ds∧I64 d1∧I64 d2∧Hid (b=true→inclS (q1,q2,qs) (d1,d2,ds)=true)) from hD.out 5 (by kernel_rfl))
      have e6:=(show vs 6=maskV _ 6 vs 5 from hD.out 6 (by kernel_rfl))
      rw[mask_at (by kernel_rfl),e5] at e6
      rw[e6,e5] at hK⊢
      go_simp
      exact hK.out _ _ rfl ⟨_,(mask_at (by kernel_rfl)).trans e6⟩
     simp only[Act.put,List.setIfInBounds_toArray,List.set_cons_zero,List.set_cons_succ,Sg.pick,Nat.reduceAdd]
     refine⟨fun W' K' Q0 hI hD hK=> ?_,?_⟩
     ·skip
      go_simp
      exact hK.out _ _ ((Below.refl _ _).alloc (Nat.le_refl _) _) ⟨_,rfl,hI.out.1.size,⟨_,_,_,(CBx.new rfl).1⟩,_,box_new _ _⟩
     simp only[Act.put,List.setIfInBounds_toArray,List.set_cons_zero,List.set_cons_succ,Sg.pick,Nat.reduceAdd]
     refine⟨fun W' K' Q0 hI hD hK=> ?_,?_⟩
     ·obtain⟨d1,d2,ds,A6,c6,b6,e5,o5,i5,j5,hin5⟩:=(show(∃d1 d2 ds A c b,vs 5= .tuple #[.agg #[.int .i64 d1, .int .i64 d2, .slice A ds.length c], .bool b]∧OwE W' wq.heap.size (.slice A ds.length c) ds∧I64 d1∧I64 d2∧Hid (b=true→inclS (q1,q2,qs) (d1,d2,ds)=true)) from hD.out 5 (by kernel_rfl))
      have e6:=(show vs 6=maskV _ 6 vs 5 from hD.out 6 (by kernel_rfl))
      rw[mask_at (by kernel_rfl),e5] at e6
      obtain⟨x7,e67⟩:=(show ∃x,maskV _ 7 vs 6= .tuple #[vs 7,x] from hD.out 7 (by kernel_rfl))
      rw[mask_at (by kernel_rfl),e6] at e67
      have e7:=(tup2 e67).1.symm
      obtain⟨p9,e9,hp9,hb9⟩:=(show(∃p,vs 9= .pointer (some ⟨p,0,none⟩)∧wq.heap.size≤p∧BoxG W' p) from hD.out 9 (by kernel_rfl))
      rw[e9,e7,e6,e5] at hK⊢
      clear e67
      obtain⟨⟨bx,by_,bz,hbx⟩,-⟩:=id hb9
      have z0:=hbx.c0
      have z1:=hbx.c1
      have z2:=hbx.c2
      have u0:=hbx.fz 0
      have u1:=hbx.fz 1
      have u2:=hbx.fz 2
      go_simp
      exact hK.out undef _ ⟨_,_,_,_,hp9,hb9,rfl⟩ ⟨p9,d1,d2,ds,A6,c6,b6,(mask_at (by kernel_rfl)).trans e9,(mask_at (by kernel_rfl)).trans e6,CBx.set (m:=(d1,d2,ds)) hbx o5 (hb9.ne o5) i5 j5,hin5⟩
     simp only[Act.put,List.setIfInBounds_toArray,List.set_cons_zero,List.set_cons_succ,Sg.pick,Nat.reduceAdd]
     refine⟨fun W' K' Q0 hI hD hK=> ?_,?_⟩
     ·obtain⟨d1,d2,ds,A6,c6,b6,e5,o5,i5,j5,hin5⟩:=(show(∃d1 d2 ds A c b,vs 5= .tuple #[.agg #[.int .i64 d1, .int .i64 d2, .slice A ds.length c], .bool b]∧OwE W' wq.heap.size (.slice A ds.length c) ds∧I64 d1∧I64 d2∧Hid (b=true→inclS (q1,q2,qs) (d1,d2,ds)=true)) from hD.out 5 (by kernel_rfl))
      have e6:=(show vs 6=maskV _ 6 vs 5 from hD.out 6 (by kernel_rfl))
      rw[mask_at (by kernel_rfl),e5] at e6
      obtain⟨x8,e68⟩:=(show ∃x,maskV _ 8 vs 6= .tuple #[x,vs 8] from hD.out 8 (by kernel_rfl))
      rw[mask_at (by kernel_rfl),e6] at e68
      have e8:=(tup2 e68).2.symm
      clear e68
      rw[e8,e6,e5] at hK⊢
      go_simp
      exact hK.out _ _ rfl ((mask_at (by kernel_rfl)).trans e8).symm
     simp only[Act.put,List.setIfInBounds_toArray,List.set_cons_zero,List.set_cons_succ,Sg.pick,Nat.reduceAdd]
     intro W9 hI9 hD9
     have I9:=hDD hI9.out.1
     obtain⟨p9,d1,d2,ds,A6,c6,b6,e9,e6,gx,hin⟩:=(show(∃p d1 d2 ds A c b,maskV _ 10 vs 9= .pointer (some ⟨p,0,none⟩)∧maskV _ 10 vs 6= .tuple #[.agg #[.int .i64 d1, .int .i64 d2, .slice A ds.length c], .bool b]∧GBx W9 p wq.heap.size A c (d1,d2,ds)∧Hid (b=true→inclS (q1,q2,qs) (d1,d2,ds)=true)) from hD9.out 10 (by decide))
     rw[mask_at (by kernel_rfl)] at e9 e6
     obtain⟨x8,e68⟩:=(show ∃x,maskV _ 8 vs 6= .tuple #[x,vs 8] from hD9.out 8 (by decide))
     rw[mask_at (by kernel_rfl),e6] at e68
     have e8:=(tup2 e68).2.symm
     have e11:=(show vs 11=maskV _ 11 vs 8 from hD9.out 11 (by decide))
     rw[mask_at (by kernel_rfl),e8] at e11
     rw[e9,e11]
     have H:=hDD gx
     replace G:=hDD (G.out.below I9.out)
     replace K:=hDD (K.out.below I9.out)
     clear hI9 hD9 gx e9 e6 e68 e8 e11 x8 u0 u1 u2 HWO HJO HWD V
     replace HFN:=hDD (HFN.out (d1,d2,ds))
     have hs9:=I9.out.size
     have hLm:L.length≤9223372036854775807:=by
      obtain⟨A,cap,e,h1,h2,_⟩:=K.out
      unfold maxLen at h2
      injection e with e1 e2 e3
      omega
     go_wp2_with fail
     go_loopw [11,12] (fun fv iv wr=> ∃i:Nat,i≤L.length∧iv= .int .i64 i∧fv= .bool (fndB L (q1,q2,qs) (d1,d2,ds) i)∧Below W9.heap.size W9 wr) (fun _ iv _=>L.length-(intOf iv).toNat)
     case atStart=>exact⟨0,Nat.zero_le _,rfl,by rw[fnd_zero],Below.refl _ _⟩
     case round=>
      obtain⟨i,hi,rfl,rfl,hB⟩:=hrel
      have hsb:=hB.size
      have BL:=hDD hB
      replace G:=hDD (G.out.below hB)
      replace K:=hDD (K.out.below hB)
      replace H:=hDD (H.out.below hB)
      clear hB
      have HSUC:=hDD (fun (h:i<L.length)=>fnd_succ (g:=(q1,q2,qs)) (d:=(d1,d2,ds)) h)
      have HNON:=hDD (fun (h:i=L.length)=>fnd_none (g:=(q1,q2,qs)) (d:=(d1,d2,ds)) h)
      obtain⟨fd,hfd⟩: ∃fd,fndB L (q1,q2,qs) (d1,d2,ds) i=fd:=⟨_,rfl⟩
      rw[hfd] at HSUC HNON
      rw[hfd]
      clear hfd
      by_cases hgo:i<L.length∧b6=true
      ·obtain⟨hlt,rfl⟩:=hgo
       have hltI:(i:Int)<(L.length:Int):=by omega
       replace HSUC:=hDD (HSUC.out hlt)
       clear HNON
       have hwk:IntKind.i64.wrap ((i:Int)+1)=((i+1:Nat):Int):=by rw[IntKind.wrap_i64];omega
       obtain⟨lb,off,sd,rfl,hlb,y0,y1,y2,ha⟩:=K.out.at hlt
       have KA:=hDD ha
       obtain⟨k,hk⟩: ∃k,L[i]=k:=⟨_,rfl⟩
       rw[hk] at y0 y1 KA HSUC
       clear hk ha
       obtain⟨k1,k2,ks⟩:=k
       simp only at y0 y1
       have HEQ:=hDD (fun W (h:ArgG W (.agg #[.int .i64 k1, .int .i64 k2,sd]) (k1,k2,ks)) (h':ArgG W (.agg #[.int .i64 q1, .int .i64 q2, .slice A1 qs.length c1]) (q1,q2,qs))=>specEqualGraphs_any _ _ (k1,k2,ks) (q1,q2,qs) W h h')
       have HIS:=hDD (fun W (h:ArgG W (.agg #[.int .i64 k1, .int .i64 k2,sd]) (k1,k2,ks)) (h':ArgG W (.agg #[.int .i64 d1, .int .i64 d2, .slice A6 ds.length c6]) (d1,d2,ds))=>specIsInside_any _ _ (k1,k2,ks) (d1,d2,ds) W h h')
       generalize decide ((k1,k2,ks)=(q1,q2,qs))=eb at*
       generalize inclS (k1,k2,ks) (d1,d2,ds)=ib at*
       cases fd
       ·go_wp2_with fail
        cases eb
        ·skip
         refine wp_region_genG2 [] [.val (.bool false), .val (.bool false), .val (.slice (some ⟨lb,off,none⟩) L.length c3), .val (.int .i64 i), .val (.pointer (some ⟨lb,off+i*3,none⟩)), .val (.agg #[.int .i64 k1, .int .i64 k2,sd]), .val (.agg #[.int .i64 q1, .int .i64 q2, .slice A1 qs.length c1]), .val (.bool false), .val (.bool true), .val (.bool true), .val (.slice (some ⟨lb,off,none⟩) L.length c3), .val (.int .i64 i), .val (.pointer (some ⟨lb,off+i*3,none⟩)), .val (.agg #[.int .i64 k1, .int .i64 k2,sd]), .val (.agg #[.int .i64 d1, .int .i64 d2, .slice A6 ds.length c6]), .val (.bool ib), .val (.bool ib), .val (.bool ib), .val (.bool ib)]
          [none,none,none,none,none,none,none,some (fun W W'=>Below W.heap.size W W'),none,none,none,none,none,none,none,some (fun W W'=>Below W.heap.size W W'),none,none,none]
          (fun W=>Below wr.heap.size wr W) (fun _=>True) [] [] (by kernel_rfl) (by kernel_rfl) (by kernel_rfl)
          trivial (by rfl) (by rfl) (Below.refl _ _).drew trivial
          ⟨fun _ _ h t=>h.trans (t.mono h.size),fun _ _ h t=>h.trans (t.mono h.size),trivial⟩ (itD_nil _ 0)
          trivial (fun vs=> ?_)
         refine⟨fun W' K' Q0 hI hD hK=> ?_,?_⟩
         ·skip
          go_simp
          exact hK.out _ _ rfl rfl
         simp only[Act.put,List.setIfInBounds_toArray,List.set_cons_zero,List.set_cons_succ,Sg.pick,Nat.reduceAdd]
         refine⟨fun W' K' Q0 hI hD hK=> ?_,?_⟩
         ·skip
          go_simp
          exact hK.out _ _ rfl rfl
         simp only[Act.put,List.setIfInBounds_toArray,List.set_cons_zero,List.set_cons_succ,Sg.pick,Nat.reduceAdd]
         refine⟨fun W' K' Q0 hI hD hK=> ?_,?_⟩
         ·skip
          go_simp
          exact hK.out _ _ rfl rfl
         simp only[Act.put,List.setIfInBounds_toArray,List.set_cons_zero,List.set_cons_succ,Sg.pick,Nat.reduceAdd]
         refine⟨fun W' K' Q0 hI hD hK=> ?_,?_⟩
         ·skip
          go_simp
          exact hK.out _ _ rfl rfl
         simp only[Act.put,List.setIfInBounds_toArray,List.set_cons_zero,List.set_cons_succ,Sg.pick,Nat.reduceAdd]
         refine⟨fun W' K' Q0 hI hD hK=> ?_,?_⟩
         ·skip
          go_simp
          exact hK.out _ _ rfl rfl
         simp only[Act.put,List.setIfInBounds_toArray,List.set_cons_zero,List.set_cons_succ,Sg.pick,Nat.reduceAdd]
         refine⟨fun W' K' Q0 hI hD hK=> ?_,?_⟩
         ·have z0:=(hI.out.1.cell (p:=⟨lb,off+i*3,none⟩) hlb).trans y0
          have z1:=(hI.out.1.cell (p:=⟨lb,off+i*3+1,none⟩) hlb).trans y1
          have z2:=(hI.out.1.cell (p:=⟨lb,off+i*3+2,none⟩) hlb).trans y2
          go_simp
          exact hK.out _ _ rfl rfl
         simp only[Act.put,List.setIfInBounds_toArray,List.set_cons_zero,List.set_cons_succ,Sg.pick,Nat.reduceAdd]
         refine⟨fun W' K' Q0 hI hD hK=> ?_,?_⟩
         ·have z0:=(G.out.below hI.out.1).c0
          have z1:=(G.out.below hI.out.1).c1
          have z2:=(G.out.below hI.out.1).c2
          go_simp
          exact hK.out _ _ rfl rfl
         simp only[Act.put,List.setIfInBounds_toArray,List.set_cons_zero,List.set_cons_succ,Sg.pick,Nat.reduceAdd]
         refine⟨fun W' K' Q0 hI hD hK=> ?_,?_⟩
         ·skip
          go_simp
          refine(HEQ.out _ (KA.out.below hI.out.1) (G.out.below hI.out.1).arg).mono ?_;rintro e w' ⟨rfl,b⟩;exact hK.out _ _ b rfl
         simp only[Act.put,List.setIfInBounds_toArray,List.set_cons_zero,List.set_cons_succ,Sg.pick,Nat.reduceAdd]
         refine⟨fun W' K' Q0 hI hD hK=> ?_,?_⟩
         ·skip
          go_simp
          exact hK.out _ _ rfl rfl
         simp only[Act.put,List.setIfInBounds_toArray,List.set_cons_zero,List.set_cons_succ,Sg.pick,Nat.reduceAdd]
         refine⟨fun W' K' Q0 hI hD hK=> ?_,?_⟩
         ·skip
          go_simp
          exact hK.out _ _ rfl rfl
         simp only[Act.put,List.setIfInBounds_toArray,List.set_cons_zero,List.set_cons_succ,Sg.pick,Nat.reduceAdd]
         refine⟨fun W' K' Q0 hI hD hK=> ?_,?_⟩
         ·skip
          go_simp
          exact hK.out _ _ rfl rfl
         simp only[Act.put,List.setIfInBounds_toArray,List.set_cons_zero,List.set_cons_succ,Sg.pick,Nat.reduceAdd]
         refine⟨fun W' K' Q0 hI hD hK=> ?_,?_⟩
         ·skip
          go_simp
          exact hK.out _ _ rfl rfl
         simp only[Act.put,List.setIfInBounds_toArray,List.set_cons_zero,List.set_cons_succ,Sg.pick,Nat.reduceAdd]
         refine⟨fun W' K' Q0 hI hD hK=> ?_,?_⟩
         ·skip
          go_simp
          exact hK.out _ _ rfl rfl
         simp only[Act.put,List.setIfInBounds_toArray,List.set_cons_zero,List.set_cons_succ,Sg.pick,Nat.reduceAdd]
         refine⟨fun W' K' Q0 hI hD hK=> ?_,?_⟩
         ·have z0:=(hI.out.1.cell (p:=⟨lb,off+i*3,none⟩) hlb).trans y0
          have z1:=(hI.out.1.cell (p:=⟨lb,off+i*3+1,none⟩) hlb).trans y1
          have z2:=(hI.out.1.cell (p:=⟨lb,off+i*3+2,none⟩) hlb).trans y2
          go_simp
          exact hK.out _ _ rfl rfl
         simp only[Act.put,List.setIfInBounds_toArray,List.set_cons_zero,List.set_cons_succ,Sg.pick,Nat.reduceAdd]
         refine⟨fun W' K' Q0 hI hD hK=> ?_,?_⟩
         ·have z0:=(H.out.below hI.out.1).c0
          have z1:=(H.out.below hI.out.1).c1
          have z2:=(H.out.below hI.out.1).c2
          go_simp
          exact hK.out _ _ rfl rfl
         simp only[Act.put,List.setIfInBounds_toArray,List.set_cons_zero,List.set_cons_succ,Sg.pick,Nat.reduceAdd]
         refine⟨fun W' K' Q0 hI hD hK=> ?_,?_⟩
         ·skip
          go_simp
          refine(HIS.out _ (KA.out.below hI.out.1) (H.out.below hI.out.1).arg).mono ?_;rintro e w' ⟨rfl,b⟩;exact hK.out _ _ b rfl
         simp only[Act.put,List.setIfInBounds_toArray,List.set_cons_zero,List.set_cons_succ,Sg.pick,Nat.reduceAdd]
         refine⟨fun W' K' Q0 hI hD hK=> ?_,?_⟩
         ·skip
          go_simp
          exact hK.out _ _ rfl rfl
         simp only[Act.put,List.setIfInBounds_toArray,List.set_cons_zero,List.set_cons_succ,Sg.pick,Nat.reduceAdd]
         refine⟨fun W' K' Q0 hI hD hK=> ?_,?_⟩
         ·skip
          go_simp
          exact hK.out _ _ rfl rfl
         simp only[Act.put,List.setIfInBounds_toArray,List.set_cons_zero,List.set_cons_succ,Sg.pick,Nat.reduceAdd]
         refine⟨fun W' K' Q0 hI hD hK=> ?_,?_⟩
         ·skip
          go_simp
          exact hK.out _ _ rfl rfl
         simp only[Act.put,List.setIfInBounds_toArray,List.set_cons_zero,List.set_cons_succ,Sg.pick,Nat.reduceAdd]
         intro W8 hI8 hD8
         have I8:=hDD hI8.out.1
         clear hI8 hD8
         replace BL:=hDD (BL.out.trans (I8.out.mono hsb))
         go_wp2
         go_roundw
         case rel=>exact⟨i+1,by omega,by go_num,by rw[HSUC.out];rfl,BL.out⟩
         case measure=>(simp[intOf];omega)
        ·skip
         refine wp_region_genG2 [10,11,12,13,14,15] [.val (.bool false), .val (.bool false), .val (.slice (some ⟨lb,off,none⟩) L.length c3), .val (.int .i64 i), .val (.pointer (some ⟨lb,off+i*3,none⟩)), .val (.agg #[.int .i64 k1, .int .i64 k2,sd]), .val (.agg #[.int .i64 q1, .int .i64 q2, .slice A1 qs.length c1]), .val (.bool true), .val (.bool false), .val (.bool false), .val undef, .val undef, .val undef, .val undef, .val undef, .val undef, .val (.bool false), .val (.bool false), .val (.bool false)]
          [none,none,none,none,none,none,none,some (fun W W'=>Below W.heap.size W W'),none,none,none,none,none,none,none,none,none,none,none]
          (fun W=>Below wr.heap.size wr W) (fun _=>True) [] [] (by kernel_rfl) (by kernel_rfl) (by kernel_rfl)
          ⟨⟨rfl,rfl⟩,⟨rfl,rfl⟩,⟨rfl,rfl⟩,⟨rfl,rfl⟩,⟨rfl,rfl⟩,⟨rfl,rfl⟩,trivial⟩ (by rfl) (by rfl) (Below.refl _ _).drew trivial
          ⟨fun _ _ h t=>h.trans (t.mono h.size),trivial⟩ (itD_nil _ 0)
          trivial (fun vs=> ?_)
         refine⟨fun W' K' Q0 hI hD hK=> ?_,?_⟩
         ·skip
          go_simp
          exact hK.out _ _ rfl rfl
         simp only[Act.put,List.setIfInBounds_toArray,List.set_cons_zero,List.set_cons_succ,Sg.pick,Nat.reduceAdd]
         refine⟨fun W' K' Q0 hI hD hK=> ?_,?_⟩
         ·skip
          go_simp
          exact hK.out _ _ rfl rfl
         simp only[Act.put,List.setIfInBounds_toArray,List.set_cons_zero,List.set_cons_succ,Sg.pick,Nat.reduceAdd]
         refine⟨fun W' K' Q0 hI hD hK=> ?_,?_⟩
         ·skip
          go_simp
          exact hK.out _ _ rfl rfl
         simp only[Act.put,List.setIfInBounds_toArray,List.set_cons_zero,List.set_cons_succ,Sg.pick,Nat.reduceAdd]
         refine⟨fun W' K' Q0 hI hD hK=> ?_,?_⟩
         ·skip
          go_simp
          exact hK.out _ _ rfl rfl
         simp only[Act.put,List.setIfInBounds_toArray,List.set_cons_zero,List.set_cons_succ,Sg.pick,Nat.reduceAdd]
         refine⟨fun W' K' Q0 hI hD hK=> ?_,?_⟩
         ·skip
          go_simp
          exact hK.out _ _ rfl rfl
         simp only[Act.put,List.setIfInBounds_toArray,List.set_cons_zero,List.set_cons_succ,Sg.pick,Nat.reduceAdd]
         refine⟨fun W' K' Q0 hI hD hK=> ?_,?_⟩
         ·have z0:=(hI.out.1.cell (p:=⟨lb,off+i*3,none⟩) hlb).trans y0
          have z1:=(hI.out.1.cell (p:=⟨lb,off+i*3+1,none⟩) hlb).trans y1
          have z2:=(hI.out.1.cell (p:=⟨lb,off+i*3+2,none⟩) hlb).trans y2
          go_simp
          exact hK.out _ _ rfl rfl
         simp only[Act.put,List.setIfInBounds_toArray,List.set_cons_zero,List.set_cons_succ,Sg.pick,Nat.reduceAdd]
         refine⟨fun W' K' Q0 hI hD hK=> ?_,?_⟩
         ·have z0:=(G.out.below hI.out.1).c0
          have z1:=(G.out.below hI.out.1).c1
          have z2:=(G.out.below hI.out.1).c2
          go_simp
          exact hK.out _ _ rfl rfl
         simp only[Act.put,List.setIfInBounds_toArray,List.set_cons_zero,List.set_cons_succ,Sg.pick,Nat.reduceAdd]
         refine⟨fun W' K' Q0 hI hD hK=> ?_,?_⟩
         ·skip
          go_simp
          refine(HEQ.out _ (KA.out.below hI.out.1) (G.out.below hI.out.1).arg).mono ?_;rintro e w' ⟨rfl,b⟩;exact hK.out _ _ b rfl
         simp only[Act.put,List.setIfInBounds_toArray,List.set_cons_zero,List.set_cons_succ,Sg.pick,Nat.reduceAdd]
         refine⟨fun W' K' Q0 hI hD hK=> ?_,?_⟩
         ·skip
          go_simp
          exact hK.out _ _ rfl rfl
         simp only[Act.put,List.setIfInBounds_toArray,List.set_cons_zero,List.set_cons_succ,Sg.pick,Nat.reduceAdd]
         refine⟨fun W' K' Q0 hI hD hK=> ?_,?_⟩
         ·skip
          go_simp
          exact hK.out _ _ rfl rfl
         simp only[Act.put,List.setIfInBounds_toArray,List.set_cons_zero,List.set_cons_succ,Sg.pick,Nat.reduceAdd]
         refine⟨trivial,?_⟩
         simp only[Act.put,List.setIfInBounds_toArray,List.set_cons_zero,List.set_cons_succ,Sg.pick,Nat.reduceAdd]
         refine⟨trivial,?_⟩
         simp only[Act.put,List.setIfInBounds_toArray,List.set_cons_zero,List.set_cons_succ,Sg.pick,Nat.reduceAdd]
         refine⟨trivial,?_⟩
         simp only[Act.put,List.setIfInBounds_toArray,List.set_cons_zero,List.set_cons_succ,Sg.pick,Nat.reduceAdd]
         refine⟨trivial,?_⟩
         simp only[Act.put,List.setIfInBounds_toArray,List.set_cons_zero,List.set_cons_succ,Sg.pick,Nat.reduceAdd]
         refine⟨trivial,?_⟩
         simp only[Act.put,List.setIfInBounds_toArray,List.set_cons_zero,List.set_cons_succ,Sg.pick,Nat.reduceAdd]
         refine⟨trivial,?_⟩
         simp only[Act.put,List.setIfInBounds_toArray,List.set_cons_zero,List.set_cons_succ,Sg.pick,Nat.reduceAdd]
         refine⟨fun W' K' Q0 hI hD hK=> ?_,?_⟩
         ·skip
          go_simp
          exact hK.out _ _ rfl rfl
         simp only[Act.put,List.setIfInBounds_toArray,List.set_cons_zero,List.set_cons_succ,Sg.pick,Nat.reduceAdd]
         refine⟨fun W' K' Q0 hI hD hK=> ?_,?_⟩
         ·skip
          go_simp
          exact hK.out _ _ rfl rfl
         simp only[Act.put,List.setIfInBounds_toArray,List.set_cons_zero,List.set_cons_succ,Sg.pick,Nat.reduceAdd]
         refine⟨fun W' K' Q0 hI hD hK=> ?_,?_⟩
         ·skip
          go_simp
          exact hK.out _ _ rfl rfl
         simp only[Act.put,List.setIfInBounds_toArray,List.set_cons_zero,List.set_cons_succ,Sg.pick,Nat.reduceAdd]
         intro W8 hI8 hD8
         have I8:=hDD hI8.out.1
         clear hI8 hD8
         replace BL:=hDD (BL.out.trans (I8.out.mono hsb))
         go_wp2
         go_roundw
         case rel=>exact⟨i+1,by omega,by go_num,by rw[HSUC.out];rfl,BL.out⟩
         case measure=>(simp[intOf];omega)
       ·go_wp2_with fail
        refine wp_region_genG2 [2,3,4,5,6,7,8,9,10,11,12,13,14,15,16] [.val (.bool true), .val (.bool true), .val undef, .val undef, .val undef, .val undef, .val undef, .val undef, .val undef, .val undef, .val undef, .val undef, .val undef, .val undef, .val undef, .val undef, .val undef, .val (.bool true), .val (.bool true)]
         [none,none,none,none,none,none,none,none,none,none,none,none,none,none,none,none,none,none,none]
         (fun W=>Below wr.heap.size wr W) (fun _=>True) [] [] (by kernel_rfl) (by kernel_rfl) (by kernel_rfl)
         ⟨⟨rfl,rfl⟩,⟨rfl,rfl⟩,⟨rfl,rfl⟩,⟨rfl,rfl⟩,⟨rfl,rfl⟩,⟨rfl,rfl⟩,⟨rfl,rfl⟩,⟨rfl,rfl⟩,⟨rfl,rfl⟩,⟨rfl,rfl⟩,⟨rfl,rfl⟩,⟨rfl,rfl⟩,⟨rfl,rfl⟩,⟨rfl,rfl⟩,⟨rfl,rfl⟩,trivial⟩ (by rfl) (by rfl) (Below.refl _ _).drew trivial
         trivial (itD_nil _ 0)
         trivial (fun vs=> ?_)
        refine⟨fun W' K' Q0 hI hD hK=> ?_,?_⟩
        ·skip
         go_simp
         exact hK.out _ _ rfl rfl
        simp only[Act.put,List.setIfInBounds_toArray,List.set_cons_zero,List.set_cons_succ,Sg.pick,Nat.reduceAdd]
        refine⟨fun W' K' Q0 hI hD hK=> ?_,?_⟩
        ·skip
         go_simp
         exact hK.out _ _ rfl rfl
        simp only[Act.put,List.setIfInBounds_toArray,List.set_cons_zero,List.set_cons_succ,Sg.pick,Nat.reduceAdd]
        refine⟨trivial,?_⟩
        simp only[Act.put,List.setIfInBounds_toArray,List.set_cons_zero,List.set_cons_succ,Sg.pick,Nat.reduceAdd]
        refine⟨trivial,?_⟩
        simp only[Act.put,List.setIfInBounds_toArray,List.set_cons_zero,List.set_cons_succ,Sg.pick,Nat.reduceAdd]
        refine⟨trivial,?_⟩
        simp only[Act.put,List.setIfInBounds_toArray,List.set_cons_zero,List.set_cons_succ,Sg.pick,Nat.reduceAdd]
        refine⟨trivial,?_⟩
        simp only[Act.put,List.setIfInBounds_toArray,List.set_cons_zero,List.set_cons_succ,Sg.pick,Nat.reduceAdd]
        refine⟨trivial,?_⟩
        simp only[Act.put,List.setIfInBounds_toArray,List.set_cons_zero,List.set_cons_succ,Sg.pick,Nat.reduceAdd]
        refine⟨trivial,?_⟩
        simp only[Act.put,List.setIfInBounds_toArray,List.set_cons_zero,List.set_cons_succ,Sg.pick,Nat.reduceAdd]
        refine⟨trivial,?_⟩
        simp only[Act.put,List.setIfInBounds_toArray,List.set_cons_zero,List.set_cons_succ,Sg.pick,Nat.reduceAdd]
        refine⟨trivial,?_⟩
        simp only[Act.put,List.setIfInBounds_toArray,List.set_cons_zero,List.set_cons_succ,Sg.pick,Nat.reduceAdd]
        refine⟨trivial,?_⟩
        simp only[Act.put,List.setIfInBounds_toArray,List.set_cons_zero,List.set_cons_succ,Sg.pick,Nat.reduceAdd]
        refine⟨trivial,?_⟩
        simp only[Act.put,List.setIfInBounds_toArray,List.set_cons_zero,List.set_cons_succ,Sg.pick,Nat.reduceAdd]
        refine⟨trivial,?_⟩
        simp only[Act.put,List.setIfInBounds_toArray,List.set_cons_zero,List.set_cons_succ,Sg.pick,Nat.reduceAdd]
        refine⟨trivial,?_⟩
        simp only[Act.put,List.setIfInBounds_toArray,List.set_cons_zero,List.set_cons_succ,Sg.pick,Nat.reduceAdd]
        refine⟨trivial,?_⟩
        simp only[Act.put,List.setIfInBounds_toArray,List.set_cons_zero,List.set_cons_succ,Sg.pick,Nat.reduceAdd]
        refine⟨trivial,?_⟩
        simp only[Act.put,List.setIfInBounds_toArray,List.set_cons_zero,List.set_cons_succ,Sg.pick,Nat.reduceAdd]
        refine⟨trivial,?_⟩
        simp only[Act.put,List.setIfInBounds_toArray,List.set_cons_zero,List.set_cons_succ,Sg.pick,Nat.reduceAdd]
        refine⟨fun W' K' Q0 hI hD hK=> ?_,?_⟩
        ·skip
         go_simp
         exact hK.out _ _ rfl rfl
        simp only[Act.put,List.setIfInBounds_toArray,List.set_cons_zero,List.set_cons_succ,Sg.pick,Nat.reduceAdd]
        refine⟨fun W' K' Q0 hI hD hK=> ?_,?_⟩
        ·skip
         go_simp
         exact hK.out _ _ rfl rfl
        simp only[Act.put,List.setIfInBounds_toArray,List.set_cons_zero,List.set_cons_succ,Sg.pick,Nat.reduceAdd]
        intro W8 hI8 hD8
        have I8:=hDD hI8.out.1
        clear hI8 hD8
        replace BL:=hDD (BL.out.trans (I8.out.mono hsb))
        go_wp2
        go_roundw
        case rel=>exact⟨i+1,by omega,by go_num,by rw[HSUC.out];rfl,BL.out⟩
        case measure=>(simp[intOf];omega)
      ·clear HSUC
       cases b6
       ·by_cases hltI:(i:Int)<(L.length:Int)
        ·go_wp2_with fail
         refine wp_region_genG2 [2,3,6,7,8,9,10,13,14,15,16] [.val (.bool false), .val (.bool false), .val undef, .val undef, .val (.bool false), .val (.bool false), .val undef, .val undef, .val undef, .val undef, .val undef, .val (.bool false), .val (.bool false), .val undef, .val undef, .val undef, .val undef, .val (.bool false)]
          [none,none,none,none,none,none,none,none,none,none,none,none,none,none,none,none,none,none]
          (fun W=>Below wr.heap.size wr W) (fun _=>True) [] [] (by kernel_rfl) (by kernel_rfl) (by kernel_rfl)
          ⟨⟨rfl,rfl⟩,⟨rfl,rfl⟩,⟨rfl,rfl⟩,⟨rfl,rfl⟩,⟨rfl,rfl⟩,⟨rfl,rfl⟩,⟨rfl,rfl⟩,⟨rfl,rfl⟩,⟨rfl,rfl⟩,⟨rfl,rfl⟩,⟨rfl,rfl⟩,trivial⟩ (by rfl) (by rfl) (Below.refl _ _).drew trivial
          trivial (itD_nil _ 0)
          trivial (fun vs=> ?_)
         refine⟨fun W' K' Q0 hI hD hK=> ?_,?_⟩
         ·skip
          go_simp
          exact hK.out _ _ rfl rfl
         simp only[Act.put,List.setIfInBounds_toArray,List.set_cons_zero,List.set_cons_succ,Sg.pick,Nat.reduceAdd]
         refine⟨fun W' K' Q0 hI hD hK=> ?_,?_⟩
         ·skip
          go_simp
          exact hK.out _ _ rfl rfl
         simp only[Act.put,List.setIfInBounds_toArray,List.set_cons_zero,List.set_cons_succ,Sg.pick,Nat.reduceAdd]
         refine⟨trivial,?_⟩
         simp only[Act.put,List.setIfInBounds_toArray,List.set_cons_zero,List.set_cons_succ,Sg.pick,Nat.reduceAdd]
         refine⟨trivial,?_⟩
         simp only[Act.put,List.setIfInBounds_toArray,List.set_cons_zero,List.set_cons_succ,Sg.pick,Nat.reduceAdd]
         refine⟨fun W' K' Q0 hI hD hK=> ?_,?_⟩
         ·skip
          go_simp
          exact hK.out _ _ rfl rfl
         simp only[Act.put,List.setIfInBounds_toArray,List.set_cons_zero,List.set_cons_succ,Sg.pick,Nat.reduceAdd]
         refine⟨fun W' K' Q0 hI hD hK=> ?_,?_⟩
         ·skip
          go_simp
          exact hK.out _ _ rfl rfl
         simp only[Act.put,List.setIfInBounds_toArray,List.set_cons_zero,List.set_cons_succ,Sg.pick,Nat.reduceAdd]
         refine⟨trivial,?_⟩
         simp only[Act.put,List.setIfInBounds_toArray,List.set_cons_zero,List.set_cons_succ,Sg.pick,Nat.reduceAdd]
         refine⟨trivial,?_⟩
         simp only[Act.put,List.setIfInBounds_toArray,List.set_cons_zero,List.set_cons_succ,Sg.pick,Nat.reduceAdd]
         refine⟨trivial,?_⟩
         simp only[Act.put,List.setIfInBounds_toArray,List.set_cons_zero,List.set_cons_succ,Sg.pick,Nat.reduceAdd]
         refine⟨trivial,?_⟩
         simp only[Act.put,List.setIfInBounds_toArray,List.set_cons_zero,List.set_cons_succ,Sg.pick,Nat.reduceAdd]
         refine⟨trivial,?_⟩
         simp only[Act.put,List.setIfInBounds_toArray,List.set_cons_zero,List.set_cons_succ,Sg.pick,Nat.reduceAdd]
         refine⟨fun W' K' Q0 hI hD hK=> ?_,?_⟩
         ·skip
          go_simp
          exact hK.out _ _ rfl rfl
         simp only[Act.put,List.setIfInBounds_toArray,List.set_cons_zero,List.set_cons_succ,Sg.pick,Nat.reduceAdd]
         refine⟨fun W' K' Q0 hI hD hK=> ?_,?_⟩
         ·skip
          go_simp
          exact hK.out _ _ rfl rfl
         simp only[Act.put,List.setIfInBounds_toArray,List.set_cons_zero,List.set_cons_succ,Sg.pick,Nat.reduceAdd]
         refine⟨trivial,?_⟩
         simp only[Act.put,List.setIfInBounds_toArray,List.set_cons_zero,List.set_cons_succ,Sg.pick,Nat.reduceAdd]
         refine⟨trivial,?_⟩
         simp only[Act.put,List.setIfInBounds_toArray,List.set_cons_zero,List.set_cons_succ,Sg.pick,Nat.reduceAdd]
         refine⟨trivial,?_⟩
         simp only[Act.put,List.setIfInBounds_toArray,List.set_cons_zero,List.set_cons_succ,Sg.pick,Nat.reduceAdd]
         refine⟨trivial,?_⟩
         simp only[Act.put,List.setIfInBounds_toArray,List.set_cons_zero,List.set_cons_succ,Sg.pick,Nat.reduceAdd]
         refine⟨fun W' K' Q0 hI hD hK=> ?_,?_⟩
         ·skip
          go_simp
          exact hK.out _ _ rfl rfl
         simp only[Act.put,List.setIfInBounds_toArray,List.set_cons_zero,List.set_cons_succ,Sg.pick,Nat.reduceAdd]
         intro W8 hI8 hD8
         have I8:=hDD hI8.out.1
         clear hI8 hD8
         go_wp2_with fail
         go_meet
         exact(I9.out.trans (BL.out.mono hs9)).trans (I8.out.mono (by have:=BL.out.size;omega))
        ·go_wp2_with fail
         refine wp_region_genG2 [2,3,6,7,8,9,10,13,14,15,16] [.val (.bool false), .val (.bool false), .val undef, .val undef, .val (.bool false), .val (.bool false), .val undef, .val undef, .val undef, .val undef, .val undef, .val (.bool false), .val (.bool false), .val undef, .val undef, .val undef, .val undef, .val (.bool false)]
          [none,none,none,none,none,none,none,none,none,none,none,none,none,none,none,none,none,none]
          (fun W=>Below wr.heap.size wr W) (fun _=>True) [] [] (by kernel_rfl) (by kernel_rfl) (by kernel_rfl)
          ⟨⟨rfl,rfl⟩,⟨rfl,rfl⟩,⟨rfl,rfl⟩,⟨rfl,rfl⟩,⟨rfl,rfl⟩,⟨rfl,rfl⟩,⟨rfl,rfl⟩,⟨rfl,rfl⟩,⟨rfl,rfl⟩,⟨rfl,rfl⟩,⟨rfl,rfl⟩,trivial⟩ (by rfl) (by rfl) (Below.refl _ _).drew trivial
          trivial (itD_nil _ 0)
          trivial (fun vs=> ?_)
         refine⟨fun W' K' Q0 hI hD hK=> ?_,?_⟩
         ·skip
          go_simp
          exact hK.out _ _ rfl rfl
         simp only[Act.put,List.setIfInBounds_toArray,List.set_cons_zero,List.set_cons_succ,Sg.pick,Nat.reduceAdd]
         refine⟨fun W' K' Q0 hI hD hK=> ?_,?_⟩
         ·skip
          go_simp
          exact hK.out _ _ rfl rfl
         simp only[Act.put,List.setIfInBounds_toArray,List.set_cons_zero,List.set_cons_succ,Sg.pick,Nat.reduceAdd]
         refine⟨trivial,?_⟩
         simp only[Act.put,List.setIfInBounds_toArray,List.set_cons_zero,List.set_cons_succ,Sg.pick,Nat.reduceAdd]
         refine⟨trivial,?_⟩
         simp only[Act.put,List.setIfInBounds_toArray,List.set_cons_zero,List.set_cons_succ,Sg.pick,Nat.reduceAdd]
         refine⟨fun W' K' Q0 hI hD hK=> ?_,?_⟩
         ·skip
          go_simp
          exact hK.out _ _ rfl rfl
         simp only[Act.put,List.setIfInBounds_toArray,List.set_cons_zero,List.set_cons_succ,Sg.pick,Nat.reduceAdd]
         refine⟨fun W' K' Q0 hI hD hK=> ?_,?_⟩
         ·skip
          go_simp
          exact hK.out _ _ rfl rfl
         simp only[Act.put,List.setIfInBounds_toArray,List.set_cons_zero,List.set_cons_succ,Sg.pick,Nat.reduceAdd]
         refine⟨trivial,?_⟩
         simp only[Act.put,List.setIfInBounds_toArray,List.set_cons_zero,List.set_cons_succ,Sg.pick,Nat.reduceAdd]
         refine⟨trivial,?_⟩
         simp only[Act.put,List.setIfInBounds_toArray,List.set_cons_zero,List.set_cons_succ,Sg.pick,Nat.reduceAdd]
         refine⟨trivial,?_⟩
         simp only[Act.put,List.setIfInBounds_toArray,List.set_cons_zero,List.set_cons_succ,Sg.pick,Nat.reduceAdd]
         refine⟨trivial,?_⟩
         simp only[Act.put,List.setIfInBounds_toArray,List.set_cons_zero,List.set_cons_succ,Sg.pick,Nat.reduceAdd]
         refine⟨trivial,?_⟩
         simp only[Act.put,List.setIfInBounds_toArray,List.set_cons_zero,List.set_cons_succ,Sg.pick,Nat.reduceAdd]
         refine⟨fun W' K' Q0 hI hD hK=> ?_,?_⟩
         ·skip
          go_simp
          exact hK.out _ _ rfl rfl
         simp only[Act.put,List.setIfInBounds_toArray,List.set_cons_zero,List.set_cons_succ,Sg.pick,Nat.reduceAdd]
         refine⟨fun W' K' Q0 hI hD hK=> ?_,?_⟩
         ·skip
          go_simp
          exact hK.out _ _ rfl rfl
         simp only[Act.put,List.setIfInBounds_toArray,List.set_cons_zero,List.set_cons_succ,Sg.pick,Nat.reduceAdd]
         refine⟨trivial,?_⟩
         simp only[Act.put,List.setIfInBounds_toArray,List.set_cons_zero,List.set_cons_succ,Sg.pick,Nat.reduceAdd]
         refine⟨trivial,?_⟩
         simp only[Act.put,List.setIfInBounds_toArray,List.set_cons_zero,List.set_cons_succ,Sg.pick,Nat.reduceAdd]
         refine⟨trivial,?_⟩
         simp only[Act.put,List.setIfInBounds_toArray,List.set_cons_zero,List.set_cons_succ,Sg.pick,Nat.reduceAdd]
         refine⟨trivial,?_⟩
         simp only[Act.put,List.setIfInBounds_toArray,List.set_cons_zero,List.set_cons_succ,Sg.pick,Nat.reduceAdd]
         refine⟨fun W' K' Q0 hI hD hK=> ?_,?_⟩
         ·skip
          go_simp
          exact hK.out _ _ rfl rfl
         simp only[Act.put,List.setIfInBounds_toArray,List.set_cons_zero,List.set_cons_succ,Sg.pick,Nat.reduceAdd]
         intro W8 hI8 hD8
         have I8:=hDD hI8.out.1
         clear hI8 hD8
         go_wp2_with fail
         go_meet
         exact(I9.out.trans (BL.out.mono hs9)).trans (I8.out.mono (by have:=BL.out.size;omega))
       ·have hie:i=L.length:=Classical.byContradiction fun h=>hgo ⟨by omega,rfl⟩
        have hltI: ¬(i:Int)<(L.length:Int):=by omega
        cases fd
        ·have HIN:=hDD (hin.out rfl)
         have HNO:=hDD (HNON.out hie rfl)
         have HRH:=hDD (fun W (h:ArgG W (.agg #[.int .i64 d1, .int .i64 d2, .slice A6 ds.length c6]) (d1,d2,ds))=>specRankOf_any _ (d1,d2,ds) W h)
         have HE2:=hDD (fun W (h:ArgG W (.agg #[.int .i64 d1, .int .i64 d2, .slice A6 ds.length c6]) (d1,d2,ds)) (h':ArgG W (.agg #[.int .i64 q1, .int .i64 q2, .slice A1 qs.length c1]) (q1,q2,qs))=>specEqualGraphs_any _ _ (d1,d2,ds) (q1,q2,qs) W h h')
         have HEE:Hid (rankF (d1,d2,ds)≤rq→decide ((d1,d2,ds)=(q1,q2,qs))=true):=hDD fun hr=>Classical.byContradiction fun hn=>by
          obtain⟨q,hq,h1,h2⟩:=HFN.out HIN.out hr (fun e=>hn (by rw[e];simp))
          exact HNO.out q hq ⟨h1,h2⟩
         clear HFN HNO HNON HIN hie hgo
         generalize rankF (d1,d2,ds)=rh at*
         generalize decide ((d1,d2,ds)=(q1,q2,qs))=eb at*
         go_wp2_with fail
         by_cases hr:rh≤rq
         ·obtain rfl:=HEE.out hr
          have hrb:decide (rh≤rq)=true:=decide_eq_true hr
          clear HEE
          refine wp_region_genG2 [] [.val (.bool true), .val (.bool true), .val (.bool false), .val (.bool true), .val (.bool true), .val (.bool true), .val (.agg #[.int .i64 d1, .int .i64 d2, .slice A6 ds.length c6]), .val (.int .i64 rh), .val (.agg #[.int .i64 q1, .int .i64 q2, .slice A1 qs.length c1]), .val (.int .i64 rq), .val (.bool true), .val (.bool true), .val (.bool true), .val (.agg #[.int .i64 d1, .int .i64 d2, .slice A6 ds.length c6]), .val (.agg #[.int .i64 q1, .int .i64 q2, .slice A1 qs.length c1]), .val (.bool true), .val (.bool false), .val (.bool false)]
           [none,none,none,none,none,none,none,some (fun W W'=>Below W.heap.size W W'),none,some (fun W W'=>Below W.heap.size W W'),none,none,none,none,none,some (fun W W'=>Below W.heap.size W W'),none,none]
           (fun W=>Below wr.heap.size wr W) (fun _=>True) [] [] (by kernel_rfl) (by kernel_rfl) (by kernel_rfl)
           trivial (by rfl) (by rfl) (Below.refl _ _).drew trivial
           ⟨fun _ _ h t=>h.trans (t.mono h.size),fun _ _ h t=>h.trans (t.mono h.size),fun _ _ h t=>h.trans (t.mono h.size),trivial⟩ (itD_nil _ 0)
           trivial (fun vs=> ?_)
          refine⟨fun W' K' Q0 hI hD hK=> ?_,?_⟩
          ·skip
           go_simp
           exact hK.out _ _ rfl rfl
          simp only[Act.put,List.setIfInBounds_toArray,List.set_cons_zero,List.set_cons_succ,Sg.pick,Nat.reduceAdd]
          refine⟨fun W' K' Q0 hI hD hK=> ?_,?_⟩
          ·skip
           go_simp
           exact hK.out _ _ rfl rfl
          simp only[Act.put,List.setIfInBounds_toArray,List.set_cons_zero,List.set_cons_succ,Sg.pick,Nat.reduceAdd]
          refine⟨fun W' K' Q0 hI hD hK=> ?_,?_⟩
          ·skip
           go_simp
           exact hK.out _ _ rfl rfl
          simp only[Act.put,List.setIfInBounds_toArray,List.set_cons_zero,List.set_cons_succ,Sg.pick,Nat.reduceAdd]
          refine⟨fun W' K' Q0 hI hD hK=> ?_,?_⟩
          ·skip
           go_simp
           exact hK.out _ _ rfl rfl
          simp only[Act.put,List.setIfInBounds_toArray,List.set_cons_zero,List.set_cons_succ,Sg.pick,Nat.reduceAdd]
          refine⟨fun W' K' Q0 hI hD hK=> ?_,?_⟩
          ·skip
           go_simp
           exact hK.out _ _ rfl rfl
          simp only[Act.put,List.setIfInBounds_toArray,List.set_cons_zero,List.set_cons_succ,Sg.pick,Nat.reduceAdd]
          refine⟨fun W' K' Q0 hI hD hK=> ?_,?_⟩
          ·skip
           go_simp
           exact hK.out _ _ rfl rfl
          simp only[Act.put,List.setIfInBounds_toArray,List.set_cons_zero,List.set_cons_succ,Sg.pick,Nat.reduceAdd]
          refine⟨fun W' K' Q0 hI hD hK=> ?_,?_⟩
          ·have z0:=(H.out.below hI.out.1).c0
           have z1:=(H.out.below hI.out.1).c1
           have z2:=(H.out.below hI.out.1).c2
           go_simp
           exact hK.out _ _ rfl rfl
          simp only[Act.put,List.setIfInBounds_toArray,List.set_cons_zero,List.set_cons_succ,Sg.pick,Nat.reduceAdd]
          refine⟨fun W' K' Q0 hI hD hK=> ?_,?_⟩
          ·skip
           go_simp
           refine(HRH.out _ (H.out.below hI.out.1).arg).mono ?_;rintro e w' ⟨rfl,b⟩;exact hK.out _ _ b rfl
          simp only[Act.put,List.setIfInBounds_toArray,List.set_cons_zero,List.set_cons_succ,Sg.pick,Nat.reduceAdd]
          refine⟨fun W' K' Q0 hI hD hK=> ?_,?_⟩
          ·have z0:=(G.out.below hI.out.1).c0
           have z1:=(G.out.below hI.out.1).c1
           have z2:=(G.out.below hI.out.1).c2
           go_simp
           exact hK.out _ _ rfl rfl
          simp only[Act.put,List.setIfInBounds_toArray,List.set_cons_zero,List.set_cons_succ,Sg.pick,Nat.reduceAdd]
          refine⟨fun W' K' Q0 hI hD hK=> ?_,?_⟩
          ·skip
           go_simp
           refine(HRQ.out _ (G.out.below hI.out.1).arg).mono ?_;rintro e w' ⟨rfl,b⟩;exact hK.out _ _ b rfl
          simp only[Act.put,List.setIfInBounds_toArray,List.set_cons_zero,List.set_cons_succ,Sg.pick,Nat.reduceAdd]
          refine⟨fun W' K' Q0 hI hD hK=> ?_,?_⟩
          ·skip
           go_simp
           exact hK.out _ _ rfl rfl
          simp only[Act.put,List.setIfInBounds_toArray,List.set_cons_zero,List.set_cons_succ,Sg.pick,Nat.reduceAdd]
          refine⟨fun W' K' Q0 hI hD hK=> ?_,?_⟩
          ·skip
           go_simp
           exact hK.out _ _ rfl rfl
          simp only[Act.put,List.setIfInBounds_toArray,List.set_cons_zero,List.set_cons_succ,Sg.pick,Nat.reduceAdd]
          refine⟨fun W' K' Q0 hI hD hK=> ?_,?_⟩
          ·skip
           go_simp
           exact hK.out _ _ rfl rfl
          simp only[Act.put,List.setIfInBounds_toArray,List.set_cons_zero,List.set_cons_succ,Sg.pick,Nat.reduceAdd]
          refine⟨fun W' K' Q0 hI hD hK=> ?_,?_⟩
          ·have z0:=(H.out.below hI.out.1).c0
           have z1:=(H.out.below hI.out.1).c1
           have z2:=(H.out.below hI.out.1).c2
           go_simp
           exact hK.out _ _ rfl rfl
          simp only[Act.put,List.setIfInBounds_toArray,List.set_cons_zero,List.set_cons_succ,Sg.pick,Nat.reduceAdd]
          refine⟨fun W' K' Q0 hI hD hK=> ?_,?_⟩
          ·have z0:=(G.out.below hI.out.1).c0
           have z1:=(G.out.below hI.out.1).c1
           have z2:=(G.out.below hI.out.1).c2
           go_simp
           exact hK.out _ _ rfl rfl
          simp only[Act.put,List.setIfInBounds_toArray,List.set_cons_zero,List.set_cons_succ,Sg.pick,Nat.reduceAdd]
          refine⟨fun W' K' Q0 hI hD hK=> ?_,?_⟩
          ·skip
           go_simp
           refine(HE2.out _ (H.out.below hI.out.1).arg (G.out.below hI.out.1).arg).mono ?_;rintro e w' ⟨rfl,b⟩;exact hK.out _ _ b rfl
          simp only[Act.put,List.setIfInBounds_toArray,List.set_cons_zero,List.set_cons_succ,Sg.pick,Nat.reduceAdd]
          refine⟨fun W' K' Q0 hI hD hK=> ?_,?_⟩
          ·skip
           go_simp
           exact hK.out _ _ rfl rfl
          simp only[Act.put,List.setIfInBounds_toArray,List.set_cons_zero,List.set_cons_succ,Sg.pick,Nat.reduceAdd]
          refine⟨fun W' K' Q0 hI hD hK=> ?_,?_⟩
          ·skip
           go_simp
           exact hK.out _ _ rfl rfl
          simp only[Act.put,List.setIfInBounds_toArray,List.set_cons_zero,List.set_cons_succ,Sg.pick,Nat.reduceAdd]
          intro W8 hI8 hD8
          have I8:=hDD hI8.out.1
          clear hI8 hD8
          go_wp2_with fail
          go_meet
          exact(I9.out.trans (BL.out.mono hs9)).trans (I8.out.mono (by have:=BL.out.size;omega))
         ·have hrb:decide (rh≤rq)=false:=decide_eq_false hr
          clear HEE
          refine wp_region_genG2 [13,14,15,16] [.val (.bool true), .val (.bool true), .val (.bool false), .val (.bool true), .val (.bool true), .val (.bool true), .val (.agg #[.int .i64 d1, .int .i64 d2, .slice A6 ds.length c6]), .val (.int .i64 rh), .val (.agg #[.int .i64 q1, .int .i64 q2, .slice A1 qs.length c1]), .val (.int .i64 rq), .val (.bool false), .val (.bool false), .val (.bool false), .val undef, .val undef, .val undef, .val undef, .val (.bool false)]
           [none,none,none,none,none,none,none,some (fun W W'=>Below W.heap.size W W'),none,some (fun W W'=>Below W.heap.size W W'),none,none,none,none,none,none,none,none]
           (fun W=>Below wr.heap.size wr W) (fun _=>True) [] [] (by kernel_rfl) (by kernel_rfl) (by kernel_rfl)
           ⟨⟨rfl,rfl⟩,⟨rfl,rfl⟩,⟨rfl,rfl⟩,⟨rfl,rfl⟩,trivial⟩ (by rfl) (by rfl) (Below.refl _ _).drew trivial
           ⟨fun _ _ h t=>h.trans (t.mono h.size),fun _ _ h t=>h.trans (t.mono h.size),trivial⟩ (itD_nil _ 0)
           trivial (fun vs=> ?_)
          refine⟨fun W' K' Q0 hI hD hK=> ?_,?_⟩
          ·skip
           go_simp
           exact hK.out _ _ rfl rfl
          simp only[Act.put,List.setIfInBounds_toArray,List.set_cons_zero,List.set_cons_succ,Sg.pick,Nat.reduceAdd]
          refine⟨fun W' K' Q0 hI hD hK=> ?_,?_⟩
          ·skip
           go_simp
           exact hK.out _ _ rfl rfl
          simp only[Act.put,List.setIfInBounds_toArray,List.set_cons_zero,List.set_cons_succ,Sg.pick,Nat.reduceAdd]
          refine⟨fun W' K' Q0 hI hD hK=> ?_,?_⟩
          ·skip
           go_simp
           exact hK.out _ _ rfl rfl
          simp only[Act.put,List.setIfInBounds_toArray,List.set_cons_zero,List.set_cons_succ,Sg.pick,Nat.reduceAdd]
          refine⟨fun W' K' Q0 hI hD hK=> ?_,?_⟩
          ·skip
           go_simp
           exact hK.out _ _ rfl rfl
          simp only[Act.put,List.setIfInBounds_toArray,List.set_cons_zero,List.set_cons_succ,Sg.pick,Nat.reduceAdd]
          refine⟨fun W' K' Q0 hI hD hK=> ?_,?_⟩
          ·skip
           go_simp
           exact hK.out _ _ rfl rfl
          simp only[Act.put,List.setIfInBounds_toArray,List.set_cons_zero,List.set_cons_succ,Sg.pick,Nat.reduceAdd]
          refine⟨fun W' K' Q0 hI hD hK=> ?_,?_⟩
          ·skip
           go_simp
           exact hK.out _ _ rfl rfl
          simp only[Act.put,List.setIfInBounds_toArray,List.set_cons_zero,List.set_cons_succ,Sg.pick,Nat.reduceAdd]
          refine⟨fun W' K' Q0 hI hD hK=> ?_,?_⟩
          ·have z0:=(H.out.below hI.out.1).c0
           have z1:=(H.out.below hI.out.1).c1
           have z2:=(H.out.below hI.out.1).c2
           go_simp
           exact hK.out _ _ rfl rfl
          simp only[Act.put,List.setIfInBounds_toArray,List.set_cons_zero,List.set_cons_succ,Sg.pick,Nat.reduceAdd]
          refine⟨fun W' K' Q0 hI hD hK=> ?_,?_⟩
          ·skip
           go_simp
           refine(HRH.out _ (H.out.below hI.out.1).arg).mono ?_;rintro e w' ⟨rfl,b⟩;exact hK.out _ _ b rfl
          simp only[Act.put,List.setIfInBounds_toArray,List.set_cons_zero,List.set_cons_succ,Sg.pick,Nat.reduceAdd]
          refine⟨fun W' K' Q0 hI hD hK=> ?_,?_⟩
          ·have z0:=(G.out.below hI.out.1).c0
           have z1:=(G.out.below hI.out.1).c1
           have z2:=(G.out.below hI.out.1).c2
           go_simp
           exact hK.out _ _ rfl rfl
          simp only[Act.put,List.setIfInBounds_toArray,List.set_cons_zero,List.set_cons_succ,Sg.pick,Nat.reduceAdd]
          refine⟨fun W' K' Q0 hI hD hK=> ?_,?_⟩
          ·skip
           go_simp
           refine(HRQ.out _ (G.out.below hI.out.1).arg).mono ?_;rintro e w' ⟨rfl,b⟩;exact hK.out _ _ b rfl
          simp only[Act.put,List.setIfInBounds_toArray,List.set_cons_zero,List.set_cons_succ,Sg.pick,Nat.reduceAdd]
          refine⟨fun W' K' Q0 hI hD hK=> ?_,?_⟩
          ·skip
           go_simp
           exact hK.out _ _ rfl rfl
          simp only[Act.put,List.setIfInBounds_toArray,List.set_cons_zero,List.set_cons_succ,Sg.pick,Nat.reduceAdd]
          refine⟨fun W' K' Q0 hI hD hK=> ?_,?_⟩
          ·skip
           go_simp
           exact hK.out _ _ rfl rfl
          simp only[Act.put,List.setIfInBounds_toArray,List.set_cons_zero,List.set_cons_succ,Sg.pick,Nat.reduceAdd]
          refine⟨fun W' K' Q0 hI hD hK=> ?_,?_⟩
          ·skip
           go_simp
           exact hK.out _ _ rfl rfl
          simp only[Act.put,List.setIfInBounds_toArray,List.set_cons_zero,List.set_cons_succ,Sg.pick,Nat.reduceAdd]
          refine⟨trivial,?_⟩
          simp only[Act.put,List.setIfInBounds_toArray,List.set_cons_zero,List.set_cons_succ,Sg.pick,Nat.reduceAdd]
          refine⟨trivial,?_⟩
          simp only[Act.put,List.setIfInBounds_toArray,List.set_cons_zero,List.set_cons_succ,Sg.pick,Nat.reduceAdd]
          refine⟨trivial,?_⟩
          simp only[Act.put,List.setIfInBounds_toArray,List.set_cons_zero,List.set_cons_succ,Sg.pick,Nat.reduceAdd]
          refine⟨trivial,?_⟩
          simp only[Act.put,List.setIfInBounds_toArray,List.set_cons_zero,List.set_cons_succ,Sg.pick,Nat.reduceAdd]
          refine⟨fun W' K' Q0 hI hD hK=> ?_,?_⟩
          ·skip
           go_simp
           exact hK.out _ _ rfl rfl
          simp only[Act.put,List.setIfInBounds_toArray,List.set_cons_zero,List.set_cons_succ,Sg.pick,Nat.reduceAdd]
          intro W8 hI8 hD8
          have I8:=hDD hI8.out.1
          clear hI8 hD8
          go_wp2_with fail
          go_meet
          exact(I9.out.trans (BL.out.mono hs9)).trans (I8.out.mono (by have:=BL.out.size;omega))
        ·clear HNON hie hgo
         go_wp2_with fail
         refine wp_region_genG2 [6,7,8,9,10,13,14,15,16] [.val (.bool true), .val (.bool true), .val (.bool true), .val (.bool false), .val (.bool false), .val (.bool false), .val undef, .val undef, .val undef, .val undef, .val undef, .val (.bool false), .val (.bool false), .val undef, .val undef, .val undef, .val undef, .val (.bool false)]
          [none,none,none,none,none,none,none,none,none,none,none,none,none,none,none,none,none,none]
          (fun W=>Below wr.heap.size wr W) (fun _=>True) [] [] (by kernel_rfl) (by kernel_rfl) (by kernel_rfl)
          ⟨⟨rfl,rfl⟩,⟨rfl,rfl⟩,⟨rfl,rfl⟩,⟨rfl,rfl⟩,⟨rfl,rfl⟩,⟨rfl,rfl⟩,⟨rfl,rfl⟩,⟨rfl,rfl⟩,⟨rfl,rfl⟩,trivial⟩ (by rfl) (by rfl) (Below.refl _ _).drew trivial
          trivial (itD_nil _ 0)
          trivial (fun vs=> ?_)
         refine⟨fun W' K' Q0 hI hD hK=> ?_,?_⟩
         ·skip
          go_simp
          exact hK.out _ _ rfl rfl
         simp only[Act.put,List.setIfInBounds_toArray,List.set_cons_zero,List.set_cons_succ,Sg.pick,Nat.reduceAdd]
         refine⟨fun W' K' Q0 hI hD hK=> ?_,?_⟩
         ·skip
          go_simp
          exact hK.out _ _ rfl rfl
         simp only[Act.put,List.setIfInBounds_toArray,List.set_cons_zero,List.set_cons_succ,Sg.pick,Nat.reduceAdd]
         refine⟨fun W' K' Q0 hI hD hK=> ?_,?_⟩
         ·skip
          go_simp
          exact hK.out _ _ rfl rfl
         simp only[Act.put,List.setIfInBounds_toArray,List.set_cons_zero,List.set_cons_succ,Sg.pick,Nat.reduceAdd]
         refine⟨fun W' K' Q0 hI hD hK=> ?_,?_⟩
         ·skip
          go_simp
          exact hK.out _ _ rfl rfl
         simp only[Act.put,List.setIfInBounds_toArray,List.set_cons_zero,List.set_cons_succ,Sg.pick,Nat.reduceAdd]
         refine⟨fun W' K' Q0 hI hD hK=> ?_,?_⟩
         ·skip
          go_simp
          exact hK.out _ _ rfl rfl
         simp only[Act.put,List.setIfInBounds_toArray,List.set_cons_zero,List.set_cons_succ,Sg.pick,Nat.reduceAdd]
         refine⟨fun W' K' Q0 hI hD hK=> ?_,?_⟩
         ·skip
          go_simp
          exact hK.out _ _ rfl rfl
         simp only[Act.put,List.setIfInBounds_toArray,List.set_cons_zero,List.set_cons_succ,Sg.pick,Nat.reduceAdd]
         refine⟨trivial,?_⟩
         simp only[Act.put,List.setIfInBounds_toArray,List.set_cons_zero,List.set_cons_succ,Sg.pick,Nat.reduceAdd]
         refine⟨trivial,?_⟩
         simp only[Act.put,List.setIfInBounds_toArray,List.set_cons_zero,List.set_cons_succ,Sg.pick,Nat.reduceAdd]
         refine⟨trivial,?_⟩
         simp only[Act.put,List.setIfInBounds_toArray,List.set_cons_zero,List.set_cons_succ,Sg.pick,Nat.reduceAdd]
         refine⟨trivial,?_⟩
         simp only[Act.put,List.setIfInBounds_toArray,List.set_cons_zero,List.set_cons_succ,Sg.pick,Nat.reduceAdd]
         refine⟨trivial,?_⟩
         simp only[Act.put,List.setIfInBounds_toArray,List.set_cons_zero,List.set_cons_succ,Sg.pick,Nat.reduceAdd]
         refine⟨fun W' K' Q0 hI hD hK=> ?_,?_⟩
         ·skip
          go_simp
          exact hK.out _ _ rfl rfl
         simp only[Act.put,List.setIfInBounds_toArray,List.set_cons_zero,List.set_cons_succ,Sg.pick,Nat.reduceAdd]
         refine⟨fun W' K' Q0 hI hD hK=> ?_,?_⟩
         ·skip
          go_simp
          exact hK.out _ _ rfl rfl
         simp only[Act.put,List.setIfInBounds_toArray,List.set_cons_zero,List.set_cons_succ,Sg.pick,Nat.reduceAdd]
         refine⟨trivial,?_⟩
         simp only[Act.put,List.setIfInBounds_toArray,List.set_cons_zero,List.set_cons_succ,Sg.pick,Nat.reduceAdd]
         refine⟨trivial,?_⟩
         simp only[Act.put,List.setIfInBounds_toArray,List.set_cons_zero,List.set_cons_succ,Sg.pick,Nat.reduceAdd]
         refine⟨trivial,?_⟩
         simp only[Act.put,List.setIfInBounds_toArray,List.set_cons_zero,List.set_cons_succ,Sg.pick,Nat.reduceAdd]
         refine⟨trivial,?_⟩
         simp only[Act.put,List.setIfInBounds_toArray,List.set_cons_zero,List.set_cons_succ,Sg.pick,Nat.reduceAdd]
         refine⟨fun W' K' Q0 hI hD hK=> ?_,?_⟩
         ·skip
          go_simp
          exact hK.out _ _ rfl rfl
         simp only[Act.put,List.setIfInBounds_toArray,List.set_cons_zero,List.set_cons_succ,Sg.pick,Nat.reduceAdd]
         intro W8 hI8 hD8
         have I8:=hDD hI8.out.1
         clear hI8 hD8
         go_wp2_with fail
         go_meet
         exact(I9.out.trans (BL.out.mono hs9)).trans (I8.out.mono (by have:=BL.out.size;omega))
   case rest=>as_aux_lemma=>
    have b:=hcut
    clear hcut HCB HFD HRQ G K
    replace V:=hDD (V.out.below b)
    replace BZ:=hDD (BZ.out.trans (b.mono BZ.out.size))
    clear b
    rename World=>wd
    have HDL:=hDD (fun W (h:ArgC W (.slice A0 x0.length c0) x0)=>drawLis_any _ x0 W h hl')
    go_wp2_with fail
    refine(HDL.out _ V.out).mono ?_
    rintro e we ⟨lv,gv,LL,⟨m1,m2,ms⟩,rfl,oL,hL4,⟨s,rfl,jm1,jm2,oem⟩,b⟩
    obtain⟨Am,cm,rfl,-⟩:=oem.form
    have M:=oL.arg
    obtain⟨AL,cL,rfl⟩:=M.form
    simp only at jm1 jm2 oem⊢
    replace M:=hDD M
    have OEM:=hDD oem
    replace BZ:=hDD (BZ.out.trans (b.mono BZ.out.size))
    clear oem oL b V HDL
    obtain⟨W2,hW2⟩: ∃W,W=we.alloc (Obj.cells #[Value.int IntKind.i64 m1,Value.int IntKind.i64 m2, .slice Am ms.length cm] 26):=⟨_,rfl⟩
    have g2:=GBx.new (m:=(m1,m2,ms)) OEM.out jm1 jm2 hW2
    obtain⟨-,b2,s2⟩:=CBx.new hW2
    have X:=hDD g2
    replace M:=hDD (M.out.below b2)
    replace BZ:=hDD (BZ.out.trans (b2.mono BZ.out.size))
    have HT1:=hDD (fun W (h:ArgGS W (.slice AL LL.length cL) LL)=>implInclusionTable_any _ LL W h (by omega))
    have HT2:=hDD (fun W (h:ArgGS W (.slice AL LL.length cL) LL)=>specInclusionTable_any _ LL W h (by omega))
    have HL1:=hDD (fun W (h:ArgGS W (.slice AL LL.length cL) LL) (h':ArgG W (.agg #[.int .i64 m1, .int .i64 m2, .slice Am ms.length cm]) (m1,m2,ms))=>implIsListed_any _ _ LL (m1,m2,ms) W h h')
    have HL2:=hDD (fun W (h:ArgGS W (.slice AL LL.length cL) LL) (h':ArgG W (.agg #[.int .i64 m1, .int .i64 m2, .slice Am ms.length cm]) (m1,m2,ms))=>specIsListed_any _ _ LL (m1,m2,ms) W h h')
    have HR1:=hDD (fun W (h:ArgGS W (.slice AL LL.length cL) LL)=>implLeastRank_any _ LL W h)
    have HR2:=hDD (fun W (h:ArgGS W (.slice AL LL.length cL) LL)=>specLeastRank_any _ LL W h)
    have HM1:=hDD (fun W (h:ArgGS W (.slice AL LL.length cL) LL)=>implMaximalOnes_any _ LL W h (by omega))
    have HM2:=hDD (fun W (h:ArgGS W (.slice AL LL.length cL) LL)=>specMaximalOnes_any _ LL W h (by omega))
    generalize incF LL=TB at*
    generalize inG LL (m1,m2,ms)=il at*
    generalize leastR LL=lr at*
    generalize maxF LL=MX at*
    go_wp2_with fail
    rw[←hW2]
    clear hW2 g2 b2 OEM jm1 jm2
    generalize we.heap.size=xb at*
    refine(HT1.out _ M.out).mono ?_
    rintro e wf ⟨tv,rfl,oT,b⟩
    have T1:BBr wf tv TB:=⟨_,_,oT,Nat.le_refl _⟩
    obtain⟨AT,cT,rfl,hTc,hTm⟩:=T1.form
    replace T1:=hDD T1
    replace M:=hDD (M.out.below b)
    replace X:=hDD (X.out.below b)
    replace BZ:=hDD (BZ.out.trans (b.mono BZ.out.size))
    clear oT b HT1
    go_wp2_with fail
    refine(HT2.out _ M.out).mono ?_
    rintro e wg ⟨tv,rfl,oT,b⟩
    have T2:BBr wg tv TB:=⟨_,_,oT,Nat.le_refl _⟩
    obtain⟨AU,cU,rfl,hUc,hUm⟩:=T2.form
    replace T2:=hDD T2
    replace T1:=hDD (T1.out.below b)
    replace M:=hDD (M.out.below b)
    replace X:=hDD (X.out.below b)
    replace BZ:=hDD (BZ.out.trans (b.mono BZ.out.size))
    clear oT b HT2
    unfold maxLen at hTm
    go_upto_region 25 with fail
    go_cut [168] (fun s wx=>s= .bool false∧Below wg.heap.size wg wx)
    case first=>as_aux_lemma=>
     refine wp_region_genG2 [] [.val (.slice AT TB.length cT), .val (.int .i64 TB.length), .val (.slice AU TB.length cU), .val (.int .i64 TB.length), .val (.bool false), .val (.bool false), .val (.slice AL LL.length cL), .val (.agg #[.int .i64 m1, .int .i64 m2, .slice Am ms.length cm]), .val (.bool il), .val (.slice AL LL.length cL), .val (.agg #[.int .i64 m1, .int .i64 m2, .slice Am ms.length cm]), .val (.bool il), .val (.bool false), .val (.bool false), .val (.bool false), .val (.slice AL LL.length cL), .val (.int .i64 lr), .val (.slice AL LL.length cL), .val (.int .i64 lr), .val (.bool false), .val (.bool false), .val (.bool false), .val (.slice AL LL.length cL), .mem (fun _ W v=> ∃A c,v= .slice A MX.length c∧RdI W v MX), .val (.slice AL LL.length cL), .mem (fun _ W v=> ∃A c,v= .slice A MX.length c∧RdI W v MX), .val (.bool true), .val (.bool false), .val (.bool false)]
      [none,none,none,none,none,none,none,none,some (fun W W'=>Below W.heap.size W W'),none,none,some (fun W W'=>Below W.heap.size W W'),none,none,none,none,some (fun W W'=>Below W.heap.size W W'),none,some (fun W W'=>Below W.heap.size W W'),none,none,none,none,some (fun W W'=>Below W.heap.size W W'),none,some (fun W W'=>Below W.heap.size W W'),some (fun W W'=>Below W.heap.size W W'),none,none]
      (fun W=>Below wg.heap.size wg W) (fun _=>True) [] [(23,25),(23,26),(25,26)] (by kernel_rfl) (by kernel_rfl) (by kernel_rfl)
      trivial (by rfl) (by rfl) (Below.refl _ _).drew trivial
      ⟨fun _ _ h t=>h.trans (t.mono h.size),fun _ _ h t=>h.trans (t.mono h.size),fun _ _ h t=>h.trans (t.mono h.size),fun _ _ h t=>h.trans (t.mono h.size),fun _ _ h t=>h.trans (t.mono h.size),fun _ _ h t=>h.trans (t.mono h.size),fun _ _ h t=>h.trans (t.mono h.size),trivial⟩ (itD_nil _ 0)
      ⟨fun _ _ _ _ _ _ t h=>by obtain⟨A,c,e,h⟩:=h;exact⟨A,c,e,h.below t⟩,fun _ _ _ _ _ _ t h=>by obtain⟨A,c,e,h⟩:=h;exact⟨A,c,e,h.below t⟩,fun _ _ _ _ _ _ t h=>by obtain⟨A,c,e,h⟩:=h;exact⟨A,c,e,h.below t⟩,trivial⟩ (fun vs=> ?_)
     refine⟨fun W' K' Q0 hI hD hK=> ?_,?_⟩
     ·skip
      go_simp
      exact hK.out _ _ rfl rfl
     simp only[Act.put,List.setIfInBounds_toArray,List.set_cons_zero,List.set_cons_succ,Sg.pick,Nat.reduceAdd]
     refine⟨fun W' K' Q0 hI hD hK=> ?_,?_⟩
     ·skip
      go_simp
      exact hK.out _ _ rfl rfl
     simp only[Act.put,List.setIfInBounds_toArray,List.set_cons_zero,List.set_cons_succ,Sg.pick,Nat.reduceAdd]
     refine⟨fun W' K' Q0 hI hD hK=> ?_,?_⟩
     ·skip
      go_simp
      exact hK.out _ _ rfl rfl
     simp only[Act.put,List.setIfInBounds_toArray,List.set_cons_zero,List.set_cons_succ,Sg.pick,Nat.reduceAdd]
     refine⟨fun W' K' Q0 hI hD hK=> ?_,?_⟩
     ·skip
      go_simp
      exact hK.out _ _ rfl rfl
     simp only[Act.put,List.setIfInBounds_toArray,List.set_cons_zero,List.set_cons_succ,Sg.pick,Nat.reduceAdd]
     refine⟨fun W' K' Q0 hI hD hK=> ?_,?_⟩
     ·skip
      go_simp
      exact hK.out _ _ rfl rfl
     simp only[Act.put,List.setIfInBounds_toArray,List.set_cons_zero,List.set_cons_succ,Sg.pick,Nat.reduceAdd]
     refine⟨fun W' K' Q0 hI hD hK=> ?_,?_⟩
     ·skip
      go_simp
      exact hK.out _ _ rfl rfl
     simp only[Act.put,List.setIfInBounds_toArray,List.set_cons_zero,List.set_cons_succ,Sg.pick,Nat.reduceAdd]
     refine⟨fun W' K' Q0 hI hD hK=> ?_,?_⟩
     ·skip
      go_simp
      exact hK.out _ _ rfl rfl
     simp only[Act.put,List.setIfInBounds_toArray,List.set_cons_zero,List.set_cons_succ,Sg.pick,Nat.reduceAdd]
     refine⟨fun W' K' Q0 hI hD hK=> ?_,?_⟩
     ·have z0:=(X.out.below hI.out.1).c0
      have z1:=(X.out.below hI.out.1).c1
      have z2:=(X.out.below hI.out.1).c2
      go_simp
      exact hK.out _ _ rfl rfl
     simp only[Act.put,List.setIfInBounds_toArray,List.set_cons_zero,List.set_cons_succ,Sg.pick,Nat.reduceAdd]
     refine⟨fun W' K' Q0 hI hD hK=> ?_,?_⟩
     ·skip
      go_simp
      refine(HL1.out _ (M.out.below hI.out.1) (X.out.below hI.out.1).arg).mono ?_;rintro e w' ⟨rfl,b⟩;exact hK.out _ _ b rfl
     simp only[Act.put,List.setIfInBounds_toArray,List.set_cons_zero,List.set_cons_succ,Sg.pick,Nat.reduceAdd]
     refine⟨fun W' K' Q0 hI hD hK=> ?_,?_⟩
     ·skip
      go_simp
      exact hK.out _ _ rfl rfl
     simp only[Act.put,List.setIfInBounds_toArray,List.set_cons_zero,List.set_cons_succ,Sg.pick,Nat.reduceAdd]
     refine⟨fun W' K' Q0 hI hD hK=> ?_,?_⟩
     ·have z0:=(X.out.below hI.out.1).c0
      have z1:=(X.out.below hI.out.1).c1
      have z2:=(X.out.below hI.out.1).c2
      go_simp
      exact hK.out _ _ rfl rfl
     simp only[Act.put,List.setIfInBounds_toArray,List.set_cons_zero,List.set_cons_succ,Sg.pick,Nat.reduceAdd]
     refine⟨fun W' K' Q0 hI hD hK=> ?_,?_⟩
     ·skip
      go_simp
      refine(HL2.out _ (M.out.below hI.out.1) (X.out.below hI.out.1).arg).mono ?_;rintro e w' ⟨rfl,b⟩;exact hK.out _ _ b rfl
     simp only[Act.put,List.setIfInBounds_toArray,List.set_cons_zero,List.set_cons_succ,Sg.pick,Nat.reduceAdd]
     refine⟨fun W' K' Q0 hI hD hK=> ?_,?_⟩
     ·skip
      go_simp
      exact hK.out _ _ rfl rfl
     simp only[Act.put,List.setIfInBounds_toArray,List.set_cons_zero,List.set_cons_succ,Sg.pick,Nat.reduceAdd]
     refine⟨fun W' K' Q0 hI hD hK=> ?_,?_⟩
     ·skip
      go_simp
      exact hK.out _ _ rfl rfl
     simp only[Act.put,List.setIfInBounds_toArray,List.set_cons_zero,List.set_cons_succ,Sg.pick,Nat.reduceAdd]
     refine⟨fun W' K' Q0 hI hD hK=> ?_,?_⟩
     ·skip
      go_simp
      exact hK.out _ _ rfl rfl
     simp only[Act.put,List.setIfInBounds_toArray,List.set_cons_zero,List.set_cons_succ,Sg.pick,Nat.reduceAdd]
     refine⟨fun W' K' Q0 hI hD hK=> ?_,?_⟩
     ·skip
      go_simp
      exact hK.out _ _ rfl rfl
     simp only[Act.put,List.setIfInBounds_toArray,List.set_cons_zero,List.set_cons_succ,Sg.pick,Nat.reduceAdd]
     refine⟨fun W' K' Q0 hI hD hK=> ?_,?_⟩
     ·skip
      go_simp
      refine(HR1.out _ (M.out.below hI.out.1)).mono ?_;rintro e w' ⟨rfl,b⟩;exact hK.out _ _ b rfl
     simp only[Act.put,List.setIfInBounds_toArray,List.set_cons_zero,List.set_cons_succ,Sg.pick,Nat.reduceAdd]
     refine⟨fun W' K' Q0 hI hD hK=> ?_,?_⟩
     ·skip
      go_simp
      exact hK.out _ _ rfl rfl
     simp only[Act.put,List.setIfInBounds_toArray,List.set_cons_zero,List.set_cons_succ,Sg.pick,Nat.reduceAdd]
     refine⟨fun W' K' Q0 hI hD hK=> ?_,?_⟩
     ·skip
      go_simp
      refine(HR2.out _ (M.out.below hI.out.1)).mono ?_;rintro e w' ⟨rfl,b⟩;exact hK.out _ _ b rfl
     simp only[Act.put,List.setIfInBounds_toArray,List.set_cons_zero,List.set_cons_succ,Sg.pick,Nat.reduceAdd]
     refine⟨fun W' K' Q0 hI hD hK=> ?_,?_⟩
     ·skip
      go_simp
      exact hK.out _ _ rfl rfl
     simp only[Act.put,List.setIfInBounds_toArray,List.set_cons_zero,List.set_cons_succ,Sg.pick,Nat.reduceAdd]
     refine⟨fun W' K' Q0 hI hD hK=> ?_,?_⟩
     ·skip
      go_simp
      exact hK.out _ _ rfl rfl
     simp only[Act.put,List.setIfInBounds_toArray,List.set_cons_zero,List.set_cons_succ,Sg.pick,Nat.reduceAdd]
     refine⟨fun W' K' Q0 hI hD hK=> ?_,?_⟩
     ·skip
      go_simp
      exact hK.out _ _ rfl rfl
     simp only[Act.put,List.setIfInBounds_toArray,List.set_cons_zero,List.set_cons_succ,Sg.pick,Nat.reduceAdd]
     refine⟨fun W' K' Q0 hI hD hK=> ?_,?_⟩
     ·skip
      go_simp
      exact hK.out _ _ rfl rfl
     simp only[Act.put,List.setIfInBounds_toArray,List.set_cons_zero,List.set_cons_succ,Sg.pick,Nat.reduceAdd]
     refine⟨fun W' K' Q0 hI hD hK=> ?_,?_⟩
     ·skip
      go_simp
      refine(HM1.out _ (M.out.below hI.out.1)).mono ?_;rintro e w' ⟨o,rfl,oo,b⟩;obtain⟨A,c,rfl,-⟩:=oo.form;exact hK.out _ _ b ⟨A,c,rfl,oo.rd⟩
     simp only[Act.put,List.setIfInBounds_toArray,List.set_cons_zero,List.set_cons_succ,Sg.pick,Nat.reduceAdd]
     refine⟨fun W' K' Q0 hI hD hK=> ?_,?_⟩
     ·skip
      go_simp
      exact hK.out _ _ rfl rfl
     simp only[Act.put,List.setIfInBounds_toArray,List.set_cons_zero,List.set_cons_succ,Sg.pick,Nat.reduceAdd]
     refine⟨fun W' K' Q0 hI hD hK=> ?_,?_⟩
     ·skip
      go_simp
      refine(HM2.out _ (M.out.below hI.out.1)).mono ?_;rintro e w' ⟨o,rfl,oo,b⟩;obtain⟨A,c,rfl,-⟩:=oo.form;exact hK.out _ _ b ⟨A,c,rfl,oo.rd⟩
     simp only[Act.put,List.setIfInBounds_toArray,List.set_cons_zero,List.set_cons_succ,Sg.pick,Nat.reduceAdd]
     refine⟨fun W' K' Q0 hI hD hK=> ?_,?_⟩
     ·obtain⟨Ax,cx,ex,lx⟩:=(show ∃A c,vs 23= .slice A MX.length c∧RdI W' (vs 23) MX from hD.out 23 (by kernel_rfl))
      rw[ex] at lx
      obtain⟨Ay,cy,ey,ly⟩:=(show ∃A c,vs 25= .slice A MX.length c∧RdI W' (vs 25) MX from hD.out 25 (by kernel_rfl))
      rw[ey] at ly
      rw[ex,ey] at hK⊢
      go_simp
      refine(sameI _ _ MX MX _ lx ly).mono ?_;rintro e w' ⟨rfl,b⟩;simp only[decide_true];exact hK.out _ _ b rfl
     simp only[Act.put,List.setIfInBounds_toArray,List.set_cons_zero,List.set_cons_succ,Sg.pick,Nat.reduceAdd]
     refine⟨fun W' K' Q0 hI hD hK=> ?_,?_⟩
     ·skip
      go_simp
      exact hK.out _ _ rfl rfl
     simp only[Act.put,List.setIfInBounds_toArray,List.set_cons_zero,List.set_cons_succ,Sg.pick,Nat.reduceAdd]
     refine⟨fun W' K' Q0 hI hD hK=> ?_,?_⟩
     ·skip
      go_simp
      exact hK.out _ _ rfl rfl
     simp only[Act.put,List.setIfInBounds_toArray,List.set_cons_zero,List.set_cons_succ,Sg.pick,Nat.reduceAdd]
     intro W9 hI9 hD9
     have I9:=hDD hI9.out.1
     clear hI9 hD9
     go_wp2_with fail
     go_meet
     exact⟨rfl,I9.out⟩
    case rest=>as_aux_lemma=>
     obtain⟨rfl,b⟩:=hcut
     replace T1:=hDD (T1.out.below b)
     replace T2:=hDD (T2.out.below b)
     replace BZ:=hDD (BZ.out.trans (b.mono BZ.out.size))
     clear b HL1 HL2 HR1 HR2 HM1 HM2 M X
     rename World=>wh
     go_wp2_with fail
     go_loopw [17] (fun iv wr=> ∃i:Nat,i≤TB.length∧iv= .int .i64 i∧Below wh.heap.size wh wr) (fun iv _=>TB.length-(intOf iv).toNat)
     case atStart=>exact⟨0,Nat.zero_le _,rfl,Below.refl _ _⟩
     case round=>
      obtain⟨i,hi,rfl,hB⟩:=hrel
      have hsb:=hB.size
      have BL:=hDD hB
      replace T1:=hDD (T1.out.below hB)
      replace T2:=hDD (T2.out.below hB)
      replace BZ:=hDD (BZ.out.trans (hB.mono BZ.out.size))
      clear hB
      by_cases hlt:i<TB.length
      ·have hltI:(i:Int)<(TB.length:Int):=by omega
       obtain⟨ta,Ba,ca,rfl,hta,yt,ot⟩:=T1.out.at hlt
       obtain⟨ua,Bu,cu,rfl,hua,yu,ou⟩:=T2.out.at hlt
       have OT:=hDD ot
       have OU:=hDD ou
       clear ot ou
       generalize TB[i]=row at*
       obtain⟨_,_,hrw,hrc,hrm,_⟩:=OT.out.form
       injection hrw with h1 h2 h3
       subst h3
       clear h1 h2
       unfold maxLen at hrm
       have hwk:IntKind.i64.wrap ((i:Int)+1)=((i+1:Nat):Int):=by rw[IntKind.wrap_i64];omega
       rename World=>wi
       go_wp2_with fail
       go_loopw [18] (fun kv wr=> ∃k:Nat,k≤row.length∧kv= .int .i64 k∧Below wi.heap.size wi wr) (fun kv _=>row.length-(intOf kv).toNat)
       case atStart=>exact⟨0,Nat.zero_le _,rfl,Below.refl _ _⟩
       case round=>
        obtain⟨k,hk,rfl,hB⟩:=hrel
        have hsk:=hB.size
        have BK:=hDD hB
        have zt:=(hB.cell (p:=⟨ta,i,none⟩) hta).trans yt
        have zu:=(hB.cell (p:=⟨ua,i,none⟩) hua).trans yu
        replace OT:=hDD (OT.out.below hB)
        replace OU:=hDD (OU.out.below hB)
        clear hB
        by_cases hkt:k<row.length
        ·have hkI:(k:Int)<(row.length:Int):=by omega
         have hkG: ¬row.length≤k:=by omega
         have hkH:decide (row.length≤k)=false:=decide_eq_false hkG
         obtain⟨pa,rfl,hpa,xa⟩:=b_at OT.out hkt
         obtain⟨pu,rfl,hpu,xu⟩:=b_at OU.out hkt
         have hwl:IntKind.i64.wrap ((k:Int)+1)=((k+1:Nat):Int):=by rw[IntKind.wrap_i64];omega
         generalize row[k]=bv at*
         go_wp2_with fail
         refine wp_region_genG2 [] [.val (.int .i64 k), .val (.slice (some ⟨ua,0,none⟩) TB.length cU), .val (.int .i64 i), .val (.pointer (some ⟨ua,i,none⟩)), .val (.slice (some ⟨pu,0,none⟩) row.length cu), .val (.int .i64 row.length), .val (.bool false), .val (.bool false), .val (.slice (some ⟨ta,0,none⟩) TB.length cT), .val (.int .i64 i), .val (.pointer (some ⟨ta,i,none⟩)), .val (.slice (some ⟨pa,0,none⟩) row.length ca), .val (.int .i64 k), .val (.pointer (some ⟨pa,k,none⟩)), .val (.bool bv), .val (.slice (some ⟨ua,0,none⟩) TB.length cU), .val (.int .i64 i), .val (.pointer (some ⟨ua,i,none⟩)), .val (.slice (some ⟨pu,0,none⟩) row.length cu), .val (.int .i64 k), .val (.pointer (some ⟨pu,k,none⟩)), .val (.bool bv), .val (.bool false), .val (.bool false)]
          [none,none,none,none,none,none,none,none,none,none,none,none,none,none,none,none,none,none,none,none,none,none,none,none]
          (fun W=>Below wr.heap.size wr W) (fun _=>True) [] [] (by kernel_rfl) (by kernel_rfl) (by kernel_rfl)
          trivial (by rfl) (by rfl) (Below.refl _ _).drew trivial
          trivial (itD_nil _ 0)
          trivial (fun vs=> ?_)
         refine⟨fun W' K' Q0 hI hD hK=> ?_,?_⟩
         ·skip
          go_simp
          exact hK.out _ _ rfl rfl
         simp only[Act.put,List.setIfInBounds_toArray,List.set_cons_zero,List.set_cons_succ,Sg.pick,Nat.reduceAdd]
         refine⟨fun W' K' Q0 hI hD hK=> ?_,?_⟩
         ·skip
          go_simp
          exact hK.out _ _ rfl rfl
         simp only[Act.put,List.setIfInBounds_toArray,List.set_cons_zero,List.set_cons_succ,Sg.pick,Nat.reduceAdd]
         refine⟨fun W' K' Q0 hI hD hK=> ?_,?_⟩
         ·skip
          go_simp
          exact hK.out _ _ rfl rfl
         simp only[Act.put,List.setIfInBounds_toArray,List.set_cons_zero,List.set_cons_succ,Sg.pick,Nat.reduceAdd]
         refine⟨fun W' K' Q0 hI hD hK=> ?_,?_⟩
         ·skip
          go_simp
          exact hK.out _ _ rfl rfl
         simp only[Act.put,List.setIfInBounds_toArray,List.set_cons_zero,List.set_cons_succ,Sg.pick,Nat.reduceAdd]
         refine⟨fun W' K' Q0 hI hD hK=> ?_,?_⟩
         ·have z0:=(hI.out.1.cell (p:=⟨ua,i,none⟩) (Nat.lt_of_lt_of_le hua hsk)).trans zu
          go_simp
          exact hK.out _ _ rfl rfl
         simp only[Act.put,List.setIfInBounds_toArray,List.set_cons_zero,List.set_cons_succ,Sg.pick,Nat.reduceAdd]
         refine⟨fun W' K' Q0 hI hD hK=> ?_,?_⟩
         ·skip
          go_simp
          exact hK.out _ _ rfl rfl
         simp only[Act.put,List.setIfInBounds_toArray,List.set_cons_zero,List.set_cons_succ,Sg.pick,Nat.reduceAdd]
         refine⟨fun W' K' Q0 hI hD hK=> ?_,?_⟩
         ·skip
          go_simp
          exact hK.out _ _ rfl rfl
         simp only[Act.put,List.setIfInBounds_toArray,List.set_cons_zero,List.set_cons_succ,Sg.pick,Nat.reduceAdd]
         refine⟨fun W' K' Q0 hI hD hK=> ?_,?_⟩
         ·skip
          go_simp
          exact hK.out _ _ rfl rfl
         simp only[Act.put,List.setIfInBounds_toArray,List.set_cons_zero,List.set_cons_succ,Sg.pick,Nat.reduceAdd]
         refine⟨fun W' K' Q0 hI hD hK=> ?_,?_⟩
         ·skip
          go_simp
          exact hK.out _ _ rfl rfl
         simp only[Act.put,List.setIfInBounds_toArray,List.set_cons_zero,List.set_cons_succ,Sg.pick,Nat.reduceAdd]
         refine⟨fun W' K' Q0 hI hD hK=> ?_,?_⟩
         ·skip
          go_simp
          exact hK.out _ _ rfl rfl
         simp only[Act.put,List.setIfInBounds_toArray,List.set_cons_zero,List.set_cons_succ,Sg.pick,Nat.reduceAdd]
         refine⟨fun W' K' Q0 hI hD hK=> ?_,?_⟩
         ·skip
          go_simp
          exact hK.out _ _ rfl rfl
         simp only[Act.put,List.setIfInBounds_toArray,List.set_cons_zero,List.set_cons_succ,Sg.pick,Nat.reduceAdd]
         refine⟨fun W' K' Q0 hI hD hK=> ?_,?_⟩
         ·have z0:=(hI.out.1.cell (p:=⟨ta,i,none⟩) (Nat.lt_of_lt_of_le hta hsk)).trans zt
          go_simp
          exact hK.out _ _ rfl rfl
         simp only[Act.put,List.setIfInBounds_toArray,List.set_cons_zero,List.set_cons_succ,Sg.pick,Nat.reduceAdd]
         refine⟨fun W' K' Q0 hI hD hK=> ?_,?_⟩
         ·skip
          go_simp
          exact hK.out _ _ rfl rfl
         simp only[Act.put,List.setIfInBounds_toArray,List.set_cons_zero,List.set_cons_succ,Sg.pick,Nat.reduceAdd]
         refine⟨fun W' K' Q0 hI hD hK=> ?_,?_⟩
         ·skip
          go_simp
          exact hK.out _ _ rfl rfl
         simp only[Act.put,List.setIfInBounds_toArray,List.set_cons_zero,List.set_cons_succ,Sg.pick,Nat.reduceAdd]
         refine⟨fun W' K' Q0 hI hD hK=> ?_,?_⟩
         ·have z0:=(hI.out.1.cell (p:=⟨pa,k,none⟩) hpa).trans xa
          go_simp
          exact hK.out _ _ rfl rfl
         simp only[Act.put,List.setIfInBounds_toArray,List.set_cons_zero,List.set_cons_succ,Sg.pick,Nat.reduceAdd]
         refine⟨fun W' K' Q0 hI hD hK=> ?_,?_⟩
         ·skip
          go_simp
          exact hK.out _ _ rfl rfl
         simp only[Act.put,List.setIfInBounds_toArray,List.set_cons_zero,List.set_cons_succ,Sg.pick,Nat.reduceAdd]
         refine⟨fun W' K' Q0 hI hD hK=> ?_,?_⟩
         ·skip
          go_simp
          exact hK.out _ _ rfl rfl
         simp only[Act.put,List.setIfInBounds_toArray,List.set_cons_zero,List.set_cons_succ,Sg.pick,Nat.reduceAdd]
         refine⟨fun W' K' Q0 hI hD hK=> ?_,?_⟩
         ·skip
          go_simp
          exact hK.out _ _ rfl rfl
         simp only[Act.put,List.setIfInBounds_toArray,List.set_cons_zero,List.set_cons_succ,Sg.pick,Nat.reduceAdd]
         refine⟨fun W' K' Q0 hI hD hK=> ?_,?_⟩
         ·have z0:=(hI.out.1.cell (p:=⟨ua,i,none⟩) (Nat.lt_of_lt_of_le hua hsk)).trans zu
          go_simp
          exact hK.out _ _ rfl rfl
         simp only[Act.put,List.setIfInBounds_toArray,List.set_cons_zero,List.set_cons_succ,Sg.pick,Nat.reduceAdd]
         refine⟨fun W' K' Q0 hI hD hK=> ?_,?_⟩
         ·skip
          go_simp
          exact hK.out _ _ rfl rfl
         simp only[Act.put,List.setIfInBounds_toArray,List.set_cons_zero,List.set_cons_succ,Sg.pick,Nat.reduceAdd]
         refine⟨fun W' K' Q0 hI hD hK=> ?_,?_⟩
         ·skip
          go_simp
          exact hK.out _ _ rfl rfl
         simp only[Act.put,List.setIfInBounds_toArray,List.set_cons_zero,List.set_cons_succ,Sg.pick,Nat.reduceAdd]
         refine⟨fun W' K' Q0 hI hD hK=> ?_,?_⟩
         ·have z0:=(hI.out.1.cell (p:=⟨pu,k,none⟩) hpu).trans xu
          go_simp
          exact hK.out _ _ rfl rfl
         simp only[Act.put,List.setIfInBounds_toArray,List.set_cons_zero,List.set_cons_succ,Sg.pick,Nat.reduceAdd]
         refine⟨fun W' K' Q0 hI hD hK=> ?_,?_⟩
         ·skip
          go_simp
          exact hK.out _ _ rfl rfl
         simp only[Act.put,List.setIfInBounds_toArray,List.set_cons_zero,List.set_cons_succ,Sg.pick,Nat.reduceAdd]
         refine⟨fun W' K' Q0 hI hD hK=> ?_,?_⟩
         ·skip
          go_simp
          exact hK.out _ _ rfl rfl
         simp only[Act.put,List.setIfInBounds_toArray,List.set_cons_zero,List.set_cons_succ,Sg.pick,Nat.reduceAdd]
         intro W8 hI8 hD8
         have I8:=hDD hI8.out.1
         clear hI8 hD8
         replace BK:=hDD (BK.out.trans (I8.out.mono hsk))
         go_wp2
         go_roundw
         case rel=>exact⟨k+1,by omega,by go_num,BK.out⟩
         case measure=>(simp[intOf];omega)
        ·have hkI: ¬(k:Int)<(row.length:Int):=by omega
         replace BL:=hDD (BL.out.trans (BK.out.mono hsb))
         go_wp2
         go_roundw
         case rel=>exact⟨i+1,by omega,by go_num,BL.out⟩
         case measure=>(simp[intOf];omega)
      ·have hltI: ¬(i:Int)<(TB.length:Int):=by omega
       go_wp2
       go_ret
       exact⟨rfl,BZ.out⟩
set_option maxRecDepth 100000 in
theorem lifted (os:Os) (started:os.Started) (H:Type) (enc:TypeId×Value→H):
  ReturnsInHanded {} Tryz.checked os 5 .any (Rows.fnOvergroupsSpec.pre6 enc Tryz.prog Tryz.f5 Rows.fnOvergroupsRow.domain false) (Rows.fnOvergroupsSpec.post enc Tryz.prog Tryz.f5 false true false false):=by
 refine returnsInHanded_of_change (C:=Tryz.checked) own started (by kernel_rfl) Tryz.func5
  (ChangeSpec.witness6 (enc:=enc) (C:=Tryz.checked) false ⟨#[],#[.slice none 0 0],[]⟩ 8 (by kernel_rfl) (by kernel_rfl) (by kernel_rfl) (by kernel_rfl)) ?_
 intro W base args ds gs before hval0 hW hcnd _
 have hval: ∀(j:Nat) t v,Tryz.f5.params[j]? =some t→args[j]? =some v→Value.okWide Tryz.prog W .any base t v:=hval0
 have hW':=hW
 obtain⟨p,q,hA0,hV,rfl,hfz,hnd⟩:=hW
 have hA:DataW.TrodAll enc Tryz.prog W 0 (fun _=>true) true Tryz.f5.params.toList args.toList ds p:=hA0
 rw[Tryz.params5] at hA hval
 obtain⟨v0,vs0,d0,ds0,p0,q0,hargs,rfl,rfl,h0,r0⟩:=trodAll_cons hA
 obtain⟨rfl,rfl,rfl⟩:=trodAll_nil r0
 obtain rfl:args= #[v0]:=by cases args;simp_all
 obtain⟨rfl,rfl⟩:=trodVars_none hV
 have k0:=h0
 have lt0: ∀x∈p0,x.block<W.heap.size:=by obtain⟨m,hm⟩:=k0;exact DataW.trod_lt m _ _ _ hm
 obtain⟨x0,a0⟩:=open_argB (hval 0 22 v0 rfl rfl) h0
 clear hA0 hval0
 refine(walk v0 x0 W a0).mono fun e W' ⟨he,bel⟩=> ?_
 subst he
 exact⟨_,rfl,_,_,_,[],_,[],hW',trodAll_mk1 (shut_bool Tryz.underlying4 _),(trodAll_cons_mk (Below.trod laidOut (by kernel_rfl) (of_decide_eq_true (by kernel_rfl)) k0 bel lt0) trodAll_mk0),rfl,bel.frame _,fun h=>by cases h⟩
theorem proved:Rows.FnOvergroupsSaid:=
 OpenClaim.holds_of_wide 5 Tryz.f5 rfl rfl rfl rfl rfl rfl rfl ⟨rfl,rfl,rfl,rfl,rfl⟩ rfl rfl rfl rfl rfl (by as_aux_lemma=>kernel_rfl) Tryz.func5 closed
  (of_decide_eq_true (by as_aux_lemma=>kernel_rfl)) (by unfold Func.isWrapper;first | (rw[if_pos (by decide+kernel)];kernel_rfl) | (rw[if_neg (by decide+kernel)];exact⟨rfl,rfl⟩))
  (fun os started H enc _=>lifted os started H enc)
#print axioms proved
end Go.Proofs.YtnjpoljbagfdnaaGreat.fnOvergroups
