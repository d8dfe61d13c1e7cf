/- The law FnNormal. -/
import Derived.Test.YteobmaambgmdbaaGreatN07
import Derived.Test.YteobmaambgmdbaaGreatN08
import Derived.Test.YteobmaambgmdbaaGreatN09
import Derived.Test.YteobmaambgmdbaaGreatRows
import Derived.Test.YteobmaambgmdbaaGreatCloFnNormal
import Derived.Lib.SmallJoins
import Derived.Deep.DeepCutAuto
namespace Go.Proofs.YteobmaambgmdbaaGreat.fnNormal
set_option maxRecDepth 20000
set_option linter.unusedVariables false
set_option linter.unusedSimpArgs false
open Go.ChangeShapes Go.WideShapes Go.ChangeAt Go.RowKit
open Go.ChangeMaps (open_string shut_string)
theorem lsw_rd {w:World} {v:Value} {L:List (List Int)} (h:LsW w v L):RdII w v L:=by
 obtain⟨lo,hi,h,hh⟩:=h
 exact h.rd
theorem nrm_at {g:GrD} {i:Nat} (hi:i<(nrmL g).length):(nrmL g)[i].length≤40∧((conjF g (nrmL g)[i]).2=true→(conjF g (nrmL g)[i]).1=g):=by
 have hm:=List.getElem_mem hi
 generalize (nrmL g)[i]=x at*
 unfold nrmL at hm
 split at hm
 ·rename_i hf
  obtain⟨v,hv,rfl⟩:=List.mem_map.1 hm
  obtain⟨h1,h2⟩:=List.mem_filter.1 hv
  rw[List.mem_range] at h1
  rw[decide_eq_true_eq] at h2
  have hc:=fin_coreB hf
  have hg:=(core_parts hc).1
  have:=wd_len hg (core_all hc (v:=(v:Int)) ⟨by omega,by omega⟩)
  exact⟨by omega,fun hs=>conj_wd ⟨by omega,by omega⟩ (by rw[Int.toNat_natCast];exact h2) hs⟩
 ·cases hm
theorem nrm_len40 (g:GrD):(nrmL g).length≤40:=by
 unfold nrmL
 split
 ·rename_i hf
  have hsz:=(grB_parts (core_parts (fin_coreB hf)).1).2.1
  rw[List.length_map]
  have:=List.length_filter_le (fun (v:Nat)=>decide (movG g v=g)) (List.range g.2.1.toNat)
  rw[List.length_range] at this
  omega
 ·simp
def BoxG (W:World) (p:Nat):Prop:=(∃x y z,CBx W p x y z)∧ ∃cs,W.heap[p]? =some (.cells cs 26 (0,0))
theorem box_new (w:World) (o:Obj):(w.alloc o).heap[w.heap.size]? =some o:=by
 show(w.heap.push o)[w.heap.size]? =some o
 simp
theorem BoxG.below {W W':World} {p:Nat} (h:BoxG W p) (hb:Below W.heap.size W W'):BoxG W' p:=by
 obtain⟨⟨x,y,z,hx⟩,cs,hc⟩:=h
 exact⟨⟨x,y,z,hx.below hb⟩,cs,(hb.block p hx.lt).trans hc⟩
theorem BoxG.set3 {W:World} {p q:Nat} (h:BoxG W p) (a b c:Value):BoxG (((W.setCell ⟨q,0,none⟩ a).setCell ⟨q,1,none⟩ b).setCell ⟨q,2,none⟩ c) p:=by
 obtain⟨⟨x,y,z,hx⟩,cs,hc⟩:=h
 by_cases e:p=q
 ·subst e
  exact⟨⟨_,_,_,hx.setv a b c⟩,_,Go.Joins.block_setCell (Go.Joins.block_setCell (Go.Joins.block_setCell hc a) b) c⟩
 ·exact⟨⟨_,_,_,hx.other e⟩,cs,(set3_heap W q a b c e).trans hc⟩
theorem BoxG.ne {W:World} {p base:Nat} {A:Option Addr} {c:Nat} {es:List EdD} (h:BoxG W p) (o:OwE W base (.slice A es.length c) es): ∀b,(Value.slice A es.length c).ownBlock=some b→b≠p:=fun b hb e=>by
 subst e
 obtain⟨_,cs,hc⟩:=h
 rcases o.1.2 with ⟨h0,_⟩ | ⟨g,cap,cur,hv,_,hh,_⟩
 ·rw[h0] at hb
  cases hb
 ·rw[hv] at hb
  simp only[Value.ownBlock,Option.some.injEq] at hb
  subst hb
  rw[hh] at hc
  injection hc with hc
  injection hc with _ ht _
  exact absurd ht (by decide)
set_option maxRecDepth 100000 in
set_option maxHeartbeats 16000000 in
theorem walk (v0:Value) (x0:List Int) (w:World) (h0:ArgC w v0 x0):
  Calls Tryz.prog 5 #[v0] w fun e w'=>e= .returned (.bool true)∧Below w.heap.size w w':=by
 have HBIG:=hDD (big_any v0 x0 w h0)
 have V:=hDD h0
 obtain⟨A0,c0,rfl,_⟩:=h0
 by_cases hl:(1048576:Int)<x0.length
 ·have hd:decide ((1048576:Int)<x0.length)=true:=decide_eq_true hl
  rw[hd] at HBIG
  clear hd hl
  go_enter Tryz.func5,Tryz.ntmps5
  go_wp2_with fail
  refine HBIG.out.mono ?_
  rintro e w1 ⟨rfl,rfl⟩
  go_wp2
  go_ret
  exact⟨rfl,Below.refl _ _⟩
 have hd:decide ((1048576:Int)<x0.length)=false:=decide_eq_false hl
 rw[hd] at HBIG
 have hl':x0.length≤1048576:=by omega
 clear hd hl
 go_enter Tryz.func5,Tryz.ntmps5
 go_wp2_with fail
 refine HBIG.out.mono ?_
 rintro e w1 ⟨rfl,rfl⟩
 go_wp2_with fail
 refine(drawCon_any _ x0 _ V.out hl').mono ?_
 rintro e w1 ⟨gv,⟨q1,q2,qs⟩,rfl,⟨s1,rfl,j1,j2,oe1⟩,hql,b1⟩
 obtain⟨A1,c1,rfl,_⟩:=oe1.form
 simp only at j1 j2 oe1 hql⊢
 have BZ:=hDD b1
 replace V:=hDD (V.out.below b1)
 have OE1:=hDD oe1
 clear oe1 b1
 obtain⟨W2,hW2⟩: ∃W,W=w1.alloc (Obj.cells #[Value.int IntKind.i64 q1,Value.int IntKind.i64 q2, .slice A1 qs.length c1] 26):=⟨_,rfl⟩
 have g2:=GBx.new (m:=(q1,q2,qs)) OE1.out j1 j2 hW2
 obtain⟨-,b2,s2⟩:=CBx.new hW2
 have G:=hDD g2
 replace V:=hDD (V.out.below b2)
 replace BZ:=hDD (BZ.out.trans (b2.mono BZ.out.size))
 have HCI:=hDD (fun W (h:ArgG W (.agg #[.int .i64 q1, .int .i64 q2, .slice A1 qs.length c1]) (q1,q2,qs))=>implConjugatesOf_any _ (q1,q2,qs) W h)
 have HCS:=hDD (fun W (h:ArgG W (.agg #[.int .i64 q1, .int .i64 q2, .slice A1 qs.length c1]) (q1,q2,qs))=>specConjugatesOf_any _ (q1,q2,qs) W h)
 have HNI:=hDD (fun W (h:ArgG W (.agg #[.int .i64 q1, .int .i64 q2, .slice A1 qs.length c1]) (q1,q2,qs))=>implNormalizerWords_any _ (q1,q2,qs) W h)
 have HNS:=hDD (fun W (h:ArgG W (.agg #[.int .i64 q1, .int .i64 q2, .slice A1 qs.length c1]) (q1,q2,qs))=>specNormalizerWords_any _ (q1,q2,qs) W h)
 have HMI:=hDD (fun W (h:ArgG W (.agg #[.int .i64 q1, .int .i64 q2, .slice A1 qs.length c1]) (q1,q2,qs))=>implIsNormal_any _ (q1,q2,qs) W h)
 have HMS:=hDD (fun W (h:ArgG W (.agg #[.int .i64 q1, .int .i64 q2, .slice A1 qs.length c1]) (q1,q2,qs))=>specIsNormal_any _ (q1,q2,qs) W h)
 have HIF:=hDD (fun W (h:ArgG W (.agg #[.int .i64 q1, .int .i64 q2, .slice A1 qs.length c1]) (q1,q2,qs))=>specIsFiniteIndex_any _ (q1,q2,qs) W h)
 have HCN:Hid (finB (q1,q2,qs)=true→(((conF (q1,q2,qs)).length*(nrmL (q1,q2,qs)).length:Nat):Int)=q2∧norB (q1,q2,qs)=decide ((conF (q1,q2,qs)).length=1)):=hDD fun h=>by
  have hsz:=(grB_parts (core_parts (fin_coreB h)).1).2.1
  have:=con_nrm h
  simp only at this hsz
  exact⟨by omega,nor_con h⟩
 have HI64:Hid (I64 q2):=hDD j2
 have HNA:=hDD (fun i (hi:i<(nrmL (q1,q2,qs)).length)=>nrm_at hi)
 have HSJ:=hDD (fun va y (t:List Int) W (h:ArgG W va (q1,q2,qs)) (ht:RdI W y t) (hl:t.length≤1073741824)=>specConjugateSubgroup_any va y (q1,q2,qs) t W h ht hl)
 have HL40:=hDD (nrm_len40 (q1,q2,qs))
 generalize conF (q1,q2,qs)=L at*
 generalize nrmL (q1,q2,qs)=D at*
 generalize norB (q1,q2,qs)=nb at*
 generalize finB (q1,q2,qs)=fb at*
 go_wp2_with fail
 rw[←hW2]
 clear hW2 g2 b2 OE1
 generalize w1.heap.size=gb at*
 refine(HCI.out _ G.out.arg).mono ?_
 rintro e w3 ⟨lv,rfl,oo,b⟩
 have M:=oo.arg
 obtain⟨AL,cL,rfl⟩:=M.form
 replace M:=hDD M
 clear HCI oo
 replace V:=hDD (V.out.below b)
 replace G:=hDD (G.out.below b)
 replace BZ:=hDD (BZ.out.trans (b.mono BZ.out.size))
 clear b
 have u0:=G.out.c0
 have u1:=G.out.c1
 have u2:=G.out.c2
 simp only at u0 u1 u2
 go_wp2_with fail
 refine(HNI.out _ G.out.arg).mono ?_
 rintro e w4 ⟨lv,rfl,oo,b⟩
 have K:=lsw_rd ⟨_,_,oo,Nat.le_refl _⟩
 obtain⟨AD,cD,rfl,-⟩:=K.form
 replace K:=hDD K
 clear HNI oo u0 u1 u2
 replace V:=hDD (V.out.below b)
 replace G:=hDD (G.out.below b)
 replace M:=hDD (M.out.below b)
 replace BZ:=hDD (BZ.out.trans (b.mono BZ.out.size))
 clear b
 go_upto_region 6 with fail
 go_cut [39] (fun s wx=>s= .bool false∧Below w4.heap.size w4 wx)
 case first=>as_aux_lemma=>
  clear HCN HIF HNA HSJ HL40
  refine wp_region_genG2 [] [.val (.slice AL L.length cL), .val (.agg #[.int .i64 q1, .int .i64 q2, .slice A1 qs.length c1]), .mem (fun _ W v=> ∃A c,v= .slice A L.length c∧ArgGS W v L), .val (.bool true), .val (.bool false), .val (.bool false), .val (.slice AD D.length cD), .val (.agg #[.int .i64 q1, .int .i64 q2, .slice A1 qs.length c1]), .mem (fun _ W v=> ∃A c,v= .slice A D.length c∧LsW W v D), .val (.bool true), .val (.bool false), .val (.bool false), .val (.bool false), .val (.agg #[.int .i64 q1, .int .i64 q2, .slice A1 qs.length c1]), .val (.bool nb), .val (.agg #[.int .i64 q1, .int .i64 q2, .slice A1 qs.length c1]), .val (.bool nb), .val (.bool false), .val (.bool false)]
   [none,none,some (fun W W'=>Below W.heap.size W W'),some (fun W W'=>Below W.heap.size W W'),none,none,none,none,some (fun W W'=>Below W.heap.size W W'),some (fun W W'=>Below W.heap.size W W'),none,none,none,none,some (fun W W'=>Below W.heap.size W W'),none,some (fun W W'=>Below W.heap.size W W'),none,none]
   (fun W=>Below w4.heap.size w4 W) (fun _=>True) [] [(2,3),(2,8),(2,9),(2,14),(2,16),(8,9),(8,14),(8,16)] (by kernel_rfl) (by kernel_rfl) (by kernel_rfl)
   trivial (by rfl) (by rfl) (Below.refl _ _).drew trivial
   ⟨fun _ _ h t=>h.trans (t.mono h.size),fun _ _ h t=>h.trans (t.mono h.size),fun _ _ h t=>h.trans (t.mono h.size),fun _ _ h t=>h.trans (t.mono h.size),fun _ _ h t=>h.trans (t.mono h.size),fun _ _ h t=>h.trans (t.mono h.size),trivial⟩ (itD_nil _ 0)
   ⟨fun _ _ _ _ _ _ t h=>by obtain⟨A,c,e,h⟩:=h;exact⟨A,c,e,h.below t⟩,
    fun _ _ _ _ _ _ t h=>by obtain⟨A,c,e,h⟩:=h;exact⟨A,c,e,h.below t⟩,
    fun _ _ _ _ _ _ t h=>by obtain⟨A,c,e,h⟩:=h;exact⟨A,c,e,h.below t⟩,
    fun _ _ _ _ _ _ t h=>by obtain⟨A,c,e,h⟩:=h;exact⟨A,c,e,h.below t⟩,
    fun _ _ _ _ _ _ t h=>by obtain⟨A,c,e,h⟩:=h;exact⟨A,c,e,h.below t⟩,
    fun _ _ _ _ _ _ t h=>by obtain⟨A,c,e,h⟩:=h;exact⟨A,c,e,h.below t⟩,
    fun _ _ _ _ _ _ t h=>by obtain⟨A,c,e,h⟩:=h;exact⟨A,c,e,h.below t⟩,
    fun _ _ _ _ _ _ t h=>by obtain⟨A,c,e,h⟩:=h;exact⟨A,c,e,h.below t⟩,
    trivial⟩ (fun vs=> ?_)
  refine⟨fun W' K' Q0 hI hD hK=> ?_,?_⟩
  ·skip
   go_simp
   exact hK.out _ _ rfl rfl
  simp only[Act.put,List.setIfInBounds_toArray,List.set_cons_zero,List.set_cons_succ,Sg.pick,Nat.reduceAdd]
  refine⟨fun W' K' Q0 hI hD hK=> ?_,?_⟩
  ·have z0:=(G.out.below hI.out.1).c0
   have z1:=(G.out.below hI.out.1).c1
   have z2:=(G.out.below hI.out.1).c2
   go_simp
   exact hK.out _ _ rfl rfl
  simp only[Act.put,List.setIfInBounds_toArray,List.set_cons_zero,List.set_cons_succ,Sg.pick,Nat.reduceAdd]
  refine⟨fun W' K' Q0 hI hD hK=> ?_,?_⟩
  ·skip
   go_simp
   refine(HCS.out _ (G.out.below hI.out.1).arg).mono ?_;rintro e w' ⟨o,rfl,oo,b⟩;have oa:=oo.arg;obtain⟨A,c,rfl⟩:=oa.form;exact hK.out _ _ b ⟨A,c,rfl,oa⟩
  simp only[Act.put,List.setIfInBounds_toArray,List.set_cons_zero,List.set_cons_succ,Sg.pick,Nat.reduceAdd]
  refine⟨fun W' K' Q0 hI hD hK=> ?_,?_⟩
  ·obtain⟨Ax,cx,ex,lx⟩:=(show ∃A c,vs 2= .slice A L.length c∧ArgGS W' (vs 2) L from hD.out 2 (by kernel_rfl))
   rw[ex] at lx
   rw[ex] at hK⊢
   go_simp
   refine(sameGraphs_any _ _ L _ (M.out.below hI.out.1) lx).mono ?_;rintro e w' ⟨rfl,b⟩;exact hK.out _ _ b rfl
  simp only[Act.put,List.setIfInBounds_toArray,List.set_cons_zero,List.set_cons_succ,Sg.pick,Nat.reduceAdd]
  refine⟨fun W' K' Q0 hI hD hK=> ?_,?_⟩
  ·skip
   go_simp
   exact hK.out _ _ rfl rfl
  simp only[Act.put,List.setIfInBounds_toArray,List.set_cons_zero,List.set_cons_succ,Sg.pick,Nat.reduceAdd]
  refine⟨fun W' K' Q0 hI hD hK=> ?_,?_⟩
  ·skip
   go_simp
   exact hK.out _ _ rfl rfl
  simp only[Act.put,List.setIfInBounds_toArray,List.set_cons_zero,List.set_cons_succ,Sg.pick,Nat.reduceAdd]
  refine⟨fun W' K' Q0 hI hD hK=> ?_,?_⟩
  ·skip
   go_simp
   exact hK.out _ _ rfl rfl
  simp only[Act.put,List.setIfInBounds_toArray,List.set_cons_zero,List.set_cons_succ,Sg.pick,Nat.reduceAdd]
  refine⟨fun W' K' Q0 hI hD hK=> ?_,?_⟩
  ·have z0:=(G.out.below hI.out.1).c0
   have z1:=(G.out.below hI.out.1).c1
   have z2:=(G.out.below hI.out.1).c2
   go_simp
   exact hK.out _ _ rfl rfl
  simp only[Act.put,List.setIfInBounds_toArray,List.set_cons_zero,List.set_cons_succ,Sg.pick,Nat.reduceAdd]
  refine⟨fun W' K' Q0 hI hD hK=> ?_,?_⟩
  ·skip
   go_simp
   refine(HNS.out _ (G.out.below hI.out.1).arg).mono ?_;rintro e w' ⟨o,rfl,oo,b⟩;obtain⟨A,c,rfl⟩:=(show LsW w' o D from⟨_,_,oo,Nat.le_refl _⟩).form;exact hK.out _ _ b ⟨A,c,rfl,⟨_,_,oo,Nat.le_refl _⟩⟩
  simp only[Act.put,List.setIfInBounds_toArray,List.set_cons_zero,List.set_cons_succ,Sg.pick,Nat.reduceAdd]
  refine⟨fun W' K' Q0 hI hD hK=> ?_,?_⟩
  ·obtain⟨Ax,cx,ex,lx⟩:=(show ∃A c,vs 8= .slice A D.length c∧LsW W' (vs 8) D from hD.out 8 (by kernel_rfl))
   rw[ex] at lx
   rw[ex] at hK⊢
   go_simp
   refine(sameWordsR_any _ _ D D _ (K.out.below hI.out.1) (lsw_rd lx)).mono ?_;rintro e w' ⟨rfl,b⟩;simp only[decide_true];exact hK.out _ _ b rfl
  simp only[Act.put,List.setIfInBounds_toArray,List.set_cons_zero,List.set_cons_succ,Sg.pick,Nat.reduceAdd]
  refine⟨fun W' K' Q0 hI hD hK=> ?_,?_⟩
  ·skip
   go_simp
   exact hK.out _ _ rfl rfl
  simp only[Act.put,List.setIfInBounds_toArray,List.set_cons_zero,List.set_cons_succ,Sg.pick,Nat.reduceAdd]
  refine⟨fun W' K' Q0 hI hD hK=> ?_,?_⟩
  ·skip
   go_simp
   exact hK.out _ _ rfl rfl
  simp only[Act.put,List.setIfInBounds_toArray,List.set_cons_zero,List.set_cons_succ,Sg.pick,Nat.reduceAdd]
  refine⟨fun W' K' Q0 hI hD hK=> ?_,?_⟩
  ·skip
   go_simp
   exact hK.out _ _ rfl rfl
  simp only[Act.put,List.setIfInBounds_toArray,List.set_cons_zero,List.set_cons_succ,Sg.pick,Nat.reduceAdd]
  refine⟨fun W' K' Q0 hI hD hK=> ?_,?_⟩
  ·have z0:=(G.out.below hI.out.1).c0
   have z1:=(G.out.below hI.out.1).c1
   have z2:=(G.out.below hI.out.1).c2
   go_simp
   exact hK.out _ _ rfl rfl
  simp only[Act.put,List.setIfInBounds_toArray,List.set_cons_zero,List.set_cons_succ,Sg.pick,Nat.reduceAdd]
  refine⟨fun W' K' Q0 hI hD hK=> ?_,?_⟩
  ·skip
   go_simp
   refine(HMI.out _ (G.out.below hI.out.1).arg).mono ?_;rintro e w' ⟨rfl,b⟩;exact hK.out _ _ b rfl
  simp only[Act.put,List.setIfInBounds_toArray,List.set_cons_zero,List.set_cons_succ,Sg.pick,Nat.reduceAdd]
  refine⟨fun W' K' Q0 hI hD hK=> ?_,?_⟩
  ·have z0:=(G.out.below hI.out.1).c0
   have z1:=(G.out.below hI.out.1).c1
   have z2:=(G.out.below hI.out.1).c2
   go_simp
   exact hK.out _ _ rfl rfl
  simp only[Act.put,List.setIfInBounds_toArray,List.set_cons_zero,List.set_cons_succ,Sg.pick,Nat.reduceAdd]
  refine⟨fun W' K' Q0 hI hD hK=> ?_,?_⟩
  ·skip
   go_simp
   refine(HMS.out _ (G.out.below hI.out.1).arg).mono ?_;rintro e w' ⟨rfl,b⟩;exact hK.out _ _ b rfl
  simp only[Act.put,List.setIfInBounds_toArray,List.set_cons_zero,List.set_cons_succ,Sg.pick,Nat.reduceAdd]
  refine⟨fun W' K' Q0 hI hD hK=> ?_,?_⟩
  ·skip
   go_simp
   exact hK.out _ _ rfl rfl
  simp only[Act.put,List.setIfInBounds_toArray,List.set_cons_zero,List.set_cons_succ,Sg.pick,Nat.reduceAdd]
  refine⟨fun W' K' Q0 hI hD hK=> ?_,?_⟩
  ·skip
   go_simp
   exact hK.out _ _ rfl rfl
  simp only[Act.put,List.setIfInBounds_toArray,List.set_cons_zero,List.set_cons_succ,Sg.pick,Nat.reduceAdd]
  intro W9 hI9 hD9
  have I9:=hDD hI9.out.1
  clear hI9 hD9
  go_wp2_with fail
  go_meet
  exact⟨rfl,I9.out⟩
 case rest=>as_aux_lemma=>
  obtain⟨rfl,b⟩:=hcut
  replace V:=hDD (V.out.below b)
  replace G:=hDD (G.out.below b)
  replace M:=hDD (M.out.below b)
  replace K:=hDD (K.out.below b)
  replace BZ:=hDD (BZ.out.trans (b.mono BZ.out.size))
  clear b HCS HNS HMS
  rename World=>wa
  go_upto_region 8 with fail
  go_cut [59] (fun s wx=>s= .bool false∧Below wa.heap.size wa wx)
  case first=>as_aux_lemma=>
   clear HNA HSJ
   cases fb
   ·clear HCN
    have u0:=G.out.c0
    have u1:=G.out.c1
    have u2:=G.out.c2
    simp only at u0 u1 u2
    go_wp2_with fail
    refine(HIF.out _ G.out.arg).mono ?_
    rintro e w9 ⟨rfl,b⟩
    have BC:=hDD b
    replace G:=hDD (G.out.below b)
    clear b u0 u1 u2
    go_wp2_with fail
    go_meet
    exact⟨rfl,BC.out⟩
   ·obtain⟨h1,h2⟩:=HCN.out rfl
    have hi64:=HI64.out
    unfold I64 at hi64
    have hml:IntKind.i64.wrap ((L.length:Int)*(D.length:Int))=q2:=by
     rw[←Int.natCast_mul,h1,IntKind.wrap_i64]
     omega
    have hm2:((L.length:Int)==1)=nb:=by rw[h2,Bool.eq_iff_iff,beq_iff_eq,decide_eq_true_eq];omega
    have hm3:decide ((L.length:Int)=1)=nb:=by rw[h2,Bool.eq_iff_iff,decide_eq_true_eq,decide_eq_true_eq];omega
    have hm4:decide (L.length=1)=nb:=h2.symm
    have hm5:(L.length==1)=nb:=by rw[h2,Bool.eq_iff_iff,beq_iff_eq,decide_eq_true_eq]
    clear HCN h1 h2 hi64
    have u0:=G.out.c0
    have u1:=G.out.c1
    have u2:=G.out.c2
    simp only at u0 u1 u2
    go_wp2_with fail
    refine(HIF.out _ G.out.arg).mono ?_
    rintro e w9 ⟨rfl,b⟩
    have BC:=hDD b
    replace G:=hDD (G.out.below b)
    clear b u0 u1 u2
    have u0:=G.out.c0
    have u1:=G.out.c1
    have u2:=G.out.c2
    simp only at u0 u1 u2
    go_wp2_with fail
    refine(HMI.out _ G.out.arg).mono ?_
    rintro e wz ⟨rfl,b⟩
    replace BC:=hDD (BC.out.trans (b.mono BC.out.size))
    clear b u0 u1 u2
    go_wp2_with fail
    go_meet
    exact⟨rfl,BC.out⟩
  case rest=>as_aux_lemma=>
   obtain⟨rfl,b⟩:=hcut
   replace V:=hDD (V.out.below b)
   replace G:=hDD (G.out.below b)
   replace K:=hDD (K.out.below b)
   replace BZ:=hDD (BZ.out.trans (b.mono BZ.out.size))
   clear b HCN HIF HMI M
   rename World=>wb
   have hL40:=HL40.out
   clear HL40
   go_wp2_with fail
   go_loopw [6] (fun iv wr=> ∃i:Nat,i≤D.length∧iv= .int .i64 i∧Below wb.heap.size wb wr) (fun iv _=>D.length-(intOf iv).toNat)
   case atStart=>exact⟨0,Nat.zero_le _,rfl,Below.refl _ _⟩
   case round=>
    obtain⟨i,hi,rfl,hB⟩:=hrel
    have hsb:=hB.size
    have BL:=hDD hB
    replace V:=hDD (V.out.below hB)
    replace G:=hDD (G.out.below hB)
    replace K:=hDD (K.out.below hB)
    replace BZ:=hDD (BZ.out.trans (hB.mono BZ.out.size))
    clear hB
    by_cases hlt:i<D.length
    ·have hltI:(i:Int)<(D.length:Int):=by omega
     obtain⟨lb,off,Ai,ci,rfl,hlb,hci,-,-,ri⟩:=K.out.at hlt
     obtain⟨hx40,hxc⟩:=HNA.out i hlt
     have RI:=hDD ri
     have HXC:=hDD hxc
     have HJ:=hDD (fun W (h:ArgG W (.agg #[.int .i64 q1, .int .i64 q2, .slice A1 qs.length c1]) (q1,q2,qs)) (h1:RdI W (.slice Ai D[i].length ci) D[i])=>HSJ.out _ _ D[i] W h h1 (by omega))
     clear ri hxc
     generalize D[i]=x at*
     obtain⟨⟨K0,is⟩,hK0⟩: ∃r,r=conjF (q1,q2,qs) x:=⟨_,rfl⟩
     obtain⟨k1,k2,ks⟩:=K0
     rw[←hK0] at HJ HXC
     simp only at HJ HXC
     clear hK0
     have hwk:IntKind.i64.wrap ((i:Int)+1)=((i+1:Nat):Int):=by rw[IntKind.wrap_i64];omega
     have BR:=hDD (Below.refl wr.heap.size wr)
     go_wp2_with fail
     refine wp_region_genG2 [] [.val (.agg #[.int .i64 q1, .int .i64 q2, .slice A1 qs.length c1]), .val (.slice (some ⟨lb,off,none⟩) D.length cD), .val (.int .i64 i), .val (.pointer (some ⟨lb,off+i,none⟩)), .val (.slice Ai x.length ci), .mem (fun _ W v=>(∃A c,v= .tuple #[.agg #[.int .i64 k1, .int .i64 k2, .slice A ks.length c], .bool is]∧OwE W wr.heap.size (.slice A ks.length c) ks∧I64 k1∧I64 k2)), .pur (fun us v=>v=us 5), .pur (fun us v=> ∃A c,v= .agg #[.int .i64 k1, .int .i64 k2, .slice A ks.length c]∧us 6= .tuple #[.agg #[.int .i64 k1, .int .i64 k2, .slice A ks.length c], .bool is]), .val (.bool is), .mem (fun _ W v=>(∃p,v= .pointer (some ⟨p,0,none⟩)∧wr.heap.size≤p∧BoxG W p)), .mem (fun us W _=>(∃p A c,us 9= .pointer (some ⟨p,0,none⟩)∧GBx W p wr.heap.size A c (k1,k2,ks))), .val (.bool is)]
      [none,none,none,none,none,some (fun W W'=>Below W.heap.size W W'),none,none,none,some (fun W W'=>Below W.heap.size W W'),some (fun W W'=> ∃p x y z,wr.heap.size≤p∧BoxG W p∧W'=((W.setCell ⟨p,0,none⟩ x).setCell ⟨p,1,none⟩ y).setCell ⟨p,2,none⟩ z),none]
      (fun W=>Below wr.heap.size wr W) (fun _=>True) [] [(5,9),(5,10),(9,5),(9,10)] (by kernel_rfl) (by kernel_rfl) (by kernel_rfl)
      trivial (by rfl) (by rfl) (Below.refl _ _).drew trivial
      ⟨fun _ _ h t=>h.trans (t.mono h.size),fun _ _ h t=>h.trans (t.mono h.size),fun _ _ h t=>by obtain⟨p,x,y,z,hp,hb,rfl⟩:=t;exact set3_below _ _ _ h hp,trivial⟩ (itD_nil _ 0)
      ⟨fun _ _ _ _ _ _ t h=>by obtain⟨A,c,e,o,i,j⟩:=h;exact⟨A,c,e,o.below t,i,j⟩,
       fun _ _ _ _ _ _ t h=>by obtain⟨p,x,y,z,hp,hb,rfl⟩:=t;obtain⟨A,c,e,o,i,j⟩:=h;exact⟨A,c,e,o.keep fun b' h'=>set3_heap _ _ _ _ _ (hb.ne o b' h'),i,j⟩,
       fun _ _ _ _ _ _ t h=>by obtain⟨p,e,hp,hb⟩:=h;exact⟨p,e,hp,hb.below t⟩,
       fun _ _ _ _ _ _ t h=>by obtain⟨p,x,y,z,hp,hb,rfl⟩:=t;obtain⟨p',e,hp',hb'⟩:=h;exact⟨p',e,hp',hb'.set3 _ _ _⟩,
       trivial⟩ (fun vs=> ?_)
     refine⟨fun W' K' Q0 hI hD hK=> ?_,?_⟩
     ·have z0:=(G.out.below hI.out.1).c0
      have z1:=(G.out.below hI.out.1).c1
      have z2:=(G.out.below hI.out.1).c2
      go_simp
      exact hK.out _ _ rfl rfl
     simp only[Act.put,List.setIfInBounds_toArray,List.set_cons_zero,List.set_cons_succ,Sg.pick,Nat.reduceAdd]
     refine⟨fun W' K' Q0 hI hD hK=> ?_,?_⟩
     ·skip
      go_simp
      exact hK.out _ _ rfl rfl
     simp only[Act.put,List.setIfInBounds_toArray,List.set_cons_zero,List.set_cons_succ,Sg.pick,Nat.reduceAdd]
     refine⟨fun W' K' Q0 hI hD hK=> ?_,?_⟩
     ·skip
      go_simp
      exact hK.out _ _ rfl rfl
     simp only[Act.put,List.setIfInBounds_toArray,List.set_cons_zero,List.set_cons_succ,Sg.pick,Nat.reduceAdd]
     refine⟨fun W' K' Q0 hI hD hK=> ?_,?_⟩
     ·skip
      go_simp
      exact hK.out _ _ rfl rfl
     simp only[Act.put,List.setIfInBounds_toArray,List.set_cons_zero,List.set_cons_succ,Sg.pick,Nat.reduceAdd]
     refine⟨fun W' K' Q0 hI hD hK=> ?_,?_⟩
     ·have z0:=(hI.out.1.cell (p:=⟨lb,off+i,none⟩) hlb).trans hci
      go_simp
      exact hK.out _ _ rfl rfl
     simp only[Act.put,List.setIfInBounds_toArray,List.set_cons_zero,List.set_cons_succ,Sg.pick,Nat.reduceAdd]
     refine⟨fun W' K' Q0 hI hD hK=> ?_,?_⟩
     ·skip
      go_simp
      refine(HJ.out _ (G.out.below hI.out.1).arg (RI.out.below hI.out.1)).mono ?_;rintro e w' ⟨r,rfl,⟨s,rfl,g1,g2,og⟩,b⟩;obtain⟨A,c,rfl,-⟩:=og.form;exact hK.out _ _ b ⟨A,c,rfl,og.mono hI.out.1.size,g1,g2⟩
     simp only[Act.put,List.setIfInBounds_toArray,List.set_cons_zero,List.set_cons_succ,Sg.pick,Nat.reduceAdd]
     refine⟨fun W' K' Q0 hI hD hK=> ?_,?_⟩
     ·obtain⟨A6,c6,e5,o5,i5,j5⟩:=(show(∃A c,vs 5= .tuple #[.agg #[.int .i64 k1, .int .i64 k2, .slice A ks.length c], .bool is]∧OwE W' wr.heap.size (.slice A ks.length c) ks∧I64 k1∧I64 k2) from hD.out 5 (by kernel_rfl))
      rw[e5] at hK⊢
      go_simp
      exact hK.out _ _ rfl ((mask_at (by kernel_rfl)).trans e5).symm
     simp only[Act.put,List.setIfInBounds_toArray,List.set_cons_zero,List.set_cons_succ,Sg.pick,Nat.reduceAdd]
     refine⟨fun W' K' Q0 hI hD hK=> ?_,?_⟩
     ·obtain⟨A6,c6,e5,o5,i5,j5⟩:=(show(∃A c,vs 5= .tuple #[.agg #[.int .i64 k1, .int .i64 k2, .slice A ks.length c], .bool is]∧OwE W' wr.heap.size (.slice A ks.length c) ks∧I64 k1∧I64 k2) from hD.out 5 (by kernel_rfl))
      have e6:=(show vs 6=maskV _ 6 vs 5 from hD.out 6 (by kernel_rfl))
      rw[mask_at (by kernel_rfl),e5] at e6
      rw[e6,e5] at hK⊢
      go_simp
      exact hK.out _ _ rfl ⟨A6,c6,rfl,(mask_at (by kernel_rfl)).trans e6⟩
     simp only[Act.put,List.setIfInBounds_toArray,List.set_cons_zero,List.set_cons_succ,Sg.pick,Nat.reduceAdd]
     refine⟨fun W' K' Q0 hI hD hK=> ?_,?_⟩
     ·obtain⟨A6,c6,e5,o5,i5,j5⟩:=(show(∃A c,vs 5= .tuple #[.agg #[.int .i64 k1, .int .i64 k2, .slice A ks.length c], .bool is]∧OwE W' wr.heap.size (.slice A ks.length c) ks∧I64 k1∧I64 k2) from hD.out 5 (by kernel_rfl))
      have e6:=(show vs 6=maskV _ 6 vs 5 from hD.out 6 (by kernel_rfl))
      rw[mask_at (by kernel_rfl),e5] at e6
      rw[e6,e5] at hK⊢
      go_simp
      exact hK.out _ _ rfl rfl
     simp only[Act.put,List.setIfInBounds_toArray,List.set_cons_zero,List.set_cons_succ,Sg.pick,Nat.reduceAdd]
     refine⟨fun W' K' Q0 hI hD hK=> ?_,?_⟩
     ·skip
      go_simp
      exact hK.out _ _ ((Below.refl _ _).alloc (Nat.le_refl _) _) ⟨_,rfl,hI.out.1.size,⟨_,_,_,(CBx.new rfl).1⟩,_,box_new _ _⟩
     simp only[Act.put,List.setIfInBounds_toArray,List.set_cons_zero,List.set_cons_succ,Sg.pick,Nat.reduceAdd]
     refine⟨fun W' K' Q0 hI hD hK=> ?_,?_⟩
     ·obtain⟨A6,c6,e5,o5,i5,j5⟩:=(show(∃A c,vs 5= .tuple #[.agg #[.int .i64 k1, .int .i64 k2, .slice A ks.length c], .bool is]∧OwE W' wr.heap.size (.slice A ks.length c) ks∧I64 k1∧I64 k2) from hD.out 5 (by kernel_rfl))
      have e6:=(show vs 6=maskV _ 6 vs 5 from hD.out 6 (by kernel_rfl))
      rw[mask_at (by kernel_rfl),e5] at e6
      obtain⟨A7,c7,e7,e67⟩:=(show ∃A c,vs 7= .agg #[.int .i64 k1, .int .i64 k2, .slice A ks.length c]∧maskV _ 7 vs 6= .tuple #[.agg #[.int .i64 k1, .int .i64 k2, .slice A ks.length c], .bool is] from hD.out 7 (by kernel_rfl))
      rw[mask_at (by kernel_rfl),e6] at e67
      injection e67 with e67
      have e68:=congrArg (fun a:Array Value=>a[0]?) e67
      simp only[List.getElem?_toArray,List.getElem?_cons_zero,Option.some.injEq] at e68
      injection e68 with e68
      have e69:=congrArg (fun a:Array Value=>a[2]?) e68
      simp only[List.getElem?_toArray,List.getElem?_cons_zero,List.getElem?_cons_succ,Option.some.injEq] at e69
      injection e69 with a1 a2 a3
      subst a1
      subst a3
      obtain⟨p9,e9,hp9,hb9⟩:=(show(∃p,vs 9= .pointer (some ⟨p,0,none⟩)∧wr.heap.size≤p∧BoxG W' p) from hD.out 9 (by kernel_rfl))
      rw[e9,e7,e6,e5] at hK⊢
      obtain⟨⟨bx,by_,bz,hbx⟩,-⟩:=id hb9
      have z0:=hbx.c0
      have z1:=hbx.c1
      have z2:=hbx.c2
      have u0:=hbx.fz 0
      have u1:=hbx.fz 1
      have u2:=hbx.fz 2
      go_simp
      exact hK.out undef _ ⟨_,_,_,_,hp9,hb9,rfl⟩ ⟨p9,A6,c6,(mask_at (by kernel_rfl)).trans e9,CBx.set (m:=(k1,k2,ks)) hbx o5 (hb9.ne o5) i5 j5⟩
     simp only[Act.put,List.setIfInBounds_toArray,List.set_cons_zero,List.set_cons_succ,Sg.pick,Nat.reduceAdd]
     refine⟨fun W' K' Q0 hI hD hK=> ?_,?_⟩
     ·skip
      go_simp
      exact hK.out _ _ rfl rfl
     simp only[Act.put,List.setIfInBounds_toArray,List.set_cons_zero,List.set_cons_succ,Sg.pick,Nat.reduceAdd]
     intro W9 hI9 hD9
     have I9:=hDD hI9.out.1
     obtain⟨p9,A6,c6,e9,gx⟩:=(show ∃p A c,maskV _ 10 vs 9= .pointer (some ⟨p,0,none⟩)∧GBx W9 p wr.heap.size A c (k1,k2,ks) from hD9.out 10 (by decide))
     rw[mask_at (by kernel_rfl)] at e9
     rw[e9]
     have GX:=hDD gx
     replace G:=hDD (G.out.below I9.out)
     replace BL:=hDD (BL.out.trans (I9.out.mono hsb))
     clear hI9 hD9 gx e9
     have u0:=G.out.c0
     have u1:=G.out.c1
     have u2:=G.out.c2
     have y0:=GX.out.c0
     have y1:=GX.out.c1
     have y2:=GX.out.c2
     simp only at u0 u1 u2 y0 y1 y2
     cases is
     ·go_wp2
      go_roundw
      case rel=>exact⟨i+1,by omega,by go_num,BL.out⟩
      case measure=>(simp[intOf];omega)
     ·have HEQ:=hDD (specEqualGraphs_any _ _ (k1,k2,ks) (q1,q2,qs) W9 GX.out.arg G.out.arg)
      rw[decide_eq_true (HXC.out rfl)] at HEQ
      go_wp2_with fail
      refine HEQ.out.mono ?_
      rintro e wv ⟨rfl,b⟩
      replace BL:=hDD (BL.out.trans (b.mono BL.out.size))
      clear b u0 u1 u2 y0 y1 y2
      go_wp2
      go_roundw
      case rel=>exact⟨i+1,by omega,by go_num,BL.out⟩
      case measure=>(simp[intOf];omega)
    have hltI: ¬(i:Int)<(D.length:Int):=by omega
    clear HNA K hlt hi HSJ G BL
    go_wp2_with fail
    refine(drawCnj_any _ x0 _ V.out hl').mono ?_
    rintro e wf ⟨gv,av,⟨r1,r2,rs⟩,us,rfl,⟨s5,rfl,l1,l2,oe5⟩,hrl,ou,hul,b⟩
    obtain⟨A5,c5,rfl,-⟩:=oe5.form
    obtain⟨Au,cu,rfl,-⟩:=ou.form
    simp only at l1 l2 oe5 hrl hul⊢
    replace BZ:=hDD (BZ.out.trans (b.mono BZ.out.size))
    have U:=hDD ou.rd
    have OE5:=hDD oe5
    clear oe5 ou b V
    obtain⟨W6,hW6⟩: ∃W,W=wf.alloc (Obj.cells #[Value.int IntKind.i64 r1,Value.int IntKind.i64 r2, .slice A5 rs.length c5] 26):=⟨_,rfl⟩
    have g6:=GBx.new (m:=(r1,r2,rs)) OE5.out l1 l2 hW6
    obtain⟨-,b6,s6⟩:=CBx.new hW6
    have G:=hDD g6
    replace U:=hDD (U.out.below b6)
    replace BZ:=hDD (BZ.out.trans (b6.mono BZ.out.size))
    have hul1:=hul.1
    have HJ:=hDD (fun W (h:ArgG W (.agg #[.int .i64 r1, .int .i64 r2, .slice A5 rs.length c5]) (r1,r2,rs)) (h1:RdI W (.slice Au us.length cu) us)=>specConjugateSubgroup_any _ _ (r1,r2,rs) us W h h1 (by omega))
    have HMI:=hDD (fun W (h:ArgG W (.agg #[.int .i64 r1, .int .i64 r2, .slice A5 rs.length c5]) (r1,r2,rs))=>implIsNormal_any _ (r1,r2,rs) W h)
    have HXC:Hid (norB (r1,r2,rs)=true→ ∀b,(conjF (r1,r2,rs) us).2=b→b=true→(conjF (r1,r2,rs) us).1=(r1,r2,rs)):=hDD fun h1 b h2 h3=>nor_conj h1 (h2.trans h3)
    obtain⟨⟨K0,is⟩,hK0⟩: ∃r,r=conjF (r1,r2,rs) us:=⟨_,rfl⟩
    obtain⟨k1,k2,ks⟩:=K0
    rw[←hK0] at HJ HXC
    simp only at HJ HXC
    clear hK0 hul
    generalize norB (r1,r2,rs)=nb at*
    go_wp2_with fail
    rw[←hW6]
    clear hW6 g6 b6 OE5
    generalize wf.heap.size=ab at*
    have u0:=G.out.c0
    have u1:=G.out.c1
    have u2:=G.out.c2
    simp only at u0 u1 u2
    (try go_wp2_with fail)
    refine(HJ.out _ G.out.arg U.out).mono ?_
    rintro e wg ⟨rv,rfl,⟨s7,rfl,i7,j7,oe7⟩,b⟩
    obtain⟨A7,c7,rfl,-⟩:=oe7.form
    simp only at i7 j7 oe7⊢
    have OE7:=hDD oe7
    replace G:=hDD (G.out.below b)
    replace BZ:=hDD (BZ.out.trans (b.mono BZ.out.size))
    clear b oe7 u0 u1 u2 HJ U
    obtain⟨W8,hW8⟩: ∃W,W=wg.alloc (Obj.cells #[Value.int IntKind.i64 k1,Value.int IntKind.i64 k2, .slice A7 ks.length c7] 26):=⟨_,rfl⟩
    have g8:=GBx.new (m:=(k1,k2,ks)) OE7.out i7 j7 hW8
    obtain⟨-,b8,s8⟩:=CBx.new hW8
    have X:=hDD g8
    replace G:=hDD (G.out.below b8)
    replace BZ:=hDD (BZ.out.trans (b8.mono BZ.out.size))
    cases is
    ·go_wp2
     go_ret
     rw[←hW8]
     exact⟨rfl,BZ.out⟩
    ·have u0:=G.out.c0
     have u1:=G.out.c1
     have u2:=G.out.c2
     simp only at u0 u1 u2
     rw[hW8] at u0 u1 u2
     go_wp2_with fail
     rw[←hW8]
     clear hW8 g8 b8 OE7 u0 u1 u2
     generalize wg.heap.size=kb at*
     refine(HMI.out _ G.out.arg).mono ?_
     rintro e wi ⟨rfl,b⟩
     replace G:=hDD (G.out.below b)
     replace X:=hDD (X.out.below b)
     replace BZ:=hDD (BZ.out.trans (b.mono BZ.out.size))
     clear b HMI
     cases nb
     ·go_wp2
      go_ret
      exact⟨rfl,BZ.out⟩
     ·have HEQ:=hDD (specEqualGraphs_any _ _ (k1,k2,ks) (r1,r2,rs) wi X.out.arg G.out.arg)
      rw[decide_eq_true (HXC.out rfl _ rfl rfl)] at HEQ
      have u0:=G.out.c0
      have u1:=G.out.c1
      have u2:=G.out.c2
      have y0:=X.out.c0
      have y1:=X.out.c1
      have y2:=X.out.c2
      simp only at u0 u1 u2 y0 y1 y2
      go_wp2_with fail
      refine HEQ.out.mono ?_
      rintro e wv ⟨rfl,b⟩
      replace BZ:=hDD (BZ.out.trans (b.mono BZ.out.size))
      clear b u0 u1 u2 y0 y1 y2
      go_wp2
      go_ret
      exact⟨rfl,BZ.out⟩
set_option maxRecDepth 100000 in
theorem lifted (os:Os) (started:os.Started) (H:Type) (enc:TypeId×Value→H):
  ReturnsInHanded {} Tryz.checked os 5 .any (Rows.fnNormalSpec.pre6 enc Tryz.prog Tryz.f5 Rows.fnNormalRow.domain false) (Rows.fnNormalSpec.post enc Tryz.prog Tryz.f5 false true false false):=by
 refine returnsInHanded_of_change (C:=Tryz.checked) own started (by kernel_rfl) Tryz.func5
  (ChangeSpec.witness6 (enc:=enc) (C:=Tryz.checked) false ⟨#[],#[.slice none 0 0],[]⟩ 8 (by kernel_rfl) (by kernel_rfl) (by kernel_rfl) (by kernel_rfl)) ?_
 intro W base args ds gs before hval0 hW hcnd _
 have hval: ∀(j:Nat) t v,Tryz.f5.params[j]? =some t→args[j]? =some v→Value.okWide Tryz.prog W .any base t v:=hval0
 have hW':=hW
 obtain⟨p,q,hA0,hV,rfl,hfz,hnd⟩:=hW
 have hA:DataW.TrodAll enc Tryz.prog W 0 (fun _=>true) true Tryz.f5.params.toList args.toList ds p:=hA0
 rw[Tryz.params5] at hA hval
 obtain⟨v0,vs0,d0,ds0,p0,q0,hargs,rfl,rfl,h0,r0⟩:=trodAll_cons hA
 obtain⟨rfl,rfl,rfl⟩:=trodAll_nil r0
 obtain rfl:args= #[v0]:=by cases args;simp_all
 obtain⟨rfl,rfl⟩:=trodVars_none hV
 have k0:=h0
 have lt0: ∀x∈p0,x.block<W.heap.size:=by obtain⟨m,hm⟩:=k0;exact DataW.trod_lt m _ _ _ hm
 obtain⟨x0,a0⟩:=open_argB (hval 0 22 v0 rfl rfl) h0
 clear hA0 hval0
 refine(walk v0 x0 W a0).mono fun e W' ⟨he,bel⟩=> ?_
 subst he
 exact⟨_,rfl,_,_,_,[],_,[],hW',trodAll_mk1 (shut_bool Tryz.underlying4 _),(trodAll_cons_mk (Below.trod laidOut (by kernel_rfl) (of_decide_eq_true (by kernel_rfl)) k0 bel lt0) trodAll_mk0),rfl,bel.frame _,fun h=>by cases h⟩
theorem proved:Rows.FnNormalSaid:=
 OpenClaim.holds_of_wide 5 Tryz.f5 rfl rfl rfl rfl rfl rfl rfl ⟨rfl,rfl,rfl,rfl,rfl⟩ rfl rfl rfl rfl rfl (by as_aux_lemma=>kernel_rfl) Tryz.func5 closed
  (of_decide_eq_true (by as_aux_lemma=>kernel_rfl)) (by unfold Func.isWrapper;first | (rw[if_pos (by decide+kernel)];kernel_rfl) | (rw[if_neg (by decide+kernel)];exact⟨rfl,rfl⟩))
  (fun os started H enc _=>lifted os started H enc)
#print axioms proved
end Go.Proofs.YteobmaambgmdbaaGreat.fnNormal
