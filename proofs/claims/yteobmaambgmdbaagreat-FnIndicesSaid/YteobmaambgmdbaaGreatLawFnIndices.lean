/- The law FnIndices. -/
import Derived.Test.YteobmaambgmdbaaGreatP07
import Derived.Test.YteobmaambgmdbaaGreatP08
import Derived.Test.YteobmaambgmdbaaGreatP09
import Derived.Test.YteobmaambgmdbaaGreatRows
import Derived.Test.YteobmaambgmdbaaGreatCloFnIndices
import Derived.Deep.DeepCutAuto
namespace Go.Proofs.YteobmaambgmdbaaGreat.fnIndices
set_option maxRecDepth 20000
set_option linter.unusedVariables false
set_option linter.unusedSimpArgs false
open Go.ChangeShapes Go.WideShapes Go.ChangeAt Go.RowKit
open Go.ChangeMaps (open_string shut_string)
theorem mem_take_dec {L:List (List Int)} {ys:List Int} {k:Nat} (h:k<L.length):decide (ys∈L.take (k+1))=(decide (ys∈L.take k)||decide (L[k]=ys)):=by
 rw[List.take_succ_eq_append_getElem h,Bool.eq_iff_iff,Bool.or_eq_true,decide_eq_true_eq,decide_eq_true_eq,decide_eq_true_eq,List.mem_append,List.mem_singleton]
 exact⟨fun h=>h.imp id Eq.symm,fun h=>h.imp id Eq.symm⟩
theorem fin_core {g:GrD} (h:finB g=true):coreB g=true:=by unfold finB at h;simp only[Bool.and_eq_true] at h;exact h.1
theorem trv_core {g:GrD} {i:Nat} (hi:i<(trvL g).length):coreB g=true:=by
 rcases e:coreB g with _ | _
 ·unfold trvL at hi;rw[e] at hi;simp at hi
 ·rfl
theorem trv_max (g:GrD):(trvL g).length≤40:=by
 rcases e:coreB g with _ | _
 ·unfold trvL;rw[e];simp
 ·rw[trv_len e]
  have:=(grB_parts (core_parts e).1).2.1
  omega
theorem lsw_rd {w:World} {v:Value} {L:List (List Int)} (h:LsW w v L):RdII w v L:=by
 obtain⟨lo,hi,h,hh⟩:=h
 exact h.rd
theorem lt3_of {r:Int} {xs:List Int} (h:letR (max 1 (min r 3)) xs): ∀y∈xs,Lt3 y:=fun y hy=>by
 have:=h y hy
 exact⟨by omega,by omega,this.1⟩
set_option maxRecDepth 100000 in
set_option maxHeartbeats 16000000 in
theorem walk (v0:Value) (x0:List Int) (w:World) (h0:ArgC w v0 x0):
  Calls Tryz.prog 4 #[v0] w fun e w'=>e= .returned (.bool true)∧Below w.heap.size w w':=by
 have HBIG:=hDD (big_any v0 x0 w h0)
 have V:=hDD h0
 obtain⟨A0,c0,rfl,_⟩:=h0
 by_cases hl:(1048576:Int)<x0.length
 ·have hd:decide ((1048576:Int)<x0.length)=true:=decide_eq_true hl
  rw[hd] at HBIG
  clear hd hl
  go_enter Tryz.func4,Tryz.ntmps4
  go_wp2_with fail
  refine HBIG.out.mono ?_
  rintro e w1 ⟨rfl,rfl⟩
  go_wp2
  go_ret
  exact⟨rfl,Below.refl _ _⟩
 have hd:decide ((1048576:Int)<x0.length)=false:=decide_eq_false hl
 rw[hd] at HBIG
 have hl':x0.length≤1048576:=by omega
 clear hd hl
 go_enter Tryz.func4,Tryz.ntmps4
 go_wp2_with fail
 refine HBIG.out.mono ?_
 rintro e w1 ⟨rfl,rfl⟩
 go_wp2_with fail
 refine(drawIdx_any _ x0 _ V.out hl').mono ?_
 rintro e w1 ⟨gv,⟨q1,q2,qs⟩,rfl,⟨s1,rfl,j1,j2,oe1⟩,hql,b1⟩
 obtain⟨A1,c1,rfl,_⟩:=oe1.form
 simp only at j1 j2 oe1 hql⊢
 have BZ:=hDD b1
 replace V:=hDD (V.out.below b1)
 have OE1:=hDD oe1
 clear oe1 b1
 obtain⟨W2,hW2⟩: ∃W,W=w1.alloc (Obj.cells #[Value.int IntKind.i64 q1,Value.int IntKind.i64 q2, .slice A1 qs.length c1] 26):=⟨_,rfl⟩
 have g2:=GBx.new (m:=(q1,q2,qs)) OE1.out j1 j2 hW2
 obtain⟨-,b2,s2⟩:=CBx.new hW2
 have G:=hDD g2
 replace V:=hDD (V.out.below b2)
 replace BZ:=hDD (BZ.out.trans (b2.mono BZ.out.size))
 obtain⟨n,hn⟩: ∃n,n=idxO (q1,q2,qs):=⟨_,rfl⟩
 obtain⟨fb,hfb⟩: ∃b,b=finB (q1,q2,qs):=⟨_,rfl⟩
 have HIX:=hDD (fun W (h:ArgG W (.agg #[.int .i64 q1, .int .i64 q2, .slice A1 qs.length c1]) (q1,q2,qs))=>implIndexOf_any _ (q1,q2,qs) W h)
 have HIY:=hDD (fun W (h:ArgG W (.agg #[.int .i64 q1, .int .i64 q2, .slice A1 qs.length c1]) (q1,q2,qs))=>specIndexOf_any _ (q1,q2,qs) W h)
 have HIF:=hDD (fun W (h:ArgG W (.agg #[.int .i64 q1, .int .i64 q2, .slice A1 qs.length c1]) (q1,q2,qs))=>implIsFiniteIndex_any _ (q1,q2,qs) W h)
 have HRK:=hDD (fun W (h:ArgG W (.agg #[.int .i64 q1, .int .i64 q2, .slice A1 qs.length c1]) (q1,q2,qs))=>implRankOf_any _ (q1,q2,qs) W h)
 rw[←hn] at HIX HIY
 rw[←hfb] at HIF
 have HFI:Hid (fb=true→n=q2∧1≤q2∧rankF (q1,q2,qs)=schr q1 q2∧((trvL (q1,q2,qs)).length:Int)=q2):=hDD fun h=>by
  rw[hfb] at h
  have hc:=fin_core h
  have hz:=(grB_parts (core_parts hc).1).2.1
  simp only at hz
  have hl:=trv_len hc
  simp only at hl
  exact⟨by rw[hn];unfold idxO;rw[if_pos h],hz.1,rank_schr h,by omega⟩
 have HFN:Hid (fb=false→n= -1):=hDD fun h=>by
  rw[hfb] at h
  rw[hn];unfold idxO;rw[h];rfl
 go_wp2_with fail
 rw[←hW2]
 clear hW2 g2 b2 OE1 hn hfb
 generalize w1.heap.size=gb at*
 refine(HIX.out _ G.out.arg).mono ?_
 rintro e w3 ⟨rfl,b⟩
 clear HIX
 replace V:=hDD (V.out.below b)
 replace G:=hDD (G.out.below b)
 replace BZ:=hDD (BZ.out.trans (b.mono BZ.out.size))
 clear b
 go_upto_region 5 with fail
 go_cut [56] (fun s wx=>s= .bool false∧Below w3.heap.size w3 wx)
 case first=>as_aux_lemma=>
  rcases fb with _ | _
  ·have hn:=HFN.out rfl
   clear HFI HFN
   subst hn
   refine wp_region_genG [15,16,17,18,19,20,21] [.val (.int .i64 (-1)), .val (.agg #[.int .i64 q1, .int .i64 q2, .slice A1 qs.length c1]), .val (.int .i64 (-1)), .val (.bool false), .val (.bool false), .val (.agg #[.int .i64 q1, .int .i64 q2, .slice A1 qs.length c1]), .val (.bool false), .val (.int .i64 (-1)), .val (.bool false), .val (.bool false), .val (.bool false), .val (.bool false), .val (.int .i64 (-1)), .val (.bool false), .val (.bool false), .val undef, .val undef, .val undef, .val undef, .val undef, .val undef, .val undef, .val (.bool false), .val (.bool false)]
    [none,none,some (fun W W'=>Below W.heap.size W W'),none,none,none,some (fun W W'=>Below W.heap.size W W'),none,none,none,none,none,none,none,none,none,none,none,none,none,none,none,none,none]
    (fun W=>Below w3.heap.size w3 W) (fun _=>True) [] [] (by kernel_rfl) (by kernel_rfl) (by kernel_rfl)
    ⟨⟨rfl,rfl⟩,⟨rfl,rfl⟩,⟨rfl,rfl⟩,⟨rfl,rfl⟩,⟨rfl,rfl⟩,⟨rfl,rfl⟩,⟨rfl,rfl⟩,trivial⟩ (by rfl) (by rfl) (Below.refl _ _).drew trivial
    ⟨fun _ _ h t=>h.trans (t.mono h.size),fun _ _ h t=>h.trans (t.mono h.size),trivial⟩ (itD_nil _ 0)
    trivial (fun vs=> ?_)
   refine⟨fun W' K' Q0 hI hD hK=> ?_,?_⟩
   ·skip
    go_simp
    exact hK.out _ _ rfl rfl
   simp only[Act.put,List.setIfInBounds_toArray,List.set_cons_zero,List.set_cons_succ,Sg.pick,Nat.reduceAdd]
   refine⟨fun W' K' Q0 hI hD hK=> ?_,?_⟩
   ·have z0:=(G.out.below hI.out.1).c0
    have z1:=(G.out.below hI.out.1).c1
    have z2:=(G.out.below hI.out.1).c2
    go_simp
    exact hK.out _ _ rfl rfl
   simp only[Act.put,List.setIfInBounds_toArray,List.set_cons_zero,List.set_cons_succ,Sg.pick,Nat.reduceAdd]
   refine⟨fun W' K' Q0 hI hD hK=> ?_,?_⟩
   ·skip
    go_simp
    refine(HIY.out _ (G.out.below hI.out.1).arg).mono ?_;rintro e w' ⟨rfl,b⟩;exact hK.out _ _ b rfl
   simp only[Act.put,List.setIfInBounds_toArray,List.set_cons_zero,List.set_cons_succ,Sg.pick,Nat.reduceAdd]
   refine⟨fun W' K' Q0 hI hD hK=> ?_,?_⟩
   ·skip
    go_simp
    exact hK.out _ _ rfl rfl
   simp only[Act.put,List.setIfInBounds_toArray,List.set_cons_zero,List.set_cons_succ,Sg.pick,Nat.reduceAdd]
   refine⟨fun W' K' Q0 hI hD hK=> ?_,?_⟩
   ·skip
    go_simp
    exact hK.out _ _ rfl rfl
   simp only[Act.put,List.setIfInBounds_toArray,List.set_cons_zero,List.set_cons_succ,Sg.pick,Nat.reduceAdd]
   refine⟨fun W' K' Q0 hI hD hK=> ?_,?_⟩
   ·have z0:=(G.out.below hI.out.1).c0
    have z1:=(G.out.below hI.out.1).c1
    have z2:=(G.out.below hI.out.1).c2
    go_simp
    exact hK.out _ _ rfl rfl
   simp only[Act.put,List.setIfInBounds_toArray,List.set_cons_zero,List.set_cons_succ,Sg.pick,Nat.reduceAdd]
   refine⟨fun W' K' Q0 hI hD hK=> ?_,?_⟩
   ·skip
    go_simp
    refine(HIF.out _ (G.out.below hI.out.1).arg).mono ?_;rintro e w' ⟨rfl,b⟩;exact hK.out _ _ b rfl
   simp only[Act.put,List.setIfInBounds_toArray,List.set_cons_zero,List.set_cons_succ,Sg.pick,Nat.reduceAdd]
   refine⟨fun W' K' Q0 hI hD hK=> ?_,?_⟩
   ·skip
    go_simp
    exact hK.out _ _ rfl rfl
   simp only[Act.put,List.setIfInBounds_toArray,List.set_cons_zero,List.set_cons_succ,Sg.pick,Nat.reduceAdd]
   refine⟨fun W' K' Q0 hI hD hK=> ?_,?_⟩
   ·skip
    go_simp
    exact hK.out _ _ rfl rfl
   simp only[Act.put,List.setIfInBounds_toArray,List.set_cons_zero,List.set_cons_succ,Sg.pick,Nat.reduceAdd]
   refine⟨fun W' K' Q0 hI hD hK=> ?_,?_⟩
   ·skip
    go_simp
    exact hK.out _ _ rfl rfl
   simp only[Act.put,List.setIfInBounds_toArray,List.set_cons_zero,List.set_cons_succ,Sg.pick,Nat.reduceAdd]
   refine⟨fun W' K' Q0 hI hD hK=> ?_,?_⟩
   ·skip
    go_simp
    exact hK.out _ _ rfl rfl
   simp only[Act.put,List.setIfInBounds_toArray,List.set_cons_zero,List.set_cons_succ,Sg.pick,Nat.reduceAdd]
   refine⟨fun W' K' Q0 hI hD hK=> ?_,?_⟩
   ·skip
    go_simp
    exact hK.out _ _ rfl rfl
   simp only[Act.put,List.setIfInBounds_toArray,List.set_cons_zero,List.set_cons_succ,Sg.pick,Nat.reduceAdd]
   refine⟨fun W' K' Q0 hI hD hK=> ?_,?_⟩
   ·skip
    go_simp
    exact hK.out _ _ rfl rfl
   simp only[Act.put,List.setIfInBounds_toArray,List.set_cons_zero,List.set_cons_succ,Sg.pick,Nat.reduceAdd]
   refine⟨fun W' K' Q0 hI hD hK=> ?_,?_⟩
   ·skip
    go_simp
    exact hK.out _ _ rfl rfl
   simp only[Act.put,List.setIfInBounds_toArray,List.set_cons_zero,List.set_cons_succ,Sg.pick,Nat.reduceAdd]
   refine⟨fun W' K' Q0 hI hD hK=> ?_,?_⟩
   ·skip
    go_simp
    exact hK.out _ _ rfl rfl
   simp only[Act.put,List.setIfInBounds_toArray,List.set_cons_zero,List.set_cons_succ,Sg.pick,Nat.reduceAdd]
   refine⟨trivial,?_⟩
   simp only[Act.put,List.setIfInBounds_toArray,List.set_cons_zero,List.set_cons_succ,Sg.pick,Nat.reduceAdd]
   refine⟨trivial,?_⟩
   simp only[Act.put,List.setIfInBounds_toArray,List.set_cons_zero,List.set_cons_succ,Sg.pick,Nat.reduceAdd]
   refine⟨trivial,?_⟩
   simp only[Act.put,List.setIfInBounds_toArray,List.set_cons_zero,List.set_cons_succ,Sg.pick,Nat.reduceAdd]
   refine⟨trivial,?_⟩
   simp only[Act.put,List.setIfInBounds_toArray,List.set_cons_zero,List.set_cons_succ,Sg.pick,Nat.reduceAdd]
   refine⟨trivial,?_⟩
   simp only[Act.put,List.setIfInBounds_toArray,List.set_cons_zero,List.set_cons_succ,Sg.pick,Nat.reduceAdd]
   refine⟨trivial,?_⟩
   simp only[Act.put,List.setIfInBounds_toArray,List.set_cons_zero,List.set_cons_succ,Sg.pick,Nat.reduceAdd]
   refine⟨trivial,?_⟩
   simp only[Act.put,List.setIfInBounds_toArray,List.set_cons_zero,List.set_cons_succ,Sg.pick,Nat.reduceAdd]
   refine⟨fun W' K' Q0 hI hD hK=> ?_,?_⟩
   ·skip
    go_simp
    exact hK.out _ _ rfl rfl
   simp only[Act.put,List.setIfInBounds_toArray,List.set_cons_zero,List.set_cons_succ,Sg.pick,Nat.reduceAdd]
   refine⟨fun W' K' Q0 hI hD hK=> ?_,?_⟩
   ·skip
    go_simp
    exact hK.out _ _ rfl rfl
   simp only[Act.put,List.setIfInBounds_toArray,List.set_cons_zero,List.set_cons_succ,Sg.pick,Nat.reduceAdd]
   intro W9 hI9 hD9
   have I9:=hDD hI9.out.1
   clear hI9 hD9
   go_wp2_with fail
   go_meet
   exact⟨rfl,I9.out⟩
  ·obtain⟨hn,hq1,hsr,htl⟩:=HFI.out rfl
   have HSR:=hDD (implSchreierRank_any q1 q2)
   rw[←hsr] at HSR
   clear HFI HFN htl
   subst hn
   have hq0:(0:Int)<n:=by omega
   have hq0b:decide ((0:Int)<n)=true:=decide_eq_true hq0
   generalize rankF (q1,n,qs)=sr at*
   clear hsr
   refine wp_region_genG [] [.val (.int .i64 (n)), .val (.agg #[.int .i64 q1, .int .i64 n, .slice A1 qs.length c1]), .val (.int .i64 (n)), .val (.bool false), .val (.bool false), .val (.agg #[.int .i64 q1, .int .i64 n, .slice A1 qs.length c1]), .val (.bool true), .val (.int .i64 (n)), .val (.bool true), .val (.bool false), .val (.bool false), .val (.bool false), .val (.int .i64 (n)), .val (.bool true), .val (.bool true), .val (.agg #[.int .i64 q1, .int .i64 n, .slice A1 qs.length c1]), .val (.int .i64 sr), .val (.pointer (some ⟨gb,0,none⟩)), .val (.int .i64 q1), .val (.int .i64 n), .val (.int .i64 sr), .val (.bool false), .val (.bool false), .val (.bool false)]
    [none,none,some (fun W W'=>Below W.heap.size W W'),none,none,none,some (fun W W'=>Below W.heap.size W W'),none,none,none,none,none,none,none,none,none,some (fun W W'=>Below W.heap.size W W'),none,none,none,none,none,none,none]
    (fun W=>Below w3.heap.size w3 W) (fun _=>True) [] [] (by kernel_rfl) (by kernel_rfl) (by kernel_rfl)
    trivial (by rfl) (by rfl) (Below.refl _ _).drew trivial
    ⟨fun _ _ h t=>h.trans (t.mono h.size),fun _ _ h t=>h.trans (t.mono h.size),fun _ _ h t=>h.trans (t.mono h.size),trivial⟩ (itD_nil _ 0)
    trivial (fun vs=> ?_)
   refine⟨fun W' K' Q0 hI hD hK=> ?_,?_⟩
   ·skip
    go_simp
    exact hK.out _ _ rfl rfl
   simp only[Act.put,List.setIfInBounds_toArray,List.set_cons_zero,List.set_cons_succ,Sg.pick,Nat.reduceAdd]
   refine⟨fun W' K' Q0 hI hD hK=> ?_,?_⟩
   ·have z0:=(G.out.below hI.out.1).c0
    have z1:=(G.out.below hI.out.1).c1
    have z2:=(G.out.below hI.out.1).c2
    go_simp
    exact hK.out _ _ rfl rfl
   simp only[Act.put,List.setIfInBounds_toArray,List.set_cons_zero,List.set_cons_succ,Sg.pick,Nat.reduceAdd]
   refine⟨fun W' K' Q0 hI hD hK=> ?_,?_⟩
   ·skip
    go_simp
    refine(HIY.out _ (G.out.below hI.out.1).arg).mono ?_;rintro e w' ⟨rfl,b⟩;exact hK.out _ _ b rfl
   simp only[Act.put,List.setIfInBounds_toArray,List.set_cons_zero,List.set_cons_succ,Sg.pick,Nat.reduceAdd]
   refine⟨fun W' K' Q0 hI hD hK=> ?_,?_⟩
   ·skip
    go_simp
    exact hK.out _ _ rfl rfl
   simp only[Act.put,List.setIfInBounds_toArray,List.set_cons_zero,List.set_cons_succ,Sg.pick,Nat.reduceAdd]
   refine⟨fun W' K' Q0 hI hD hK=> ?_,?_⟩
   ·skip
    go_simp
    exact hK.out _ _ rfl rfl
   simp only[Act.put,List.setIfInBounds_toArray,List.set_cons_zero,List.set_cons_succ,Sg.pick,Nat.reduceAdd]
   refine⟨fun W' K' Q0 hI hD hK=> ?_,?_⟩
   ·have z0:=(G.out.below hI.out.1).c0
    have z1:=(G.out.below hI.out.1).c1
    have z2:=(G.out.below hI.out.1).c2
    go_simp
    exact hK.out _ _ rfl rfl
   simp only[Act.put,List.setIfInBounds_toArray,List.set_cons_zero,List.set_cons_succ,Sg.pick,Nat.reduceAdd]
   refine⟨fun W' K' Q0 hI hD hK=> ?_,?_⟩
   ·skip
    go_simp
    refine(HIF.out _ (G.out.below hI.out.1).arg).mono ?_;rintro e w' ⟨rfl,b⟩;exact hK.out _ _ b rfl
   simp only[Act.put,List.setIfInBounds_toArray,List.set_cons_zero,List.set_cons_succ,Sg.pick,Nat.reduceAdd]
   refine⟨fun W' K' Q0 hI hD hK=> ?_,?_⟩
   ·skip
    go_simp
    exact hK.out _ _ rfl rfl
   simp only[Act.put,List.setIfInBounds_toArray,List.set_cons_zero,List.set_cons_succ,Sg.pick,Nat.reduceAdd]
   refine⟨fun W' K' Q0 hI hD hK=> ?_,?_⟩
   ·skip
    go_simp
    exact hK.out _ _ rfl rfl
   simp only[Act.put,List.setIfInBounds_toArray,List.set_cons_zero,List.set_cons_succ,Sg.pick,Nat.reduceAdd]
   refine⟨fun W' K' Q0 hI hD hK=> ?_,?_⟩
   ·skip
    go_simp
    exact hK.out _ _ rfl rfl
   simp only[Act.put,List.setIfInBounds_toArray,List.set_cons_zero,List.set_cons_succ,Sg.pick,Nat.reduceAdd]
   refine⟨fun W' K' Q0 hI hD hK=> ?_,?_⟩
   ·skip
    go_simp
    exact hK.out _ _ rfl rfl
   simp only[Act.put,List.setIfInBounds_toArray,List.set_cons_zero,List.set_cons_succ,Sg.pick,Nat.reduceAdd]
   refine⟨fun W' K' Q0 hI hD hK=> ?_,?_⟩
   ·skip
    go_simp
    exact hK.out _ _ rfl rfl
   simp only[Act.put,List.setIfInBounds_toArray,List.set_cons_zero,List.set_cons_succ,Sg.pick,Nat.reduceAdd]
   refine⟨fun W' K' Q0 hI hD hK=> ?_,?_⟩
   ·skip
    go_simp
    exact hK.out _ _ rfl rfl
   simp only[Act.put,List.setIfInBounds_toArray,List.set_cons_zero,List.set_cons_succ,Sg.pick,Nat.reduceAdd]
   refine⟨fun W' K' Q0 hI hD hK=> ?_,?_⟩
   ·skip
    go_simp
    exact hK.out _ _ rfl rfl
   simp only[Act.put,List.setIfInBounds_toArray,List.set_cons_zero,List.set_cons_succ,Sg.pick,Nat.reduceAdd]
   refine⟨fun W' K' Q0 hI hD hK=> ?_,?_⟩
   ·skip
    go_simp
    exact hK.out _ _ rfl rfl
   simp only[Act.put,List.setIfInBounds_toArray,List.set_cons_zero,List.set_cons_succ,Sg.pick,Nat.reduceAdd]
   refine⟨fun W' K' Q0 hI hD hK=> ?_,?_⟩
   ·have z0:=(G.out.below hI.out.1).c0
    have z1:=(G.out.below hI.out.1).c1
    have z2:=(G.out.below hI.out.1).c2
    go_simp
    exact hK.out _ _ rfl rfl
   simp only[Act.put,List.setIfInBounds_toArray,List.set_cons_zero,List.set_cons_succ,Sg.pick,Nat.reduceAdd]
   refine⟨fun W' K' Q0 hI hD hK=> ?_,?_⟩
   ·skip
    go_simp
    refine(HRK.out _ (G.out.below hI.out.1).arg).mono ?_;rintro e w' ⟨rfl,b⟩;exact hK.out _ _ b rfl
   simp only[Act.put,List.setIfInBounds_toArray,List.set_cons_zero,List.set_cons_succ,Sg.pick,Nat.reduceAdd]
   refine⟨fun W' K' Q0 hI hD hK=> ?_,?_⟩
   ·skip
    go_simp
    exact hK.out _ _ rfl rfl
   simp only[Act.put,List.setIfInBounds_toArray,List.set_cons_zero,List.set_cons_succ,Sg.pick,Nat.reduceAdd]
   refine⟨fun W' K' Q0 hI hD hK=> ?_,?_⟩
   ·have z0:=(G.out.below hI.out.1).c0
    go_simp
    exact hK.out _ _ rfl rfl
   simp only[Act.put,List.setIfInBounds_toArray,List.set_cons_zero,List.set_cons_succ,Sg.pick,Nat.reduceAdd]
   refine⟨fun W' K' Q0 hI hD hK=> ?_,?_⟩
   ·skip
    go_simp
    exact hK.out _ _ rfl rfl
   simp only[Act.put,List.setIfInBounds_toArray,List.set_cons_zero,List.set_cons_succ,Sg.pick,Nat.reduceAdd]
   refine⟨fun W' K' Q0 hI hD hK=> ?_,?_⟩
   ·skip
    go_simp
    refine(HSR.out _).mono ?_;rintro e w' ⟨rfl,rfl⟩;exact hK.out _ _ rfl rfl
   simp only[Act.put,List.setIfInBounds_toArray,List.set_cons_zero,List.set_cons_succ,Sg.pick,Nat.reduceAdd]
   refine⟨fun W' K' Q0 hI hD hK=> ?_,?_⟩
   ·skip
    go_simp
    exact hK.out _ _ rfl rfl
   simp only[Act.put,List.setIfInBounds_toArray,List.set_cons_zero,List.set_cons_succ,Sg.pick,Nat.reduceAdd]
   refine⟨fun W' K' Q0 hI hD hK=> ?_,?_⟩
   ·skip
    go_simp
    exact hK.out _ _ rfl rfl
   simp only[Act.put,List.setIfInBounds_toArray,List.set_cons_zero,List.set_cons_succ,Sg.pick,Nat.reduceAdd]
   refine⟨fun W' K' Q0 hI hD hK=> ?_,?_⟩
   ·skip
    go_simp
    exact hK.out _ _ rfl rfl
   simp only[Act.put,List.setIfInBounds_toArray,List.set_cons_zero,List.set_cons_succ,Sg.pick,Nat.reduceAdd]
   intro W9 hI9 hD9
   have I9:=hDD hI9.out.1
   clear hI9 hD9
   go_wp2_with fail
   go_meet
   exact⟨rfl,I9.out⟩
 case rest=>as_aux_lemma=>
  obtain⟨rfl,b⟩:=hcut
  replace V:=hDD (V.out.below b)
  replace G:=hDD (G.out.below b)
  replace BZ:=hDD (BZ.out.trans (b.mono BZ.out.size))
  clear b HIY HIF HRK
  rename World=>wa
  have HTS:=hDD (fun W (h:ArgG W (.agg #[.int .i64 q1, .int .i64 q2, .slice A1 qs.length c1]) (q1,q2,qs))=>specTransversal_any _ (q1,q2,qs) W h)
  have HTI:=hDD (fun W (h:ArgG W (.agg #[.int .i64 q1, .int .i64 q2, .slice A1 qs.length c1]) (q1,q2,qs))=>implTransversal_any _ (q1,q2,qs) W h)
  have HCS:=hDD (fun W (h:ArgG W (.agg #[.int .i64 q1, .int .i64 q2, .slice A1 qs.length c1]) (q1,q2,qs))=>specCosetTable_any _ (q1,q2,qs) W h)
  have HCI:=hDD (fun W (h:ArgG W (.agg #[.int .i64 q1, .int .i64 q2, .slice A1 qs.length c1]) (q1,q2,qs))=>implCosetTable_any _ (q1,q2,qs) W h)
  have HSB:=hDD (fun va vb (a b:List Int) W (h:ArgG W (.agg #[.int .i64 q1, .int .i64 q2, .slice A1 qs.length c1]) (q1,q2,qs))=>implSameCoset_any _ va vb (q1,q2,qs) a b W h)
  have HTF:Hid (fb=true→n=q2∧1≤q2∧((trvL (q1,q2,qs)).length:Int)=q2):=hDD fun h=>⟨(HFI.out h).1,(HFI.out h).2.1,(HFI.out h).2.2.2⟩
  have HAP:Hid (∀(i k:Nat) (hi:i<(trvL (q1,q2,qs)).length) (hk:k<(trvL (q1,q2,qs)).length),k<i→samB (q1,q2,qs) (trvL (q1,q2,qs))[i] (trvL (q1,q2,qs))[k]=false∧(trvL (q1,q2,qs))[i].length≤40∧(trvL (q1,q2,qs))[k].length≤40):=hDD fun i k hi hk hik=>by
   have hc:=trv_core hi
   exact⟨trv_apart hc hi hk (by omega),(trv_let hc hi).2,(trv_let hc hk).2⟩
  have HLM:=hDD (trv_max (q1,q2,qs))
  clear HFI
  generalize trvL (q1,q2,qs)=L at*
  generalize ctbL (q1,q2,qs)=C at*
  have u0:=G.out.c0
  have u1:=G.out.c1
  have u2:=G.out.c2
  simp only at u0 u1 u2
  go_wp2_with fail
  refine(HTI.out _ G.out.arg).mono ?_
  rintro e w4 ⟨lv,rfl,M,b⟩
  obtain⟨AL,cL,rfl,-⟩:=M.form
  replace M:=hDD M
  replace V:=hDD (V.out.below b)
  replace G:=hDD (G.out.below b)
  replace BZ:=hDD (BZ.out.trans (b.mono BZ.out.size))
  clear b HTI u0 u1 u2
  go_upto_region 8 with fail
  go_cut [81] (fun s wx=>s= .bool false∧Below w4.heap.size w4 wx)
  case first=>as_aux_lemma=>
   rcases fb with _ | _
   ·have hn:=HFN.out rfl
    clear HTF HFN HAP HSB
    subst hn
    refine wp_region_genG [17,18,19,20] [.val (.slice AL L.length cL), .val (.agg #[.int .i64 q1, .int .i64 q2, .slice A1 qs.length c1]), .mem (fun _ W v=> ∃A c,v= .slice A L.length c∧LsW W v L), .val (.bool true), .val (.bool false), .val (.bool false), .val (.agg #[.int .i64 q1, .int .i64 q2, .slice A1 qs.length c1]), .mem (fun _ W v=> ∃A c,v= .slice A C.length c∧LsW W v C), .val (.agg #[.int .i64 q1, .int .i64 q2, .slice A1 qs.length c1]), .mem (fun _ W v=> ∃A c,v= .slice A C.length c∧LsW W v C), .val (.bool true), .val (.bool false), .val (.bool false), .val (.bool false), .val (.int .i64 (-1)), .val (.bool false), .val (.bool false), .val undef, .val undef, .val undef, .val undef, .val (.bool false), .val (.bool false)]
     [none,none,some (fun W W'=>Below W.heap.size W W'),some (fun W W'=>Below W.heap.size W W'),none,none,none,some (fun W W'=>Below W.heap.size W W'),none,some (fun W W'=>Below W.heap.size W W'),some (fun W W'=>Below W.heap.size W W'),none,none,none,none,none,none,none,none,none,none,none,none]
     (fun W=>Below w4.heap.size w4 W) (fun _=>True) [] [(2,3),(2,7),(2,9),(2,10),(7,9),(7,10),(9,10)] (by kernel_rfl) (by kernel_rfl) (by kernel_rfl)
     ⟨⟨rfl,rfl⟩,⟨rfl,rfl⟩,⟨rfl,rfl⟩,⟨rfl,rfl⟩,trivial⟩ (by rfl) (by rfl) (Below.refl _ _).drew trivial
     ⟨fun _ _ h t=>h.trans (t.mono h.size),fun _ _ h t=>h.trans (t.mono h.size),fun _ _ h t=>h.trans (t.mono h.size),fun _ _ h t=>h.trans (t.mono h.size),fun _ _ h t=>h.trans (t.mono h.size),trivial⟩ (itD_nil _ 0)
     ⟨fun _ _ _ _ _ _ t h=>by obtain⟨A,c,e,h⟩:=h;exact⟨A,c,e,h.below t⟩,fun _ _ _ _ _ _ t h=>by obtain⟨A,c,e,h⟩:=h;exact⟨A,c,e,h.below t⟩,fun _ _ _ _ _ _ t h=>by obtain⟨A,c,e,h⟩:=h;exact⟨A,c,e,h.below t⟩,fun _ _ _ _ _ _ t h=>by obtain⟨A,c,e,h⟩:=h;exact⟨A,c,e,h.below t⟩,fun _ _ _ _ _ _ t h=>by obtain⟨A,c,e,h⟩:=h;exact⟨A,c,e,h.below t⟩,fun _ _ _ _ _ _ t h=>by obtain⟨A,c,e,h⟩:=h;exact⟨A,c,e,h.below t⟩,fun _ _ _ _ _ _ t h=>by obtain⟨A,c,e,h⟩:=h;exact⟨A,c,e,h.below t⟩,trivial⟩ (fun vs=> ?_)
    refine⟨fun W' K' Q0 hI hD hK=> ?_,?_⟩
    ·skip
     go_simp
     exact hK.out _ _ rfl rfl
    simp only[Act.put,List.setIfInBounds_toArray,List.set_cons_zero,List.set_cons_succ,Sg.pick,Nat.reduceAdd]
    refine⟨fun W' K' Q0 hI hD hK=> ?_,?_⟩
    ·have z0:=(G.out.below hI.out.1).c0
     have z1:=(G.out.below hI.out.1).c1
     have z2:=(G.out.below hI.out.1).c2
     go_simp
     exact hK.out _ _ rfl rfl
    simp only[Act.put,List.setIfInBounds_toArray,List.set_cons_zero,List.set_cons_succ,Sg.pick,Nat.reduceAdd]
    refine⟨fun W' K' Q0 hI hD hK=> ?_,?_⟩
    ·skip
     go_simp
     refine(HTS.out _ (G.out.below hI.out.1).arg).mono ?_;rintro e w' ⟨o,rfl,oo,b⟩;obtain⟨A,c,rfl⟩:=(show LsW w' o L from⟨_,_,oo,Nat.le_refl _⟩).form;exact hK.out _ _ b ⟨A,c,rfl,⟨_,_,oo,Nat.le_refl _⟩⟩
    simp only[Act.put,List.setIfInBounds_toArray,List.set_cons_zero,List.set_cons_succ,Sg.pick,Nat.reduceAdd]
    refine⟨fun W' K' Q0 hI hD hK=> ?_,?_⟩
    ·obtain⟨Ax,cx,ex,lx⟩:=(show ∃A c,vs 2= .slice A L.length c∧LsW W' (vs 2) L from hD.out 2 (by kernel_rfl))
     rw[ex] at lx
     rw[ex] at hK⊢
     go_simp
     refine(sameWordsR_any _ _ L L _ (M.out.below hI.out.1) (lsw_rd lx)).mono ?_;rintro e w' ⟨rfl,b⟩;simp only[decide_true];exact hK.out _ _ b rfl
    simp only[Act.put,List.setIfInBounds_toArray,List.set_cons_zero,List.set_cons_succ,Sg.pick,Nat.reduceAdd]
    refine⟨fun W' K' Q0 hI hD hK=> ?_,?_⟩
    ·skip
     go_simp
     exact hK.out _ _ rfl rfl
    simp only[Act.put,List.setIfInBounds_toArray,List.set_cons_zero,List.set_cons_succ,Sg.pick,Nat.reduceAdd]
    refine⟨fun W' K' Q0 hI hD hK=> ?_,?_⟩
    ·skip
     go_simp
     exact hK.out _ _ rfl rfl
    simp only[Act.put,List.setIfInBounds_toArray,List.set_cons_zero,List.set_cons_succ,Sg.pick,Nat.reduceAdd]
    refine⟨fun W' K' Q0 hI hD hK=> ?_,?_⟩
    ·have z0:=(G.out.below hI.out.1).c0
     have z1:=(G.out.below hI.out.1).c1
     have z2:=(G.out.below hI.out.1).c2
     go_simp
     exact hK.out _ _ rfl rfl
    simp only[Act.put,List.setIfInBounds_toArray,List.set_cons_zero,List.set_cons_succ,Sg.pick,Nat.reduceAdd]
    refine⟨fun W' K' Q0 hI hD hK=> ?_,?_⟩
    ·skip
     go_simp
     refine(HCI.out _ (G.out.below hI.out.1).arg).mono ?_;rintro e w' ⟨o,rfl,oo,b⟩;obtain⟨A,c,rfl⟩:=(show LsW w' o C from⟨_,_,oo,Nat.le_refl _⟩).form;exact hK.out _ _ b ⟨A,c,rfl,⟨_,_,oo,Nat.le_refl _⟩⟩
    simp only[Act.put,List.setIfInBounds_toArray,List.set_cons_zero,List.set_cons_succ,Sg.pick,Nat.reduceAdd]
    refine⟨fun W' K' Q0 hI hD hK=> ?_,?_⟩
    ·have z0:=(G.out.below hI.out.1).c0
     have z1:=(G.out.below hI.out.1).c1
     have z2:=(G.out.below hI.out.1).c2
     go_simp
     exact hK.out _ _ rfl rfl
    simp only[Act.put,List.setIfInBounds_toArray,List.set_cons_zero,List.set_cons_succ,Sg.pick,Nat.reduceAdd]
    refine⟨fun W' K' Q0 hI hD hK=> ?_,?_⟩
    ·skip
     go_simp
     refine(HCS.out _ (G.out.below hI.out.1).arg).mono ?_;rintro e w' ⟨o,rfl,oo,b⟩;obtain⟨A,c,rfl⟩:=(show LsW w' o C from⟨_,_,oo,Nat.le_refl _⟩).form;exact hK.out _ _ b ⟨A,c,rfl,⟨_,_,oo,Nat.le_refl _⟩⟩
    simp only[Act.put,List.setIfInBounds_toArray,List.set_cons_zero,List.set_cons_succ,Sg.pick,Nat.reduceAdd]
    refine⟨fun W' K' Q0 hI hD hK=> ?_,?_⟩
    ·obtain⟨Ax,cx,ex,lx⟩:=(show ∃A c,vs 7= .slice A C.length c∧LsW W' (vs 7) C from hD.out 7 (by kernel_rfl))
     rw[ex] at lx
     obtain⟨Ay,cy,ey,ly⟩:=(show ∃A c,vs 9= .slice A C.length c∧LsW W' (vs 9) C from hD.out 9 (by kernel_rfl))
     rw[ey] at ly
     rw[ex,ey] at hK⊢
     go_simp
     refine(sameL _ _ C C _ lx ly).mono ?_;rintro e w' ⟨rfl,b⟩;simp only[decide_true];exact hK.out _ _ b rfl
    simp only[Act.put,List.setIfInBounds_toArray,List.set_cons_zero,List.set_cons_succ,Sg.pick,Nat.reduceAdd]
    refine⟨fun W' K' Q0 hI hD hK=> ?_,?_⟩
    ·skip
     go_simp
     exact hK.out _ _ rfl rfl
    simp only[Act.put,List.setIfInBounds_toArray,List.set_cons_zero,List.set_cons_succ,Sg.pick,Nat.reduceAdd]
    refine⟨fun W' K' Q0 hI hD hK=> ?_,?_⟩
    ·skip
     go_simp
     exact hK.out _ _ rfl rfl
    simp only[Act.put,List.setIfInBounds_toArray,List.set_cons_zero,List.set_cons_succ,Sg.pick,Nat.reduceAdd]
    refine⟨fun W' K' Q0 hI hD hK=> ?_,?_⟩
    ·skip
     go_simp
     exact hK.out _ _ rfl rfl
    simp only[Act.put,List.setIfInBounds_toArray,List.set_cons_zero,List.set_cons_succ,Sg.pick,Nat.reduceAdd]
    refine⟨fun W' K' Q0 hI hD hK=> ?_,?_⟩
    ·skip
     go_simp
     exact hK.out _ _ rfl rfl
    simp only[Act.put,List.setIfInBounds_toArray,List.set_cons_zero,List.set_cons_succ,Sg.pick,Nat.reduceAdd]
    refine⟨fun W' K' Q0 hI hD hK=> ?_,?_⟩
    ·skip
     go_simp
     exact hK.out _ _ rfl rfl
    simp only[Act.put,List.setIfInBounds_toArray,List.set_cons_zero,List.set_cons_succ,Sg.pick,Nat.reduceAdd]
    refine⟨fun W' K' Q0 hI hD hK=> ?_,?_⟩
    ·skip
     go_simp
     exact hK.out _ _ rfl rfl
    simp only[Act.put,List.setIfInBounds_toArray,List.set_cons_zero,List.set_cons_succ,Sg.pick,Nat.reduceAdd]
    refine⟨trivial,?_⟩
    simp only[Act.put,List.setIfInBounds_toArray,List.set_cons_zero,List.set_cons_succ,Sg.pick,Nat.reduceAdd]
    refine⟨trivial,?_⟩
    simp only[Act.put,List.setIfInBounds_toArray,List.set_cons_zero,List.set_cons_succ,Sg.pick,Nat.reduceAdd]
    refine⟨trivial,?_⟩
    simp only[Act.put,List.setIfInBounds_toArray,List.set_cons_zero,List.set_cons_succ,Sg.pick,Nat.reduceAdd]
    refine⟨trivial,?_⟩
    simp only[Act.put,List.setIfInBounds_toArray,List.set_cons_zero,List.set_cons_succ,Sg.pick,Nat.reduceAdd]
    refine⟨fun W' K' Q0 hI hD hK=> ?_,?_⟩
    ·skip
     go_simp
     exact hK.out _ _ rfl rfl
    simp only[Act.put,List.setIfInBounds_toArray,List.set_cons_zero,List.set_cons_succ,Sg.pick,Nat.reduceAdd]
    refine⟨fun W' K' Q0 hI hD hK=> ?_,?_⟩
    ·skip
     go_simp
     exact hK.out _ _ rfl rfl
    simp only[Act.put,List.setIfInBounds_toArray,List.set_cons_zero,List.set_cons_succ,Sg.pick,Nat.reduceAdd]
    intro W9 hI9 hD9
    have I9:=hDD hI9.out.1
    clear hI9 hD9
    go_wp2_with fail
    go_meet
    exact⟨rfl,I9.out⟩
   ·obtain⟨hn,hq1,htl⟩:=HTF.out rfl
    clear HTF HFN HAP HSB
    subst hn
    have hq0:(0:Int)<n:=by omega
    have hq0b:decide ((0:Int)<n)=true:=decide_eq_true hq0
    refine wp_region_genG [] [.val (.slice AL L.length cL), .val (.agg #[.int .i64 q1, .int .i64 n, .slice A1 qs.length c1]), .mem (fun _ W v=> ∃A c,v= .slice A L.length c∧LsW W v L), .val (.bool true), .val (.bool false), .val (.bool false), .val (.agg #[.int .i64 q1, .int .i64 n, .slice A1 qs.length c1]), .mem (fun _ W v=> ∃A c,v= .slice A C.length c∧LsW W v C), .val (.agg #[.int .i64 q1, .int .i64 n, .slice A1 qs.length c1]), .mem (fun _ W v=> ∃A c,v= .slice A C.length c∧LsW W v C), .val (.bool true), .val (.bool false), .val (.bool false), .val (.bool false), .val (.int .i64 (n)), .val (.bool true), .val (.bool true), .val (.slice AL L.length cL), .val (.int .i64 n), .val (.int .i64 n), .val (.bool false), .val (.bool false), .val (.bool false)]
     [none,none,some (fun W W'=>Below W.heap.size W W'),some (fun W W'=>Below W.heap.size W W'),none,none,none,some (fun W W'=>Below W.heap.size W W'),none,some (fun W W'=>Below W.heap.size W W'),some (fun W W'=>Below W.heap.size W W'),none,none,none,none,none,none,none,none,none,none,none,none]
     (fun W=>Below w4.heap.size w4 W) (fun _=>True) [] [(2,3),(2,7),(2,9),(2,10),(7,9),(7,10),(9,10)] (by kernel_rfl) (by kernel_rfl) (by kernel_rfl)
     trivial (by rfl) (by rfl) (Below.refl _ _).drew trivial
     ⟨fun _ _ h t=>h.trans (t.mono h.size),fun _ _ h t=>h.trans (t.mono h.size),fun _ _ h t=>h.trans (t.mono h.size),fun _ _ h t=>h.trans (t.mono h.size),fun _ _ h t=>h.trans (t.mono h.size),trivial⟩ (itD_nil _ 0)
     ⟨fun _ _ _ _ _ _ t h=>by obtain⟨A,c,e,h⟩:=h;exact⟨A,c,e,h.below t⟩,fun _ _ _ _ _ _ t h=>by obtain⟨A,c,e,h⟩:=h;exact⟨A,c,e,h.below t⟩,fun _ _ _ _ _ _ t h=>by obtain⟨A,c,e,h⟩:=h;exact⟨A,c,e,h.below t⟩,fun _ _ _ _ _ _ t h=>by obtain⟨A,c,e,h⟩:=h;exact⟨A,c,e,h.below t⟩,fun _ _ _ _ _ _ t h=>by obtain⟨A,c,e,h⟩:=h;exact⟨A,c,e,h.below t⟩,fun _ _ _ _ _ _ t h=>by obtain⟨A,c,e,h⟩:=h;exact⟨A,c,e,h.below t⟩,fun _ _ _ _ _ _ t h=>by obtain⟨A,c,e,h⟩:=h;exact⟨A,c,e,h.below t⟩,trivial⟩ (fun vs=> ?_)
    refine⟨fun W' K' Q0 hI hD hK=> ?_,?_⟩
    ·skip
     go_simp
     exact hK.out _ _ rfl rfl
    simp only[Act.put,List.setIfInBounds_toArray,List.set_cons_zero,List.set_cons_succ,Sg.pick,Nat.reduceAdd]
    refine⟨fun W' K' Q0 hI hD hK=> ?_,?_⟩
    ·have z0:=(G.out.below hI.out.1).c0
     have z1:=(G.out.below hI.out.1).c1
     have z2:=(G.out.below hI.out.1).c2
     go_simp
     exact hK.out _ _ rfl rfl
    simp only[Act.put,List.setIfInBounds_toArray,List.set_cons_zero,List.set_cons_succ,Sg.pick,Nat.reduceAdd]
    refine⟨fun W' K' Q0 hI hD hK=> ?_,?_⟩
    ·skip
     go_simp
     refine(HTS.out _ (G.out.below hI.out.1).arg).mono ?_;rintro e w' ⟨o,rfl,oo,b⟩;obtain⟨A,c,rfl⟩:=(show LsW w' o L from⟨_,_,oo,Nat.le_refl _⟩).form;exact hK.out _ _ b ⟨A,c,rfl,⟨_,_,oo,Nat.le_refl _⟩⟩
    simp only[Act.put,List.setIfInBounds_toArray,List.set_cons_zero,List.set_cons_succ,Sg.pick,Nat.reduceAdd]
    refine⟨fun W' K' Q0 hI hD hK=> ?_,?_⟩
    ·obtain⟨Ax,cx,ex,lx⟩:=(show ∃A c,vs 2= .slice A L.length c∧LsW W' (vs 2) L from hD.out 2 (by kernel_rfl))
     rw[ex] at lx
     rw[ex] at hK⊢
     go_simp
     refine(sameWordsR_any _ _ L L _ (M.out.below hI.out.1) (lsw_rd lx)).mono ?_;rintro e w' ⟨rfl,b⟩;simp only[decide_true];exact hK.out _ _ b rfl
    simp only[Act.put,List.setIfInBounds_toArray,List.set_cons_zero,List.set_cons_succ,Sg.pick,Nat.reduceAdd]
    refine⟨fun W' K' Q0 hI hD hK=> ?_,?_⟩
    ·skip
     go_simp
     exact hK.out _ _ rfl rfl
    simp only[Act.put,List.setIfInBounds_toArray,List.set_cons_zero,List.set_cons_succ,Sg.pick,Nat.reduceAdd]
    refine⟨fun W' K' Q0 hI hD hK=> ?_,?_⟩
    ·skip
     go_simp
     exact hK.out _ _ rfl rfl
    simp only[Act.put,List.setIfInBounds_toArray,List.set_cons_zero,List.set_cons_succ,Sg.pick,Nat.reduceAdd]
    refine⟨fun W' K' Q0 hI hD hK=> ?_,?_⟩
    ·have z0:=(G.out.below hI.out.1).c0
     have z1:=(G.out.below hI.out.1).c1
     have z2:=(G.out.below hI.out.1).c2
     go_simp
     exact hK.out _ _ rfl rfl
    simp only[Act.put,List.setIfInBounds_toArray,List.set_cons_zero,List.set_cons_succ,Sg.pick,Nat.reduceAdd]
    refine⟨fun W' K' Q0 hI hD hK=> ?_,?_⟩
    ·skip
     go_simp
     refine(HCI.out _ (G.out.below hI.out.1).arg).mono ?_;rintro e w' ⟨o,rfl,oo,b⟩;obtain⟨A,c,rfl⟩:=(show LsW w' o C from⟨_,_,oo,Nat.le_refl _⟩).form;exact hK.out _ _ b ⟨A,c,rfl,⟨_,_,oo,Nat.le_refl _⟩⟩
    simp only[Act.put,List.setIfInBounds_toArray,List.set_cons_zero,List.set_cons_succ,Sg.pick,Nat.reduceAdd]
    refine⟨fun W' K' Q0 hI hD hK=> ?_,?_⟩
    ·have z0:=(G.out.below hI.out.1).c0
     have z1:=(G.out.below hI.out.1).c1
     have z2:=(G.out.below hI.out.1).c2
     go_simp
     exact hK.out _ _ rfl rfl
    simp only[Act.put,List.setIfInBounds_toArray,List.set_cons_zero,List.set_cons_succ,Sg.pick,Nat.reduceAdd]
    refine⟨fun W' K' Q0 hI hD hK=> ?_,?_⟩
    ·skip
     go_simp
     refine(HCS.out _ (G.out.below hI.out.1).arg).mono ?_;rintro e w' ⟨o,rfl,oo,b⟩;obtain⟨A,c,rfl⟩:=(show LsW w' o C from⟨_,_,oo,Nat.le_refl _⟩).form;exact hK.out _ _ b ⟨A,c,rfl,⟨_,_,oo,Nat.le_refl _⟩⟩
    simp only[Act.put,List.setIfInBounds_toArray,List.set_cons_zero,List.set_cons_succ,Sg.pick,Nat.reduceAdd]
    refine⟨fun W' K' Q0 hI hD hK=> ?_,?_⟩
    ·obtain⟨Ax,cx,ex,lx⟩:=(show ∃A c,vs 7= .slice A C.length c∧LsW W' (vs 7) C from hD.out 7 (by kernel_rfl))
     rw[ex] at lx
     obtain⟨Ay,cy,ey,ly⟩:=(show ∃A c,vs 9= .slice A C.length c∧LsW W' (vs 9) C from hD.out 9 (by kernel_rfl))
     rw[ey] at ly
     rw[ex,ey] at hK⊢
     go_simp
     refine(sameL _ _ C C _ lx ly).mono ?_;rintro e w' ⟨rfl,b⟩;simp only[decide_true];exact hK.out _ _ b rfl
    simp only[Act.put,List.setIfInBounds_toArray,List.set_cons_zero,List.set_cons_succ,Sg.pick,Nat.reduceAdd]
    refine⟨fun W' K' Q0 hI hD hK=> ?_,?_⟩
    ·skip
     go_simp
     exact hK.out _ _ rfl rfl
    simp only[Act.put,List.setIfInBounds_toArray,List.set_cons_zero,List.set_cons_succ,Sg.pick,Nat.reduceAdd]
    refine⟨fun W' K' Q0 hI hD hK=> ?_,?_⟩
    ·skip
     go_simp
     exact hK.out _ _ rfl rfl
    simp only[Act.put,List.setIfInBounds_toArray,List.set_cons_zero,List.set_cons_succ,Sg.pick,Nat.reduceAdd]
    refine⟨fun W' K' Q0 hI hD hK=> ?_,?_⟩
    ·skip
     go_simp
     exact hK.out _ _ rfl rfl
    simp only[Act.put,List.setIfInBounds_toArray,List.set_cons_zero,List.set_cons_succ,Sg.pick,Nat.reduceAdd]
    refine⟨fun W' K' Q0 hI hD hK=> ?_,?_⟩
    ·skip
     go_simp
     exact hK.out _ _ rfl rfl
    simp only[Act.put,List.setIfInBounds_toArray,List.set_cons_zero,List.set_cons_succ,Sg.pick,Nat.reduceAdd]
    refine⟨fun W' K' Q0 hI hD hK=> ?_,?_⟩
    ·skip
     go_simp
     exact hK.out _ _ rfl rfl
    simp only[Act.put,List.setIfInBounds_toArray,List.set_cons_zero,List.set_cons_succ,Sg.pick,Nat.reduceAdd]
    refine⟨fun W' K' Q0 hI hD hK=> ?_,?_⟩
    ·skip
     go_simp
     exact hK.out _ _ rfl rfl
    simp only[Act.put,List.setIfInBounds_toArray,List.set_cons_zero,List.set_cons_succ,Sg.pick,Nat.reduceAdd]
    refine⟨fun W' K' Q0 hI hD hK=> ?_,?_⟩
    ·skip
     go_simp
     exact hK.out _ _ rfl rfl
    simp only[Act.put,List.setIfInBounds_toArray,List.set_cons_zero,List.set_cons_succ,Sg.pick,Nat.reduceAdd]
    refine⟨fun W' K' Q0 hI hD hK=> ?_,?_⟩
    ·skip
     go_simp
     exact hK.out _ _ rfl rfl
    simp only[Act.put,List.setIfInBounds_toArray,List.set_cons_zero,List.set_cons_succ,Sg.pick,Nat.reduceAdd]
    refine⟨fun W' K' Q0 hI hD hK=> ?_,?_⟩
    ·skip
     go_simp
     exact hK.out _ _ rfl rfl
    simp only[Act.put,List.setIfInBounds_toArray,List.set_cons_zero,List.set_cons_succ,Sg.pick,Nat.reduceAdd]
    refine⟨fun W' K' Q0 hI hD hK=> ?_,?_⟩
    ·skip
     go_simp
     exact hK.out _ _ rfl rfl
    simp only[Act.put,List.setIfInBounds_toArray,List.set_cons_zero,List.set_cons_succ,Sg.pick,Nat.reduceAdd]
    refine⟨fun W' K' Q0 hI hD hK=> ?_,?_⟩
    ·skip
     go_simp
     exact hK.out _ _ rfl rfl
    simp only[Act.put,List.setIfInBounds_toArray,List.set_cons_zero,List.set_cons_succ,Sg.pick,Nat.reduceAdd]
    refine⟨fun W' K' Q0 hI hD hK=> ?_,?_⟩
    ·skip
     go_simp
     exact hK.out _ _ rfl rfl
    simp only[Act.put,List.setIfInBounds_toArray,List.set_cons_zero,List.set_cons_succ,Sg.pick,Nat.reduceAdd]
    intro W9 hI9 hD9
    have I9:=hDD hI9.out.1
    clear hI9 hD9
    go_wp2_with fail
    go_meet
    exact⟨rfl,I9.out⟩
  case rest=>as_aux_lemma=>
   obtain⟨rfl,b⟩:=hcut
   replace V:=hDD (V.out.below b)
   replace G:=hDD (G.out.below b)
   replace M:=hDD (M.out.below b)
   replace BZ:=hDD (BZ.out.trans (b.mono BZ.out.size))
   clear b HTS HCS HCI HTF HFN
   rename World=>wb
   have hLM:=HLM.out
   clear HLM
   go_wp2_with fail
   go_loopw [6] (fun iv wr=> ∃i:Nat,i≤L.length∧iv= .int .i64 i∧Below wb.heap.size wb wr) (fun iv _=>L.length-(intOf iv).toNat)
   case atStart=>exact⟨0,Nat.zero_le _,rfl,Below.refl _ _⟩
   case round=>
    obtain⟨i,hi,rfl,hB⟩:=hrel
    have hsb:=hB.size
    have BL:=hDD hB
    replace V:=hDD (V.out.below hB)
    replace G:=hDD (G.out.below hB)
    replace M:=hDD (M.out.below hB)
    replace BZ:=hDD (BZ.out.trans (hB.mono BZ.out.size))
    clear hB
    by_cases hlt:i<L.length
    ·have hltI:(i:Int)<(L.length:Int):=by omega
     go_wp2_with fail
     go_loopw [7] (fun kv ws=> ∃k:Nat,k≤i∧kv= .int .i64 k∧Below wb.heap.size wb ws∧Below wr.heap.size wr ws) (fun kv _=>i-(intOf kv).toNat)
     case atStart=>exact⟨0,Nat.zero_le _,rfl,BL.out,Below.refl _ _⟩
     case round=>
      obtain⟨k,hk,rfl,hB,hB2⟩:=hrel
      have hsb:=hB.size
      have BL:=hDD hB
      replace V:=hDD (V.out.below hB2)
      replace G:=hDD (G.out.below hB2)
      replace M:=hDD (M.out.below hB2)
      replace BZ:=hDD (BZ.out.trans (hB2.mono BZ.out.size))
      have BR:=hDD hB2
      clear hB hB2
      by_cases hki:k<i
      ·have hkI:(k:Int)<(i:Int):=by omega
       have hkl:k<L.length:=by omega
       have hkL:(k:Int)<(L.length:Int):=by omega
       obtain⟨lb,off,Ai,ci,rfl,hlb,hci,-,-,ri⟩:=M.out.at hlt
       obtain⟨lb',off',Ak,ck,e1,-,hck,-,-,rk⟩:=M.out.at hkl
       injection e1 with e1
       injection e1 with e1 e2
       subst e1;subst e2
       obtain⟨hs,hl1,hl2⟩:=HAP.out i k hlt hkl hki
       have HSC:=hDD (fun W (h:ArgG W (.agg #[.int .i64 q1, .int .i64 q2, .slice A1 qs.length c1]) (q1,q2,qs)) (h1:RdI W _ L[i]) (h2:RdI W _ L[k])=>HSB.out (.slice Ai L[i].length ci) (.slice Ak L[k].length ck) L[i] L[k] W h h1 h2 (by omega) (by omega))
       rw[hs] at HSC
       have RI:=hDD ri
       have RK:=hDD rk
       clear hs hl1 hl2 ri rk
       go_wp2_with fail
       refine wp_region_genG [] [.val (.agg #[.int .i64 q1, .int .i64 q2, .slice A1 qs.length c1]), .val (.slice (some ⟨lb,off,none⟩) L.length cL), .val (.int .i64 i), .val (.pointer (some ⟨lb,off+i,none⟩)), .val (.slice Ai L[i].length ci), .val (.slice (some ⟨lb,off,none⟩) L.length cL), .val (.int .i64 k), .val (.pointer (some ⟨lb,off+k,none⟩)), .val (.slice Ak L[k].length ck), .val (.bool false)]
        [none,none,none,none,none,none,none,none,none,some (fun W W'=>Below W.heap.size W W')]
        (fun W=>Below wr.heap.size wr W) (fun _=>True) [] [] (by kernel_rfl) (by kernel_rfl) (by kernel_rfl)
        trivial (by rfl) (by rfl) (Below.refl _ _).drew trivial
        ⟨fun _ _ h t=>h.trans (t.mono h.size),trivial⟩ (itD_nil _ 0)
        trivial (fun vs=> ?_)
       refine⟨fun W' K' Q0 hI hD hK=> ?_,?_⟩
       ·have z0:=(G.out.below hI.out.1).c0
        have z1:=(G.out.below hI.out.1).c1
        have z2:=(G.out.below hI.out.1).c2
        go_simp
        exact hK.out _ _ rfl rfl
       simp only[Act.put,List.setIfInBounds_toArray,List.set_cons_zero,List.set_cons_succ,Sg.pick,Nat.reduceAdd]
       refine⟨fun W' K' Q0 hI hD hK=> ?_,?_⟩
       ·skip
        go_simp
        exact hK.out _ _ rfl rfl
       simp only[Act.put,List.setIfInBounds_toArray,List.set_cons_zero,List.set_cons_succ,Sg.pick,Nat.reduceAdd]
       refine⟨fun W' K' Q0 hI hD hK=> ?_,?_⟩
       ·skip
        go_simp
        exact hK.out _ _ rfl rfl
       simp only[Act.put,List.setIfInBounds_toArray,List.set_cons_zero,List.set_cons_succ,Sg.pick,Nat.reduceAdd]
       refine⟨fun W' K' Q0 hI hD hK=> ?_,?_⟩
       ·skip
        go_simp
        exact hK.out _ _ rfl rfl
       simp only[Act.put,List.setIfInBounds_toArray,List.set_cons_zero,List.set_cons_succ,Sg.pick,Nat.reduceAdd]
       refine⟨fun W' K' Q0 hI hD hK=> ?_,?_⟩
       ·have z0:=(hI.out.1.cell (p:=⟨lb,off+i,none⟩) hlb).trans hci
        go_simp
        exact hK.out _ _ rfl rfl
       simp only[Act.put,List.setIfInBounds_toArray,List.set_cons_zero,List.set_cons_succ,Sg.pick,Nat.reduceAdd]
       refine⟨fun W' K' Q0 hI hD hK=> ?_,?_⟩
       ·skip
        go_simp
        exact hK.out _ _ rfl rfl
       simp only[Act.put,List.setIfInBounds_toArray,List.set_cons_zero,List.set_cons_succ,Sg.pick,Nat.reduceAdd]
       refine⟨fun W' K' Q0 hI hD hK=> ?_,?_⟩
       ·skip
        go_simp
        exact hK.out _ _ rfl rfl
       simp only[Act.put,List.setIfInBounds_toArray,List.set_cons_zero,List.set_cons_succ,Sg.pick,Nat.reduceAdd]
       refine⟨fun W' K' Q0 hI hD hK=> ?_,?_⟩
       ·skip
        go_simp
        exact hK.out _ _ rfl rfl
       simp only[Act.put,List.setIfInBounds_toArray,List.set_cons_zero,List.set_cons_succ,Sg.pick,Nat.reduceAdd]
       refine⟨fun W' K' Q0 hI hD hK=> ?_,?_⟩
       ·have z0:=(hI.out.1.cell (p:=⟨lb,off+k,none⟩) hlb).trans hck
        go_simp
        exact hK.out _ _ rfl rfl
       simp only[Act.put,List.setIfInBounds_toArray,List.set_cons_zero,List.set_cons_succ,Sg.pick,Nat.reduceAdd]
       refine⟨fun W' K' Q0 hI hD hK=> ?_,?_⟩
       ·skip
        go_simp
        refine(HSC.out _ (G.out.below hI.out.1).arg (RI.out.below hI.out.1) (RK.out.below hI.out.1)).mono ?_;rintro e w' ⟨rfl,b⟩;exact hK.out _ _ b rfl
       simp only[Act.put,List.setIfInBounds_toArray,List.set_cons_zero,List.set_cons_succ,Sg.pick,Nat.reduceAdd]
       intro W9 hI9 hD9
       have I9:=hDD hI9.out.1
       clear hI9 hD9
       have hwk:IntKind.i64.wrap ((k:Int)+1)=((k+1:Nat):Int):=by rw[IntKind.wrap_i64];omega
       go_wp2
       go_roundw
       case rel=>exact⟨k+1,by omega,by go_num,BL.out.trans (I9.out.mono hsb),BR.out.trans (I9.out.mono BR.out.size)⟩
       case measure=>(simp[intOf];omega)
      ·have hkI: ¬(k:Int)<(i:Int):=by omega
       have hwk:IntKind.i64.wrap ((i:Int)+1)=((i+1:Nat):Int):=by rw[IntKind.wrap_i64];omega
       go_wp2
       go_roundw
       case rel=>exact⟨i+1,by omega,by go_num,BL.out⟩
       case measure=>(simp[intOf];omega)
    have hltI: ¬(i:Int)<(L.length:Int):=by omega
    clear HSB HAP M hlt hi
    go_wp2_with fail
    refine(drawCos_any _ x0 _ V.out hl').mono ?_
    rintro e w5 ⟨gv,wv,⟨p1,p2,ps⟩,ys,rfl,⟨s3,rfl,k1,k2,oe3⟩,hpl,oy,hyl,b⟩
    obtain⟨A3,c3,rfl,-⟩:=oe3.form
    obtain⟨Ay,cy,rfl,-⟩:=oy.form
    simp only at k1 k2 oe3 hpl hyl⊢
    replace V:=hDD (V.out.below b)
    replace BZ:=hDD (BZ.out.trans (b.mono BZ.out.size))
    have Y:=hDD oy.rd
    have OE3:=hDD oe3
    clear oe3 oy b BL G
    obtain⟨W6,hW6⟩: ∃W,W=w5.alloc (Obj.cells #[Value.int IntKind.i64 p1,Value.int IntKind.i64 p2, .slice A3 ps.length c3] 26):=⟨_,rfl⟩
    have g6:=GBx.new (m:=(p1,p2,ps)) OE3.out k1 k2 hW6
    obtain⟨-,b6,s6⟩:=CBx.new hW6
    have G:=hDD g6
    replace V:=hDD (V.out.below b6)
    replace Y:=hDD (Y.out.below b6)
    replace BZ:=hDD (BZ.out.trans (b6.mono BZ.out.size))
    have hy3:=lt3_of hyl.2
    have hyl1:=hyl.1
    have HC1:=hDD (fun W (h:ArgG W (.agg #[.int .i64 p1, .int .i64 p2, .slice A3 ps.length c3]) (p1,p2,ps)) (h1:RdI W (.slice Ay ys.length cy) ys)=>implCosetOf_any _ _ (p1,p2,ps) ys W h h1 (by omega))
    have HC2:=hDD (fun W (h:ArgG W (.agg #[.int .i64 p1, .int .i64 p2, .slice A3 ps.length c3]) (p1,p2,ps)) (h1:RdI W (.slice Ay ys.length cy) ys)=>specCosetOf_any _ _ (p1,p2,ps) ys W h h1 (by omega))
    have HSB:=hDD (fun va vb (a b:List Int) W (h:ArgG W (.agg #[.int .i64 p1, .int .i64 p2, .slice A3 ps.length c3]) (p1,p2,ps))=>implSameCoset_any _ va vb (p1,p2,ps) a b W h)
    have HIF:=hDD (fun W (h:ArgG W (.agg #[.int .i64 p1, .int .i64 p2, .slice A3 ps.length c3]) (p1,p2,ps))=>specIsFiniteIndex_any _ (p1,p2,ps) W h)
    have HTS:=hDD (fun W (h:ArgG W (.agg #[.int .i64 p1, .int .i64 p2, .slice A3 ps.length c3]) (p1,p2,ps))=>specTransversal_any _ (p1,p2,ps) W h)
    obtain⟨ic,hic⟩: ∃b,b=coreB (p1,p2,ps):=⟨_,rfl⟩
    obtain⟨C0,hC0⟩: ∃C,C=(if coreB (p1,p2,ps)=true then cosF (p1,p2,ps) ys else []):=⟨_,rfl⟩
    obtain⟨fh,hfh⟩: ∃b,b=finB (p1,p2,ps):=⟨_,rfl⟩
    have HLC:Hid (C0.length≤140):=hDD (by
     rw[hC0]
     split
     ·rename_i hc
      have:=cos_len hc (w:=ys)
      omega
     ·simp)
    have HSM:Hid (ic=true→samB (p1,p2,ps) C0 ys=true∧redL [] C0=C0):=hDD fun h=>by
     rw[hic] at h
     rw[hC0,if_pos h]
     exact⟨cos_same h hy3,cos_red h hy3⟩
    have HFC:Hid (fh=true→ic=true∧C0∈trvL (p1,p2,ps)):=hDD fun h=>by
     rw[hfh] at h
     have hc:=fin_core h
     refine⟨by rw[hic];exact hc,?_⟩
     rw[hC0,if_pos hc]
     refine cos_trv hc h fun y hy=>letters_mem.2 ?_
     have hr:=(grB_parts (core_parts hc).1).1
     have:=hyl.2 y hy
     simp only at hr⊢
     omega
    have HLT:=hDD (trv_max (p1,p2,ps))
    rw[←hC0,←hic] at HC1 HC2
    rw[←hfh] at HIF
    clear hyl hic hC0 hfh hy3
    go_wp2_with fail
    rw[←hW6]
    clear hW6 g6 b6 OE3
    generalize w5.heap.size=hb at*
    refine(HC1.out _ G.out.arg Y.out).mono ?_
    rintro e w7 ⟨rv,rfl,oc,b⟩
    obtain⟨Ac,cc,rfl,-⟩:=oc.form
    have Z:=hDD oc.rd
    replace V:=hDD (V.out.below b)
    replace G:=hDD (G.out.below b)
    replace Y:=hDD (Y.out.below b)
    replace BZ:=hDD (BZ.out.trans (b.mono BZ.out.size))
    clear b oc HC1
    have u0:=G.out.c0
    have u1:=G.out.c1
    have u2:=G.out.c2
    simp only at u0 u1 u2
    go_wp2_with fail
    refine(HC2.out _ G.out.arg Y.out).mono ?_
    rintro e w8 ⟨rv,rfl,oc,b⟩
    obtain⟨Ad,cd,rfl,-⟩:=oc.form
    have D:=hDD oc.rd
    replace V:=hDD (V.out.below b)
    replace G:=hDD (G.out.below b)
    replace Y:=hDD (Y.out.below b)
    replace Z:=hDD (Z.out.below b)
    replace BZ:=hDD (BZ.out.trans (b.mono BZ.out.size))
    clear b oc HC2 u0 u1 u2
    go_upto_region 21 with fail
    have BC:=hDD (Below.refl w8.heap.size w8)
    go_cut [145] (fun s wx=>s= .bool false∧Below w8.heap.size w8 wx)
    case first=>as_aux_lemma=>
     have HSI:=hDD (sameI _ _ C0 C0 w8 Z.out D.out)
     simp only[decide_true] at HSI
     have hlc:=HLC.out
     cases ic
     ·go_wp2_with fail
      refine HSI.out.mono ?_
      rintro e w9 ⟨rfl,b⟩
      replace BC:=hDD (BC.out.trans b)
      clear b
      go_wp2_with fail
      go_meet
      exact⟨rfl,BC.out⟩
     ·obtain⟨hs1,hs2⟩:=HSM.out rfl
      have HSC:=hDD (fun W (h:ArgG W (.agg #[.int .i64 p1, .int .i64 p2, .slice A3 ps.length c3]) (p1,p2,ps)) h1 h2=>HSB.out (.slice Ac C0.length cc) (.slice Ay ys.length cy) C0 ys W h h1 h2 (by omega) (by omega))
      rw[hs1] at HSC
      have HRL:=hDD (fun W h=>specReduceLetters_any (.slice Ac C0.length cc) C0 W h (by omega))
      rw[hs2] at HRL
      clear hs1 hs2
      go_wp2_with fail
      refine HSI.out.mono ?_
      rintro e w9 ⟨rfl,b⟩
      replace BC:=hDD (BC.out.trans b)
      replace G:=hDD (G.out.below b)
      replace Y:=hDD (Y.out.below b)
      replace Z:=hDD (Z.out.below b)
      clear b
      have u0:=G.out.c0
      have u1:=G.out.c1
      have u2:=G.out.c2
      simp only at u0 u1 u2
      go_wp2_with fail
      refine(HSC.out _ G.out.arg Z.out Y.out).mono ?_
      rintro e wt ⟨rfl,b⟩
      replace BC:=hDD (BC.out.trans (b.mono BC.out.size))
      replace Z:=hDD (Z.out.below b)
      clear b u0 u1 u2
      go_wp2_with fail
      refine(HRL.out _ Z.out).mono ?_
      rintro e wu ⟨rv,rfl,oc,b⟩
      obtain⟨Ae,ce,rfl,-⟩:=oc.form
      have D:=hDD oc.rd
      replace BC:=hDD (BC.out.trans (b.mono BC.out.size))
      replace Z:=hDD (Z.out.below b)
      clear b oc
      go_wp2_with fail
      refine(sameI _ _ C0 C0 _ D.out Z.out).mono ?_
      rintro e wv ⟨rfl,b⟩
      simp only[decide_true]
      replace BC:=hDD (BC.out.trans (b.mono BC.out.size))
      clear b
      go_wp2_with fail
      go_meet
      exact⟨rfl,BC.out⟩
    case rest=>as_aux_lemma=>
     obtain⟨rfl,b⟩:=hcut
     replace V:=hDD (V.out.below b)
     replace G:=hDD (G.out.below b)
     replace Z:=hDD (Z.out.below b)
     replace BZ:=hDD (BZ.out.trans (b.mono BZ.out.size))
     clear b BC HSM HSB D Y
     rename World=>wc
     go_upto_region 23 with fail
     have BC:=hDD (Below.refl wc.heap.size wc)
     go_cut [150] (fun s wx=>s= .bool fh∧Below wc.heap.size wc wx)
     case first=>as_aux_lemma=>
      cases ic
      ·have hff:fh=false:=by
        cases fh
        ·rfl
        ·exact absurd (HFC.out rfl).1 (by decide)
       subst hff
       go_wp2_with fail
       go_meet
       exact⟨rfl,BC.out⟩
      ·have u0:=G.out.c0
       have u1:=G.out.c1
       have u2:=G.out.c2
       simp only at u0 u1 u2
       go_wp2_with fail
       refine(HIF.out _ G.out.arg).mono ?_
       rintro e w9 ⟨rfl,b⟩
       replace BC:=hDD (BC.out.trans b)
       clear b
       go_wp2_with fail
       go_meet
       exact⟨rfl,BC.out⟩
     case rest=>as_aux_lemma=>
      obtain⟨rfl,b⟩:=hcut
      replace V:=hDD (V.out.below b)
      replace G:=hDD (G.out.below b)
      replace Z:=hDD (Z.out.below b)
      replace BZ:=hDD (BZ.out.trans (b.mono BZ.out.size))
      clear b BC HIF
      rename World=>wd
      go_upto_if 150 with fail
      have BC:=hDD (Below.refl wd.heap.size wd)
      go_cut [14,15,16] (fun _ _ _ wx=>Below wd.heap.size wd wx)
      case first=>as_aux_lemma=>
       cases fh
       ·go_wp2_with fail
        go_meet
        exact BC.out
       ·obtain⟨-,hin⟩:=HFC.out rfl
        have HIN:=hDD hin
        have hlt:=HLT.out
        clear hin HFC HLT
        generalize trvL (p1,p2,ps)=L at*
        have u0:=G.out.c0
        have u1:=G.out.c1
        have u2:=G.out.c2
        simp only at u0 u1 u2
        go_wp2_with fail
        refine(HTS.out _ G.out.arg).mono ?_
        rintro e we ⟨lv,rfl,oo,b⟩
        have M:=(show LsW we lv L from⟨_,_,oo,Nat.le_refl _⟩) |>lsw_rd
        obtain⟨AL,cL,rfl,-⟩:=M.form
        replace M:=hDD M
        replace Z:=hDD (Z.out.below b)
        replace BC:=hDD (BC.out.trans b)
        clear oo b HTS u0 u1 u2
        go_wp2_with fail
        go_loopw [14,16] (fun bv iv wr=> ∃k:Nat,k≤L.length∧iv= .int .i64 k∧bv= .bool (decide (C0∈L.take k))∧Below we.heap.size we wr) (fun _ iv _=>L.length-(intOf iv).toNat)
        case atStart=>exact⟨0,Nat.zero_le _,rfl,by simp,Below.refl _ _⟩
        case round=>
         obtain⟨k,hk,rfl,rfl,b⟩:=hrel
         have hsb:=b.size
         replace M:=hDD (M.out.below b)
         replace Z:=hDD (Z.out.below b)
         replace BC:=hDD (BC.out.trans (b.mono BC.out.size))
         have BL:=hDD b
         clear b
         by_cases hlt:k<L.length
         ·obtain⟨lb,off,A2,c2,rfl,hg,hc,-,-,hx⟩:=M.out.at hlt
          have HT:Hid (decide (C0∈L.take (k+1))=(decide (C0∈L.take k)||decide (L[k]=C0))):=hDD (mem_take_dec hlt)
          have X2:=hDD hx
          have hI:(k:Int)<(L.length:Int):=by omega
          have hwk:IntKind.i64.wrap ((k:Int)+1)=((k+1:Nat):Int):=by rw[IntKind.wrap_i64];omega
          clear hx
          generalize L[k]=x at*
          generalize decide (C0∈L.take k)=bb at*
          cases bb
          ·go_wp2_with fail
           refine(sameI _ _ x C0 _ X2.out Z.out).mono ?_
           rintro e w9 ⟨rfl,b⟩
           replace BL:=hDD (BL.out.trans (b.mono hsb))
           clear b
           rw[Bool.false_or] at HT
           generalize decide (x=C0)=b3 at*
           go_wp2
           go_roundw
           case rel=>exact⟨k+1,by omega,by go_num,by rw[HT.out],BL.out⟩
           case measure=>(simp[intOf];omega)
          ·go_wp2
           go_roundw
           case rel=>exact⟨k+1,by omega,by go_num,by rw[HT.out,Bool.true_or],BL.out⟩
           case measure=>(simp[intOf];omega)
         obtain rfl:k=L.length:=by omega
         rw[List.take_length]
         rw[decide_eq_true HIN.out]
         clear BL hsb
         go_wp2_with fail
         go_meet
         exact BC.out
      case rest=>as_aux_lemma=>
       have b:=hcut
       clear hcut BC HFC HLT HTS
       replace V:=hDD (V.out.below b)
       replace BZ:=hDD (BZ.out.trans (b.mono BZ.out.size))
       clear b G Z HLC
       rename World=>we
       go_wp2_with fail
       refine(drawSam_any _ x0 _ V.out hl').mono ?_
       rintro e wf ⟨gv,av,bv,⟨r1,r2,rs⟩,us,zs,rfl,⟨s5,rfl,l1,l2,oe5⟩,hrl,ou,hul,oz,hzl,b⟩
       obtain⟨A5,c5,rfl,-⟩:=oe5.form
       obtain⟨Au,cu,rfl,-⟩:=ou.form
       obtain⟨Az,cz,rfl,-⟩:=oz.form
       simp only at l1 l2 oe5 hrl hul hzl⊢
       replace V:=hDD (V.out.below b)
       replace BZ:=hDD (BZ.out.trans (b.mono BZ.out.size))
       have U:=hDD ou.rd
       have Z:=hDD oz.rd
       have OE5:=hDD oe5
       clear oe5 ou oz b
       obtain⟨W6,hW6⟩: ∃W,W=wf.alloc (Obj.cells #[Value.int IntKind.i64 r1,Value.int IntKind.i64 r2, .slice A5 rs.length c5] 26):=⟨_,rfl⟩
       have g6:=GBx.new (m:=(r1,r2,rs)) OE5.out l1 l2 hW6
       obtain⟨-,b6,s6⟩:=CBx.new hW6
       have G:=hDD g6
       replace V:=hDD (V.out.below b6)
       replace U:=hDD (U.out.below b6)
       replace Z:=hDD (Z.out.below b6)
       replace BZ:=hDD (BZ.out.trans (b6.mono BZ.out.size))
       have hu3:=lt3_of hul.2
       have hz3:=lt3_of hzl.2
       have hul1:=hul.1
       have hzl1:=hzl.1
       have HC1:=hDD (fun W (h:ArgG W (.agg #[.int .i64 r1, .int .i64 r2, .slice A5 rs.length c5]) (r1,r2,rs)) (h1:RdI W (.slice Au us.length cu) us)=>implCosetOf_any _ _ (r1,r2,rs) us W h h1 (by omega))
       have HC2:=hDD (fun W (h:ArgG W (.agg #[.int .i64 r1, .int .i64 r2, .slice A5 rs.length c5]) (r1,r2,rs)) (h1:RdI W (.slice Az zs.length cz) zs)=>implCosetOf_any _ _ (r1,r2,rs) zs W h h1 (by omega))
       have HS1:=hDD (fun W (h:ArgG W (.agg #[.int .i64 r1, .int .i64 r2, .slice A5 rs.length c5]) (r1,r2,rs)) (h1:RdI W (.slice Au us.length cu) us) (h2:RdI W (.slice Az zs.length cz) zs)=>implSameCoset_any _ _ _ (r1,r2,rs) us zs W h h1 h2 (by omega) (by omega))
       have HS2:=hDD (fun W (h:ArgG W (.agg #[.int .i64 r1, .int .i64 r2, .slice A5 rs.length c5]) (r1,r2,rs)) (h1:RdI W (.slice Au us.length cu) us) (h2:RdI W (.slice Az zs.length cz) zs)=>specSameCoset_any _ _ _ (r1,r2,rs) us zs W h h1 h2 (by omega) (by omega))
       obtain⟨ia,hia⟩: ∃b,b=coreB (r1,r2,rs):=⟨_,rfl⟩
       obtain⟨sb,hsb⟩: ∃b,b=samB (r1,r2,rs) us zs:=⟨_,rfl⟩
       obtain⟨CU,hCU⟩: ∃C,C=(if coreB (r1,r2,rs)=true then cosF (r1,r2,rs) us else []):=⟨_,rfl⟩
       obtain⟨CZ,hCZ⟩: ∃C,C=(if coreB (r1,r2,rs)=true then cosF (r1,r2,rs) zs else []):=⟨_,rfl⟩
       have HSM:Hid (ia=true→decide (CU=CZ)=sb):=hDD fun h=>by
        rw[hia] at h
        rw[hsb,hCU,hCZ,if_pos h,if_pos h]
        exact(same_cos h hu3 hz3).symm
       rw[←hCU,←hia] at HC1
       rw[←hCZ,←hia] at HC2
       rw[←hsb] at HS1 HS2
       clear hul hzl hia hsb hCU hCZ hu3 hz3
       go_wp2_with fail
       rw[←hW6]
       clear hW6 g6 b6 OE5
       generalize wf.heap.size=ab at*
       refine(HC1.out _ G.out.arg U.out).mono ?_
       rintro e wg ⟨rv,rfl,oc,b⟩
       obtain⟨Ac,cc,rfl,-⟩:=oc.form
       have X:=hDD oc.rd
       replace V:=hDD (V.out.below b)
       replace G:=hDD (G.out.below b)
       replace U:=hDD (U.out.below b)
       replace Z:=hDD (Z.out.below b)
       replace BZ:=hDD (BZ.out.trans (b.mono BZ.out.size))
       clear b oc HC1
       have u0:=G.out.c0
       have u1:=G.out.c1
       have u2:=G.out.c2
       simp only at u0 u1 u2
       go_wp2_with fail
       refine(HC2.out _ G.out.arg Z.out).mono ?_
       rintro e wh ⟨rv,rfl,oc,b⟩
       obtain⟨Ad,cd,rfl,-⟩:=oc.form
       have Y:=hDD oc.rd
       replace V:=hDD (V.out.below b)
       replace G:=hDD (G.out.below b)
       replace U:=hDD (U.out.below b)
       replace Z:=hDD (Z.out.below b)
       replace X:=hDD (X.out.below b)
       replace BZ:=hDD (BZ.out.trans (b.mono BZ.out.size))
       clear b oc HC2 u0 u1 u2
       go_wp2_with fail
       refine(drawMis_any _ x0 _ V.out hl').mono ?_
       rintro e wi ⟨gv,⟨t1,t2,ts⟩,rfl,⟨s7,rfl,n1,n2,oe7⟩,htl,b⟩
       obtain⟨A7,c7,rfl,-⟩:=oe7.form
       simp only at n1 n2 oe7 htl⊢
       replace V:=hDD (V.out.below b)
       replace G:=hDD (G.out.below b)
       replace U:=hDD (U.out.below b)
       replace Z:=hDD (Z.out.below b)
       replace X:=hDD (X.out.below b)
       replace Y:=hDD (Y.out.below b)
       replace BZ:=hDD (BZ.out.trans (b.mono BZ.out.size))
       have OE7:=hDD oe7
       clear oe7 b
       obtain⟨W8,hW8⟩: ∃W,W=wi.alloc (Obj.cells #[Value.int IntKind.i64 t1,Value.int IntKind.i64 t2, .slice A7 ts.length c7] 26):=⟨_,rfl⟩
       have g8:=GBx.new (m:=(t1,t2,ts)) OE7.out n1 n2 hW8
       obtain⟨-,b8,s8⟩:=CBx.new hW8
       have K:=hDD g8
       replace V:=hDD (V.out.below b8)
       replace G:=hDD (G.out.below b8)
       replace U:=hDD (U.out.below b8)
       replace Z:=hDD (Z.out.below b8)
       replace X:=hDD (X.out.below b8)
       replace Y:=hDD (Y.out.below b8)
       replace BZ:=hDD (BZ.out.trans (b8.mono BZ.out.size))
       have HM1:=hDD (fun W (h:ArgG W (.agg #[.int .i64 t1, .int .i64 t2, .slice A7 ts.length c7]) (t1,t2,ts))=>implMissing_all _ (t1,t2,ts) W h)
       have HM2:=hDD (fun W (h:ArgG W (.agg #[.int .i64 t1, .int .i64 t2, .slice A7 ts.length c7]) (t1,t2,ts))=>specMissing_all _ (t1,t2,ts) W h)
       generalize misO (t1,t2,ts)=E at*
       go_wp2_with fail
       rw[←hW8]
       clear hW8 g8 b8 OE7
       generalize wi.heap.size=kb at*
       refine(drawSch_any _ x0 _ V.out hl').mono ?_
       rintro e wj ⟨p,q,rfl,hp,hq,b⟩
       replace G:=hDD (G.out.below b)
       replace U:=hDD (U.out.below b)
       replace Z:=hDD (Z.out.below b)
       replace X:=hDD (X.out.below b)
       replace Y:=hDD (Y.out.below b)
       replace K:=hDD (K.out.below b)
       replace BZ:=hDD (BZ.out.trans (b.mono BZ.out.size))
       clear b V hp hq
       have HR1:=hDD (implSchreierRank_any p q)
       have HR2:=hDD (specSchreierRank_any p q)
       generalize schr p q=sr at*
       go_wp2_with fail
       have BC:=hDD (Below.refl wj.heap.size wj)
       rcases ia with _ | _
       ·skip
        refine wp_region_genG [13,14,15,16,17,18,19,20] [.val (.agg #[.int .i64 r1, .int .i64 r2, .slice A5 rs.length c5]), .val (.slice Au us.length cu), .val (.slice Az zs.length cz), .val (.bool sb), .val (.agg #[.int .i64 r1, .int .i64 r2, .slice A5 rs.length c5]), .val (.slice Au us.length cu), .val (.slice Az zs.length cz), .val (.bool sb), .val (.bool true), .val (.bool true), .val (.bool false), .val (.bool true), .val (.bool true), .val undef, .val undef, .val undef, .val undef, .val undef, .val undef, .val undef, .val undef, .val (.bool true), .val (.bool true), .val (.bool true), .val (.agg #[.int .i64 t1, .int .i64 t2, .slice A7 ts.length c7]), .mem (fun _ W v=> ∃A c,v= .slice A E.length c∧ArgE W v E), .val (.agg #[.int .i64 t1, .int .i64 t2, .slice A7 ts.length c7]), .mem (fun _ W v=> ∃A c,v= .slice A E.length c∧ArgE W v E), .val (.bool true), .val (.bool true), .val (.bool true), .val (.int .i64 p), .val (.int .i64 q), .val (.int .i64 sr), .val (.int .i64 p), .val (.int .i64 q), .val (.int .i64 sr), .val (.bool true), .val (.bool true), .val (.bool true)]
         [none,none,none,some (fun W W'=>Below W.heap.size W W'),none,none,none,some (fun W W'=>Below W.heap.size W W'),none,none,none,none,none,none,none,none,none,none,none,none,none,none,none,none,none,some (fun W W'=>Below W.heap.size W W'),none,some (fun W W'=>Below W.heap.size W W'),some (fun W W'=>Below W.heap.size W W'),none,none,none,none,none,none,none,none,none,none,none]
         (fun W=>Below wj.heap.size wj W) (fun _=>True) [] [(25,27),(25,28),(27,28)] (by kernel_rfl) (by kernel_rfl) (by kernel_rfl)
         ⟨⟨rfl,rfl⟩,⟨rfl,rfl⟩,⟨rfl,rfl⟩,⟨rfl,rfl⟩,⟨rfl,rfl⟩,⟨rfl,rfl⟩,⟨rfl,rfl⟩,⟨rfl,rfl⟩,trivial⟩ (by rfl) (by rfl) (Below.refl _ _).drew trivial
         ⟨fun _ _ h t=>h.trans (t.mono h.size),fun _ _ h t=>h.trans (t.mono h.size),fun _ _ h t=>h.trans (t.mono h.size),fun _ _ h t=>h.trans (t.mono h.size),fun _ _ h t=>h.trans (t.mono h.size),trivial⟩ (itD_nil _ 0)
         ⟨fun _ _ _ _ _ _ t h=>by obtain⟨A,c,e,h⟩:=h;exact⟨A,c,e,h.below t⟩,fun _ _ _ _ _ _ t h=>by obtain⟨A,c,e,h⟩:=h;exact⟨A,c,e,h.below t⟩,fun _ _ _ _ _ _ t h=>by obtain⟨A,c,e,h⟩:=h;exact⟨A,c,e,h.below t⟩,trivial⟩ (fun vs=> ?_)
        refine⟨fun W' K' Q0 hI hD hK=> ?_,?_⟩
        ·have z0:=(G.out.below hI.out.1).c0
         have z1:=(G.out.below hI.out.1).c1
         have z2:=(G.out.below hI.out.1).c2
         go_simp
         exact hK.out _ _ rfl rfl
        simp only[Act.put,List.setIfInBounds_toArray,List.set_cons_zero,List.set_cons_succ,Sg.pick,Nat.reduceAdd]
        refine⟨fun W' K' Q0 hI hD hK=> ?_,?_⟩
        ·skip
         go_simp
         exact hK.out _ _ rfl rfl
        simp only[Act.put,List.setIfInBounds_toArray,List.set_cons_zero,List.set_cons_succ,Sg.pick,Nat.reduceAdd]
        refine⟨fun W' K' Q0 hI hD hK=> ?_,?_⟩
        ·skip
         go_simp
         exact hK.out _ _ rfl rfl
        simp only[Act.put,List.setIfInBounds_toArray,List.set_cons_zero,List.set_cons_succ,Sg.pick,Nat.reduceAdd]
        refine⟨fun W' K' Q0 hI hD hK=> ?_,?_⟩
        ·skip
         go_simp
         refine(HS1.out _ (G.out.below hI.out.1).arg (U.out.below hI.out.1) (Z.out.below hI.out.1)).mono ?_;rintro e w' ⟨rfl,b⟩;exact hK.out _ _ b rfl
        simp only[Act.put,List.setIfInBounds_toArray,List.set_cons_zero,List.set_cons_succ,Sg.pick,Nat.reduceAdd]
        refine⟨fun W' K' Q0 hI hD hK=> ?_,?_⟩
        ·have z0:=(G.out.below hI.out.1).c0
         have z1:=(G.out.below hI.out.1).c1
         have z2:=(G.out.below hI.out.1).c2
         go_simp
         exact hK.out _ _ rfl rfl
        simp only[Act.put,List.setIfInBounds_toArray,List.set_cons_zero,List.set_cons_succ,Sg.pick,Nat.reduceAdd]
        refine⟨fun W' K' Q0 hI hD hK=> ?_,?_⟩
        ·skip
         go_simp
         exact hK.out _ _ rfl rfl
        simp only[Act.put,List.setIfInBounds_toArray,List.set_cons_zero,List.set_cons_succ,Sg.pick,Nat.reduceAdd]
        refine⟨fun W' K' Q0 hI hD hK=> ?_,?_⟩
        ·skip
         go_simp
         exact hK.out _ _ rfl rfl
        simp only[Act.put,List.setIfInBounds_toArray,List.set_cons_zero,List.set_cons_succ,Sg.pick,Nat.reduceAdd]
        refine⟨fun W' K' Q0 hI hD hK=> ?_,?_⟩
        ·skip
         go_simp
         refine(HS2.out _ (G.out.below hI.out.1).arg (U.out.below hI.out.1) (Z.out.below hI.out.1)).mono ?_;rintro e w' ⟨rfl,b⟩;exact hK.out _ _ b rfl
        simp only[Act.put,List.setIfInBounds_toArray,List.set_cons_zero,List.set_cons_succ,Sg.pick,Nat.reduceAdd]
        refine⟨fun W' K' Q0 hI hD hK=> ?_,?_⟩
        ·skip
         go_simp
         exact hK.out _ _ rfl rfl
        simp only[Act.put,List.setIfInBounds_toArray,List.set_cons_zero,List.set_cons_succ,Sg.pick,Nat.reduceAdd]
        refine⟨fun W' K' Q0 hI hD hK=> ?_,?_⟩
        ·skip
         go_simp
         exact hK.out _ _ rfl rfl
        simp only[Act.put,List.setIfInBounds_toArray,List.set_cons_zero,List.set_cons_succ,Sg.pick,Nat.reduceAdd]
        refine⟨fun W' K' Q0 hI hD hK=> ?_,?_⟩
        ·skip
         go_simp
         exact hK.out _ _ rfl rfl
        simp only[Act.put,List.setIfInBounds_toArray,List.set_cons_zero,List.set_cons_succ,Sg.pick,Nat.reduceAdd]
        refine⟨fun W' K' Q0 hI hD hK=> ?_,?_⟩
        ·skip
         go_simp
         exact hK.out _ _ rfl rfl
        simp only[Act.put,List.setIfInBounds_toArray,List.set_cons_zero,List.set_cons_succ,Sg.pick,Nat.reduceAdd]
        refine⟨fun W' K' Q0 hI hD hK=> ?_,?_⟩
        ·skip
         go_simp
         exact hK.out _ _ rfl rfl
        simp only[Act.put,List.setIfInBounds_toArray,List.set_cons_zero,List.set_cons_succ,Sg.pick,Nat.reduceAdd]
        refine⟨trivial,?_⟩
        simp only[Act.put,List.setIfInBounds_toArray,List.set_cons_zero,List.set_cons_succ,Sg.pick,Nat.reduceAdd]
        refine⟨trivial,?_⟩
        simp only[Act.put,List.setIfInBounds_toArray,List.set_cons_zero,List.set_cons_succ,Sg.pick,Nat.reduceAdd]
        refine⟨trivial,?_⟩
        simp only[Act.put,List.setIfInBounds_toArray,List.set_cons_zero,List.set_cons_succ,Sg.pick,Nat.reduceAdd]
        refine⟨trivial,?_⟩
        simp only[Act.put,List.setIfInBounds_toArray,List.set_cons_zero,List.set_cons_succ,Sg.pick,Nat.reduceAdd]
        refine⟨trivial,?_⟩
        simp only[Act.put,List.setIfInBounds_toArray,List.set_cons_zero,List.set_cons_succ,Sg.pick,Nat.reduceAdd]
        refine⟨trivial,?_⟩
        simp only[Act.put,List.setIfInBounds_toArray,List.set_cons_zero,List.set_cons_succ,Sg.pick,Nat.reduceAdd]
        refine⟨trivial,?_⟩
        simp only[Act.put,List.setIfInBounds_toArray,List.set_cons_zero,List.set_cons_succ,Sg.pick,Nat.reduceAdd]
        refine⟨trivial,?_⟩
        simp only[Act.put,List.setIfInBounds_toArray,List.set_cons_zero,List.set_cons_succ,Sg.pick,Nat.reduceAdd]
        refine⟨fun W' K' Q0 hI hD hK=> ?_,?_⟩
        ·skip
         go_simp
         exact hK.out _ _ rfl rfl
        simp only[Act.put,List.setIfInBounds_toArray,List.set_cons_zero,List.set_cons_succ,Sg.pick,Nat.reduceAdd]
        refine⟨fun W' K' Q0 hI hD hK=> ?_,?_⟩
        ·skip
         go_simp
         exact hK.out _ _ rfl rfl
        simp only[Act.put,List.setIfInBounds_toArray,List.set_cons_zero,List.set_cons_succ,Sg.pick,Nat.reduceAdd]
        refine⟨fun W' K' Q0 hI hD hK=> ?_,?_⟩
        ·skip
         go_simp
         exact hK.out _ _ rfl rfl
        simp only[Act.put,List.setIfInBounds_toArray,List.set_cons_zero,List.set_cons_succ,Sg.pick,Nat.reduceAdd]
        refine⟨fun W' K' Q0 hI hD hK=> ?_,?_⟩
        ·have z0:=(K.out.below hI.out.1).c0
         have z1:=(K.out.below hI.out.1).c1
         have z2:=(K.out.below hI.out.1).c2
         go_simp
         exact hK.out _ _ rfl rfl
        simp only[Act.put,List.setIfInBounds_toArray,List.set_cons_zero,List.set_cons_succ,Sg.pick,Nat.reduceAdd]
        refine⟨fun W' K' Q0 hI hD hK=> ?_,?_⟩
        ·skip
         go_simp
         refine(HM1.out _ (K.out.below hI.out.1).arg).mono ?_;rintro e w' ⟨o,rfl,oo,b⟩;obtain⟨A,c,rfl,-⟩:=oo.form;exact hK.out _ _ b ⟨A,c,rfl,oo.arg⟩
        simp only[Act.put,List.setIfInBounds_toArray,List.set_cons_zero,List.set_cons_succ,Sg.pick,Nat.reduceAdd]
        refine⟨fun W' K' Q0 hI hD hK=> ?_,?_⟩
        ·have z0:=(K.out.below hI.out.1).c0
         have z1:=(K.out.below hI.out.1).c1
         have z2:=(K.out.below hI.out.1).c2
         go_simp
         exact hK.out _ _ rfl rfl
        simp only[Act.put,List.setIfInBounds_toArray,List.set_cons_zero,List.set_cons_succ,Sg.pick,Nat.reduceAdd]
        refine⟨fun W' K' Q0 hI hD hK=> ?_,?_⟩
        ·skip
         go_simp
         refine(HM2.out _ (K.out.below hI.out.1).arg).mono ?_;rintro e w' ⟨o,rfl,oo,b⟩;obtain⟨A,c,rfl,-⟩:=oo.form;exact hK.out _ _ b ⟨A,c,rfl,oo.arg⟩
        simp only[Act.put,List.setIfInBounds_toArray,List.set_cons_zero,List.set_cons_succ,Sg.pick,Nat.reduceAdd]
        refine⟨fun W' K' Q0 hI hD hK=> ?_,?_⟩
        ·obtain⟨Ax,cx,ex,lx⟩:=(show ∃A c,vs 25= .slice A E.length c∧ArgE W' (vs 25) E from hD.out 25 (by kernel_rfl))
         rw[ex] at lx
         obtain⟨Ay,cy,ey,ly⟩:=(show ∃A c,vs 27= .slice A E.length c∧ArgE W' (vs 27) E from hD.out 27 (by kernel_rfl))
         rw[ey] at ly
         rw[ex,ey] at hK⊢
         go_simp
         refine(sameEdges_any _ _ E _ lx ly).mono ?_;rintro e w' ⟨rfl,b⟩;exact hK.out _ _ b rfl
        simp only[Act.put,List.setIfInBounds_toArray,List.set_cons_zero,List.set_cons_succ,Sg.pick,Nat.reduceAdd]
        refine⟨fun W' K' Q0 hI hD hK=> ?_,?_⟩
        ·skip
         go_simp
         exact hK.out _ _ rfl rfl
        simp only[Act.put,List.setIfInBounds_toArray,List.set_cons_zero,List.set_cons_succ,Sg.pick,Nat.reduceAdd]
        refine⟨fun W' K' Q0 hI hD hK=> ?_,?_⟩
        ·skip
         go_simp
         exact hK.out _ _ rfl rfl
        simp only[Act.put,List.setIfInBounds_toArray,List.set_cons_zero,List.set_cons_succ,Sg.pick,Nat.reduceAdd]
        refine⟨fun W' K' Q0 hI hD hK=> ?_,?_⟩
        ·skip
         go_simp
         exact hK.out _ _ rfl rfl
        simp only[Act.put,List.setIfInBounds_toArray,List.set_cons_zero,List.set_cons_succ,Sg.pick,Nat.reduceAdd]
        refine⟨fun W' K' Q0 hI hD hK=> ?_,?_⟩
        ·skip
         go_simp
         exact hK.out _ _ rfl rfl
        simp only[Act.put,List.setIfInBounds_toArray,List.set_cons_zero,List.set_cons_succ,Sg.pick,Nat.reduceAdd]
        refine⟨fun W' K' Q0 hI hD hK=> ?_,?_⟩
        ·skip
         go_simp
         refine(HR1.out _).mono ?_;rintro e w' ⟨rfl,rfl⟩;exact hK.out _ _ rfl rfl
        simp only[Act.put,List.setIfInBounds_toArray,List.set_cons_zero,List.set_cons_succ,Sg.pick,Nat.reduceAdd]
        refine⟨fun W' K' Q0 hI hD hK=> ?_,?_⟩
        ·skip
         go_simp
         exact hK.out _ _ rfl rfl
        simp only[Act.put,List.setIfInBounds_toArray,List.set_cons_zero,List.set_cons_succ,Sg.pick,Nat.reduceAdd]
        refine⟨fun W' K' Q0 hI hD hK=> ?_,?_⟩
        ·skip
         go_simp
         exact hK.out _ _ rfl rfl
        simp only[Act.put,List.setIfInBounds_toArray,List.set_cons_zero,List.set_cons_succ,Sg.pick,Nat.reduceAdd]
        refine⟨fun W' K' Q0 hI hD hK=> ?_,?_⟩
        ·skip
         go_simp
         refine(HR2.out _).mono ?_;rintro e w' ⟨rfl,rfl⟩;exact hK.out _ _ rfl rfl
        simp only[Act.put,List.setIfInBounds_toArray,List.set_cons_zero,List.set_cons_succ,Sg.pick,Nat.reduceAdd]
        refine⟨fun W' K' Q0 hI hD hK=> ?_,?_⟩
        ·skip
         go_simp
         exact hK.out _ _ rfl rfl
        simp only[Act.put,List.setIfInBounds_toArray,List.set_cons_zero,List.set_cons_succ,Sg.pick,Nat.reduceAdd]
        refine⟨fun W' K' Q0 hI hD hK=> ?_,?_⟩
        ·skip
         go_simp
         exact hK.out _ _ rfl rfl
        simp only[Act.put,List.setIfInBounds_toArray,List.set_cons_zero,List.set_cons_succ,Sg.pick,Nat.reduceAdd]
        refine⟨fun W' K' Q0 hI hD hK=> ?_,?_⟩
        ·skip
         go_simp
         exact hK.out _ _ rfl rfl
        simp only[Act.put,List.setIfInBounds_toArray,List.set_cons_zero,List.set_cons_succ,Sg.pick,Nat.reduceAdd]
        intro W9 hI9 hD9
        have I9:=hDD hI9.out.1
        clear hI9 hD9
        go_wp2
        go_ret
        exact⟨rfl,BZ.out.trans (I9.out.mono BZ.out.size)⟩
       ·skip
        refine wp_region_genG [] [.val (.agg #[.int .i64 r1, .int .i64 r2, .slice A5 rs.length c5]), .val (.slice Au us.length cu), .val (.slice Az zs.length cz), .val (.bool sb), .val (.agg #[.int .i64 r1, .int .i64 r2, .slice A5 rs.length c5]), .val (.slice Au us.length cu), .val (.slice Az zs.length cz), .val (.bool sb), .val (.bool true), .val (.bool true), .val (.bool true), .val (.bool false), .val (.bool false), .val (.agg #[.int .i64 r1, .int .i64 r2, .slice A5 rs.length c5]), .val (.slice Au us.length cu), .val (.slice Az zs.length cz), .val (.bool sb), .val (.slice Ac CU.length cc), .val (.slice Ad CZ.length cd), .val (.bool sb), .val (.bool true), .val (.bool true), .val (.bool true), .val (.bool true), .val (.agg #[.int .i64 t1, .int .i64 t2, .slice A7 ts.length c7]), .mem (fun _ W v=> ∃A c,v= .slice A E.length c∧ArgE W v E), .val (.agg #[.int .i64 t1, .int .i64 t2, .slice A7 ts.length c7]), .mem (fun _ W v=> ∃A c,v= .slice A E.length c∧ArgE W v E), .val (.bool true), .val (.bool true), .val (.bool true), .val (.int .i64 p), .val (.int .i64 q), .val (.int .i64 sr), .val (.int .i64 p), .val (.int .i64 q), .val (.int .i64 sr), .val (.bool true), .val (.bool true), .val (.bool true)]
         [none,none,none,some (fun W W'=>Below W.heap.size W W'),none,none,none,some (fun W W'=>Below W.heap.size W W'),none,none,none,none,none,none,none,none,some (fun W W'=>Below W.heap.size W W'),none,none,some (fun W W'=>Below W.heap.size W W'),none,none,none,none,none,some (fun W W'=>Below W.heap.size W W'),none,some (fun W W'=>Below W.heap.size W W'),some (fun W W'=>Below W.heap.size W W'),none,none,none,none,none,none,none,none,none,none,none]
         (fun W=>Below wj.heap.size wj W) (fun _=>True) [] [(25,27),(25,28),(27,28)] (by kernel_rfl) (by kernel_rfl) (by kernel_rfl)
         trivial (by rfl) (by rfl) (Below.refl _ _).drew trivial
         ⟨fun _ _ h t=>h.trans (t.mono h.size),fun _ _ h t=>h.trans (t.mono h.size),fun _ _ h t=>h.trans (t.mono h.size),fun _ _ h t=>h.trans (t.mono h.size),fun _ _ h t=>h.trans (t.mono h.size),fun _ _ h t=>h.trans (t.mono h.size),fun _ _ h t=>h.trans (t.mono h.size),trivial⟩ (itD_nil _ 0)
         ⟨fun _ _ _ _ _ _ t h=>by obtain⟨A,c,e,h⟩:=h;exact⟨A,c,e,h.below t⟩,fun _ _ _ _ _ _ t h=>by obtain⟨A,c,e,h⟩:=h;exact⟨A,c,e,h.below t⟩,fun _ _ _ _ _ _ t h=>by obtain⟨A,c,e,h⟩:=h;exact⟨A,c,e,h.below t⟩,trivial⟩ (fun vs=> ?_)
        refine⟨fun W' K' Q0 hI hD hK=> ?_,?_⟩
        ·have z0:=(G.out.below hI.out.1).c0
         have z1:=(G.out.below hI.out.1).c1
         have z2:=(G.out.below hI.out.1).c2
         go_simp
         exact hK.out _ _ rfl rfl
        simp only[Act.put,List.setIfInBounds_toArray,List.set_cons_zero,List.set_cons_succ,Sg.pick,Nat.reduceAdd]
        refine⟨fun W' K' Q0 hI hD hK=> ?_,?_⟩
        ·skip
         go_simp
         exact hK.out _ _ rfl rfl
        simp only[Act.put,List.setIfInBounds_toArray,List.set_cons_zero,List.set_cons_succ,Sg.pick,Nat.reduceAdd]
        refine⟨fun W' K' Q0 hI hD hK=> ?_,?_⟩
        ·skip
         go_simp
         exact hK.out _ _ rfl rfl
        simp only[Act.put,List.setIfInBounds_toArray,List.set_cons_zero,List.set_cons_succ,Sg.pick,Nat.reduceAdd]
        refine⟨fun W' K' Q0 hI hD hK=> ?_,?_⟩
        ·skip
         go_simp
         refine(HS1.out _ (G.out.below hI.out.1).arg (U.out.below hI.out.1) (Z.out.below hI.out.1)).mono ?_;rintro e w' ⟨rfl,b⟩;exact hK.out _ _ b rfl
        simp only[Act.put,List.setIfInBounds_toArray,List.set_cons_zero,List.set_cons_succ,Sg.pick,Nat.reduceAdd]
        refine⟨fun W' K' Q0 hI hD hK=> ?_,?_⟩
        ·have z0:=(G.out.below hI.out.1).c0
         have z1:=(G.out.below hI.out.1).c1
         have z2:=(G.out.below hI.out.1).c2
         go_simp
         exact hK.out _ _ rfl rfl
        simp only[Act.put,List.setIfInBounds_toArray,List.set_cons_zero,List.set_cons_succ,Sg.pick,Nat.reduceAdd]
        refine⟨fun W' K' Q0 hI hD hK=> ?_,?_⟩
        ·skip
         go_simp
         exact hK.out _ _ rfl rfl
        simp only[Act.put,List.setIfInBounds_toArray,List.set_cons_zero,List.set_cons_succ,Sg.pick,Nat.reduceAdd]
        refine⟨fun W' K' Q0 hI hD hK=> ?_,?_⟩
        ·skip
         go_simp
         exact hK.out _ _ rfl rfl
        simp only[Act.put,List.setIfInBounds_toArray,List.set_cons_zero,List.set_cons_succ,Sg.pick,Nat.reduceAdd]
        refine⟨fun W' K' Q0 hI hD hK=> ?_,?_⟩
        ·skip
         go_simp
         refine(HS2.out _ (G.out.below hI.out.1).arg (U.out.below hI.out.1) (Z.out.below hI.out.1)).mono ?_;rintro e w' ⟨rfl,b⟩;exact hK.out _ _ b rfl
        simp only[Act.put,List.setIfInBounds_toArray,List.set_cons_zero,List.set_cons_succ,Sg.pick,Nat.reduceAdd]
        refine⟨fun W' K' Q0 hI hD hK=> ?_,?_⟩
        ·skip
         go_simp
         exact hK.out _ _ rfl rfl
        simp only[Act.put,List.setIfInBounds_toArray,List.set_cons_zero,List.set_cons_succ,Sg.pick,Nat.reduceAdd]
        refine⟨fun W' K' Q0 hI hD hK=> ?_,?_⟩
        ·skip
         go_simp
         exact hK.out _ _ rfl rfl
        simp only[Act.put,List.setIfInBounds_toArray,List.set_cons_zero,List.set_cons_succ,Sg.pick,Nat.reduceAdd]
        refine⟨fun W' K' Q0 hI hD hK=> ?_,?_⟩
        ·skip
         go_simp
         exact hK.out _ _ rfl rfl
        simp only[Act.put,List.setIfInBounds_toArray,List.set_cons_zero,List.set_cons_succ,Sg.pick,Nat.reduceAdd]
        refine⟨fun W' K' Q0 hI hD hK=> ?_,?_⟩
        ·skip
         go_simp
         exact hK.out _ _ rfl rfl
        simp only[Act.put,List.setIfInBounds_toArray,List.set_cons_zero,List.set_cons_succ,Sg.pick,Nat.reduceAdd]
        refine⟨fun W' K' Q0 hI hD hK=> ?_,?_⟩
        ·skip
         go_simp
         exact hK.out _ _ rfl rfl
        simp only[Act.put,List.setIfInBounds_toArray,List.set_cons_zero,List.set_cons_succ,Sg.pick,Nat.reduceAdd]
        refine⟨fun W' K' Q0 hI hD hK=> ?_,?_⟩
        ·have z0:=(G.out.below hI.out.1).c0
         have z1:=(G.out.below hI.out.1).c1
         have z2:=(G.out.below hI.out.1).c2
         go_simp
         exact hK.out _ _ rfl rfl
        simp only[Act.put,List.setIfInBounds_toArray,List.set_cons_zero,List.set_cons_succ,Sg.pick,Nat.reduceAdd]
        refine⟨fun W' K' Q0 hI hD hK=> ?_,?_⟩
        ·skip
         go_simp
         exact hK.out _ _ rfl rfl
        simp only[Act.put,List.setIfInBounds_toArray,List.set_cons_zero,List.set_cons_succ,Sg.pick,Nat.reduceAdd]
        refine⟨fun W' K' Q0 hI hD hK=> ?_,?_⟩
        ·skip
         go_simp
         exact hK.out _ _ rfl rfl
        simp only[Act.put,List.setIfInBounds_toArray,List.set_cons_zero,List.set_cons_succ,Sg.pick,Nat.reduceAdd]
        refine⟨fun W' K' Q0 hI hD hK=> ?_,?_⟩
        ·skip
         go_simp
         refine(HS1.out _ (G.out.below hI.out.1).arg (U.out.below hI.out.1) (Z.out.below hI.out.1)).mono ?_;rintro e w' ⟨rfl,b⟩;exact hK.out _ _ b rfl
        simp only[Act.put,List.setIfInBounds_toArray,List.set_cons_zero,List.set_cons_succ,Sg.pick,Nat.reduceAdd]
        refine⟨fun W' K' Q0 hI hD hK=> ?_,?_⟩
        ·skip
         go_simp
         exact hK.out _ _ rfl rfl
        simp only[Act.put,List.setIfInBounds_toArray,List.set_cons_zero,List.set_cons_succ,Sg.pick,Nat.reduceAdd]
        refine⟨fun W' K' Q0 hI hD hK=> ?_,?_⟩
        ·skip
         go_simp
         exact hK.out _ _ rfl rfl
        simp only[Act.put,List.setIfInBounds_toArray,List.set_cons_zero,List.set_cons_succ,Sg.pick,Nat.reduceAdd]
        refine⟨fun W' K' Q0 hI hD hK=> ?_,?_⟩
        ·skip
         go_simp
         refine(sameI _ _ CU CZ _ (X.out.below hI.out.1) (Y.out.below hI.out.1)).mono ?_;rintro e w' ⟨rfl,b⟩;rw[HSM.out rfl];exact hK.out _ _ b rfl
        simp only[Act.put,List.setIfInBounds_toArray,List.set_cons_zero,List.set_cons_succ,Sg.pick,Nat.reduceAdd]
        refine⟨fun W' K' Q0 hI hD hK=> ?_,?_⟩
        ·skip
         go_simp
         exact hK.out _ _ rfl rfl
        simp only[Act.put,List.setIfInBounds_toArray,List.set_cons_zero,List.set_cons_succ,Sg.pick,Nat.reduceAdd]
        refine⟨fun W' K' Q0 hI hD hK=> ?_,?_⟩
        ·skip
         go_simp
         exact hK.out _ _ rfl rfl
        simp only[Act.put,List.setIfInBounds_toArray,List.set_cons_zero,List.set_cons_succ,Sg.pick,Nat.reduceAdd]
        refine⟨fun W' K' Q0 hI hD hK=> ?_,?_⟩
        ·skip
         go_simp
         exact hK.out _ _ rfl rfl
        simp only[Act.put,List.setIfInBounds_toArray,List.set_cons_zero,List.set_cons_succ,Sg.pick,Nat.reduceAdd]
        refine⟨fun W' K' Q0 hI hD hK=> ?_,?_⟩
        ·skip
         go_simp
         exact hK.out _ _ rfl rfl
        simp only[Act.put,List.setIfInBounds_toArray,List.set_cons_zero,List.set_cons_succ,Sg.pick,Nat.reduceAdd]
        refine⟨fun W' K' Q0 hI hD hK=> ?_,?_⟩
        ·have z0:=(K.out.below hI.out.1).c0
         have z1:=(K.out.below hI.out.1).c1
         have z2:=(K.out.below hI.out.1).c2
         go_simp
         exact hK.out _ _ rfl rfl
        simp only[Act.put,List.setIfInBounds_toArray,List.set_cons_zero,List.set_cons_succ,Sg.pick,Nat.reduceAdd]
        refine⟨fun W' K' Q0 hI hD hK=> ?_,?_⟩
        ·skip
         go_simp
         refine(HM1.out _ (K.out.below hI.out.1).arg).mono ?_;rintro e w' ⟨o,rfl,oo,b⟩;obtain⟨A,c,rfl,-⟩:=oo.form;exact hK.out _ _ b ⟨A,c,rfl,oo.arg⟩
        simp only[Act.put,List.setIfInBounds_toArray,List.set_cons_zero,List.set_cons_succ,Sg.pick,Nat.reduceAdd]
        refine⟨fun W' K' Q0 hI hD hK=> ?_,?_⟩
        ·have z0:=(K.out.below hI.out.1).c0
         have z1:=(K.out.below hI.out.1).c1
         have z2:=(K.out.below hI.out.1).c2
         go_simp
         exact hK.out _ _ rfl rfl
        simp only[Act.put,List.setIfInBounds_toArray,List.set_cons_zero,List.set_cons_succ,Sg.pick,Nat.reduceAdd]
        refine⟨fun W' K' Q0 hI hD hK=> ?_,?_⟩
        ·skip
         go_simp
         refine(HM2.out _ (K.out.below hI.out.1).arg).mono ?_;rintro e w' ⟨o,rfl,oo,b⟩;obtain⟨A,c,rfl,-⟩:=oo.form;exact hK.out _ _ b ⟨A,c,rfl,oo.arg⟩
        simp only[Act.put,List.setIfInBounds_toArray,List.set_cons_zero,List.set_cons_succ,Sg.pick,Nat.reduceAdd]
        refine⟨fun W' K' Q0 hI hD hK=> ?_,?_⟩
        ·obtain⟨Ax,cx,ex,lx⟩:=(show ∃A c,vs 25= .slice A E.length c∧ArgE W' (vs 25) E from hD.out 25 (by kernel_rfl))
         rw[ex] at lx
         obtain⟨Ay,cy,ey,ly⟩:=(show ∃A c,vs 27= .slice A E.length c∧ArgE W' (vs 27) E from hD.out 27 (by kernel_rfl))
         rw[ey] at ly
         rw[ex,ey] at hK⊢
         go_simp
         refine(sameEdges_any _ _ E _ lx ly).mono ?_;rintro e w' ⟨rfl,b⟩;exact hK.out _ _ b rfl
        simp only[Act.put,List.setIfInBounds_toArray,List.set_cons_zero,List.set_cons_succ,Sg.pick,Nat.reduceAdd]
        refine⟨fun W' K' Q0 hI hD hK=> ?_,?_⟩
        ·skip
         go_simp
         exact hK.out _ _ rfl rfl
        simp only[Act.put,List.setIfInBounds_toArray,List.set_cons_zero,List.set_cons_succ,Sg.pick,Nat.reduceAdd]
        refine⟨fun W' K' Q0 hI hD hK=> ?_,?_⟩
        ·skip
         go_simp
         exact hK.out _ _ rfl rfl
        simp only[Act.put,List.setIfInBounds_toArray,List.set_cons_zero,List.set_cons_succ,Sg.pick,Nat.reduceAdd]
        refine⟨fun W' K' Q0 hI hD hK=> ?_,?_⟩
        ·skip
         go_simp
         exact hK.out _ _ rfl rfl
        simp only[Act.put,List.setIfInBounds_toArray,List.set_cons_zero,List.set_cons_succ,Sg.pick,Nat.reduceAdd]
        refine⟨fun W' K' Q0 hI hD hK=> ?_,?_⟩
        ·skip
         go_simp
         exact hK.out _ _ rfl rfl
        simp only[Act.put,List.setIfInBounds_toArray,List.set_cons_zero,List.set_cons_succ,Sg.pick,Nat.reduceAdd]
        refine⟨fun W' K' Q0 hI hD hK=> ?_,?_⟩
        ·skip
         go_simp
         refine(HR1.out _).mono ?_;rintro e w' ⟨rfl,rfl⟩;exact hK.out _ _ rfl rfl
        simp only[Act.put,List.setIfInBounds_toArray,List.set_cons_zero,List.set_cons_succ,Sg.pick,Nat.reduceAdd]
        refine⟨fun W' K' Q0 hI hD hK=> ?_,?_⟩
        ·skip
         go_simp
         exact hK.out _ _ rfl rfl
        simp only[Act.put,List.setIfInBounds_toArray,List.set_cons_zero,List.set_cons_succ,Sg.pick,Nat.reduceAdd]
        refine⟨fun W' K' Q0 hI hD hK=> ?_,?_⟩
        ·skip
         go_simp
         exact hK.out _ _ rfl rfl
        simp only[Act.put,List.setIfInBounds_toArray,List.set_cons_zero,List.set_cons_succ,Sg.pick,Nat.reduceAdd]
        refine⟨fun W' K' Q0 hI hD hK=> ?_,?_⟩
        ·skip
         go_simp
         refine(HR2.out _).mono ?_;rintro e w' ⟨rfl,rfl⟩;exact hK.out _ _ rfl rfl
        simp only[Act.put,List.setIfInBounds_toArray,List.set_cons_zero,List.set_cons_succ,Sg.pick,Nat.reduceAdd]
        refine⟨fun W' K' Q0 hI hD hK=> ?_,?_⟩
        ·skip
         go_simp
         exact hK.out _ _ rfl rfl
        simp only[Act.put,List.setIfInBounds_toArray,List.set_cons_zero,List.set_cons_succ,Sg.pick,Nat.reduceAdd]
        refine⟨fun W' K' Q0 hI hD hK=> ?_,?_⟩
        ·skip
         go_simp
         exact hK.out _ _ rfl rfl
        simp only[Act.put,List.setIfInBounds_toArray,List.set_cons_zero,List.set_cons_succ,Sg.pick,Nat.reduceAdd]
        refine⟨fun W' K' Q0 hI hD hK=> ?_,?_⟩
        ·skip
         go_simp
         exact hK.out _ _ rfl rfl
        simp only[Act.put,List.setIfInBounds_toArray,List.set_cons_zero,List.set_cons_succ,Sg.pick,Nat.reduceAdd]
        intro W9 hI9 hD9
        have I9:=hDD hI9.out.1
        clear hI9 hD9
        go_wp2
        go_ret
        exact⟨rfl,BZ.out.trans (I9.out.mono BZ.out.size)⟩
set_option maxRecDepth 100000 in
theorem lifted (os:Os) (started:os.Started) (H:Type) (enc:TypeId×Value→H):
  ReturnsInHanded {} Tryz.checked os 4 .any (Rows.fnIndicesSpec.pre6 enc Tryz.prog Tryz.f4 Rows.fnIndicesRow.domain false) (Rows.fnIndicesSpec.post enc Tryz.prog Tryz.f4 false true false false):=by
 refine returnsInHanded_of_change (C:=Tryz.checked) own started (by kernel_rfl) Tryz.func4
  (ChangeSpec.witness6 (enc:=enc) (C:=Tryz.checked) false ⟨#[],#[.slice none 0 0],[]⟩ 8 (by kernel_rfl) (by kernel_rfl) (by kernel_rfl) (by kernel_rfl)) ?_
 intro W base args ds gs before hval0 hW hcnd _
 have hval: ∀(j:Nat) t v,Tryz.f4.params[j]? =some t→args[j]? =some v→Value.okWide Tryz.prog W .any base t v:=hval0
 have hW':=hW
 obtain⟨p,q,hA0,hV,rfl,hfz,hnd⟩:=hW
 have hA:DataW.TrodAll enc Tryz.prog W 0 (fun _=>true) true Tryz.f4.params.toList args.toList ds p:=hA0
 rw[Tryz.params4] at hA hval
 obtain⟨v0,vs0,d0,ds0,p0,q0,hargs,rfl,rfl,h0,r0⟩:=trodAll_cons hA
 obtain⟨rfl,rfl,rfl⟩:=trodAll_nil r0
 obtain rfl:args= #[v0]:=by cases args;simp_all
 obtain⟨rfl,rfl⟩:=trodVars_none hV
 have k0:=h0
 have lt0: ∀x∈p0,x.block<W.heap.size:=by obtain⟨m,hm⟩:=k0;exact DataW.trod_lt m _ _ _ hm
 obtain⟨x0,a0⟩:=open_argB (hval 0 22 v0 rfl rfl) h0
 clear hA0 hval0
 refine(walk v0 x0 W a0).mono fun e W' ⟨he,bel⟩=> ?_
 subst he
 exact⟨_,rfl,_,_,_,[],_,[],hW',trodAll_mk1 (shut_bool Tryz.underlying4 _),(trodAll_cons_mk (Below.trod laidOut (by kernel_rfl) (of_decide_eq_true (by kernel_rfl)) k0 bel lt0) trodAll_mk0),rfl,bel.frame _,fun h=>by cases h⟩
theorem proved:Rows.FnIndicesSaid:=
 OpenClaim.holds_of_wide 4 Tryz.f4 rfl rfl rfl rfl rfl rfl rfl ⟨rfl,rfl,rfl,rfl,rfl⟩ rfl rfl rfl rfl rfl (by as_aux_lemma=>kernel_rfl) Tryz.func4 closed
  (of_decide_eq_true (by as_aux_lemma=>kernel_rfl)) (by unfold Func.isWrapper;first | (rw[if_pos (by decide+kernel)];kernel_rfl) | (rw[if_neg (by decide+kernel)];exact⟨rfl,rfl⟩))
  (fun os started H enc _=>lifted os started H enc)
#print axioms proved
end Go.Proofs.YteobmaambgmdbaaGreat.fnIndices
