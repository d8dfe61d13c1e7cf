/- The law FnPowers. -/
import Derived.Test.YteobmaambgmdbaaGreatP07
import Derived.Test.YteobmaambgmdbaaGreatP08
import Derived.Test.YteobmaambgmdbaaGreatRows
import Derived.Test.YteobmaambgmdbaaGreatCloFnPowers
namespace Go.Proofs.YteobmaambgmdbaaGreat.fnPowers
set_option maxRecDepth 20000
set_option linter.unusedVariables false
set_option linter.unusedSimpArgs false
open Go.ChangeShapes Go.WideShapes Go.ChangeAt Go.RowKit
open Go.ChangeMaps (open_string shut_string)
theorem powF_nat (g:GrD) (ws:List Int):0≤powF g ws∧powF g ws≤40:=by
 by_cases h:coreB g=true∧wordB g.1 (redL [] ws)=true
 ·obtain⟨hg,hf⟩:=foldB_parts (coreB_foldB h.1)
  obtain⟨_,hsz,_,_⟩:=grB_parts hg
  have e:powF g ws=powF g (redL [] ws):=by
   unfold powF
   rw[red_self2 (wordB_redP h.2)]
  rw[e]
  rcases pow_core hg hf h.1 h.2 with ⟨e,_⟩ | ⟨n,e,h1,h2,_⟩
  ·omega
  ·omega
 ·have:powF g ws=0:=by
   unfold powF
   rw[if_neg (by simpa using h)]
  omega
set_option maxRecDepth 100000 in
set_option maxHeartbeats 8000000 in
theorem walk (v0:Value) (x0:List Int) (w:World) (h0:ArgC w v0 x0):
  Calls Tryz.prog 3 #[v0] w fun e w'=>e= .returned (.bool true)∧Below w.heap.size w w':=by
 have HBIG:=hDD (big_any v0 x0 w h0)
 have V:=hDD h0
 obtain⟨A0,c0,rfl,_⟩:=h0
 by_cases hl:(1048576:Int)<x0.length
 ·have hd:decide ((1048576:Int)<x0.length)=true:=decide_eq_true hl
  rw[hd] at HBIG
  clear hd hl
  go_enter Tryz.func3,Tryz.ntmps3
  go_wp2_with fail
  refine HBIG.out.mono ?_
  rintro e w1 ⟨rfl,rfl⟩
  go_wp2
  go_ret
  exact⟨rfl,Below.refl _ _⟩
 have hd:decide ((1048576:Int)<x0.length)=false:=decide_eq_false hl
 rw[hd] at HBIG
 have hl':x0.length≤1048576:=by omega
 clear hd hl
 go_enter Tryz.func3,Tryz.ntmps3
 go_wp2_with fail
 refine HBIG.out.mono ?_
 rintro e w1 ⟨rfl,rfl⟩
 go_wp2_with fail
 refine(drawPow_any _ x0 _ V.out hl').mono ?_
 rintro e w1 ⟨gv,wv,⟨q1,q2,qs⟩,xs,rfl,⟨s1,rfl,j1,j2,oe1⟩,hql,ox1,hxl,b1⟩
 obtain⟨A1,c1,rfl,_⟩:=oe1.form
 obtain⟨Ax,cx,rfl,_⟩:=ox1.form
 simp only at j1 j2 oe1 hql⊢
 have BZ:=hDD b1
 replace V:=hDD (V.out.below b1)
 have OE1:=hDD oe1
 have OX1:=hDD ox1
 clear oe1 ox1 b1
 obtain⟨W2,hW2⟩: ∃W,W=w1.alloc (Obj.cells #[Value.int IntKind.i64 q1,Value.int IntKind.i64 q2, .slice A1 qs.length c1] 26):=⟨_,rfl⟩
 have g2:=GBx.new (m:=(q1,q2,qs)) OE1.out j1 j2 hW2
 obtain⟨_,b2,s2⟩:=CBx.new hW2
 have G:=hDD g2
 have OX:=hDD (OX1.out.below b2)
 replace V:=hDD (V.out.below b2)
 replace BZ:=hDD (BZ.out.trans (b2.mono BZ.out.size))
 have hpn:=powF_nat (q1,q2,qs) xs
 obtain⟨M,hM⟩: ∃M:Nat,powF (q1,q2,qs) xs=M:=⟨(powF (q1,q2,qs) xs).toNat,by omega⟩
 have HM:=hDD hM
 go_wp2_with fail
 rw[←hW2]
 clear hW2 g2 b2 OE1 OX1 hM hpn
 generalize w1.heap.size=gb at*
 refine(implPowerIn_any _ _ (q1,q2,qs) xs _ G.out.arg OX.out.rd (by omega)).mono ?_
 rintro e w3 ⟨rfl,b⟩
 rw[HM.out]
 replace V:=hDD (V.out.below b)
 replace G:=hDD (G.out.below b)
 replace OX:=hDD (OX.out.below b)
 replace BZ:=hDD (BZ.out.trans (b.mono BZ.out.size))
 clear b
 have u0:=G.out.c0
 have u1:=G.out.c1
 have u2:=G.out.c2
 simp only at u0 u1 u2
 go_wp2_with fail
 refine(specPowerIn_any _ _ (q1,q2,qs) xs _ G.out.arg OX.out.rd (by omega)).mono ?_
 rintro e w4 ⟨rfl,b⟩
 rw[HM.out]
 replace V:=hDD (V.out.below b)
 replace G:=hDD (G.out.below b)
 replace OX:=hDD (OX.out.below b)
 replace BZ:=hDD (BZ.out.trans (b.mono BZ.out.size))
 clear b u0 u1 u2
 have u0:=G.out.c0
 have u1:=G.out.c1
 have u2:=G.out.c2
 simp only at u0 u1 u2
 go_wp2_with fail
 refine(specIsSubgroup_any _ (q1,q2,qs) _ G.out.arg).mono ?_
 rintro e w5 ⟨rfl,b⟩
 replace V:=hDD (V.out.below b)
 replace G:=hDD (G.out.below b)
 replace OX:=hDD (OX.out.below b)
 replace BZ:=hDD (BZ.out.trans (b.mono BZ.out.size))
 clear b u0 u1 u2
 rcases ec:coreB (q1,q2,qs) with _ | _
 ·clear ec HM
  go_wp2_with fail
  refine(drawRts_any _ x0 _ V.out hl').mono ?_
  rintro e w7 ⟨gv2,⟨r1,r2,rs⟩,m,rfl,⟨s7,rfl,y1,y2,oe7⟩,_,hm,b7⟩
  obtain⟨A7,c7,rfl,_⟩:=oe7.form
  simp only at y1 y2 oe7⊢
  have B7:=hDD (BZ.out.trans (b7.mono BZ.out.size))
  have OE7:=hDD oe7
  have hs7:=B7.out.size
  clear oe7 b7 V
  go_wp2_with fail
  obtain⟨W8,hW8⟩: ∃W,W=w7.alloc (Obj.cells #[Value.int IntKind.i64 r1,Value.int IntKind.i64 r2, .slice A7 rs.length c7] 26):=⟨_,rfl⟩
  have g8:=GBx.new (m:=(r1,r2,rs)) OE7.out y1 y2 hW8
  obtain⟨_,b8,s8⟩:=CBx.new hW8
  rw[←hW8]
  have G8:=hDD g8
  have B8:=hDD (B7.out.trans (b8.mono hs7))
  have hs8:=B8.out.size
  clear hW8 g8 b8 OE7
  generalize hL:rootsF (r1,r2,rs) m=L at*
  have HLL:=hDD hL
  clear hL
  refine wp_region_gen [.val (.agg #[.int .i64 r1, .int .i64 r2, .slice A7 rs.length c7]), .val (.int .i64 m), .mem (fun _ W v=> ∃A c,v= .slice A L.length c∧LsW W v L), .val (.agg #[.int .i64 r1, .int .i64 r2, .slice A7 rs.length c7]), .val (.int .i64 m), .mem (fun _ W v=> ∃A c,v= .slice A L.length c∧LsW W v L), .pur (fun _ v=>v= .bool true), .pur (fun _ v=>v= .bool true)]
   [none,none,some (fun W W'=>Below W.heap.size W W'),none,none,some (fun W W'=>Below W.heap.size W W'),some (fun W W'=>Below W.heap.size W W'),none]
   (fun W=>Below W8.heap.size W8 W) [(2,5),(2,6),(5,6)] (by kernel_rfl) (by kernel_rfl) (by rfl) (by rfl) (Below.refl _ _).drew
   ⟨fun _ _ h t=>h.trans (t.mono h.size),fun _ _ h t=>h.trans (t.mono h.size),fun _ _ h t=>h.trans (t.mono h.size),trivial⟩
   ⟨fun _ _ _ _ _ _ t h=>by obtain⟨A,c,e,h⟩:=h;exact⟨A,c,e,h.below t⟩,fun _ _ _ _ _ _ t h=>by obtain⟨A,c,e,h⟩:=h;exact⟨A,c,e,h.below t⟩,fun _ _ _ _ _ _ t h=>by obtain⟨A,c,e,h⟩:=h;exact⟨A,c,e,h.below t⟩,trivial⟩ (fun vs=> ?_)
  refine⟨fun W' K' Q0 hI hD hK=> ?_,?_⟩
  ·have z0:=(G8.out.below hI.out).c0
   have z1:=(G8.out.below hI.out).c1
   have z2:=(G8.out.below hI.out).c2
   go_simp
   exact hK.out _ _ rfl rfl
  simp only[Act.put,List.setIfInBounds_toArray,List.set_cons_zero,List.set_cons_succ,Sg.pick,Nat.reduceAdd]
  refine⟨fun W' K' Q0 hI hD hK=> ?_,?_⟩
  ·skip
   go_simp
   exact hK.out _ _ rfl rfl
  simp only[Act.put,List.setIfInBounds_toArray,List.set_cons_zero,List.set_cons_succ,Sg.pick,Nat.reduceAdd]
  refine⟨fun W' K' Q0 hI hD hK=> ?_,?_⟩
  ·skip
   go_simp
   refine(implRootsIn_any _ (r1,r2,rs) m _ (G8.out.below hI.out).arg).mono ?_;rintro e w' ⟨o,rfl,oo,b⟩;rw[HLL.out] at oo;obtain⟨A,c,rfl⟩:=(show LsW w' o L from⟨_,_,oo,Nat.le_refl _⟩).form;exact hK.out _ _ b ⟨A,c,rfl,⟨_,_,oo,Nat.le_refl _⟩⟩
  simp only[Act.put,List.setIfInBounds_toArray,List.set_cons_zero,List.set_cons_succ,Sg.pick,Nat.reduceAdd]
  refine⟨fun W' K' Q0 hI hD hK=> ?_,?_⟩
  ·have z0:=(G8.out.below hI.out).c0
   have z1:=(G8.out.below hI.out).c1
   have z2:=(G8.out.below hI.out).c2
   go_simp
   exact hK.out _ _ rfl rfl
  simp only[Act.put,List.setIfInBounds_toArray,List.set_cons_zero,List.set_cons_succ,Sg.pick,Nat.reduceAdd]
  refine⟨fun W' K' Q0 hI hD hK=> ?_,?_⟩
  ·skip
   go_simp
   exact hK.out _ _ rfl rfl
  simp only[Act.put,List.setIfInBounds_toArray,List.set_cons_zero,List.set_cons_succ,Sg.pick,Nat.reduceAdd]
  refine⟨fun W' K' Q0 hI hD hK=> ?_,?_⟩
  ·skip
   go_simp
   refine(specRootsIn_any _ (r1,r2,rs) m _ (G8.out.below hI.out).arg).mono ?_;rintro e w' ⟨o,rfl,oo,b⟩;rw[HLL.out] at oo;obtain⟨A,c,rfl⟩:=(show LsW w' o L from⟨_,_,oo,Nat.le_refl _⟩).form;exact hK.out _ _ b ⟨A,c,rfl,⟨_,_,oo,Nat.le_refl _⟩⟩
  simp only[Act.put,List.setIfInBounds_toArray,List.set_cons_zero,List.set_cons_succ,Sg.pick,Nat.reduceAdd]
  refine⟨fun W' K' Q0 hI hD hK=> ?_,?_⟩
  ·obtain⟨Aa,ca,ea,la⟩:=(show ∃A c,vs 2= .slice A L.length c∧LsW W' (vs 2) L from hD.out 2 (by kernel_rfl))
   obtain⟨Ab,cb,eb,lb⟩:=(show ∃A c,vs 5= .slice A L.length c∧LsW W' (vs 5) L from hD.out 5 (by kernel_rfl))
   rw[ea] at la
   rw[eb] at lb
   rw[ea,eb] at hK⊢
   go_simp
   refine(sameL _ _ L L _ la lb).mono ?_;rintro e w' ⟨rfl,b⟩;simp only[decide_true];exact hK.out _ _ b rfl
  simp only[Act.put,List.setIfInBounds_toArray,List.set_cons_zero,List.set_cons_succ,Sg.pick,Nat.reduceAdd]
  refine⟨fun W' K' Q0 hI hD hK=> ?_,?_⟩
  ·have e6:=(show vs 6= .bool true from hD.out 6 (by kernel_rfl))
   rw[e6] at hK⊢
   go_simp
   exact hK.out _ _ rfl rfl
  simp only[Act.put,List.setIfInBounds_toArray,List.set_cons_zero,List.set_cons_succ,Sg.pick,Nat.reduceAdd]
  intro W9 hI9 hD9
  have e7:=(show vs 7= .bool true from hD9.out 7 (by decide))
  rw[e7]
  have I9:=hDD hI9.out
  clear hI9 hD9 e7
  go_wp2
  go_ret
  exact⟨rfl,B8.out.trans (I9.out.mono hs8)⟩
 ·skip
  have u0:=G.out.c0
  have u1:=G.out.c1
  have u2:=G.out.c2
  simp only at u0 u1 u2
  have HIW:=hDD (specIsWord_any q1 _ xs w5 OX.out.arg (by omega))
  go_wp2_with fail
  refine HIW.out.mono ?_
  rintro e w6 ⟨rfl,nd,rfl⟩
  obtain⟨w6,hw6⟩: ∃W,W=w5.drewN nd:=⟨_,rfl⟩
  rw[←hw6]
  have b:Below w5.heap.size w5 w6:=by rw[hw6];exact bel_drewN (Below.refl _ _) _
  replace V:=hDD (V.out.below b)
  replace G:=hDD (G.out.below b)
  replace OX:=hDD (OX.out.below b)
  replace BZ:=hDD (BZ.out.trans (b.mono BZ.out.size))
  clear b hw6 HIW u0 u1 u2
  rcases ew:wordB q1 xs with _ | _
  ·clear ec ew HM
   go_wp2_with fail
   refine(drawRts_any _ x0 _ V.out hl').mono ?_
   rintro e w7 ⟨gv2,⟨r1,r2,rs⟩,m,rfl,⟨s7,rfl,y1,y2,oe7⟩,_,hm,b7⟩
   obtain⟨A7,c7,rfl,_⟩:=oe7.form
   simp only at y1 y2 oe7⊢
   have B7:=hDD (BZ.out.trans (b7.mono BZ.out.size))
   have OE7:=hDD oe7
   have hs7:=B7.out.size
   clear oe7 b7 V
   go_wp2_with fail
   obtain⟨W8,hW8⟩: ∃W,W=w7.alloc (Obj.cells #[Value.int IntKind.i64 r1,Value.int IntKind.i64 r2, .slice A7 rs.length c7] 26):=⟨_,rfl⟩
   have g8:=GBx.new (m:=(r1,r2,rs)) OE7.out y1 y2 hW8
   obtain⟨_,b8,s8⟩:=CBx.new hW8
   rw[←hW8]
   have G8:=hDD g8
   have B8:=hDD (B7.out.trans (b8.mono hs7))
   have hs8:=B8.out.size
   clear hW8 g8 b8 OE7
   generalize hL:rootsF (r1,r2,rs) m=L at*
   have HLL:=hDD hL
   clear hL
   refine wp_region_gen [.val (.agg #[.int .i64 r1, .int .i64 r2, .slice A7 rs.length c7]), .val (.int .i64 m), .mem (fun _ W v=> ∃A c,v= .slice A L.length c∧LsW W v L), .val (.agg #[.int .i64 r1, .int .i64 r2, .slice A7 rs.length c7]), .val (.int .i64 m), .mem (fun _ W v=> ∃A c,v= .slice A L.length c∧LsW W v L), .pur (fun _ v=>v= .bool true), .pur (fun _ v=>v= .bool true)]
    [none,none,some (fun W W'=>Below W.heap.size W W'),none,none,some (fun W W'=>Below W.heap.size W W'),some (fun W W'=>Below W.heap.size W W'),none]
    (fun W=>Below W8.heap.size W8 W) [(2,5),(2,6),(5,6)] (by kernel_rfl) (by kernel_rfl) (by rfl) (by rfl) (Below.refl _ _).drew
    ⟨fun _ _ h t=>h.trans (t.mono h.size),fun _ _ h t=>h.trans (t.mono h.size),fun _ _ h t=>h.trans (t.mono h.size),trivial⟩
    ⟨fun _ _ _ _ _ _ t h=>by obtain⟨A,c,e,h⟩:=h;exact⟨A,c,e,h.below t⟩,fun _ _ _ _ _ _ t h=>by obtain⟨A,c,e,h⟩:=h;exact⟨A,c,e,h.below t⟩,fun _ _ _ _ _ _ t h=>by obtain⟨A,c,e,h⟩:=h;exact⟨A,c,e,h.below t⟩,trivial⟩ (fun vs=> ?_)
   refine⟨fun W' K' Q0 hI hD hK=> ?_,?_⟩
   ·have z0:=(G8.out.below hI.out).c0
    have z1:=(G8.out.below hI.out).c1
    have z2:=(G8.out.below hI.out).c2
    go_simp
    exact hK.out _ _ rfl rfl
   simp only[Act.put,List.setIfInBounds_toArray,List.set_cons_zero,List.set_cons_succ,Sg.pick,Nat.reduceAdd]
   refine⟨fun W' K' Q0 hI hD hK=> ?_,?_⟩
   ·skip
    go_simp
    exact hK.out _ _ rfl rfl
   simp only[Act.put,List.setIfInBounds_toArray,List.set_cons_zero,List.set_cons_succ,Sg.pick,Nat.reduceAdd]
   refine⟨fun W' K' Q0 hI hD hK=> ?_,?_⟩
   ·skip
    go_simp
    refine(implRootsIn_any _ (r1,r2,rs) m _ (G8.out.below hI.out).arg).mono ?_;rintro e w' ⟨o,rfl,oo,b⟩;rw[HLL.out] at oo;obtain⟨A,c,rfl⟩:=(show LsW w' o L from⟨_,_,oo,Nat.le_refl _⟩).form;exact hK.out _ _ b ⟨A,c,rfl,⟨_,_,oo,Nat.le_refl _⟩⟩
   simp only[Act.put,List.setIfInBounds_toArray,List.set_cons_zero,List.set_cons_succ,Sg.pick,Nat.reduceAdd]
   refine⟨fun W' K' Q0 hI hD hK=> ?_,?_⟩
   ·have z0:=(G8.out.below hI.out).c0
    have z1:=(G8.out.below hI.out).c1
    have z2:=(G8.out.below hI.out).c2
    go_simp
    exact hK.out _ _ rfl rfl
   simp only[Act.put,List.setIfInBounds_toArray,List.set_cons_zero,List.set_cons_succ,Sg.pick,Nat.reduceAdd]
   refine⟨fun W' K' Q0 hI hD hK=> ?_,?_⟩
   ·skip
    go_simp
    exact hK.out _ _ rfl rfl
   simp only[Act.put,List.setIfInBounds_toArray,List.set_cons_zero,List.set_cons_succ,Sg.pick,Nat.reduceAdd]
   refine⟨fun W' K' Q0 hI hD hK=> ?_,?_⟩
   ·skip
    go_simp
    refine(specRootsIn_any _ (r1,r2,rs) m _ (G8.out.below hI.out).arg).mono ?_;rintro e w' ⟨o,rfl,oo,b⟩;rw[HLL.out] at oo;obtain⟨A,c,rfl⟩:=(show LsW w' o L from⟨_,_,oo,Nat.le_refl _⟩).form;exact hK.out _ _ b ⟨A,c,rfl,⟨_,_,oo,Nat.le_refl _⟩⟩
   simp only[Act.put,List.setIfInBounds_toArray,List.set_cons_zero,List.set_cons_succ,Sg.pick,Nat.reduceAdd]
   refine⟨fun W' K' Q0 hI hD hK=> ?_,?_⟩
   ·obtain⟨Aa,ca,ea,la⟩:=(show ∃A c,vs 2= .slice A L.length c∧LsW W' (vs 2) L from hD.out 2 (by kernel_rfl))
    obtain⟨Ab,cb,eb,lb⟩:=(show ∃A c,vs 5= .slice A L.length c∧LsW W' (vs 5) L from hD.out 5 (by kernel_rfl))
    rw[ea] at la
    rw[eb] at lb
    rw[ea,eb] at hK⊢
    go_simp
    refine(sameL _ _ L L _ la lb).mono ?_;rintro e w' ⟨rfl,b⟩;simp only[decide_true];exact hK.out _ _ b rfl
   simp only[Act.put,List.setIfInBounds_toArray,List.set_cons_zero,List.set_cons_succ,Sg.pick,Nat.reduceAdd]
   refine⟨fun W' K' Q0 hI hD hK=> ?_,?_⟩
   ·have e6:=(show vs 6= .bool true from hD.out 6 (by kernel_rfl))
    rw[e6] at hK⊢
    go_simp
    exact hK.out _ _ rfl rfl
   simp only[Act.put,List.setIfInBounds_toArray,List.set_cons_zero,List.set_cons_succ,Sg.pick,Nat.reduceAdd]
   intro W9 hI9 hD9
   have e7:=(show vs 7= .bool true from hD9.out 7 (by decide))
   rw[e7]
   have I9:=hDD hI9.out
   clear hI9 hD9 e7
   go_wp2
   go_ret
   exact⟨rfl,B8.out.trans (I9.out.mono hs8)⟩
  ·skip
   have EC:=hDD ec
   have EW:=hDD ew
   obtain⟨hg,hf⟩:=foldB_parts (coreB_foldB ec)
   obtain⟨_,hsz,_,_⟩:=grB_parts hg
   have hx24:=wordB_len ew
   have HPI:Hid (∀k:Nat,1≤k→k≤q2.toNat→(walkF qs 0 (redL [] (repW xs k))=0↔0<M∧k%M=0)):=hDD fun k h1 h2=>by
    have:=pow_iff hg hf ec ew h1 h2
    rw[HM.out] at this
    rw[this,Int.toNat_natCast]
    exact⟨fun h=>⟨by omega,h.2⟩,fun h=>⟨by omega,h.2⟩⟩
   have HPF:Hid (finB (q1,q2,qs)=true→1≤M):=hDD fun hfi=>by
    have:=(pow_fin hg hf hfi ew).1
    rw[HM.out] at this
    omega
   have HMT:Hid ((powF (q1,q2,qs) xs).toNat=M):=hDD (by rw[HM.out];rfl)
   simp only at hsz
   obtain⟨N,rfl⟩: ∃K:Nat,q2=K:=⟨q2.toNat,by omega⟩
   rw[Int.toNat_natCast] at HPI
   clear ec ew hg hf HM
   go_wp2
   go_loopw [6] (fun kv wr=> ∃k:Nat,1≤k∧k≤N+1∧k≤25∧kv= .int .i64 k∧Below w6.heap.size w6 wr) (fun kv _=>N+1-(intOf kv).toNat)
   case atStart=>exact⟨1,by omega,by omega,by omega,rfl,Below.refl _ _⟩
   case round=>
    obtain⟨k,hk1,hkN,hk25,rfl,hB⟩:=hrel
    have HB:=hDD hB
    replace V:=hDD (V.out.below hB)
    replace G:=hDD (G.out.below hB)
    replace OX:=hDD (OX.out.below hB)
    replace BZ:=hDD (BZ.out.trans (hB.mono BZ.out.size))
    clear hB
    have u0:=G.out.c0
    have u1:=G.out.c1
    have u2:=G.out.c2
    simp only at u0 u1 u2
    by_cases hin:k≤N∧k≤24
    ·obtain⟨hkN',hk24⟩:=hin
     have g1:(k:Int)≤(N:Int):=by omega
     have g2:(k:Int)≤24:=by omega
     have HPW:=hDD (fun W (h:RdI W (.slice Ax xs.length cx) xs)=>specPowerWord_any _ xs k W h hx24 hk24)
     have HL9:(redL [] (repW xs k)).length≤576:=by
      have h1:=redL_len [] (repW xs k)
      have h2:=rep_le (k:=k) (m:=k) hx24 (Nat.le_refl _) hk24
      simp only[List.length_nil] at h1
      omega
     have HCT:=hDD (fun W u (h:ArgG W (.agg #[.int .i64 q1, .int .i64 (N:Int), .slice A1 qs.length c1]) (q1,(N:Int),qs)) (h':RdI W u (redL [] (repW xs k)))=>implContains_any _ u (q1,(N:Int),qs) (redL [] (repW xs k)) W h h' EC.out (by omega))
     have hself:redL [] (redL [] (repW xs k))=redL [] (repW xs k):=red_self2 (redL_red redP_nil)
     rw[hself] at HCT
     have HIF:=hDD (HPI.out k hk1 hkN')
     generalize redL [] (repW xs k)=pw at*
     simp only at HCT
     obtain⟨o,ho⟩: ∃o,o=decide (walkF qs 0 pw=0):=⟨_,rfl⟩
     rw[←ho] at HCT
     have HO:Hid (o=true↔0<M∧k%M=0):=hDD (by rw[ho,decide_eq_true_eq];exact HIF.out)
     clear ho HIF hself
     have hwk:IntKind.i64.wrap ((k:Int)+1)=((k+1:Nat):Int):=by rw[IntKind.wrap_i64];omega
     have BD:=hDD (Below.refl wr.heap.size wr).drew
     have hcases:(M=0∧o=false)∨(0<M∧k%M=0∧o=true)∨(0<M∧k%M≠0∧o=false):=by
      have:=HO.out
      cases o with
      | true=>have:=this.1 rfl;exact .inr (.inl ⟨this.1,this.2,rfl⟩)
      | false=>
        rcases Nat.eq_zero_or_pos M with q | q
        ·exact .inl ⟨q,rfl⟩
        ·exact .inr (.inr ⟨q,(fun h=>by have:=this.2 ⟨q,h⟩;cases this),rfl⟩)
     rcases hcases with ⟨hM0,rfl⟩ | ⟨hM0,hkM,rfl⟩ | ⟨hM0,hkM,rfl⟩
     ·skip
      subst hM0
      rw[show((0:Nat):Int)=0 from rfl]
      go_wp2_with fail
      refine wp_region_held_drew (S:=fun w'=>w'.cell? ⟨gb,0,none⟩=some (.int .i64 q1)∧w'.cell? ⟨gb,1,none⟩=some (.int .i64 (N:Int))∧w'.cell? ⟨gb,2,none⟩=some (.slice A1 qs.length c1)) (by kernel_rfl) ⟨u0,u1,u2⟩ (fun hHeld=> ?_)
      (refine wpAnyH_take (i:=0) (v:= ?_) rfl (by kernel_rfl) (by kernel_rfl) (by kernel_rfl) (fun _ _ _ h=>h) (Or.inl ⟨by rfl,?_⟩) (by assumption) ?_;rotate_left;focus (intro ww hSw;(try dsimp only at hSw);go_simp;try with_reducible rfl);(try simp only[Act.put,List.setIfInBounds_toArray,List.set_cons_zero,List.set_cons_succ]));(refine wpAnyH_take (i:=1) (v:= ?_) rfl (by kernel_rfl) (by kernel_rfl) (by kernel_rfl) (fun _ _ _ h=>h) (Or.inl ⟨by rfl,?_⟩) (by assumption) ?_;rotate_left;focus (intro ww hSw;(try dsimp only at hSw);go_simp;try with_reducible rfl);(try simp only[Act.put,List.setIfInBounds_toArray,List.set_cons_zero,List.set_cons_succ]));(refine wpAnyH_take (i:=2) (v:= ?_) rfl (by kernel_rfl) (by kernel_rfl) (by kernel_rfl) (fun _ _ _ h=>h) (Or.inl ⟨by rfl,?_⟩) (by assumption) ?_;rotate_left;focus (intro ww hSw;(try dsimp only at hSw);go_simp;try with_reducible rfl);(try simp only[Act.put,List.setIfInBounds_toArray,List.set_cons_zero,List.set_cons_succ]));(refine wpAnyH_take (i:=5) (v:= ?_) rfl (by kernel_rfl) (by kernel_rfl) (by kernel_rfl) (fun _ _ _ h=>h) (Or.inl ⟨by rfl,?_⟩) (by assumption) ?_;rotate_left;focus (intro ww hSw;(try dsimp only at hSw);go_simp;try with_reducible rfl);(try simp only[Act.put,List.setIfInBounds_toArray,List.set_cons_zero,List.set_cons_succ]));(refine wpAnyH_take (i:=6) (v:= ?_) rfl (by kernel_rfl) (by kernel_rfl) (by kernel_rfl) (fun _ _ _ h=>h) (Or.inl ⟨by rfl,?_⟩) (by assumption) ?_;rotate_left;focus (intro ww hSw;(try dsimp only at hSw);go_simp;try with_reducible rfl);(try simp only[Act.put,List.setIfInBounds_toArray,List.set_cons_zero,List.set_cons_succ]))
      refine wpAnyH_ready (rs:= [3]) (by kernel_rfl) (by simp) ?_
      refine AllReadyH.cons rfl (fun K hK=> ?_) AllReadyH.nil
      go_simp
      refine(HPW.out _ (OX.out.below BD.out).rd).mono ?_
      rintro e w7 ⟨r7,rfl,o7,b7⟩
      have B7:=hDD (BD.out.trans (b7.mono BD.out.size))
      have R7:=hDD o7.rd
      have q0':=(G.out.below B7.out).c0
      have q1':=(G.out.below B7.out).c1
      have q2':=(G.out.below B7.out).c2
      simp only at q0' q1' q2'
      obtain⟨A7,m7,c7,rfl⟩:=o7.any2
      clear o7 b7 BD
      refine hK.out _ _ ⟨q0',q1',q2'⟩ (fun hHeld2=> ?_)
      clear hK hHeld
      (try simp only[Act.put,List.setIfInBounds_toArray,List.set_cons_zero,List.set_cons_succ])
      refine wpAnyH_ready (rs:= [4]) (by kernel_rfl) (by simp) ?_
      refine AllReadyH.cons rfl (fun K hK=> ?_) AllReadyH.nil
      go_simp
      refine(HCT.out _ _ (G.out.below B7.out).arg R7.out).mono ?_
      rintro e w8 ⟨rfl,b8⟩
      have B8:=hDD (B7.out.trans (b8.mono B7.out.size))
      have q0':=(G.out.below B8.out).c0
      have q1':=(G.out.below B8.out).c1
      have q2':=(G.out.below B8.out).c2
      simp only at q0' q1' q2'
      clear b8 R7
      refine hK.out _ _ ⟨q0',q1',q2'⟩ (fun hHeld=> ?_)
      clear hK hHeld2
      (try simp only[Act.put,List.setIfInBounds_toArray,List.set_cons_zero,List.set_cons_succ])
      (refine wpAnyH_take (i:=7) (v:= ?_) rfl (by kernel_rfl) (by kernel_rfl) (by kernel_rfl) (fun _ _ _ h=>h) (Or.inl ⟨by rfl,?_⟩) (by assumption) ?_;rotate_left;focus (intro ww hSw;(try dsimp only at hSw);go_simp;try with_reducible rfl);(try simp only[Act.put,List.setIfInBounds_toArray,List.set_cons_zero,List.set_cons_succ]))
      refine wpAnyH_take (i:=8) (v:=undef) rfl (by kernel_rfl) (by kernel_rfl) (by kernel_rfl) (fun _ _ _ h=>h) (Or.inr ⟨by first | rfl | simp[Region.wanted,yielded,Act.put],rfl⟩) (by assumption) ?_
      try simp only[Act.put,List.setIfInBounds_toArray,List.set_cons_zero,List.set_cons_succ]
      refine wpAnyH_take (i:=9) (v:=undef) rfl (by kernel_rfl) (by kernel_rfl) (by kernel_rfl) (fun _ _ _ h=>h) (Or.inr ⟨by first | rfl | simp[Region.wanted,yielded,Act.put],rfl⟩) (by assumption) ?_
      try simp only[Act.put,List.setIfInBounds_toArray,List.set_cons_zero,List.set_cons_succ]
      refine wpAnyH_take (i:=10) (v:=undef) rfl (by kernel_rfl) (by kernel_rfl) (by kernel_rfl) (fun _ _ _ h=>h) (Or.inr ⟨by first | rfl | simp[Region.wanted,yielded,Act.put],rfl⟩) (by assumption) ?_
      try simp only[Act.put,List.setIfInBounds_toArray,List.set_cons_zero,List.set_cons_succ]
      refine wpAnyH_take (i:=11) (v:=undef) rfl (by kernel_rfl) (by kernel_rfl) (by kernel_rfl) (fun _ _ _ h=>h) (Or.inr ⟨by first | rfl | simp[Region.wanted,yielded,Act.put],rfl⟩) (by assumption) ?_
      try simp only[Act.put,List.setIfInBounds_toArray,List.set_cons_zero,List.set_cons_succ]
      (refine wpAnyH_take (i:=12) (v:= ?_) rfl (by kernel_rfl) (by kernel_rfl) (by kernel_rfl) (fun _ _ _ h=>h) (Or.inl ⟨by rfl,?_⟩) (by assumption) ?_;rotate_left;focus (intro ww hSw;(try dsimp only at hSw);go_simp;try with_reducible rfl);(try simp only[Act.put,List.setIfInBounds_toArray,List.set_cons_zero,List.set_cons_succ]))
      (refine wpAnyH_take (i:=13) (v:= ?_) rfl (by kernel_rfl) (by kernel_rfl) (by kernel_rfl) (fun _ _ _ h=>h) (Or.inl ⟨by rfl,?_⟩) (by assumption) ?_;rotate_left;focus (intro ww hSw;(try dsimp only at hSw);go_simp;try with_reducible rfl);(try simp only[Act.put,List.setIfInBounds_toArray,List.set_cons_zero,List.set_cons_succ]))
      refine wpAnyH_done (by kernel_rfl) ?_ _
      clear hHeld
      simp only[Act.put,List.setIfInBounds_toArray,List.set_cons_zero,List.set_cons_succ]
      go_wp2
      go_roundw
      case rel=>exact⟨k+1,by omega,by omega,by omega,by go_num,HB.out.trans (B8.out.mono HB.out.size)⟩
      case measure=>(simp[intOf];omega)
     ·skip
      have hMI:(0:Int)<(M:Int):=by omega
      have hM0': ¬M=0:=by omega
      have hM0I: ¬(M:Int)=0:=by omega
      have hmod:(k:Int)%(M:Int)=0:=by rw[←Int.natCast_emod,hkM];rfl
      have hmt:(k:Int).tmod (M:Int)=0:=by show((k%M:Nat):Int)=0;rw[hkM];rfl
      go_wp2_with fail
      go_region_held3 (fun w'=>w'.cell? ⟨gb,0,none⟩=some (.int .i64 q1)∧w'.cell? ⟨gb,1,none⟩=some (.int .i64 (N:Int))∧w'.cell? ⟨gb,2,none⟩=some (.slice A1 qs.length c1))
       (first | go_keep | exact⟨q0',q1',q2'⟩)
       (first
        | (go_at_call 13;(with_reducible refine(HPW.out _ (OX.out.below BD.out).rd).mono ?_);rintro e w7 ⟨r7,rfl,o7,b7⟩;have B7:=hDD (BD.out.trans (b7.mono BD.out.size));have R7:=hDD o7.rd;have q0':=(G.out.below B7.out).c0;have q1':=(G.out.below B7.out).c1;have q2':=(G.out.below B7.out).c2;simp only at q0' q1' q2';obtain⟨A7,m7,c7,rfl⟩:=o7.any2;clear o7 b7 BD)
        | (go_at_call 12;(with_reducible refine(HCT.out _ _ (G.out.below B7.out).arg R7.out).mono ?_);rintro e w8 ⟨rfl,b8⟩;have B8:=hDD (B7.out.trans (b8.mono B7.out.size));have q0':=(G.out.below B8.out).c0;have q1':=(G.out.below B8.out).c1;have q2':=(G.out.below B8.out).c2;simp only at q0' q1' q2';clear b8 R7))
      go_wp2
      go_roundw
      case rel=>exact⟨k+1,by omega,by omega,by omega,by go_num,HB.out.trans (B8.out.mono HB.out.size)⟩
      case measure=>(simp[intOf];omega)
     ·skip
      have hMI:(0:Int)<(M:Int):=by omega
      have hM0': ¬M=0:=by omega
      have hM0I: ¬(M:Int)=0:=by omega
      have hmod: ¬(k:Int)%(M:Int)=0:=by rw[←Int.natCast_emod];omega
      have hmt: ¬(k:Int).tmod (M:Int)=0:=by show ¬((k%M:Nat):Int)=0;omega
      go_wp2_with fail
      go_region_held3 (fun w'=>w'.cell? ⟨gb,0,none⟩=some (.int .i64 q1)∧w'.cell? ⟨gb,1,none⟩=some (.int .i64 (N:Int))∧w'.cell? ⟨gb,2,none⟩=some (.slice A1 qs.length c1))
       (first | go_keep | exact⟨q0',q1',q2'⟩)
       (first
        | (go_at_call 13;(with_reducible refine(HPW.out _ (OX.out.below BD.out).rd).mono ?_);rintro e w7 ⟨r7,rfl,o7,b7⟩;have B7:=hDD (BD.out.trans (b7.mono BD.out.size));have R7:=hDD o7.rd;have q0':=(G.out.below B7.out).c0;have q1':=(G.out.below B7.out).c1;have q2':=(G.out.below B7.out).c2;simp only at q0' q1' q2';obtain⟨A7,m7,c7,rfl⟩:=o7.any2;clear o7 b7 BD)
        | (go_at_call 12;(with_reducible refine(HCT.out _ _ (G.out.below B7.out).arg R7.out).mono ?_);rintro e w8 ⟨rfl,b8⟩;have B8:=hDD (B7.out.trans (b8.mono B7.out.size));have q0':=(G.out.below B8.out).c0;have q1':=(G.out.below B8.out).c1;have q2':=(G.out.below B8.out).c2;simp only at q0' q1' q2';clear b8 R7))
      go_wp2
      go_roundw
      case rel=>exact⟨k+1,by omega,by omega,by omega,by go_num,HB.out.trans (B8.out.mono HB.out.size)⟩
      case measure=>(simp[intOf];omega)
    ·clear HPI
     have HFI:=hDD (specIsFiniteIndex_any _ (q1,(N:Int),qs) wr G.out.arg)
     obtain⟨fb,hfb⟩: ∃b,b=finB (q1,(N:Int),qs):=⟨_,rfl⟩
     have HFB:=hDD hfb
     rw[←hfb] at HFI HPF
     clear hfb
     have hlast: ¬(k:Int)≤(N:Int)∨((k:Int)≤(N:Int)∧ ¬(k:Int)≤24):=by omega
     rcases hlast with g1 | ⟨g1,g2⟩
     ·skip
      go_wp2_with fail
      refine HFI.out.mono ?_
      rintro e w7 ⟨rfl,b7⟩
      replace V:=hDD (V.out.below b7)
      replace G:=hDD (G.out.below b7)
      replace OX:=hDD (OX.out.below b7)
      replace BZ:=hDD (BZ.out.trans (b7.mono BZ.out.size))
      clear b7 u0 u1 u2 HFI
      rcases fb with _ | _
      ·clear HFB HPF
       go_wp2_with fail
       refine(drawRts_any _ x0 _ V.out hl').mono ?_
       rintro e w7 ⟨gv2,⟨r1,r2,rs⟩,m,rfl,⟨s7,rfl,y1,y2,oe7⟩,_,hm,b7⟩
       obtain⟨A7,c7,rfl,_⟩:=oe7.form
       simp only at y1 y2 oe7⊢
       have B7:=hDD (BZ.out.trans (b7.mono BZ.out.size))
       have OE7:=hDD oe7
       have hs7:=B7.out.size
       clear oe7 b7 V
       go_wp2_with fail
       obtain⟨W8,hW8⟩: ∃W,W=w7.alloc (Obj.cells #[Value.int IntKind.i64 r1,Value.int IntKind.i64 r2, .slice A7 rs.length c7] 26):=⟨_,rfl⟩
       have g8:=GBx.new (m:=(r1,r2,rs)) OE7.out y1 y2 hW8
       obtain⟨_,b8,s8⟩:=CBx.new hW8
       rw[←hW8]
       have G8:=hDD g8
       have B8:=hDD (B7.out.trans (b8.mono hs7))
       have hs8:=B8.out.size
       clear hW8 g8 b8 OE7
       generalize hL:rootsF (r1,r2,rs) m=L at*
       have HLL:=hDD hL
       clear hL
       refine wp_region_gen [.val (.agg #[.int .i64 r1, .int .i64 r2, .slice A7 rs.length c7]), .val (.int .i64 m), .mem (fun _ W v=> ∃A c,v= .slice A L.length c∧LsW W v L), .val (.agg #[.int .i64 r1, .int .i64 r2, .slice A7 rs.length c7]), .val (.int .i64 m), .mem (fun _ W v=> ∃A c,v= .slice A L.length c∧LsW W v L), .pur (fun _ v=>v= .bool true), .pur (fun _ v=>v= .bool true)]
        [none,none,some (fun W W'=>Below W.heap.size W W'),none,none,some (fun W W'=>Below W.heap.size W W'),some (fun W W'=>Below W.heap.size W W'),none]
        (fun W=>Below W8.heap.size W8 W) [(2,5),(2,6),(5,6)] (by kernel_rfl) (by kernel_rfl) (by rfl) (by rfl) (Below.refl _ _).drew
        ⟨fun _ _ h t=>h.trans (t.mono h.size),fun _ _ h t=>h.trans (t.mono h.size),fun _ _ h t=>h.trans (t.mono h.size),trivial⟩
        ⟨fun _ _ _ _ _ _ t h=>by obtain⟨A,c,e,h⟩:=h;exact⟨A,c,e,h.below t⟩,fun _ _ _ _ _ _ t h=>by obtain⟨A,c,e,h⟩:=h;exact⟨A,c,e,h.below t⟩,fun _ _ _ _ _ _ t h=>by obtain⟨A,c,e,h⟩:=h;exact⟨A,c,e,h.below t⟩,trivial⟩ (fun vs=> ?_)
       refine⟨fun W' K' Q0 hI hD hK=> ?_,?_⟩
       ·have z0:=(G8.out.below hI.out).c0
        have z1:=(G8.out.below hI.out).c1
        have z2:=(G8.out.below hI.out).c2
        go_simp
        exact hK.out _ _ rfl rfl
       simp only[Act.put,List.setIfInBounds_toArray,List.set_cons_zero,List.set_cons_succ,Sg.pick,Nat.reduceAdd]
       refine⟨fun W' K' Q0 hI hD hK=> ?_,?_⟩
       ·skip
        go_simp
        exact hK.out _ _ rfl rfl
       simp only[Act.put,List.setIfInBounds_toArray,List.set_cons_zero,List.set_cons_succ,Sg.pick,Nat.reduceAdd]
       refine⟨fun W' K' Q0 hI hD hK=> ?_,?_⟩
       ·skip
        go_simp
        refine(implRootsIn_any _ (r1,r2,rs) m _ (G8.out.below hI.out).arg).mono ?_;rintro e w' ⟨o,rfl,oo,b⟩;rw[HLL.out] at oo;obtain⟨A,c,rfl⟩:=(show LsW w' o L from⟨_,_,oo,Nat.le_refl _⟩).form;exact hK.out _ _ b ⟨A,c,rfl,⟨_,_,oo,Nat.le_refl _⟩⟩
       simp only[Act.put,List.setIfInBounds_toArray,List.set_cons_zero,List.set_cons_succ,Sg.pick,Nat.reduceAdd]
       refine⟨fun W' K' Q0 hI hD hK=> ?_,?_⟩
       ·have z0:=(G8.out.below hI.out).c0
        have z1:=(G8.out.below hI.out).c1
        have z2:=(G8.out.below hI.out).c2
        go_simp
        exact hK.out _ _ rfl rfl
       simp only[Act.put,List.setIfInBounds_toArray,List.set_cons_zero,List.set_cons_succ,Sg.pick,Nat.reduceAdd]
       refine⟨fun W' K' Q0 hI hD hK=> ?_,?_⟩
       ·skip
        go_simp
        exact hK.out _ _ rfl rfl
       simp only[Act.put,List.setIfInBounds_toArray,List.set_cons_zero,List.set_cons_succ,Sg.pick,Nat.reduceAdd]
       refine⟨fun W' K' Q0 hI hD hK=> ?_,?_⟩
       ·skip
        go_simp
        refine(specRootsIn_any _ (r1,r2,rs) m _ (G8.out.below hI.out).arg).mono ?_;rintro e w' ⟨o,rfl,oo,b⟩;rw[HLL.out] at oo;obtain⟨A,c,rfl⟩:=(show LsW w' o L from⟨_,_,oo,Nat.le_refl _⟩).form;exact hK.out _ _ b ⟨A,c,rfl,⟨_,_,oo,Nat.le_refl _⟩⟩
       simp only[Act.put,List.setIfInBounds_toArray,List.set_cons_zero,List.set_cons_succ,Sg.pick,Nat.reduceAdd]
       refine⟨fun W' K' Q0 hI hD hK=> ?_,?_⟩
       ·obtain⟨Aa,ca,ea,la⟩:=(show ∃A c,vs 2= .slice A L.length c∧LsW W' (vs 2) L from hD.out 2 (by kernel_rfl))
        obtain⟨Ab,cb,eb,lb⟩:=(show ∃A c,vs 5= .slice A L.length c∧LsW W' (vs 5) L from hD.out 5 (by kernel_rfl))
        rw[ea] at la
        rw[eb] at lb
        rw[ea,eb] at hK⊢
        go_simp
        refine(sameL _ _ L L _ la lb).mono ?_;rintro e w' ⟨rfl,b⟩;simp only[decide_true];exact hK.out _ _ b rfl
       simp only[Act.put,List.setIfInBounds_toArray,List.set_cons_zero,List.set_cons_succ,Sg.pick,Nat.reduceAdd]
       refine⟨fun W' K' Q0 hI hD hK=> ?_,?_⟩
       ·have e6:=(show vs 6= .bool true from hD.out 6 (by kernel_rfl))
        rw[e6] at hK⊢
        go_simp
        exact hK.out _ _ rfl rfl
       simp only[Act.put,List.setIfInBounds_toArray,List.set_cons_zero,List.set_cons_succ,Sg.pick,Nat.reduceAdd]
       intro W9 hI9 hD9
       have e7:=(show vs 7= .bool true from hD9.out 7 (by decide))
       rw[e7]
       have I9:=hDD hI9.out
       clear hI9 hD9 e7
       go_wp2
       go_ret
       exact⟨rfl,B8.out.trans (I9.out.mono hs8)⟩
      ·skip
       have hM1:=HPF.out rfl
       have hMI: ¬(M:Int)<1:=by omega
       have hM0': ¬M=0:=by omega
       have hM0I: ¬(M:Int)=0:=by omega
       have u0:=G.out.c0
       have u1:=G.out.c1
       have u2:=G.out.c2
       simp only at u0 u1 u2
       have HOM:=hDD (orderMod_any _ _ (q1,(N:Int),qs) xs w7 G.out.arg OX.out.rd HFB.out.symm EW.out)
       rw[HMT.out] at HOM
       go_wp2_with fail
       refine HOM.out.mono ?_
       rintro e w8 ⟨R,rfl,hR,b8⟩
       replace V:=hDD (V.out.below b8)
       replace BZ:=hDD (BZ.out.trans (b8.mono BZ.out.size))
       have hmod:(R:Int)%(M:Int)=0:=by rw[←Int.natCast_emod,hR];rfl
       have hmt:(R:Int).tmod (M:Int)=0:=by show((R%M:Nat):Int)=0;rw[hR];rfl
       clear b8 hR HOM u0 u1 u2
       go_wp2_with fail
       refine(drawRts_any _ x0 _ V.out hl').mono ?_
       rintro e w7 ⟨gv2,⟨r1,r2,rs⟩,m,rfl,⟨s7,rfl,y1,y2,oe7⟩,_,hm,b7⟩
       obtain⟨A7,c7,rfl,_⟩:=oe7.form
       simp only at y1 y2 oe7⊢
       have B7:=hDD (BZ.out.trans (b7.mono BZ.out.size))
       have OE7:=hDD oe7
       have hs7:=B7.out.size
       clear oe7 b7 V
       go_wp2_with fail
       obtain⟨W8,hW8⟩: ∃W,W=w7.alloc (Obj.cells #[Value.int IntKind.i64 r1,Value.int IntKind.i64 r2, .slice A7 rs.length c7] 26):=⟨_,rfl⟩
       have g8:=GBx.new (m:=(r1,r2,rs)) OE7.out y1 y2 hW8
       obtain⟨_,b8,s8⟩:=CBx.new hW8
       rw[←hW8]
       have G8:=hDD g8
       have B8:=hDD (B7.out.trans (b8.mono hs7))
       have hs8:=B8.out.size
       clear hW8 g8 b8 OE7
       generalize hL:rootsF (r1,r2,rs) m=L at*
       have HLL:=hDD hL
       clear hL
       refine wp_region_gen [.val (.agg #[.int .i64 r1, .int .i64 r2, .slice A7 rs.length c7]), .val (.int .i64 m), .mem (fun _ W v=> ∃A c,v= .slice A L.length c∧LsW W v L), .val (.agg #[.int .i64 r1, .int .i64 r2, .slice A7 rs.length c7]), .val (.int .i64 m), .mem (fun _ W v=> ∃A c,v= .slice A L.length c∧LsW W v L), .pur (fun _ v=>v= .bool true), .pur (fun _ v=>v= .bool true)]
        [none,none,some (fun W W'=>Below W.heap.size W W'),none,none,some (fun W W'=>Below W.heap.size W W'),some (fun W W'=>Below W.heap.size W W'),none]
        (fun W=>Below W8.heap.size W8 W) [(2,5),(2,6),(5,6)] (by kernel_rfl) (by kernel_rfl) (by rfl) (by rfl) (Below.refl _ _).drew
        ⟨fun _ _ h t=>h.trans (t.mono h.size),fun _ _ h t=>h.trans (t.mono h.size),fun _ _ h t=>h.trans (t.mono h.size),trivial⟩
        ⟨fun _ _ _ _ _ _ t h=>by obtain⟨A,c,e,h⟩:=h;exact⟨A,c,e,h.below t⟩,fun _ _ _ _ _ _ t h=>by obtain⟨A,c,e,h⟩:=h;exact⟨A,c,e,h.below t⟩,fun _ _ _ _ _ _ t h=>by obtain⟨A,c,e,h⟩:=h;exact⟨A,c,e,h.below t⟩,trivial⟩ (fun vs=> ?_)
       refine⟨fun W' K' Q0 hI hD hK=> ?_,?_⟩
       ·have z0:=(G8.out.below hI.out).c0
        have z1:=(G8.out.below hI.out).c1
        have z2:=(G8.out.below hI.out).c2
        go_simp
        exact hK.out _ _ rfl rfl
       simp only[Act.put,List.setIfInBounds_toArray,List.set_cons_zero,List.set_cons_succ,Sg.pick,Nat.reduceAdd]
       refine⟨fun W' K' Q0 hI hD hK=> ?_,?_⟩
       ·skip
        go_simp
        exact hK.out _ _ rfl rfl
       simp only[Act.put,List.setIfInBounds_toArray,List.set_cons_zero,List.set_cons_succ,Sg.pick,Nat.reduceAdd]
       refine⟨fun W' K' Q0 hI hD hK=> ?_,?_⟩
       ·skip
        go_simp
        refine(implRootsIn_any _ (r1,r2,rs) m _ (G8.out.below hI.out).arg).mono ?_;rintro e w' ⟨o,rfl,oo,b⟩;rw[HLL.out] at oo;obtain⟨A,c,rfl⟩:=(show LsW w' o L from⟨_,_,oo,Nat.le_refl _⟩).form;exact hK.out _ _ b ⟨A,c,rfl,⟨_,_,oo,Nat.le_refl _⟩⟩
       simp only[Act.put,List.setIfInBounds_toArray,List.set_cons_zero,List.set_cons_succ,Sg.pick,Nat.reduceAdd]
       refine⟨fun W' K' Q0 hI hD hK=> ?_,?_⟩
       ·have z0:=(G8.out.below hI.out).c0
        have z1:=(G8.out.below hI.out).c1
        have z2:=(G8.out.below hI.out).c2
        go_simp
        exact hK.out _ _ rfl rfl
       simp only[Act.put,List.setIfInBounds_toArray,List.set_cons_zero,List.set_cons_succ,Sg.pick,Nat.reduceAdd]
       refine⟨fun W' K' Q0 hI hD hK=> ?_,?_⟩
       ·skip
        go_simp
        exact hK.out _ _ rfl rfl
       simp only[Act.put,List.setIfInBounds_toArray,List.set_cons_zero,List.set_cons_succ,Sg.pick,Nat.reduceAdd]
       refine⟨fun W' K' Q0 hI hD hK=> ?_,?_⟩
       ·skip
        go_simp
        refine(specRootsIn_any _ (r1,r2,rs) m _ (G8.out.below hI.out).arg).mono ?_;rintro e w' ⟨o,rfl,oo,b⟩;rw[HLL.out] at oo;obtain⟨A,c,rfl⟩:=(show LsW w' o L from⟨_,_,oo,Nat.le_refl _⟩).form;exact hK.out _ _ b ⟨A,c,rfl,⟨_,_,oo,Nat.le_refl _⟩⟩
       simp only[Act.put,List.setIfInBounds_toArray,List.set_cons_zero,List.set_cons_succ,Sg.pick,Nat.reduceAdd]
       refine⟨fun W' K' Q0 hI hD hK=> ?_,?_⟩
       ·obtain⟨Aa,ca,ea,la⟩:=(show ∃A c,vs 2= .slice A L.length c∧LsW W' (vs 2) L from hD.out 2 (by kernel_rfl))
        obtain⟨Ab,cb,eb,lb⟩:=(show ∃A c,vs 5= .slice A L.length c∧LsW W' (vs 5) L from hD.out 5 (by kernel_rfl))
        rw[ea] at la
        rw[eb] at lb
        rw[ea,eb] at hK⊢
        go_simp
        refine(sameL _ _ L L _ la lb).mono ?_;rintro e w' ⟨rfl,b⟩;simp only[decide_true];exact hK.out _ _ b rfl
       simp only[Act.put,List.setIfInBounds_toArray,List.set_cons_zero,List.set_cons_succ,Sg.pick,Nat.reduceAdd]
       refine⟨fun W' K' Q0 hI hD hK=> ?_,?_⟩
       ·have e6:=(show vs 6= .bool true from hD.out 6 (by kernel_rfl))
        rw[e6] at hK⊢
        go_simp
        exact hK.out _ _ rfl rfl
       simp only[Act.put,List.setIfInBounds_toArray,List.set_cons_zero,List.set_cons_succ,Sg.pick,Nat.reduceAdd]
       intro W9 hI9 hD9
       have e7:=(show vs 7= .bool true from hD9.out 7 (by decide))
       rw[e7]
       have I9:=hDD hI9.out
       clear hI9 hD9 e7
       go_wp2
       go_ret
       exact⟨rfl,B8.out.trans (I9.out.mono hs8)⟩
     ·skip
      go_wp2_with fail
      refine HFI.out.mono ?_
      rintro e w7 ⟨rfl,b7⟩
      replace V:=hDD (V.out.below b7)
      replace G:=hDD (G.out.below b7)
      replace OX:=hDD (OX.out.below b7)
      replace BZ:=hDD (BZ.out.trans (b7.mono BZ.out.size))
      clear b7 u0 u1 u2 HFI
      rcases fb with _ | _
      ·clear HFB HPF
       go_wp2_with fail
       refine(drawRts_any _ x0 _ V.out hl').mono ?_
       rintro e w7 ⟨gv2,⟨r1,r2,rs⟩,m,rfl,⟨s7,rfl,y1,y2,oe7⟩,_,hm,b7⟩
       obtain⟨A7,c7,rfl,_⟩:=oe7.form
       simp only at y1 y2 oe7⊢
       have B7:=hDD (BZ.out.trans (b7.mono BZ.out.size))
       have OE7:=hDD oe7
       have hs7:=B7.out.size
       clear oe7 b7 V
       go_wp2_with fail
       obtain⟨W8,hW8⟩: ∃W,W=w7.alloc (Obj.cells #[Value.int IntKind.i64 r1,Value.int IntKind.i64 r2, .slice A7 rs.length c7] 26):=⟨_,rfl⟩
       have g8:=GBx.new (m:=(r1,r2,rs)) OE7.out y1 y2 hW8
       obtain⟨_,b8,s8⟩:=CBx.new hW8
       rw[←hW8]
       have G8:=hDD g8
       have B8:=hDD (B7.out.trans (b8.mono hs7))
       have hs8:=B8.out.size
       clear hW8 g8 b8 OE7
       generalize hL:rootsF (r1,r2,rs) m=L at*
       have HLL:=hDD hL
       clear hL
       refine wp_region_gen [.val (.agg #[.int .i64 r1, .int .i64 r2, .slice A7 rs.length c7]), .val (.int .i64 m), .mem (fun _ W v=> ∃A c,v= .slice A L.length c∧LsW W v L), .val (.agg #[.int .i64 r1, .int .i64 r2, .slice A7 rs.length c7]), .val (.int .i64 m), .mem (fun _ W v=> ∃A c,v= .slice A L.length c∧LsW W v L), .pur (fun _ v=>v= .bool true), .pur (fun _ v=>v= .bool true)]
        [none,none,some (fun W W'=>Below W.heap.size W W'),none,none,some (fun W W'=>Below W.heap.size W W'),some (fun W W'=>Below W.heap.size W W'),none]
        (fun W=>Below W8.heap.size W8 W) [(2,5),(2,6),(5,6)] (by kernel_rfl) (by kernel_rfl) (by rfl) (by rfl) (Below.refl _ _).drew
        ⟨fun _ _ h t=>h.trans (t.mono h.size),fun _ _ h t=>h.trans (t.mono h.size),fun _ _ h t=>h.trans (t.mono h.size),trivial⟩
        ⟨fun _ _ _ _ _ _ t h=>by obtain⟨A,c,e,h⟩:=h;exact⟨A,c,e,h.below t⟩,fun _ _ _ _ _ _ t h=>by obtain⟨A,c,e,h⟩:=h;exact⟨A,c,e,h.below t⟩,fun _ _ _ _ _ _ t h=>by obtain⟨A,c,e,h⟩:=h;exact⟨A,c,e,h.below t⟩,trivial⟩ (fun vs=> ?_)
       refine⟨fun W' K' Q0 hI hD hK=> ?_,?_⟩
       ·have z0:=(G8.out.below hI.out).c0
        have z1:=(G8.out.below hI.out).c1
        have z2:=(G8.out.below hI.out).c2
        go_simp
        exact hK.out _ _ rfl rfl
       simp only[Act.put,List.setIfInBounds_toArray,List.set_cons_zero,List.set_cons_succ,Sg.pick,Nat.reduceAdd]
       refine⟨fun W' K' Q0 hI hD hK=> ?_,?_⟩
       ·skip
        go_simp
        exact hK.out _ _ rfl rfl
       simp only[Act.put,List.setIfInBounds_toArray,List.set_cons_zero,List.set_cons_succ,Sg.pick,Nat.reduceAdd]
       refine⟨fun W' K' Q0 hI hD hK=> ?_,?_⟩
       ·skip
        go_simp
        refine(implRootsIn_any _ (r1,r2,rs) m _ (G8.out.below hI.out).arg).mono ?_;rintro e w' ⟨o,rfl,oo,b⟩;rw[HLL.out] at oo;obtain⟨A,c,rfl⟩:=(show LsW w' o L from⟨_,_,oo,Nat.le_refl _⟩).form;exact hK.out _ _ b ⟨A,c,rfl,⟨_,_,oo,Nat.le_refl _⟩⟩
       simp only[Act.put,List.setIfInBounds_toArray,List.set_cons_zero,List.set_cons_succ,Sg.pick,Nat.reduceAdd]
       refine⟨fun W' K' Q0 hI hD hK=> ?_,?_⟩
       ·have z0:=(G8.out.below hI.out).c0
        have z1:=(G8.out.below hI.out).c1
        have z2:=(G8.out.below hI.out).c2
        go_simp
        exact hK.out _ _ rfl rfl
       simp only[Act.put,List.setIfInBounds_toArray,List.set_cons_zero,List.set_cons_succ,Sg.pick,Nat.reduceAdd]
       refine⟨fun W' K' Q0 hI hD hK=> ?_,?_⟩
       ·skip
        go_simp
        exact hK.out _ _ rfl rfl
       simp only[Act.put,List.setIfInBounds_toArray,List.set_cons_zero,List.set_cons_succ,Sg.pick,Nat.reduceAdd]
       refine⟨fun W' K' Q0 hI hD hK=> ?_,?_⟩
       ·skip
        go_simp
        refine(specRootsIn_any _ (r1,r2,rs) m _ (G8.out.below hI.out).arg).mono ?_;rintro e w' ⟨o,rfl,oo,b⟩;rw[HLL.out] at oo;obtain⟨A,c,rfl⟩:=(show LsW w' o L from⟨_,_,oo,Nat.le_refl _⟩).form;exact hK.out _ _ b ⟨A,c,rfl,⟨_,_,oo,Nat.le_refl _⟩⟩
       simp only[Act.put,List.setIfInBounds_toArray,List.set_cons_zero,List.set_cons_succ,Sg.pick,Nat.reduceAdd]
       refine⟨fun W' K' Q0 hI hD hK=> ?_,?_⟩
       ·obtain⟨Aa,ca,ea,la⟩:=(show ∃A c,vs 2= .slice A L.length c∧LsW W' (vs 2) L from hD.out 2 (by kernel_rfl))
        obtain⟨Ab,cb,eb,lb⟩:=(show ∃A c,vs 5= .slice A L.length c∧LsW W' (vs 5) L from hD.out 5 (by kernel_rfl))
        rw[ea] at la
        rw[eb] at lb
        rw[ea,eb] at hK⊢
        go_simp
        refine(sameL _ _ L L _ la lb).mono ?_;rintro e w' ⟨rfl,b⟩;simp only[decide_true];exact hK.out _ _ b rfl
       simp only[Act.put,List.setIfInBounds_toArray,List.set_cons_zero,List.set_cons_succ,Sg.pick,Nat.reduceAdd]
       refine⟨fun W' K' Q0 hI hD hK=> ?_,?_⟩
       ·have e6:=(show vs 6= .bool true from hD.out 6 (by kernel_rfl))
        rw[e6] at hK⊢
        go_simp
        exact hK.out _ _ rfl rfl
       simp only[Act.put,List.setIfInBounds_toArray,List.set_cons_zero,List.set_cons_succ,Sg.pick,Nat.reduceAdd]
       intro W9 hI9 hD9
       have e7:=(show vs 7= .bool true from hD9.out 7 (by decide))
       rw[e7]
       have I9:=hDD hI9.out
       clear hI9 hD9 e7
       go_wp2
       go_ret
       exact⟨rfl,B8.out.trans (I9.out.mono hs8)⟩
      ·skip
       have hM1:=HPF.out rfl
       have hMI: ¬(M:Int)<1:=by omega
       have hM0': ¬M=0:=by omega
       have hM0I: ¬(M:Int)=0:=by omega
       have u0:=G.out.c0
       have u1:=G.out.c1
       have u2:=G.out.c2
       simp only at u0 u1 u2
       have HOM:=hDD (orderMod_any _ _ (q1,(N:Int),qs) xs w7 G.out.arg OX.out.rd HFB.out.symm EW.out)
       rw[HMT.out] at HOM
       go_wp2_with fail
       refine HOM.out.mono ?_
       rintro e w8 ⟨R,rfl,hR,b8⟩
       replace V:=hDD (V.out.below b8)
       replace BZ:=hDD (BZ.out.trans (b8.mono BZ.out.size))
       have hmod:(R:Int)%(M:Int)=0:=by rw[←Int.natCast_emod,hR];rfl
       have hmt:(R:Int).tmod (M:Int)=0:=by show((R%M:Nat):Int)=0;rw[hR];rfl
       clear b8 hR HOM u0 u1 u2
       go_wp2_with fail
       refine(drawRts_any _ x0 _ V.out hl').mono ?_
       rintro e w7 ⟨gv2,⟨r1,r2,rs⟩,m,rfl,⟨s7,rfl,y1,y2,oe7⟩,_,hm,b7⟩
       obtain⟨A7,c7,rfl,_⟩:=oe7.form
       simp only at y1 y2 oe7⊢
       have B7:=hDD (BZ.out.trans (b7.mono BZ.out.size))
       have OE7:=hDD oe7
       have hs7:=B7.out.size
       clear oe7 b7 V
       go_wp2_with fail
       obtain⟨W8,hW8⟩: ∃W,W=w7.alloc (Obj.cells #[Value.int IntKind.i64 r1,Value.int IntKind.i64 r2, .slice A7 rs.length c7] 26):=⟨_,rfl⟩
       have g8:=GBx.new (m:=(r1,r2,rs)) OE7.out y1 y2 hW8
       obtain⟨_,b8,s8⟩:=CBx.new hW8
       rw[←hW8]
       have G8:=hDD g8
       have B8:=hDD (B7.out.trans (b8.mono hs7))
       have hs8:=B8.out.size
       clear hW8 g8 b8 OE7
       generalize hL:rootsF (r1,r2,rs) m=L at*
       have HLL:=hDD hL
       clear hL
       refine wp_region_gen [.val (.agg #[.int .i64 r1, .int .i64 r2, .slice A7 rs.length c7]), .val (.int .i64 m), .mem (fun _ W v=> ∃A c,v= .slice A L.length c∧LsW W v L), .val (.agg #[.int .i64 r1, .int .i64 r2, .slice A7 rs.length c7]), .val (.int .i64 m), .mem (fun _ W v=> ∃A c,v= .slice A L.length c∧LsW W v L), .pur (fun _ v=>v= .bool true), .pur (fun _ v=>v= .bool true)]
        [none,none,some (fun W W'=>Below W.heap.size W W'),none,none,some (fun W W'=>Below W.heap.size W W'),some (fun W W'=>Below W.heap.size W W'),none]
        (fun W=>Below W8.heap.size W8 W) [(2,5),(2,6),(5,6)] (by kernel_rfl) (by kernel_rfl) (by rfl) (by rfl) (Below.refl _ _).drew
        ⟨fun _ _ h t=>h.trans (t.mono h.size),fun _ _ h t=>h.trans (t.mono h.size),fun _ _ h t=>h.trans (t.mono h.size),trivial⟩
        ⟨fun _ _ _ _ _ _ t h=>by obtain⟨A,c,e,h⟩:=h;exact⟨A,c,e,h.below t⟩,fun _ _ _ _ _ _ t h=>by obtain⟨A,c,e,h⟩:=h;exact⟨A,c,e,h.below t⟩,fun _ _ _ _ _ _ t h=>by obtain⟨A,c,e,h⟩:=h;exact⟨A,c,e,h.below t⟩,trivial⟩ (fun vs=> ?_)
       refine⟨fun W' K' Q0 hI hD hK=> ?_,?_⟩
       ·have z0:=(G8.out.below hI.out).c0
        have z1:=(G8.out.below hI.out).c1
        have z2:=(G8.out.below hI.out).c2
        go_simp
        exact hK.out _ _ rfl rfl
       simp only[Act.put,List.setIfInBounds_toArray,List.set_cons_zero,List.set_cons_succ,Sg.pick,Nat.reduceAdd]
       refine⟨fun W' K' Q0 hI hD hK=> ?_,?_⟩
       ·skip
        go_simp
        exact hK.out _ _ rfl rfl
       simp only[Act.put,List.setIfInBounds_toArray,List.set_cons_zero,List.set_cons_succ,Sg.pick,Nat.reduceAdd]
       refine⟨fun W' K' Q0 hI hD hK=> ?_,?_⟩
       ·skip
        go_simp
        refine(implRootsIn_any _ (r1,r2,rs) m _ (G8.out.below hI.out).arg).mono ?_;rintro e w' ⟨o,rfl,oo,b⟩;rw[HLL.out] at oo;obtain⟨A,c,rfl⟩:=(show LsW w' o L from⟨_,_,oo,Nat.le_refl _⟩).form;exact hK.out _ _ b ⟨A,c,rfl,⟨_,_,oo,Nat.le_refl _⟩⟩
       simp only[Act.put,List.setIfInBounds_toArray,List.set_cons_zero,List.set_cons_succ,Sg.pick,Nat.reduceAdd]
       refine⟨fun W' K' Q0 hI hD hK=> ?_,?_⟩
       ·have z0:=(G8.out.below hI.out).c0
        have z1:=(G8.out.below hI.out).c1
        have z2:=(G8.out.below hI.out).c2
        go_simp
        exact hK.out _ _ rfl rfl
       simp only[Act.put,List.setIfInBounds_toArray,List.set_cons_zero,List.set_cons_succ,Sg.pick,Nat.reduceAdd]
       refine⟨fun W' K' Q0 hI hD hK=> ?_,?_⟩
       ·skip
        go_simp
        exact hK.out _ _ rfl rfl
       simp only[Act.put,List.setIfInBounds_toArray,List.set_cons_zero,List.set_cons_succ,Sg.pick,Nat.reduceAdd]
       refine⟨fun W' K' Q0 hI hD hK=> ?_,?_⟩
       ·skip
        go_simp
        refine(specRootsIn_any _ (r1,r2,rs) m _ (G8.out.below hI.out).arg).mono ?_;rintro e w' ⟨o,rfl,oo,b⟩;rw[HLL.out] at oo;obtain⟨A,c,rfl⟩:=(show LsW w' o L from⟨_,_,oo,Nat.le_refl _⟩).form;exact hK.out _ _ b ⟨A,c,rfl,⟨_,_,oo,Nat.le_refl _⟩⟩
       simp only[Act.put,List.setIfInBounds_toArray,List.set_cons_zero,List.set_cons_succ,Sg.pick,Nat.reduceAdd]
       refine⟨fun W' K' Q0 hI hD hK=> ?_,?_⟩
       ·obtain⟨Aa,ca,ea,la⟩:=(show ∃A c,vs 2= .slice A L.length c∧LsW W' (vs 2) L from hD.out 2 (by kernel_rfl))
        obtain⟨Ab,cb,eb,lb⟩:=(show ∃A c,vs 5= .slice A L.length c∧LsW W' (vs 5) L from hD.out 5 (by kernel_rfl))
        rw[ea] at la
        rw[eb] at lb
        rw[ea,eb] at hK⊢
        go_simp
        refine(sameL _ _ L L _ la lb).mono ?_;rintro e w' ⟨rfl,b⟩;simp only[decide_true];exact hK.out _ _ b rfl
       simp only[Act.put,List.setIfInBounds_toArray,List.set_cons_zero,List.set_cons_succ,Sg.pick,Nat.reduceAdd]
       refine⟨fun W' K' Q0 hI hD hK=> ?_,?_⟩
       ·have e6:=(show vs 6= .bool true from hD.out 6 (by kernel_rfl))
        rw[e6] at hK⊢
        go_simp
        exact hK.out _ _ rfl rfl
       simp only[Act.put,List.setIfInBounds_toArray,List.set_cons_zero,List.set_cons_succ,Sg.pick,Nat.reduceAdd]
       intro W9 hI9 hD9
       have e7:=(show vs 7= .bool true from hD9.out 7 (by decide))
       rw[e7]
       have I9:=hDD hI9.out
       clear hI9 hD9 e7
       go_wp2
       go_ret
       exact⟨rfl,B8.out.trans (I9.out.mono hs8)⟩
set_option maxRecDepth 100000 in
theorem lifted (os:Os) (started:os.Started) (H:Type) (enc:TypeId×Value→H):
  ReturnsInHanded {} Tryz.checked os 3 .any (Rows.fnPowersSpec.pre6 enc Tryz.prog Tryz.f3 Rows.fnPowersRow.domain false) (Rows.fnPowersSpec.post enc Tryz.prog Tryz.f3 false true false false):=by
 refine returnsInHanded_of_change (C:=Tryz.checked) own started (by kernel_rfl) Tryz.func3
  (ChangeSpec.witness6 (enc:=enc) (C:=Tryz.checked) false ⟨#[],#[.slice none 0 0],[]⟩ 8 (by kernel_rfl) (by kernel_rfl) (by kernel_rfl) (by kernel_rfl)) ?_
 intro W base args ds gs before hval0 hW hcnd _
 have hval: ∀(j:Nat) t v,Tryz.f3.params[j]? =some t→args[j]? =some v→Value.okWide Tryz.prog W .any base t v:=hval0
 have hW':=hW
 obtain⟨p,q,hA0,hV,rfl,hfz,hnd⟩:=hW
 have hA:DataW.TrodAll enc Tryz.prog W 0 (fun _=>true) true Tryz.f3.params.toList args.toList ds p:=hA0
 rw[Tryz.params3] at hA hval
 obtain⟨v0,vs0,d0,ds0,p0,q0,hargs,rfl,rfl,h0,r0⟩:=trodAll_cons hA
 obtain⟨rfl,rfl,rfl⟩:=trodAll_nil r0
 obtain rfl:args= #[v0]:=by cases args;simp_all
 obtain⟨rfl,rfl⟩:=trodVars_none hV
 have k0:=h0
 have lt0: ∀x∈p0,x.block<W.heap.size:=by obtain⟨m,hm⟩:=k0;exact DataW.trod_lt m _ _ _ hm
 obtain⟨x0,a0⟩:=open_argB (hval 0 22 v0 rfl rfl) h0
 clear hA0 hval0
 refine(walk v0 x0 W a0).mono fun e W' ⟨he,bel⟩=> ?_
 subst he
 exact⟨_,rfl,_,_,_,[],_,[],hW',trodAll_mk1 (shut_bool Tryz.underlying4 _),(trodAll_cons_mk (Below.trod laidOut (by kernel_rfl) (of_decide_eq_true (by kernel_rfl)) k0 bel lt0) trodAll_mk0),rfl,bel.frame _,fun h=>by cases h⟩
theorem proved:Rows.FnPowersSaid:=
 OpenClaim.holds_of_wide 3 Tryz.f3 rfl rfl rfl rfl rfl rfl rfl ⟨rfl,rfl,rfl,rfl,rfl⟩ rfl rfl rfl rfl rfl (by as_aux_lemma=>kernel_rfl) Tryz.func3 closed
  (of_decide_eq_true (by as_aux_lemma=>kernel_rfl)) (by unfold Func.isWrapper;first | (rw[if_pos (by decide+kernel)];kernel_rfl) | (rw[if_neg (by decide+kernel)];exact⟨rfl,rfl⟩))
  (fun os started H enc _=>lifted os started H enc)
#print axioms proved
end Go.Proofs.YteobmaambgmdbaaGreat.fnPowers
