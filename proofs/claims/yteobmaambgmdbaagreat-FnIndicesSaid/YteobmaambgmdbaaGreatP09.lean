/- Parts of the proof: IdxV, IdxY, IdxS, Rts, FrameB. -/
import Derived.Test.YteobmaambgmdbaaGreatP08
import Derived.Test.YteobmaambgmdbaaGreatP03
import Derived.Test.YteobmaambgmdbaaGreatP06
import Derived.Test.YteobmaambgmdbaaGreatP07
import Derived.Test.YteobmaambgmdbaaGreatP04
import Derived.Test.YteobmaambgmdbaaGreatP01
namespace Go.Proofs.YteobmaambgmdbaaGreat
set_option maxRecDepth 20000
set_option linter.unusedVariables false
set_option linter.unusedSimpArgs false
open Go.RowKit
theorem wdO_len {g:GrD} (hg:grB g=true) {v:Int} (h:v∈canO g):(wdO g v).length≤40:=by
 have h1:=wd_len hg h
 obtain⟨_,h2,_,_⟩:=grB_parts hg
 omega
set_option maxRecDepth 100000 in
set_option maxHeartbeats 8000000 in
theorem specCosetOf_any (v va:Value) (g:GrD) (a:List Int) (w:World) (h:ArgG w v g) (h1:RdI w va a) (hla:a.length≤10000):
  Calls Tryz.prog 33 #[v,va] w fun e w'=> ∃r,e= .returned (.tuple #[r, .bool (coreB g)])∧OwI w' w.heap.size r (if coreB g=true then cosF g a else [])∧Below w.heap.size w w':=by
 have HG:=hDD h
 have HA:=hDD h1
 have HIC:=hDD (fun W (h:ArgG W v g)=>specIsSubgroup_any v g W h)
 have HRE:=hDD (fun W (h:RdI W va a)=>specReduceLetters_any va a W h (by omega))
 have HRL:=hDD (fun (hc:coreB g=true) W u (h:ArgG W v g) (h':RdI W u (redL [] a))=>readLength_any v u g 0 (redL [] a) W h h' (coreB_foldB hc) (by have:=(grB_parts (coreB_grB hc)).2.1;omega))
 have HWK:=hDD (fun (hc:coreB g=true) W u (h:ArgG W v g) (h':RdI W u ((redL [] a).take (readF g.2.2 0 (redL [] a)).2))=>walkWord_any v u g 0 ((redL [] a).take (readF g.2.2 0 (redL [] a)).2) W h h' (coreB_foldB hc) (by have:=(grB_parts (coreB_grB hc)).2.1;omega))
 have HTW:=hDD (fun (hc:coreB g=true) W (h:ArgG W v g)=>specTreeWord_any v g (readF g.2.2 0 (redL [] a)).1 W h (coreB_foldB hc) (core_all hc (readF_range (coreB_grB hc) _ 0 (by have:=(grB_parts (coreB_grB hc)).2.1;omega))))
 have hxl:(redL [] a).length≤10000:=by have:=redL_len [] a;simp only[List.length_nil] at this;omega
 have hnl:=readF_le g.2.2 (redL [] a) 0
 have HTL:Hid (coreB g=true→(wdO g (readF g.2.2 0 (redL [] a)).1).length≤40):=hDD fun hc=>wdO_len (coreB_grB hc) (core_all hc (readF_range (coreB_grB hc) _ 0 (by have:=(grB_parts (coreB_grB hc)).2.1;omega)))
 have HCF:Hid (coreB g=true→(if coreB g=true then cosF g a else [])=wdO g (readF g.2.2 0 (redL [] a)).1++(redL [] a).drop (readF g.2.2 0 (redL [] a)).2):=hDD fun hc=>by rw[if_pos hc];rfl
 have HCN:Hid (coreB g=false→(if coreB g=true then cosF g a else [])= []):=hDD fun hc=>by rw[if_neg (by rw[hc];decide)]
 rw[walk_readT] at HWK
 generalize (if coreB g=true then cosF g a else [])=cf at*
 obtain⟨s,rfl,hi1,hi2,ha⟩:=h
 obtain⟨A,cap,rfl⟩:=ha.form
 obtain⟨Aa,ca,rfl,_⟩:=h1.arg
 obtain⟨g1,N,es⟩:=g
 simp only at*
 generalize redL [] a=x at*
 generalize (readF es 0 x).1=u at*
 generalize (readF es 0 x).2=n at*
 generalize wdO (g1,N,es) u=tw at*
 clear ha h1
 go_enter Tryz.func33,Tryz.ntmps33
 go_wp2_with fail
 obtain⟨W,hW⟩: ∃W,W=w.alloc (Obj.cells #[Value.int IntKind.i64 g1,Value.int IntKind.i64 N, .slice A es.length cap] 26):=⟨_,rfl⟩
 rw[←hW]
 obtain⟨xb,b0,s0⟩:=CBx.new hW
 clear hW
 have XB:=hDD xb
 have B0:=hDD b0
 clear xb b0
 refine(HIC.out W (HG.out.below B0.out)).mono ?_
 rintro e w1 ⟨rfl,b1⟩
 have X1:=hDD (XB.out.below b1)
 have B1:=hDD (B0.out.trans (b1.mono (by omega)))
 have hs1:=B1.out.size
 clear b1 XB B0 HIC
 rcases ec:coreB (g1,N,es) with _ | _
 ·have HCN2:=hDD (HCN.out ec)
  have O9:=hDD (OwI_lit (base:=w.heap.size) w1 [] I64s_nil (by simp) hs1)
  go_wp2
  exact bodyPost_ret (v:= .tuple #[.slice (some ⟨w1.heap.size,0,none⟩) 0 0, .bool false]) (by simp[results,Tryz.results33,go_sem]) rfl ⟨_,by rw[ec],by rw[HCN2.out];simpa using O9.out,B1.out.alloc hs1 _⟩
 ·have EC:=hDD ec
  have HRL2:=hDD (HRL.out ec)
  have HWK2:=hDD (HWK.out ec)
  have HTW2:=hDD (HTW.out ec)
  have htl:=HTL.out ec
  replace HCF:=hDD (HCF.out ec)
  clear ec HRL HWK HTW HTL
  go_wp2_with fail
  refine(HRE.out w1 (HA.out.below B1.out)).mono ?_
  rintro e w2 ⟨r2,rfl,o2,b2⟩
  have X2:=hDD (X1.out.below b2)
  have B2:=hDD (B1.out.trans (b2.mono hs1))
  have hs2:=b2.size
  have RX:=hDD o2.rd
  obtain⟨Ax,cx,rfl,hcx,hmx,hnx,_⟩:=o2.form
  unfold maxLen at hmx
  clear b2 o2 X1 B1 HRE
  have u0:=X2.out.c0
  have u1:=X2.out.c1
  have u2:=X2.out.c2
  go_wp2_with fail
  refine(HRL2.out w2 _ (HG.out.below B2.out) RX.out).mono ?_
  rintro e w3 ⟨rfl,b3⟩
  have X3:=hDD (X2.out.below b3)
  have B3:=hDD (B2.out.trans (b3.mono (by omega)))
  have R3:=hDD (RX.out.below b3)
  have hs3:=b3.size
  clear b3 X2 B2 RX u0 u1 u2 HRL2
  have z1:(0:Int)≤(n:Int):=by omega
  have z2:(n:Int)≤(cx:Int):=by omega
  have z3:(n:Int)≤(x.length:Int):=by omega
  have HTK:=hDD (R3.out.head (k:=n) rfl hnl)
  have hdk:(x.take n).length=n:=by rw[List.length_take];omega
  have HDR:=hDD (R3.out.cut (k:=n) rfl hnl)
  have hdr:(x.drop n).length=x.length-n:=List.length_drop
  go_wp2_with fail
  refine wp_region_gen [.val (.agg #[.int .i64 g1, .int .i64 N, .slice A es.length cap]), .val (.slice Ax x.length cx), .val (.int .i64 n), .val (.slice Ax n cx), .val (.tuple #[.int .i64 u, .bool (decide (0≤u))]), .val (.tuple #[.int .i64 u, .bool (decide (0≤u))]), .val (.int .i64 u), .val (.bool (decide (0≤u))), .val (.int .i64 u), .val (.bool (decide (0≤u)))]
   [none,none,none,none,some (fun W W'=>Below W.heap.size W W'),none,none,none,none,none] (fun W'=>Below w3.heap.size w3 W') [] (by kernel_rfl) (by kernel_rfl) (by rfl) (by rfl)
   (Below.refl _ _).drew ⟨fun _ _ h t=>h.trans (t.mono h.size),trivial⟩ trivial (fun vs=> ?_)
  refine⟨fun W' K' Q0 hI hD hK=> ?_,?_⟩
  ·have z0:=(X3.out.below hI.out).c0
   have z1:=(X3.out.below hI.out).c1
   have z2:=(X3.out.below hI.out).c2
   go_simp
   exact hK.out _ _ rfl rfl
  simp only[Act.put,List.setIfInBounds_toArray,List.set_cons_zero,List.set_cons_succ,Sg.pick,Nat.reduceAdd]
  refine⟨fun W' K' Q0 hI hD hK=> ?_,?_⟩
  ·skip
   go_simp
   exact hK.out _ _ rfl rfl
  simp only[Act.put,List.setIfInBounds_toArray,List.set_cons_zero,List.set_cons_succ,Sg.pick,Nat.reduceAdd]
  refine⟨fun W' K' Q0 hI hD hK=> ?_,?_⟩
  ·skip
   go_simp
   exact hK.out _ _ rfl rfl
  simp only[Act.put,List.setIfInBounds_toArray,List.set_cons_zero,List.set_cons_succ,Sg.pick,Nat.reduceAdd]
  refine⟨fun W' K' Q0 hI hD hK=> ?_,?_⟩
  ·skip
   go_simp
   exact hK.out _ _ rfl rfl
  simp only[Act.put,List.setIfInBounds_toArray,List.set_cons_zero,List.set_cons_succ,Sg.pick,Nat.reduceAdd]
  refine⟨fun W' K' Q0 hI hD hK=> ?_,?_⟩
  ·skip
   go_simp
   refine(HWK2.out _ _ (HG.out.below (B3.out.trans (hI.out.mono (by omega)))) (HTK.out.below hI.out)).mono ?_;rintro e w' ⟨rfl,b⟩;exact hK.out _ _ b rfl
  simp only[Act.put,List.setIfInBounds_toArray,List.set_cons_zero,List.set_cons_succ,Sg.pick,Nat.reduceAdd]
  refine⟨fun W' K' Q0 hI hD hK=> ?_,?_⟩
  ·skip
   go_simp
   exact hK.out _ _ rfl rfl
  simp only[Act.put,List.setIfInBounds_toArray,List.set_cons_zero,List.set_cons_succ,Sg.pick,Nat.reduceAdd]
  refine⟨fun W' K' Q0 hI hD hK=> ?_,?_⟩
  ·skip
   go_simp
   exact hK.out _ _ rfl rfl
  simp only[Act.put,List.setIfInBounds_toArray,List.set_cons_zero,List.set_cons_succ,Sg.pick,Nat.reduceAdd]
  refine⟨fun W' K' Q0 hI hD hK=> ?_,?_⟩
  ·skip
   go_simp
   exact hK.out _ _ rfl rfl
  simp only[Act.put,List.setIfInBounds_toArray,List.set_cons_zero,List.set_cons_succ,Sg.pick,Nat.reduceAdd]
  refine⟨fun W' K' Q0 hI hD hK=> ?_,?_⟩
  ·skip
   go_simp
   exact hK.out _ _ rfl rfl
  simp only[Act.put,List.setIfInBounds_toArray,List.set_cons_zero,List.set_cons_succ,Sg.pick,Nat.reduceAdd]
  refine⟨fun W' K' Q0 hI hD hK=> ?_,?_⟩
  ·skip
   go_simp
   exact hK.out _ _ rfl rfl
  simp only[Act.put,List.setIfInBounds_toArray,List.set_cons_zero,List.set_cons_succ,Sg.pick,Nat.reduceAdd]
  intro W9 hI9 hD9
  have X4:=hDD (X3.out.below hI9.out)
  have B4:=hDD (B3.out.trans (hI9.out.mono (by omega)))
  have R4:=hDD (HDR.out.below hI9.out)
  have hs4:=hI9.out.size
  clear hI9 hD9 X3 B3 R3 HTK HDR HWK2
  generalize W9=w4 at*
  have u0:=X4.out.c0
  have u1:=X4.out.c1
  have u2:=X4.out.c2
  have BD:=hDD (Below.refl w4.heap.size w4).drew
  have HGB:Hid (∀W',Below w4.heap.size w4 W'→ArgG W' (.agg #[.int .i64 g1, .int .i64 N, .slice A es.length cap]) (g1,N,es)):=hDD fun W' hb=>HG.out.below (B4.out.trans (hb.mono B4.out.size))
  have hdx:x.length-n≤10000:=by omega
  obtain⟨dx,hdx0⟩: ∃d,d=x.drop n:=⟨_,rfl⟩
  rw[←hdx0] at R4 HCF hdr
  clear hdx0 hdk
  by_cases hcn:cx=n
  ·rw[if_pos hcn] at R4
   subst hcn
   rw[Nat.sub_self,show x.length-cx=0 by omega] at R4
   go_wp2_with fail
   go_region_held3 (fun w'=>w'.cell? ⟨w.heap.size,0,none⟩=some (.int .i64 g1)∧w'.cell? ⟨w.heap.size,1,none⟩=some (.int .i64 N)∧w'.cell? ⟨w.heap.size,2,none⟩=some (.slice A es.length cap))
    (first | go_keep | exact⟨q0,q1,q2⟩)
    (first
     | (go_at_call 79;(with_reducible refine(HTW2.out _ (HGB.out _ BD.out)).mono ?_);rintro e w5 ⟨r5,rfl,o5,b5⟩;have BT:=hDD (BD.out.trans (b5.mono BD.out.size));have O5:=hDD (o5.mono BD.out.size);have q0:=(X4.out.below BT.out).c0;have q1:=(X4.out.below BT.out).c1;have q2:=(X4.out.below BT.out).c2;clear o5 b5 BD)
     | (refine step_append_ints rfl (.tmp 29) (.tmp 32) rfl w4.heap.size _ tw O5.out (by rfl) _ dx (R4.out.below BT.out) (by rfl) (by omega) BT.out.size ?_;intro v6 w6 o6 g6 p6;have B6:=hDD (BT.out.grown g6 BT.out.size (fun c hc=>(O5.out.1.lt c hc).1));have O6:=hDD o6;have q0:=(X4.out.below B6.out).c0;have q1:=(X4.out.below B6.out).c1;have q2:=(X4.out.below B6.out).c2;clear o6 g6 p6 O5 BT))
   obtain⟨A6,m6,c6,rfl⟩:=O6.out.any2
   go_wp2
   exact bodyPost_ret (v:= .tuple #[.slice A6 m6 c6, .bool true]) (by simp[results,Tryz.results33,go_sem]) rfl ⟨_,by rw[EC.out],by rw[HCF.out];exact O6.out.mono (by omega),B4.out.trans (B6.out.mono (by omega))⟩
  ·rw[if_neg hcn] at R4
   go_wp2_with fail
   go_region_held3 (fun w'=>w'.cell? ⟨w.heap.size,0,none⟩=some (.int .i64 g1)∧w'.cell? ⟨w.heap.size,1,none⟩=some (.int .i64 N)∧w'.cell? ⟨w.heap.size,2,none⟩=some (.slice A es.length cap))
    (first | go_keep | exact⟨q0,q1,q2⟩)
    (first
     | (go_at_call 79;(with_reducible refine(HTW2.out _ (HGB.out _ BD.out)).mono ?_);rintro e w5 ⟨r5,rfl,o5,b5⟩;have BT:=hDD (BD.out.trans (b5.mono BD.out.size));have O5:=hDD (o5.mono BD.out.size);have q0:=(X4.out.below BT.out).c0;have q1:=(X4.out.below BT.out).c1;have q2:=(X4.out.below BT.out).c2;clear o5 b5 BD)
     | (refine step_append_ints rfl (.tmp 29) (.tmp 32) rfl w4.heap.size _ tw O5.out (by rfl) _ dx (R4.out.below BT.out) (by rfl) (by omega) BT.out.size ?_;intro v6 w6 o6 g6 p6;have B6:=hDD (BT.out.grown g6 BT.out.size (fun c hc=>(O5.out.1.lt c hc).1));have O6:=hDD o6;have q0:=(X4.out.below B6.out).c0;have q1:=(X4.out.below B6.out).c1;have q2:=(X4.out.below B6.out).c2;clear o6 g6 p6 O5 BT))
   obtain⟨A6,m6,c6,rfl⟩:=O6.out.any2
   go_wp2
   exact bodyPost_ret (v:= .tuple #[.slice A6 m6 c6, .bool true]) (by simp[results,Tryz.results33,go_sem]) rfl ⟨_,by rw[EC.out],by rw[HCF.out];exact O6.out.mono (by omega),B4.out.trans (B6.out.mono (by omega))⟩
set_option maxRecDepth 100000 in
set_option maxHeartbeats 8000000 in
theorem implCosetOf_any (v va:Value) (g:GrD) (a:List Int) (w:World) (h:ArgG w v g) (h1:RdI w va a) (hla:a.length≤10000):
  Calls Tryz.prog 32 #[v,va] w fun e w'=> ∃r,e= .returned (.tuple #[r, .bool (coreB g)])∧OwI w' w.heap.size r (if coreB g=true then cosF g a else [])∧Below w.heap.size w w':=by
 have HG:=hDD h
 have HA:=hDD h1
 have HIC:=hDD (fun W (h:ArgG W v g)=>implIsCore_any v g W h)
 have HRE:=hDD (fun W (h:RdI W va a)=>implReduceLetters_any va a W h (by omega))
 have HRL:=hDD (fun (hc:coreB g=true) W u (h:ArgG W v g) (h':RdI W u (redL [] a))=>read_any v u g 0 (redL [] a) W h h' (coreB_foldB hc) (by have:=(grB_parts (coreB_grB hc)).2.1;omega))
 have HTW:Hid (coreB g=true→ ∀W,ArgG W v g→Calls Tryz.prog 86 #[v, .int .i64 (readF g.2.2 0 (redL [] a)).1] W fun e w'=> ∃r,e= .returned r∧OwI w' W.heap.size r (wdO g (readF g.2.2 0 (redL [] a)).1)∧Below W.heap.size W w'):=hDD fun hc W h=>by
  have hr:=readF_range (coreB_grB hc) (redL [] a) 0 (by have:=(grB_parts (coreB_grB hc)).2.1;omega)
  have:=implTreeWordO_any v g (readF g.2.2 0 (redL [] a)).1.toNat W h (coreB_foldB hc) (by rw[Int.toNat_of_nonneg hr.1];exact core_all hc hr)
  rwa [Int.toNat_of_nonneg hr.1] at this
 have hxl:(redL [] a).length≤10000:=by have:=redL_len [] a;simp only[List.length_nil] at this;omega
 have hnl:=readF_le g.2.2 (redL [] a) 0
 have HTL:Hid (coreB g=true→(wdO g (readF g.2.2 0 (redL [] a)).1).length≤40):=hDD fun hc=>wdO_len (coreB_grB hc) (core_all hc (readF_range (coreB_grB hc) _ 0 (by have:=(grB_parts (coreB_grB hc)).2.1;omega)))
 have HCF:Hid (coreB g=true→(if coreB g=true then cosF g a else [])=wdO g (readF g.2.2 0 (redL [] a)).1++(redL [] a).drop (readF g.2.2 0 (redL [] a)).2):=hDD fun hc=>by rw[if_pos hc];rfl
 have HCN:Hid (coreB g=false→(if coreB g=true then cosF g a else [])= []):=hDD fun hc=>by rw[if_neg (by rw[hc];decide)]
 generalize (if coreB g=true then cosF g a else [])=cf at*
 obtain⟨s,rfl,hi1,hi2,ha⟩:=h
 obtain⟨A,cap,rfl⟩:=ha.form
 obtain⟨Aa,ca,rfl,_⟩:=h1.arg
 obtain⟨g1,N,es⟩:=g
 simp only at*
 generalize redL [] a=x at*
 generalize (readF es 0 x).1=u at*
 generalize (readF es 0 x).2=n at*
 generalize wdO (g1,N,es) u=tw at*
 clear ha h1
 go_enter Tryz.func32,Tryz.ntmps32
 go_wp2_with fail
 obtain⟨W,hW⟩: ∃W,W=w.alloc (Obj.cells #[Value.int IntKind.i64 g1,Value.int IntKind.i64 N, .slice A es.length cap] 26):=⟨_,rfl⟩
 rw[←hW]
 obtain⟨xb,b0,s0⟩:=CBx.new hW
 clear hW
 have XB:=hDD xb
 have B0:=hDD b0
 clear xb b0
 refine(HIC.out W (HG.out.below B0.out)).mono ?_
 rintro e w1 ⟨rfl,b1⟩
 have X1:=hDD (XB.out.below b1)
 have B1:=hDD (B0.out.trans (b1.mono (by omega)))
 have hs1:=B1.out.size
 clear b1 XB B0 HIC
 rcases ec:coreB (g1,N,es) with _ | _
 ·have HCN2:=hDD (HCN.out ec)
  have O9:=hDD (OwI_lit (base:=w.heap.size) w1 [] I64s_nil (by simp) hs1)
  go_wp2
  exact bodyPost_ret (v:= .tuple #[.slice (some ⟨w1.heap.size,0,none⟩) 0 0, .bool false]) (by simp[results,Tryz.results32,go_sem]) rfl ⟨_,by rw[ec],by rw[HCN2.out];simpa using O9.out,B1.out.alloc hs1 _⟩
 ·have EC:=hDD ec
  have HRL2:=hDD (HRL.out ec)
  have HTW2:=hDD (HTW.out ec)
  have htl:=HTL.out ec
  replace HCF:=hDD (HCF.out ec)
  clear ec HRL HTW HTL
  go_wp2_with fail
  refine(HRE.out w1 (HA.out.below B1.out)).mono ?_
  rintro e w2 ⟨r2,rfl,o2,b2⟩
  have X2:=hDD (X1.out.below b2)
  have B2:=hDD (B1.out.trans (b2.mono hs1))
  have hs2:=b2.size
  have RX:=hDD o2.rd
  obtain⟨Ax,cx,rfl,hcx,hmx,hnx,_⟩:=o2.form
  unfold maxLen at hmx
  clear b2 o2 X1 B1 HRE
  have u0:=X2.out.c0
  have u1:=X2.out.c1
  have u2:=X2.out.c2
  go_wp2_with fail
  refine(HRL2.out w2 _ (HG.out.below B2.out) RX.out).mono ?_
  rintro e w3 ⟨rfl,b3⟩
  have X3:=hDD (X2.out.below b3)
  have B3:=hDD (B2.out.trans (b3.mono (by omega)))
  have R3:=hDD (RX.out.below b3)
  have hs3:=b3.size
  clear b3 X2 B2 RX u0 u1 u2 HRL2
  have z1:(0:Int)≤(n:Int):=by omega
  have z2:(n:Int)≤(cx:Int):=by omega
  have z3:(n:Int)≤(x.length:Int):=by omega
  have HDR:=hDD (R3.out.cut (k:=n) rfl hnl)
  have hdr:(x.drop n).length=x.length-n:=List.length_drop
  have X4:=X3
  have B4:=B3
  have R4:=HDR
  have hs4:=hs3
  clear X3 B3 R3 HDR
  obtain⟨w4,hw4⟩: ∃W,W=w3:=⟨_,rfl⟩
  rw[←hw4] at X4 B4 R4 hs4⊢
  clear hw4
  have u0:=X4.out.c0
  have u1:=X4.out.c1
  have u2:=X4.out.c2
  have BD:=hDD (Below.refl w4.heap.size w4).drew
  have HGB:Hid (∀W',Below w4.heap.size w4 W'→ArgG W' (.agg #[.int .i64 g1, .int .i64 N, .slice A es.length cap]) (g1,N,es)):=hDD fun W' hb=>HG.out.below (B4.out.trans (hb.mono B4.out.size))
  have hdx:x.length-n≤10000:=by omega
  obtain⟨dx,hdx0⟩: ∃d,d=x.drop n:=⟨_,rfl⟩
  rw[←hdx0] at R4 HCF hdr
  clear hdx0
  by_cases hcn:cx=n
  ·rw[if_pos hcn] at R4
   subst hcn
   rw[Nat.sub_self,show x.length-cx=0 by omega] at R4
   go_wp2_with fail
   go_region_held3 (fun w'=>w'.cell? ⟨w.heap.size,0,none⟩=some (.int .i64 g1)∧w'.cell? ⟨w.heap.size,1,none⟩=some (.int .i64 N)∧w'.cell? ⟨w.heap.size,2,none⟩=some (.slice A es.length cap))
    (first | go_keep | exact⟨q0,q1,q2⟩)
    (first
     | (go_at_call 86;(with_reducible refine(HTW2.out _ (HGB.out _ BD.out)).mono ?_);rintro e w5 ⟨r5,rfl,o5,b5⟩;have BT:=hDD (BD.out.trans (b5.mono BD.out.size));have O5:=hDD (o5.mono BD.out.size);have q0:=(X4.out.below BT.out).c0;have q1:=(X4.out.below BT.out).c1;have q2:=(X4.out.below BT.out).c2;clear o5 b5 BD)
     | (refine step_append_ints rfl (.tmp 23) (.tmp 26) rfl w4.heap.size _ tw O5.out (by rfl) _ dx (R4.out.below BT.out) (by rfl) (by omega) BT.out.size ?_;intro v6 w6 o6 g6 p6;have B6:=hDD (BT.out.grown g6 BT.out.size (fun c hc=>(O5.out.1.lt c hc).1));have O6:=hDD o6;have q0:=(X4.out.below B6.out).c0;have q1:=(X4.out.below B6.out).c1;have q2:=(X4.out.below B6.out).c2;clear o6 g6 p6 O5 BT))
   obtain⟨A6,m6,c6,rfl⟩:=O6.out.any2
   go_wp2
   exact bodyPost_ret (v:= .tuple #[.slice A6 m6 c6, .bool true]) (by simp[results,Tryz.results32,go_sem]) rfl ⟨_,by rw[EC.out],by rw[HCF.out];exact O6.out.mono (by omega),B4.out.trans (B6.out.mono (by omega))⟩
  ·rw[if_neg hcn] at R4
   go_wp2_with fail
   go_region_held3 (fun w'=>w'.cell? ⟨w.heap.size,0,none⟩=some (.int .i64 g1)∧w'.cell? ⟨w.heap.size,1,none⟩=some (.int .i64 N)∧w'.cell? ⟨w.heap.size,2,none⟩=some (.slice A es.length cap))
    (first | go_keep | exact⟨q0,q1,q2⟩)
    (first
     | (go_at_call 86;(with_reducible refine(HTW2.out _ (HGB.out _ BD.out)).mono ?_);rintro e w5 ⟨r5,rfl,o5,b5⟩;have BT:=hDD (BD.out.trans (b5.mono BD.out.size));have O5:=hDD (o5.mono BD.out.size);have q0:=(X4.out.below BT.out).c0;have q1:=(X4.out.below BT.out).c1;have q2:=(X4.out.below BT.out).c2;clear o5 b5 BD)
     | (refine step_append_ints rfl (.tmp 23) (.tmp 26) rfl w4.heap.size _ tw O5.out (by rfl) _ dx (R4.out.below BT.out) (by rfl) (by omega) BT.out.size ?_;intro v6 w6 o6 g6 p6;have B6:=hDD (BT.out.grown g6 BT.out.size (fun c hc=>(O5.out.1.lt c hc).1));have O6:=hDD o6;have q0:=(X4.out.below B6.out).c0;have q1:=(X4.out.below B6.out).c1;have q2:=(X4.out.below B6.out).c2;clear o6 g6 p6 O5 BT))
   obtain⟨A6,m6,c6,rfl⟩:=O6.out.any2
   go_wp2
   exact bodyPost_ret (v:= .tuple #[.slice A6 m6 c6, .bool true]) (by simp[results,Tryz.results32,go_sem]) rfl ⟨_,by rw[EC.out],by rw[HCF.out];exact O6.out.mono (by omega),B4.out.trans (B6.out.mono (by omega))⟩
end Go.Proofs.YteobmaambgmdbaaGreat
namespace Go.Proofs.YteobmaambgmdbaaGreat
set_option maxRecDepth 20000
set_option linter.unusedVariables false
set_option linter.unusedSimpArgs false
open Go.RowKit
theorem OwII.notR {lo hi:Nat} {v:Value} {L:List (List Int)} {w:World} {b n cap:Nat} {xs:List Int} (h:OwII lo hi v L w) (h':RdI w (.slice (some ⟨b,0,none⟩) n cap) xs) (h0:0<xs.length):v.ownBlock≠some b:=fun e=>by
 obtain⟨F,⟨es,h1,h2,h3,rfl⟩,_,hF⟩:=h
 obtain⟨_,A,c,hv,_,_,_,hb⟩:=h'.1
 obtain⟨b',off,cur,fr,hA,hh,_⟩:=hb h0
 injection hv with hv
 rw[hA] at hv
 injection hv with hv
 injection hv with hv
 subst hv
 rcases h3.2 with ⟨hv',_⟩ | ⟨g',cap',cur',hv',_,hh',_⟩
 ·rw[hv'] at e;cases e
 ·rw[hv'] at e
  have e2:g'=b:=by simpa[Value.ownBlock] using e
  subst e2
  rw[hh] at hh'
  injection hh' with hq
  injection hq with _ e3 _
  exact absurd e3 (by decide)
set_option maxRecDepth 100000 in
set_option maxHeartbeats 8000000 in
theorem specCosetTable_any (v:Value) (g:GrD) (w:World) (h:ArgG w v g):
  Calls Tryz.prog 29 #[v] w fun e w'=> ∃r,e= .returned r∧OwII w.heap.size w'.heap.size r (ctbL g) w'∧Below w.heap.size w w':=by
 have HG:=hDD h
 have HTV:Hid (finB g=true→ctbL g=(List.range g.2.1.toNat).map (rowC g (lettersL g.1.toNat))):=hDD fun hc=>by unfold ctbL;rw[if_pos hc]
 have HTN:Hid (finB g=false→ctbL g= []):=hDD fun hc=>by unfold ctbL;rw[if_neg (by rw[hc];decide)]
 have HIS:=hDD (fun W v (h:ArgG W v g)=>specIsFiniteIndex_any v g W h)
 have HCO:Hid (finB g=true→coreB g=true):=hDD fun hc=>by unfold finB at hc;simp only[Bool.and_eq_true] at hc;exact hc.1
 have HNX:Hid (finB g=true→ ∀(u x:Int) W v,ArgG W v g→Calls Tryz.prog 83 #[v, .int .i64 u, .int .i64 x] W fun e w'=>e= .returned (.int .i64 (nextV g.2.2 u x))∧Below W.heap.size W w'):=hDD fun hc u x W v h=>specNextVertex_any v g u x W h (steps_one (foldB_parts (coreB_foldB (HCO.out hc))).2 u x)
 have HSZ:Hid (finB g=true→(1≤g.2.1∧g.2.1≤40)∧(1≤g.1∧g.1≤3)):=hDD fun hc=>⟨(grB_parts (coreB_grB (HCO.out hc))).2.1,(grB_parts (coreB_grB (HCO.out hc))).1⟩
 have HNR:Hid (finB g=true→ ∀u x:Int,nextV g.2.2 u x= -1∨(0≤nextV g.2.2 u x∧nextV g.2.2 u x<g.2.1)):=hDD fun hc u x=>nextV_range (coreB_grB (HCO.out hc)) u x
 generalize ctbL g=TV at*
 obtain⟨s,rfl,hi1,hi2,ha⟩:=h
 obtain⟨A,cap,rfl⟩:=ha.form
 obtain⟨g1,N,es⟩:=g
 simp only at*
 clear ha HCO
 go_enter Tryz.func29,Tryz.ntmps29
 go_wp2_with fail
 obtain⟨W1,hW1⟩: ∃W,W=w.alloc (Obj.cells #[Value.int IntKind.i64 g1,Value.int IntKind.i64 N, .slice A es.length cap] 26):=⟨_,rfl⟩
 rw[←hW1]
 obtain⟨xb,b0,s0⟩:=CBx.new hW1
 clear hW1
 have O2:Hid (OwII (w.heap.size+1) (w.heap.size+2) (.slice (some ⟨w.heap.size+1,0,none⟩) 0 0) [] (W1.alloc (.cells #[] 27))):=hDD (OwII.nilT W1 _ _ s0.symm (by omega))
 have b2:Below W1.heap.size W1 (W1.alloc (.cells #[] 27)):=(Below.refl _ _).alloc (Nat.le_refl _) _
 have X2:=hDD (xb.below b2)
 have B2:=hDD (b0.trans (b2.mono (by omega)))
 have hs2:(W1.alloc (.cells #[] 27)).heap.size=w.heap.size+2:=by simp;omega
 clear xb b0 b2
 generalize W1.alloc (.cells #[] 27)=W2 at*
 clear s0
 refine(HIS.out W2 _ (HG.out.below B2.out)).mono ?_
 rintro e w3 ⟨rfl,b3⟩
 have O3:=hDD (O2.out.belowL (by omega) b3)
 have X3:=hDD (X2.out.below b3)
 have B3:=hDD (B2.out.trans (b3.mono (by omega)))
 have hs3:=b3.size
 clear b3 O2 X2 B2 HIS
 rcases ec:finB (g1,N,es) with _ | _
 ·have HE:Hid (TV= []):=hDD (HTN.out ec)
  go_wp2
  exact bodyPost_ret (v:= .slice (some ⟨w.heap.size+1,0,none⟩) 0 0) (by simp[results,Tryz.results29,go_sem]) rfl ⟨_,rfl,by rw[HE.out];exact O3.out.widen (by omega) (by omega),B3.out⟩
 ·obtain⟨hsz,hr13⟩:=HSZ.out ec
  obtain⟨N,rfl⟩: ∃M:Nat,N=M:=⟨N.toNat,by omega⟩
  obtain⟨rn,rfl⟩: ∃M:Nat,g1=M:=⟨g1.toNat,by omega⟩
  have HT:Hid (TV=(List.range N).map (rowC ((rn:Int),(N:Int),es) (lettersL rn))):=hDD (by have:=HTV.out ec;rwa [Int.toNat_natCast,Int.toNat_natCast] at this)
  have HLE:=hDD (fun W=>l5Letters_any rn W (by omega))
  have hll0:=lettersL_len rn
  have hl64:=lettersL_I64 (n:=rn) (by omega)
  generalize lettersL rn=ls at*
  have hls1:0<ls.length:=by omega
  have hls6:ls.length≤6:=by omega
  clear hll0
  have HL64:=hDD hl64
  have HTK:Hid (∀k,k<N→TV.take (k+1)=TV.take k++ [rowC ((rn:Int),(N:Int),es) ls k]):=hDD fun k hk=>by
   rw[HT.out,List.take_succ_eq_append_getElem (by simpa using hk)]
   simp
  have HTL:Hid (TV.length=N):=hDD (by rw[HT.out];simp)
  have HRK:Hid (∀(k m:Nat) (hm:m<ls.length),(rowC ((rn:Int),(N:Int),es) ls k).take (m+1)=(rowC ((rn:Int),(N:Int),es) ls k).take m++ [nextV es (k:Int) ls[m]]):=hDD fun k m hm=>by
   unfold rowC
   rw[List.take_succ_eq_append_getElem (by simpa using hm)]
   simp
  have HRL:Hid (∀k:Nat,(rowC ((rn:Int),(N:Int),es) ls k).length=ls.length):=hDD fun k=>by simp[rowC]
  have HNXT:=hDD (HNX.out ec)
  have HNRT:=hDD (HNR.out ec)
  clear ec HT HTV HTN HSZ hl64 HNX HNR
  have u0:=X3.out.c0
  go_wp2_with fail
  refine(HLE.out w3).mono ?_
  rintro e w4 ⟨rl,rfl,ol,b4⟩
  have O4:=hDD (O3.out.belowL (Nat.le_refl _) b4)
  have X4:=hDD (X3.out.below b4)
  have B4:=hDD (B3.out.trans (b4.mono (by omega)))
  have hs4:=b4.size
  obtain⟨Al,cl_,rfl,hcl,hml,_,hgl⟩:=OwI.form ol
  obtain⟨gl,rfl,hgl1,hgl2⟩:=hgl (by omega)
  unfold maxLen at hml
  have OL:=hDD ol.rd
  clear ol b4 hgl O3 X3 B3 u0
  go_wp2
  go_loopw [3,5] (fun ov iv wr=> ∃k:Nat,k≤N∧iv= .int .i64 k∧OwII (w.heap.size+1) wr.heap.size ov (TV.take k) wr∧Below w.heap.size w wr∧CBx wr w.heap.size (.int .i64 rn) (.int .i64 (N:Int)) (.slice A es.length cap)∧RdI wr (.slice (some ⟨gl,0,none⟩) ls.length cl_) ls∧gl<wr.heap.size) (fun _ iv _=>N-(intOf iv).toNat)
  case atStart=>exact⟨0,Nat.zero_le _,rfl,by simpa using O4.out,B4.out,X4.out,OL.out,hgl2⟩
  case round=>
   obtain⟨k,hk,rfl,hO,hB,hX,hL,hgz⟩:=hrel
   have HO:=hDD hO
   have HB:=hDD hB
   have HX:=hDD hX
   have HL:=hDD hL
   have hxl:=hX.lt
   have hsr:=hB.size
   have htl:(TV.take k).length≤40:=by rw[List.length_take];omega
   have u0:=hX.c0
   have u1:=hX.c1
   have u2:=hX.c2
   clear hO hB hX hL
   generalize hwi:wr=wi at*
   clear hwi
   by_cases hlt:k<N
   ·have hkI:(k:Int)<(N:Int):=by omega
    have HS:=hDD (HTK.out k hlt)
    have HRW:=hDD (fun m hm=>HRK.out k m hm)
    have HWKL:=hDD (HRL.out k)
    generalize TV.take k=acc at*
    generalize rowC ((rn:Int),(N:Int),es) ls k=wk at*
    obtain⟨Ao,mo,co,rfl⟩:=OwII_any HO.out
    have R0:Hid (OwI (wi.alloc (.cells #[] 3)) wi.heap.size (.slice (some ⟨wi.heap.size,0,none⟩) 0 0) []):=hDD (OwI_lit wi [] I64s_nil (by simp) (Nat.le_refl _))
    go_wp2
    go_loopw [6,7] (fun rv jv wr=> ∃m:Nat,m≤ls.length∧jv= .int .i64 m∧OwI wr wi.heap.size rv (wk.take m)∧Below wi.heap.size wi wr∧wi.heap.size<wr.heap.size) (fun _ jv _=>ls.length-(intOf jv).toNat)
    case atStart=>exact⟨0,Nat.zero_le _,rfl,by simpa using R0.out,(Below.refl _ _).alloc (Nat.le_refl _) _,by simp⟩
    case round=>
     obtain⟨m,hm,rfl,hR,hbi,hwz⟩:=hrel
     have HR:=hDD hR
     have HBi:=hDD hbi
     have hsi:=hbi.size
     have hrl:(wk.take m).length≤6:=by rw[List.length_take];omega
     clear hR hbi
     by_cases hlt2:m<ls.length
     ·have hmI:(m:Int)<(ls.length:Int):=by omega
      have HM:=hDD (HRW.out m hlt2)
      obtain⟨_,_,e1,_,hcl'⟩:=(HL.out.below HBi.out).at (by omega)
      injection e1 with e1
      injection e1 with e1 e2
      subst e1;subst e2
      have hc:=hcl' m hlt2
      rw[Nat.zero_add] at hc
      have HXX:=hDD (fun W v (h:ArgG W v ((rn:Int),(N:Int),es))=>HNXT.out (k:Int) ls[m] W v h)
      have hnr:=HNRT.out (k:Int) ls[m]
      clear hcl'
      generalize ls[m]=x at*
      generalize nextV es (k:Int) x=y at*
      generalize wk.take m=row at*
      have HY64:Hid (I64 y):=hDD ⟨by omega,by omega⟩
      obtain⟨Ar,cr,rfl,_⟩:=OwI.form HR.out
      have hrb: ∀b,(Value.slice Ar row.length cr).ownBlock=some b→wi.heap.size≤b∧b<wr.heap.size:=fun b hb=>HR.out.1.lt b hb
      have HRB:=hDD hrb
      clear hrb
      go_wp2_with fail
      refine wp_region_genH [.val (.slice Ar row.length cr), .val (.agg #[.int .i64 rn, .int .i64 N, .slice A es.length cap]), .val (.int .i64 k), .val (.slice (some ⟨gl,0,none⟩) ls.length cl_), .val (.int .i64 m), .val (.pointer (some ⟨gl,m,none⟩)), .val (.int .i64 x), .val (.int .i64 y), .mem (fun _ W v=> ∃q,v= .slice (some ⟨q,0,none⟩) 1 1∧wr.heap.size≤q∧RdI W v [y]), .mem (fun _ W v=> ∃A' c',v= .slice A' (row.length+1) c'∧OwI W wi.heap.size v (row++ [y])), .pur (fun us v=>v=us 9)]
       [none,none,none,none,none,none,none,some (fun W W'=>Below W.heap.size W W'),some (fun W W'=>Below W.heap.size W W'),some (fun W W'=>W.grownBy W' (Value.slice Ar row.length cr).ownBlock),none]
       (fun W=>Below wi.heap.size wi W∧wr.heap.size≤W.heap.size) (fun W=>OwI W wi.heap.size (.slice Ar row.length cr) row) [9] [(8,9)] (by kernel_rfl) (by kernel_rfl) (by rfl) (by rfl)
       ⟨HBi.out.drew,Nat.le_refl _⟩ (HR.out.below (Below.refl _ _).drew)
       ⟨fun _ _ h t=>⟨h.1.trans (t.mono (by have:=h.2;omega)),Nat.le_trans h.2 t.size⟩,fun _ _ h t=>⟨h.1.trans (t.mono (by have:=h.2;omega)),Nat.le_trans h.2 t.size⟩,fun _ _ h t=>⟨h.1.grown t (by have:=h.2;omega) (fun c hc=>(HRB.out c hc).1),Nat.le_trans h.2 t.size⟩,trivial⟩
       ⟨.inr fun _ _ _ h t=>h.below t, .inr fun _ _ _ h t=>h.below t, .inl (by simp),trivial⟩
       ⟨fun _ W W' _ _ _ t h=>by
        obtain⟨q,e,hq,hr⟩:=h
        exact⟨q,e,hq,hr.grown t fun b hb hb'=>by rw[e] at hb;simp[Value.ownBlock] at hb;have:=(HRB.out b hb').2;omega⟩,trivial⟩ (fun vs=> ?_)
      refine⟨fun W' K' Q0 hI hD hK=> ?_,?_⟩
      ·skip
       go_simp
       exact hK.out _ _ rfl rfl
      simp only[Act.put,List.setIfInBounds_toArray,List.set_cons_zero,List.set_cons_succ,Sg.pick,Nat.reduceAdd]
      refine⟨fun W' K' Q0 hI hD hK=> ?_,?_⟩
      ·have z0:=(HX.out.belowAt hI.out.1.1 hxl).c0
       have z1:=(HX.out.belowAt hI.out.1.1 hxl).c1
       have z2:=(HX.out.belowAt hI.out.1.1 hxl).c2
       go_simp
       exact hK.out _ _ rfl rfl
      simp only[Act.put,List.setIfInBounds_toArray,List.set_cons_zero,List.set_cons_succ,Sg.pick,Nat.reduceAdd]
      refine⟨fun W' K' Q0 hI hD hK=> ?_,?_⟩
      ·skip
       go_simp
       exact hK.out _ _ rfl rfl
      simp only[Act.put,List.setIfInBounds_toArray,List.set_cons_zero,List.set_cons_succ,Sg.pick,Nat.reduceAdd]
      refine⟨fun W' K' Q0 hI hD hK=> ?_,?_⟩
      ·skip
       go_simp
       exact hK.out _ _ rfl rfl
      simp only[Act.put,List.setIfInBounds_toArray,List.set_cons_zero,List.set_cons_succ,Sg.pick,Nat.reduceAdd]
      refine⟨fun W' K' Q0 hI hD hK=> ?_,?_⟩
      ·skip
       go_simp
       exact hK.out _ _ rfl rfl
      simp only[Act.put,List.setIfInBounds_toArray,List.set_cons_zero,List.set_cons_succ,Sg.pick,Nat.reduceAdd]
      refine⟨fun W' K' Q0 hI hD hK=> ?_,?_⟩
      ·skip
       go_simp
       exact hK.out _ _ rfl rfl
      simp only[Act.put,List.setIfInBounds_toArray,List.set_cons_zero,List.set_cons_succ,Sg.pick,Nat.reduceAdd]
      refine⟨fun W' K' Q0 hI hD hK=> ?_,?_⟩
      ·have z0:W'.cell? ⟨gl,m,none⟩=some (.int .i64 x):=(hI.out.1.1.cell (p:=⟨gl,m,none⟩) hgz).trans ((HBi.out.cell (p:=⟨gl,m,none⟩) hgz).symm.trans hc)
       go_simp
       exact hK.out _ _ rfl rfl
      simp only[Act.put,List.setIfInBounds_toArray,List.set_cons_zero,List.set_cons_succ,Sg.pick,Nat.reduceAdd]
      refine⟨fun W' K' Q0 hI hD hK=> ?_,?_⟩
      ·skip
       go_simp
       refine(HXX.out _ _ (HG.out.below (HB.out.trans (hI.out.1.1.mono (by omega))))).mono ?_;rintro e w' ⟨rfl,b⟩;exact hK.out _ _ b rfl
      simp only[Act.put,List.setIfInBounds_toArray,List.set_cons_zero,List.set_cons_succ,Sg.pick,Nat.reduceAdd]
      refine⟨fun W' K' Q0 hI hD hK=> ?_,?_⟩
      ·skip
       go_simp
       exact hK.out _ _ ((Below.refl _ _).alloc (Nat.le_refl _) _) ⟨_,rfl,hI.out.1.2,RdI_new1 _ y HY64.out⟩
      simp only[Act.put,List.setIfInBounds_toArray,List.set_cons_zero,List.set_cons_succ,Sg.pick,Nat.reduceAdd]
      refine⟨fun W' K' Q0 hI hD hK=> ?_,?_⟩
      ·obtain⟨q,e8,hq,hr8⟩:=(show ∃q,vs 8= .slice (some ⟨q,0,none⟩) 1 1∧wr.heap.size≤q∧RdI W' (vs 8) [y] from hD.out 8 (by kernel_rfl))
       rw[e8] at hK hr8⊢
       have hR9:=hI.out.2 (by kernel_rfl)
       refine wp_append_ints (.tmp 29) (.tmp 37) rfl wi.heap.size _ row hR9 rfl _ [y] hr8 rfl (by simp;omega) (by have:=hI.out.1.2;omega) ?_
       intro v' w' o gq pl
       obtain⟨A',c',e',_⟩:=o.form
       rw[List.length_append,List.length_singleton] at e'
       subst e'
       exact hK.out _ _ gq ⟨A',c',rfl,o⟩
      simp only[Act.put,List.setIfInBounds_toArray,List.set_cons_zero,List.set_cons_succ,Sg.pick,Nat.reduceAdd]
      refine⟨fun W' K' Q0 hI hD hK=> ?_,?_⟩
      ·obtain⟨A',c',e9,_⟩:=(show ∃A' c',vs 9= .slice A' (row.length+1) c'∧OwI W' wi.heap.size (vs 9) (row++ [y]) from hD.out 9 (by kernel_rfl))
       rw[e9] at hK⊢
       go_simp
       exact hK.out _ _ rfl ((mask_at (by kernel_rfl)).trans e9).symm
      simp only[Act.put,List.setIfInBounds_toArray,List.set_cons_zero,List.set_cons_succ,Sg.pick,Nat.reduceAdd]
      intro W9 hI9 hD9
      obtain⟨A9,c9,e9,o9⟩:=(show ∃A' c',vs 9= .slice A' (row.length+1) c'∧OwI W9 wi.heap.size (vs 9) (row++ [y]) from hD9.out 9 (by decide))
      have e10:=(show vs 10=maskV _ 10 vs 9 from hD9.out 10 (by decide))
      rw[mask_at (by kernel_rfl),e9] at e10
      rw[e9] at o9
      rw[e10]
      have O9:=hDD o9
      have B9:=hDD hI9.out.1.1
      have hz9:=hI9.out.1.2
      clear hD9 hI9 e9 e10 o9
      go_wp2
      go_roundw
      case rel=>exact⟨m+1,by omega,by go_num,by rw[HM.out];exact O9.out,B9.out,by omega⟩
      case measure=>(simp[intOf];omega)
     ·obtain rfl:m=ls.length:=by omega
      rw[List.take_of_length_le (by rw[HWKL.out];exact Nat.le_refl _)] at HR
      have V4:=hDD HR.out
      obtain⟨A4,m4,c4,rfl⟩:=HR.out.any2
      have hne:=HO.out.notR HL.out (by omega)
      go_wp2_with (at_builtin;refine push_rows rfl (.tmp 39) (.tmp 41) rfl ((HO.out.keep EI.stable fun b _ h2=>HBi.out.block b h2).keep (w':=wr.alloc (.cells #[.slice A4 m4 c4] 27)) EI.stable fun b _ hb=>Below.heap_alloc wr _ b (by omega)) (by omega) (by simp;omega) rfl _ _ wk rfl (V4.out.alloc _) (Nat.le_refl _) (cell_new1 _ _ _) rfl (by omega) ?_;intro v6 w6 o6 g6;have O6:=hDD o6;have G6:=hDD g6;clear o6 g6)
      have hro: ∀b,(Value.slice Ao mo co).ownBlock=some b→w.heap.size+1≤b∧b<wi.heap.size:=fun b hb=>HO.out.lt hb
      have X6:=((HX.out.belowAt HBi.out hxl).below ((Below.refl _ _).alloc (Nat.le_refl _) (.cells #[.slice A4 m4 c4] 27))).grown G6.out (fun b hb=>by have:=hro b hb;omega)
      have B6:=((HB.out.trans (HBi.out.mono (by omega))).alloc (by omega) (.cells #[.slice A4 m4 c4] 27)).grown G6.out (by simp;omega) (fun b hb=>by have:=hro b hb;omega)
      have L6:=((HL.out.below HBi.out).alloc (.cells #[.slice A4 m4 c4] 27)).grown G6.out (fun b hb hb'=>by simp[Value.ownBlock] at hb;subst hb;exact hne hb')
      go_roundw
      case rel=>exact⟨k+1,by omega,by go_num,by rw[HS.out];exact O6.out,B6,X6,L6,by have:=G6.out.size;simp at this;omega⟩
      case measure=>(simp[intOf];omega)
   ·obtain rfl:N=k:=by omega
    rw[List.take_of_length_le (by rw[HTL.out];exact Nat.le_refl _)] at HO
    obtain⟨Ao,mo,co,rfl⟩:=OwII_any HO.out
    go_wp2
    exact bodyPost_ret (v:= .slice Ao mo co) (by simp[results,Tryz.results29,go_sem]) rfl ⟨_,rfl,HO.out.widen (by omega) (Nat.le_refl _),HB.out⟩
set_option maxRecDepth 100000 in
set_option maxHeartbeats 8000000 in
theorem implCosetTable_any (v:Value) (g:GrD) (w:World) (h:ArgG w v g):
  Calls Tryz.prog 28 #[v] w fun e w'=> ∃r,e= .returned r∧OwII w.heap.size w'.heap.size r (ctbL g) w'∧Below w.heap.size w w':=by
 have HG:=hDD h
 have HTV:Hid (finB g=true→ctbL g=(List.range g.2.1.toNat).map (rowC g (lettersL g.1.toNat))):=hDD fun hc=>by unfold ctbL;rw[if_pos hc]
 have HTN:Hid (finB g=false→ctbL g= []):=hDD fun hc=>by unfold ctbL;rw[if_neg (by rw[hc];decide)]
 have HIS:=hDD (fun W v (h:ArgG W v g)=>implIsFiniteIndex_any v g W h)
 have HCO:Hid (finB g=true→coreB g=true):=hDD fun hc=>by unfold finB at hc;simp only[Bool.and_eq_true] at hc;exact hc.1
 have HNX:Hid (finB g=true→ ∀(u x:Int) W v,ArgG W v g→Calls Tryz.prog 81 #[v, .int .i64 u, .int .i64 x] W fun e w'=>e= .returned (.int .i64 (nextV g.2.2 u x))∧Below W.heap.size W w'):=hDD fun hc u x W v h=>implNextVertex_any v g u x W h (steps_one (foldB_parts (coreB_foldB (HCO.out hc))).2 u x) (let_of_gr (coreB_grB (HCO.out hc)))
 have HSZ:Hid (finB g=true→(1≤g.2.1∧g.2.1≤40)∧(1≤g.1∧g.1≤3)):=hDD fun hc=>⟨(grB_parts (coreB_grB (HCO.out hc))).2.1,(grB_parts (coreB_grB (HCO.out hc))).1⟩
 have HNR:Hid (finB g=true→ ∀u x:Int,nextV g.2.2 u x= -1∨(0≤nextV g.2.2 u x∧nextV g.2.2 u x<g.2.1)):=hDD fun hc u x=>nextV_range (coreB_grB (HCO.out hc)) u x
 generalize ctbL g=TV at*
 obtain⟨s,rfl,hi1,hi2,ha⟩:=h
 obtain⟨A,cap,rfl⟩:=ha.form
 obtain⟨g1,N,es⟩:=g
 simp only at*
 clear ha HCO
 go_enter Tryz.func28,Tryz.ntmps28
 go_wp2_with fail
 obtain⟨W1,hW1⟩: ∃W,W=w.alloc (Obj.cells #[Value.int IntKind.i64 g1,Value.int IntKind.i64 N, .slice A es.length cap] 26):=⟨_,rfl⟩
 rw[←hW1]
 obtain⟨xb,b0,s0⟩:=CBx.new hW1
 clear hW1
 have O2:Hid (OwII (w.heap.size+1) (w.heap.size+2) (.slice (some ⟨w.heap.size+1,0,none⟩) 0 0) [] (W1.alloc (.cells #[] 27))):=hDD (OwII.nilT W1 _ _ s0.symm (by omega))
 have b2:Below W1.heap.size W1 (W1.alloc (.cells #[] 27)):=(Below.refl _ _).alloc (Nat.le_refl _) _
 have X2:=hDD (xb.below b2)
 have B2:=hDD (b0.trans (b2.mono (by omega)))
 have hs2:(W1.alloc (.cells #[] 27)).heap.size=w.heap.size+2:=by simp;omega
 clear xb b0 b2
 generalize W1.alloc (.cells #[] 27)=W2 at*
 clear s0
 refine(HIS.out W2 _ (HG.out.below B2.out)).mono ?_
 rintro e w3 ⟨rfl,b3⟩
 have O3:=hDD (O2.out.belowL (by omega) b3)
 have X3:=hDD (X2.out.below b3)
 have B3:=hDD (B2.out.trans (b3.mono (by omega)))
 have hs3:=b3.size
 clear b3 O2 X2 B2 HIS
 rcases ec:finB (g1,N,es) with _ | _
 ·have HE:Hid (TV= []):=hDD (HTN.out ec)
  go_wp2
  exact bodyPost_ret (v:= .slice (some ⟨w.heap.size+1,0,none⟩) 0 0) (by simp[results,Tryz.results28,go_sem]) rfl ⟨_,rfl,by rw[HE.out];exact O3.out.widen (by omega) (by omega),B3.out⟩
 ·obtain⟨hsz,hr13⟩:=HSZ.out ec
  obtain⟨N,rfl⟩: ∃M:Nat,N=M:=⟨N.toNat,by omega⟩
  obtain⟨rn,rfl⟩: ∃M:Nat,g1=M:=⟨g1.toNat,by omega⟩
  have HT:Hid (TV=(List.range N).map (rowC ((rn:Int),(N:Int),es) (lettersL rn))):=hDD (by have:=HTV.out ec;rwa [Int.toNat_natCast,Int.toNat_natCast] at this)
  have HLE:=hDD (fun W=>letters_any rn W (by omega))
  have hll0:=lettersL_len rn
  have hl64:=lettersL_I64 (n:=rn) (by omega)
  generalize lettersL rn=ls at*
  have hls1:0<ls.length:=by omega
  have hls6:ls.length≤6:=by omega
  clear hll0
  have HL64:=hDD hl64
  have HTK:Hid (∀k,k<N→TV.take (k+1)=TV.take k++ [rowC ((rn:Int),(N:Int),es) ls k]):=hDD fun k hk=>by
   rw[HT.out,List.take_succ_eq_append_getElem (by simpa using hk)]
   simp
  have HTL:Hid (TV.length=N):=hDD (by rw[HT.out];simp)
  have HRK:Hid (∀(k m:Nat) (hm:m<ls.length),(rowC ((rn:Int),(N:Int),es) ls k).take (m+1)=(rowC ((rn:Int),(N:Int),es) ls k).take m++ [nextV es (k:Int) ls[m]]):=hDD fun k m hm=>by
   unfold rowC
   rw[List.take_succ_eq_append_getElem (by simpa using hm)]
   simp
  have HRL:Hid (∀k:Nat,(rowC ((rn:Int),(N:Int),es) ls k).length=ls.length):=hDD fun k=>by simp[rowC]
  have HNXT:=hDD (HNX.out ec)
  have HNRT:=hDD (HNR.out ec)
  clear ec HT HTV HTN HSZ hl64 HNX HNR
  go_wp2
  go_loopw [3,4] (fun ov iv wr=> ∃k:Nat,k≤N∧iv= .int .i64 k∧OwII (w.heap.size+1) wr.heap.size ov (TV.take k) wr∧Below w.heap.size w wr∧CBx wr w.heap.size (.int .i64 rn) (.int .i64 (N:Int)) (.slice A es.length cap)) (fun _ iv _=>N-(intOf iv).toNat)
  case atStart=>exact⟨0,Nat.zero_le _,rfl,by simpa using O3.out,B3.out,X3.out⟩
  case round=>
   obtain⟨k,hk,rfl,hO,hB,hX⟩:=hrel
   have HO:=hDD hO
   have HB:=hDD hB
   have HX:=hDD hX
   have hxl:=hX.lt
   have hsr:=hB.size
   have htl:(TV.take k).length≤40:=by rw[List.length_take];omega
   have u0:=hX.c0
   have u1:=hX.c1
   have u2:=hX.c2
   clear hO hB hX
   generalize hwi:wr=wi at*
   clear hwi
   by_cases hlt:k<N
   ·have hkI:(k:Int)<(N:Int):=by omega
    have HS:=hDD (HTK.out k hlt)
    have HRW:=hDD (fun m hm=>HRK.out k m hm)
    have HWKL:=hDD (HRL.out k)
    generalize TV.take k=acc at*
    generalize rowC ((rn:Int),(N:Int),es) ls k=wk at*
    obtain⟨Ao,mo,co,rfl⟩:=OwII_any HO.out
    have R0:Hid (OwI (wi.alloc (.cells #[] 3)) wi.heap.size (.slice (some ⟨wi.heap.size,0,none⟩) 0 0) []):=hDD (OwI_lit wi [] I64s_nil (by simp) (Nat.le_refl _))
    have b1:Below wi.heap.size wi (wi.alloc (.cells #[] 3)):=(Below.refl _ _).alloc (Nat.le_refl _) _
    have v0:=(HX.out.below b1).c0
    have hsa:(wi.alloc (.cells #[] 3)).heap.size=wi.heap.size+1:=by simp
    have B1:=hDD b1
    clear b1
    go_wp2_with fail
    generalize wi.alloc (.cells #[] 3)=wa at*
    refine(HLE.out wa).mono ?_
    rintro e w4 ⟨rl,rfl,ol,b4⟩
    have R4:=hDD (R0.out.below b4)
    have B4:=hDD (B1.out.trans (b4.mono (by omega)))
    have hs4:=b4.size
    obtain⟨Al,cl_,rfl,hcl,hml,_,hgl⟩:=OwI.form ol
    obtain⟨gl,rfl,hgl1,hgl2⟩:=hgl (by omega)
    unfold maxLen at hml
    have OL:=hDD ol.rd
    clear ol b4 hgl R0 B1 v0
    go_wp2
    go_loopw [5,24] (fun rv jv wr=> ∃m:Nat,m≤ls.length∧jv= .int .i64 m∧OwI wr wi.heap.size rv (wk.take m)∧Below wi.heap.size wi wr∧RdI wr (.slice (some ⟨gl,0,none⟩) ls.length cl_) ls∧rv.ownBlock≠some gl∧gl<wr.heap.size) (fun _ jv _=>ls.length-(intOf jv).toNat)
    case atStart=>exact⟨0,Nat.zero_le _,rfl,by simpa using R4.out,B4.out,OL.out,by simp[Value.ownBlock];omega,hgl2⟩
    case round=>
     obtain⟨m,hm,rfl,hR,hbi,hL,hne,hgz⟩:=hrel
     have HR:=hDD hR
     have HBi:=hDD hbi
     have HL:=hDD hL
     have HNE:=hDD hne
     have hsi:=hbi.size
     have hrl:(wk.take m).length≤6:=by rw[List.length_take];omega
     have v0:=(HX.out.belowAt hbi hxl).c0
     have v1:=(HX.out.belowAt hbi hxl).c1
     have v2:=(HX.out.belowAt hbi hxl).c2
     clear hR hbi hL hne
     by_cases hlt2:m<ls.length
     ·have hmI:(m:Int)<(ls.length:Int):=by omega
      have HM:=hDD (HRW.out m hlt2)
      obtain⟨_,_,e1,_,hcl'⟩:=HL.out.at (by omega)
      injection e1 with e1
      injection e1 with e1 e2
      subst e1;subst e2
      have hc:=hcl' m hlt2
      rw[Nat.zero_add] at hc
      have HXX:=hDD (fun W v (h:ArgG W v ((rn:Int),(N:Int),es))=>HNXT.out (k:Int) ls[m] W v h)
      have hnr:=HNRT.out (k:Int) ls[m]
      clear hcl'
      generalize ls[m]=x at*
      generalize nextV es (k:Int) x=y at*
      generalize wk.take m=row at*
      have HY64:Hid (I64 y):=hDD ⟨by omega,by omega⟩
      obtain⟨Ar,cr,rfl,_⟩:=OwI.form HR.out
      go_wp2_with fail
      refine(HXX.out _ _ (HG.out.below (HB.out.trans (HBi.out.mono (by omega))))).mono ?_
      rintro e w5 ⟨rfl,b5⟩
      have R5:=hDD (HR.out.below b5)
      have B5:=hDD (HBi.out.trans (b5.mono hsi))
      have L5:=hDD (HL.out.below b5)
      have hs5:=b5.size
      clear b5 HR HBi HL v0 v1 v2 HXX
      go_wp2_with (at_builtin;refine push_int rfl (.tmp 28) (.tmp 33) rfl _ _ _ (OwI.alloc R5.out _) rfl _ _ rfl (cell_new1 _ _ _) HY64.out (by first | omega | (simp<;>omega)) (by first | omega | (simp<;>omega)) ?_;intro v1 wv1 o1 g1 p1)
      have L6:=(L5.out.alloc (Obj.cells #[.int .i64 y] 3)).grown g1 (fun b hb hb'=>by simp[Value.ownBlock] at hb;subst hb;exact HNE.out hb')
      go_roundw
      case rel=>exact⟨m+1,by omega,by go_num,by rw[HM.out];exact o1,bel_push B5.out (by omega) R5.out.1 (Nat.le_refl _) g1,L6,(by
       rcases p1 with p1 | p1
       ·rw[p1];exact HNE.out
       ·rw[p1];intro q;injection q with q;simp at q;omega),by have:=g1.size;simp at this;omega⟩
      case measure=>(simp[intOf];omega)
     ·obtain rfl:m=ls.length:=by omega
      rw[List.take_of_length_le (by rw[HWKL.out];exact Nat.le_refl _)] at HR
      have V4:=hDD HR.out
      obtain⟨A4,m4,c4,rfl⟩:=HR.out.any2
      go_wp2_with (at_builtin;refine push_rows rfl (.tmp 36) (.tmp 38) rfl ((HO.out.keep EI.stable fun b _ h2=>HBi.out.block b h2).keep (w':=wr.alloc (.cells #[.slice A4 m4 c4] 27)) EI.stable fun b _ hb=>Below.heap_alloc wr _ b (by omega)) (by omega) (by simp;omega) rfl _ _ wk rfl (V4.out.alloc _) (Nat.le_refl _) (cell_new1 _ _ _) rfl (by omega) ?_;intro v6 w6 o6 g6;have O6:=hDD o6;have G6:=hDD g6;clear o6 g6)
      have hro: ∀b,(Value.slice Ao mo co).ownBlock=some b→w.heap.size+1≤b∧b<wi.heap.size:=fun b hb=>HO.out.lt hb
      have X6:=((HX.out.belowAt HBi.out hxl).below ((Below.refl _ _).alloc (Nat.le_refl _) (.cells #[.slice A4 m4 c4] 27))).grown G6.out (fun b hb=>by have:=hro b hb;omega)
      have B6:=((HB.out.trans (HBi.out.mono (by omega))).alloc (by omega) (.cells #[.slice A4 m4 c4] 27)).grown G6.out (by simp;omega) (fun b hb=>by have:=hro b hb;omega)
      go_roundw
      case rel=>exact⟨k+1,by omega,by go_num,by rw[HS.out];exact O6.out,B6,X6⟩
      case measure=>(simp[intOf];omega)
   ·obtain rfl:N=k:=by omega
    rw[List.take_of_length_le (by rw[HTL.out];exact Nat.le_refl _)] at HO
    obtain⟨Ao,mo,co,rfl⟩:=OwII_any HO.out
    go_wp2
    exact bodyPost_ret (v:= .slice Ao mo co) (by simp[results,Tryz.results28,go_sem]) rfl ⟨_,rfl,HO.out.widen (by omega) (Nat.le_refl _),HB.out⟩
end Go.Proofs.YteobmaambgmdbaaGreat
namespace Go.Proofs.YteobmaambgmdbaaGreat
set_option maxRecDepth 20000
set_option linter.unusedVariables false
set_option linter.unusedSimpArgs false
open Go.RowKit
def misO (g:GrD):List EdD:=if foldB g=true then misU g g.2.1.toNat else []
set_option maxHeartbeats 2000000 in
theorem specMissingN_any (v:Value) (g:GrD) (w:World) (h:ArgG w v g) (hf:foldB g=false):
  Calls Tryz.prog 42 #[v] w fun e w'=> ∃r,e= .returned r∧OwE w' w.heap.size r []∧Below w.heap.size w w':=by
 have HG:=hDD h
 have HFO:=hDD (fun W (h:ArgG W v g)=>specIsFolded_any v g W h)
 rw[hf] at HFO
 obtain⟨s,rfl,hi1,hi2,ha⟩:=h
 obtain⟨A,cap,rfl⟩:=ha.form
 obtain⟨g1,N,es⟩:=g
 simp only at*
 clear ha hf
 go_enter Tryz.func42,Tryz.ntmps42
 go_wp2_with fail
 obtain⟨W1,hW1⟩: ∃W,W=w.alloc (Obj.cells #[Value.int IntKind.i64 g1,Value.int IntKind.i64 N, .slice A es.length cap] 26):=⟨_,rfl⟩
 rw[←hW1]
 obtain⟨xb,b0,s0⟩:=CBx.new hW1
 clear hW1
 have O2:Hid (OwE (W1.alloc (.cells #[] 92)) (w.heap.size+1) (.slice (some ⟨w.heap.size+1,0,none⟩) 0 0) []):=hDD (OwE_litN W1 (w.heap.size+1) s0 (Nat.le_refl _))
 have b2:Below W1.heap.size W1 (W1.alloc (.cells #[] 92)):=(Below.refl _ _).alloc (Nat.le_refl _) _
 have X2:=hDD (xb.below b2)
 have B2:=hDD (b0.trans (b2.mono (by omega)))
 clear xb b0 b2
 generalize W1.alloc (.cells #[] 92)=W2 at*
 clear s0
 have u0:=X2.out.c0
 have u1:=X2.out.c1
 have u2:=X2.out.c2
 have hN0:0<N∨ ¬0<N:=Classical.em _
 go_loopw [3,4] (fun ov iv wr=>iv= .int .i64 0∧ov= .slice (some ⟨w.heap.size+1,0,none⟩) 0 0∧wr=W2) (fun _ _ _=>0)
 case atStart=>exact⟨rfl,rfl,rfl⟩
 case round=>
  obtain⟨rfl,rfl,rfl⟩:=hrel
  rcases hN0 with hn | hn
  ·go_wp2_with fail
   refine(HFO.out wr (HG.out.below B2.out)).mono ?_
   rintro e w3 ⟨rfl,b3⟩
   have O3:=hDD (O2.out.below b3)
   have B3:=hDD (B2.out.trans (b3.mono B2.out.size))
   clear b3
   go_wp2
   exact bodyPost_ret (v:= .slice (some ⟨w.heap.size+1,0,none⟩) 0 0) (by simp[results,Tryz.results42,go_sem]) rfl ⟨_,rfl,O3.out.mono (by omega),B3.out⟩
  ·go_wp2
   exact bodyPost_ret (v:= .slice (some ⟨w.heap.size+1,0,none⟩) 0 0) (by simp[results,Tryz.results42,go_sem]) rfl ⟨_,rfl,O2.out.mono (by omega),B2.out⟩
theorem specMissing_all (v:Value) (g:GrD) (w:World) (h:ArgG w v g):
  Calls Tryz.prog 42 #[v] w fun e w'=> ∃r,e= .returned r∧OwE w' w.heap.size r (misO g)∧Below w.heap.size w w':=by
 unfold misO
 rcases hf:foldB g with _ | _
 ·rw[if_neg (by decide)]
  exact specMissingN_any v g w h hf
 ·rw[if_pos rfl]
  exact specMissingSteps_any v g w h hf
set_option maxHeartbeats 2000000 in
theorem implMissingN_any (v:Value) (g:GrD) (w:World) (h:ArgG w v g) (hf:foldB g=false):
  Calls Tryz.prog 41 #[v] w fun e w'=> ∃r,e= .returned r∧OwE w' w.heap.size r []∧Below w.heap.size w w':=by
 have HG:=hDD h
 have HFO:=hDD (fun W (h:ArgG W v g)=>implIsFolded_any v g W h)
 rw[hf] at HFO
 obtain⟨s,rfl,hi1,hi2,ha⟩:=h
 obtain⟨A,cap,rfl⟩:=ha.form
 obtain⟨g1,N,es⟩:=g
 simp only at*
 clear ha hf
 go_enter Tryz.func41,Tryz.ntmps41
 go_wp2_with fail
 obtain⟨W1,hW1⟩: ∃W,W=w.alloc (Obj.cells #[Value.int IntKind.i64 g1,Value.int IntKind.i64 N, .slice A es.length cap] 26):=⟨_,rfl⟩
 rw[←hW1]
 obtain⟨xb,b0,s0⟩:=CBx.new hW1
 clear hW1
 have O2:Hid (OwE (W1.alloc (.cells #[] 92)) (w.heap.size+1) (.slice (some ⟨w.heap.size+1,0,none⟩) 0 0) []):=hDD (OwE_litN W1 (w.heap.size+1) s0 (Nat.le_refl _))
 have b2:Below W1.heap.size W1 (W1.alloc (.cells #[] 92)):=(Below.refl _ _).alloc (Nat.le_refl _) _
 have B2:=hDD (b0.trans (b2.mono (by omega)))
 clear xb b0 b2
 generalize W1.alloc (.cells #[] 92)=W2 at*
 clear s0
 refine(HFO.out W2 (HG.out.below B2.out)).mono ?_
 rintro e w3 ⟨rfl,b3⟩
 have O3:=hDD (O2.out.below b3)
 have B3:=hDD (B2.out.trans (b3.mono B2.out.size))
 clear b3
 go_wp2
 exact bodyPost_ret (v:= .slice (some ⟨w.heap.size+1,0,none⟩) 0 0) (by simp[results,Tryz.results41,go_sem]) rfl ⟨_,rfl,O3.out.mono (by omega),B3.out⟩
theorem implMissing_all (v:Value) (g:GrD) (w:World) (h:ArgG w v g):
  Calls Tryz.prog 41 #[v] w fun e w'=> ∃r,e= .returned r∧OwE w' w.heap.size r (misO g)∧Below w.heap.size w w':=by
 unfold misO
 rcases hf:foldB g with _ | _
 ·rw[if_neg (by decide)]
  exact implMissingN_any v g w h hf
 ·rw[if_pos rfl]
  exact implMissingSteps_any v g w h hf
set_option maxHeartbeats 2000000 in
theorem sameEdges_any (v u:Value) (es:List EdD) (w:World) (h:ArgE w v es) (h':ArgE w u es):
  Calls Tryz.prog 40 #[v,u] w fun e w'=>e= .returned (.bool true)∧Below w.heap.size w w':=by
 have H:=hDD h
 have H':=hDD h'
 obtain⟨A',cap',rfl⟩:=h'.form
 obtain⟨A,cap,rfl,hcap,hm,_⟩:=h
 unfold maxLen at hm
 clear h'
 have HNQ:Hid (∀(a:EdD) (w:World),(binOp .neq 92 (edV a) (edV a)).run Tryz.prog w= .ok (.bool false) w):=hDD fun a w=>by rw[edge_neq];simp
 go_enter Tryz.func40,Tryz.ntmps40
 go_wp2
 go_loopw [5] (fun i wr=> ∃k:Nat,k≤es.length∧i= .int .i64 k∧Below w.heap.size w wr) (fun i _=>es.length-(intOf i).toNat)
 case atStart=>exact⟨0,Nat.zero_le _,rfl,Below.refl _ _⟩
 case round=>
  obtain⟨k,hk,rfl,hB⟩:=hrel
  have HB:=hDD hB
  have hsz:=hB.size
  clear hB
  by_cases hlt:k<es.length
  ·have hkI:(k:Int)<(es.length:Int):=by omega
   obtain⟨b,off,rfl,hb,c0,c1,c2,_⟩:=(H.out.below HB.out).at hlt
   obtain⟨b',off',rfl,hb',c0',c1',c2',_⟩:=(H'.out.below HB.out).at hlt
   have hnq:=HNQ.out es[k]
   generalize es[k]=d at*
   obtain⟨x,y,z⟩:=d
   unfold edV at hnq
   simp only at hnq c0 c1 c2 c0' c1' c2'
   go_wp2_with fail
   refine wp_region_gen [.val (.slice (some ⟨b,off,none⟩) es.length cap), .val (.int .i64 k), .val (.pointer (some ⟨b,off+k*3,none⟩)), .val (.agg #[.int .i64 x, .int .i64 y, .int .i64 z]), .val (.slice (some ⟨b',off',none⟩) es.length cap'), .val (.int .i64 k), .val (.pointer (some ⟨b',off'+k*3,none⟩)), .val (.agg #[.int .i64 x, .int .i64 y, .int .i64 z]), .val (.bool false)]
    [none,none,none,none,none,none,none,none,none] (fun W'=>Below wr.heap.size wr W') [] (by kernel_rfl) (by kernel_rfl) (by rfl) (by rfl) (Below.refl _ _).drew trivial trivial (fun vs=> ?_)
   refine⟨fun W' K' Q0 hI hD hK=> ?_,?_⟩
   ·skip
    go_simp
    exact hK.out _ _ rfl rfl
   simp only[Act.put,List.setIfInBounds_toArray,List.set_cons_zero,List.set_cons_succ,Sg.pick,Nat.reduceAdd]
   refine⟨fun W' K' Q0 hI hD hK=> ?_,?_⟩
   ·skip
    go_simp
    exact hK.out _ _ rfl rfl
   simp only[Act.put,List.setIfInBounds_toArray,List.set_cons_zero,List.set_cons_succ,Sg.pick,Nat.reduceAdd]
   refine⟨fun W' K' Q0 hI hD hK=> ?_,?_⟩
   ·skip
    go_simp
    exact hK.out _ _ rfl rfl
   simp only[Act.put,List.setIfInBounds_toArray,List.set_cons_zero,List.set_cons_succ,Sg.pick,Nat.reduceAdd]
   refine⟨fun W' K' Q0 hI hD hK=> ?_,?_⟩
   ·have z0:=(hI.out.cell (p:=⟨b,off+k*3,none⟩) hb).trans c0
    have z1:=(hI.out.cell (p:=⟨b,off+k*3+1,none⟩) hb).trans c1
    have z2:=(hI.out.cell (p:=⟨b,off+k*3+2,none⟩) hb).trans c2
    go_simp
    exact hK.out _ _ rfl rfl
   simp only[Act.put,List.setIfInBounds_toArray,List.set_cons_zero,List.set_cons_succ,Sg.pick,Nat.reduceAdd]
   refine⟨fun W' K' Q0 hI hD hK=> ?_,?_⟩
   ·skip
    go_simp
    exact hK.out _ _ rfl rfl
   simp only[Act.put,List.setIfInBounds_toArray,List.set_cons_zero,List.set_cons_succ,Sg.pick,Nat.reduceAdd]
   refine⟨fun W' K' Q0 hI hD hK=> ?_,?_⟩
   ·skip
    go_simp
    exact hK.out _ _ rfl rfl
   simp only[Act.put,List.setIfInBounds_toArray,List.set_cons_zero,List.set_cons_succ,Sg.pick,Nat.reduceAdd]
   refine⟨fun W' K' Q0 hI hD hK=> ?_,?_⟩
   ·skip
    go_simp
    exact hK.out _ _ rfl rfl
   simp only[Act.put,List.setIfInBounds_toArray,List.set_cons_zero,List.set_cons_succ,Sg.pick,Nat.reduceAdd]
   refine⟨fun W' K' Q0 hI hD hK=> ?_,?_⟩
   ·have z0:=(hI.out.cell (p:=⟨b',off'+k*3,none⟩) hb').trans c0'
    have z1:=(hI.out.cell (p:=⟨b',off'+k*3+1,none⟩) hb').trans c1'
    have z2:=(hI.out.cell (p:=⟨b',off'+k*3+2,none⟩) hb').trans c2'
    go_simp
    exact hK.out _ _ rfl rfl
   simp only[Act.put,List.setIfInBounds_toArray,List.set_cons_zero,List.set_cons_succ,Sg.pick,Nat.reduceAdd]
   refine⟨fun W' K' Q0 hI hD hK=> ?_,?_⟩
   ·skip
    go_simp
    exact hK.out _ _ rfl rfl
   simp only[Act.put,List.setIfInBounds_toArray,List.set_cons_zero,List.set_cons_succ,Sg.pick,Nat.reduceAdd]
   intro W9 hI9 hD9
   have I9:=hDD (HB.out.trans (hI9.out.mono hsz))
   clear hI9 hD9
   go_wp2
   go_roundw
   case rel=>exact⟨k+1,by omega,by go_num,I9.out⟩
   case measure=>(simp[intOf];omega)
  ·obtain rfl:k=es.length:=by omega
   go_wp2
   go_ret
   exact⟨rfl,HB.out⟩
end Go.Proofs.YteobmaambgmdbaaGreat
namespace Go.Proofs.YteobmaambgmdbaaGreat
set_option maxRecDepth 20000
set_option linter.unusedVariables false
set_option linter.unusedSimpArgs false
open Go.RowKit
end Go.Proofs.YteobmaambgmdbaaGreat
namespace Go.Proofs.YteobmaambgmdbaaGreat
set_option maxRecDepth 20000
set_option linter.unusedVariables false
set_option linter.unusedSimpArgs false
open Go.ChangeShapes Go.WideShapes Go.ChangeAt Go.RowKit
theorem open_argB {H:Type} {enc:TypeId×Value→H} {W:World} {base:Nat} {spare:Nat→Bool} {held:Bool} {v:Value} {d:DataW H} {p:List MemPlace}
  (hv:Value.okWide Tryz.prog W .any base 22 v) (h:DataW.Trod enc Tryz.prog W 0 spare held 22 v d p): ∃xs,ArgC W v xs:=by
 obtain⟨a,len,cap,rfl⟩:=okWide_slice Tryz.underlying22 hv
 obtain⟨fuel,hf⟩:=h
 have hf:DataW.trod enc Tryz.prog W 0 spare held fuel 22 [.slice a len cap]=some (d,p):=by simpa[Value.cells] using hf
 rcases open_ints Tryz.underlying22 Tryz.underlying5 (by kernel_rfl) hf with ⟨hcs,_⟩ | ⟨x,l,c,zs,hcs,_,hl,hm,hz,_,hcell,hwz⟩
 ·simp at hcs
  obtain⟨rfl,rfl,rfl⟩:=hcs
  exact⟨[],none,0,rfl,by simp,by simp[maxLen],by simp,by simp⟩
 ·simp at hcs
  obtain⟨rfl,rfl,rfl⟩:=hcs
  have hlz:len≤zs.length:=by rw[hz];split<;>omega
  have hlen:(zs.take len).length=len:=by simp;omega
  refine⟨zs.take len,_,cap,by rw[hlen],by omega,hm,fun n hn=> ?_,fun h0=> ?_⟩
  ·have:=hwz n (List.mem_of_mem_take hn)
   simpa[Lit.wf,IntKind.min,IntKind.max,IntKind.signed,IntKind.bits] using this
  ·obtain⟨b,off,sp⟩:=x
   have hsp:sp=none:=by simpa[Addr.add] using World.cell?_spot (hcell 0 (by omega))
   subst hsp
   refine⟨b,off,rfl,fun i hi=> ?_⟩
   have:=hcell i (by omega)
   rw[Addr.add_lit] at this
   rw[this]
   simp[List.getD,show i<zs.length by omega]
end Go.Proofs.YteobmaambgmdbaaGreat
