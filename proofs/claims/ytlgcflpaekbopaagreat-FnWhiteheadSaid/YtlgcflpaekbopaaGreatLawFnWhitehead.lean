/- The law FnWhitehead. -/
import Derived.Test.YtlgcflpaekbopaaGreatW06
import Derived.Test.YtlgcflpaekbopaaGreatW05
import Derived.Test.YtlgcflpaekbopaaGreatW04
import Derived.Test.YtlgcflpaekbopaaGreatW07
import Derived.Test.YtlgcflpaekbopaaGreatRows
import Derived.Test.YtlgcflpaekbopaaGreatCloFnWhitehead
import Derived.Lib.SmallJoins
import Derived.Deep.DeepCutAuto
import Derived.Deep.CutBlock
namespace Go.Proofs.YtlgcflpaekbopaaGreat.fnWhitehead
set_option maxRecDepth 20000
set_option linter.unusedVariables false
set_option linter.unusedSimpArgs false
open Go.ChangeShapes Go.WideShapes Go.ChangeAt Go.RowKit
open Go.ChangeMaps (open_string shut_string)
theorem whM_len {r:Int} {d:WhD}:(whM r d).2.length≤3∧(∀x∈(whM r d).2,x.length≤3)∧lenLL (whM r d).2≤9:=by
 have h:=whM_imgs r d
 have h2:=lenLL_leW (L:=(whM r d).2) (M:=3) h.2
 exact⟨h.1,h.2,by omega⟩
theorem id_eq {r:Int} {n:Nat} {d:WhD} (h:whB r d=true) (hn:r=n):(whM r (whInv d)).2.map (expL (whM r d).2)=idL n∧(∀x∈(whM r (whInv d)).2,(expL (whM r d).2 x).length≤24)∧whB r (whInv d)=true:=by
 have hv:whB r (whInv d)=true:=whB_inv h
 have hl:(whM r (whInv d)).2.length=n:=by
  obtain⟨_,_,e⟩:=morB_parts (wh_mor hv)
  have:(whM r (whInv d)).1=r:=by unfold whM;rw[if_pos hv]
  omega
 have hg: ∀i,i<n→expL (whM r d).2 ((whM r (whInv d)).2.getD i [])= [(i:Int)+1]:=fun i hi=>wh_inv h (by omega)
 refine⟨?_,fun x hx=> ?_,hv⟩
 ·refine List.ext_getElem (by rw[List.length_map,idL_len,hl]) fun i h1 h2=> ?_
  rw[List.length_map,hl] at h1
  have e:=hg i h1
  rw[List.getD_eq_getElem?_getD,List.getElem?_eq_getElem (by omega)] at e
  rw[List.getElem_map]
  simp only[Option.getD_some] at e
  rw[e]
  simp[idL]
 ·obtain⟨i,hi,rfl⟩:=List.getElem_of_mem hx
  have e:=hg i (by omega)
  rw[List.getD_eq_getElem?_getD,List.getElem?_eq_getElem hi] at e
  simp only[Option.getD_some] at e
  rw[e]
  simp
def WhR (w:World) (v:Value) (L:List WhD):Prop:= ∃lo hi,OWhS lo hi v L w∧hi≤w.heap.size
theorem WhR.below {w w':World} {v:Value} {L:List WhD} (h:WhR w v L) (hb:Below w.heap.size w w'):WhR w' v L:=by
 obtain⟨lo,hi,h,hh⟩:=h
 exact⟨lo,hi,OwnL.keep h EWh.stable fun b _ hb'=>hb.block b (by omega),Nat.le_trans hh hb.size⟩
theorem WhR.form {w:World} {v:Value} {L:List WhD} (h:WhR w v L): ∃A c,v= .slice A L.length c∧L.length≤c∧c≤maxLen:=by
 obtain⟨lo,hi,h,hh⟩:=h
 exact OWhS.len h
theorem WhR.at {w:World} {A:Option Addr} {m c:Nat} {L:List WhD} (h:WhR w (.slice A m c) L) {k:Nat} (hk:k<L.length):
  ∃g s,A=some ⟨g,0,none⟩∧g<w.heap.size∧w.cell? ⟨g,k*2,none⟩=some (.int .i64 L[k].1)∧w.cell? ⟨g,k*2+1,none⟩=some s∧I64 L[k].1∧OwI w 0 s L[k].2:=by
 obtain⟨lo,hi,h,hh⟩:=h
 obtain⟨g,s,h1,h2,h3,h4,h5,h6⟩:=wh_row h hk
 exact⟨g,s,h1,h2,h3,h4,h5,h6.mono (Nat.zero_le _)⟩
theorem short_wh {r:Int} {c:List Int} {d:WhD} (g:goodF r c) (h:shortF r c=some d):whB r d=true∧d.2.length≤4:=by
 have hm:=List.mem_of_find?_eq_some h
 have hr:=inB_iff.1 g.1
 obtain⟨n,rfl⟩: ∃n:Nat,r=n:=⟨r.toNat,by omega⟩
 have h1:=List.all_eq_true.1 (List.all_eq_true.1 allWh_small n (List.mem_range.2 (by omega))) d hm
 exact⟨(allWh_ok (by omega) hm).1,of_decide_eq_true h1⟩
theorem app_wh {r:Int} {d:WhD} {z:List Int} (h:whB r d=true) (hz:wordB r z=true):appF (whM r d) z=(expL (whM r d).2 z,true):=by
 have hm1:(whM r d).1=r:=by unfold whM;rw[if_pos h]
 unfold appF
 rw[wh_mor h,hm1,hz]
 rfl
theorem prim_no {r:Int} {xs:List Int} (h:wordB r xs=true) (hp:primB r xs=true):(∀d m:Nat,1<m→rotF (coreF xs) d=coreF xs→(coreF xs).length=d*m→False)∧derB r xs=false:=by
 have hw: ∀x∈xs,Lt3 x:=fun x hx=>letB_lt3 (goodF_cyc h).1 (wordB_let h hx)
 refine⟨fun d m h1 h2 h3=> ?_,?_⟩
 ·rcases prim_dv h hp (pow_dv hw h2 h3) with q | q<;>omega
 ·rw[Bool.eq_false_iff]
  intro hd
  rcases prim_dv h hp (der_dv hd).2 with q | q<;>omega
theorem tup2 {a b c d:Value} (h:Value.tuple #[a,b]= .tuple #[c,d]):a=c∧b=d:=by
 injection h with h
 have e0:=congrArg (fun a:Array Value=>a[0]?) h
 have e1:=congrArg (fun a:Array Value=>a[1]?) h
 simp only[List.getElem?_toArray,List.getElem?_cons_zero,List.getElem?_cons_succ,Option.some.injEq] at e0 e1
 exact⟨e0,e1⟩
set_option maxRecDepth 100000 in
set_option maxHeartbeats 16000000 in
theorem walk (v0:Value) (x0:List Int) (w:World) (h0:ArgC w v0 x0):
  Calls Tryz.prog 3 #[v0] w fun e w'=>e= .returned (.bool true)∧Below w.heap.size w w':=by
 have HBIG:=hDD (big_any v0 x0 w h0)
 have V:=hDD h0
 obtain⟨A0,c0,rfl,_⟩:=h0
 by_cases hl:(1048576:Int)<x0.length
 ·have hd:decide ((1048576:Int)<x0.length)=true:=decide_eq_true hl
  rw[hd] at HBIG
  clear hd hl
  go_enter Tryz.func3,Tryz.ntmps3
  go_wp2_with fail
  refine HBIG.out.mono ?_
  rintro e w1 ⟨rfl,rfl⟩
  go_wp2
  go_ret
  exact⟨rfl,Below.refl _ _⟩
 have hd:decide ((1048576:Int)<x0.length)=false:=decide_eq_false hl
 rw[hd] at HBIG
 have hl':x0.length≤1048576:=by omega
 clear hd hl
 go_enter Tryz.func3,Tryz.ntmps3
 go_wp2_with fail
 refine HBIG.out.mono ?_
 rintro e w1 ⟨rfl,rfl⟩
 go_wp2_with fail
 refine(drawWhM_any _ x0 _ V.out hl').mono ?_
 rintro e w1 ⟨r,sv,⟨d1,ds⟩,rfl,hr,⟨hi,hd5⟩,ho,b1⟩
 simp only at hi ho hd5
 obtain⟨As,cs,rfl,_⟩:=ho.form
 have BZ:=hDD b1
 replace V:=hDD (V.out.below b1)
 have S:=hDD ho
 have hrI:I64 r:=⟨by omega,by omega⟩
 clear b1 ho HBIG
 obtain⟨W2,hW2⟩: ∃W,W=w1.alloc (Obj.cells #[Value.int IntKind.i64 d1, .slice As ds.length cs] 26):=⟨_,rfl⟩
 obtain⟨xW2,bW2,sW2⟩:=MBx.new hW2
 have T:=hDD xW2
 replace V:=hDD (V.out.below bW2)
 replace S:=hDD (S.out.below bW2)
 replace BZ:=hDD (BZ.out.trans (bW2.mono BZ.out.size))
 clear xW2 bW2 sW2
 have HW1:=hDD (fun W (h:ArgWh W (.agg #[.int .i64 d1, .slice As ds.length cs]) (d1,ds))=>implWhiteheadMorphism_any r _ (d1,ds) W hrI h (by simp only;omega))
 have HW2:=hDD (fun W (h:ArgWh W (.agg #[.int .i64 d1, .slice As ds.length cs]) (d1,ds))=>specWhiteheadMorphism_any r _ (d1,ds) W hrI h (by simp only;omega))
 have HIW:=hDD (fun W (h:ArgWh W (.agg #[.int .i64 d1, .slice As ds.length cs]) (d1,ds))=>implIsWhitehead_any r _ (d1,ds) W h (by simp only;omega))
 have HF1:=hDD (fun W (h:ArgWh W (.agg #[.int .i64 d1, .slice As ds.length cs]) (d1,ds))=>implFormatWhitehead_any _ (d1,ds) W h (by simp only;omega))
 have HF2:=hDD (fun W (h:ArgWh W (.agg #[.int .i64 d1, .slice As ds.length cs]) (d1,ds))=>specFormatWhitehead_any _ (d1,ds) W h (by simp only;omega))
 have HIN:=hDD (fun W base (h:OwWh W base (.agg #[.int .i64 d1, .slice As ds.length cs]) (d1,ds))=>implInverseWhitehead_any _ (d1,ds) W h (by simp only;omega))
 have HAT:Hid (∀W,OwI W w.heap.size (.slice As ds.length cs) ds→ArgWh W (.agg #[.int .i64 d1, .slice As ds.length cs]) (d1,ds)):=hDD fun W h=>⟨_,rfl,hi,h.arg⟩
 have HOT:Hid (∀W,OwI W w.heap.size (.slice As ds.length cs) ds→OwWh W w.heap.size (.agg #[.int .i64 d1, .slice As ds.length cs]) (d1,ds)):=hDD fun W h=>⟨_,rfl,hi,h⟩
 have S0:=0
 clear S0
 have HKM:=hDD (fun (h:whB r (d1,ds)=true)=>And.intro (wh_mor h) (wh_sur h))
 have HID:=hDD (fun (h:whB r (d1,ds)=true) n hn=>id_eq (n:=n) h hn)
 have HPR:=hDD (fun (h:whB r (d1,ds)=true) i hi=>wh_prim (i:=i) h hi)
 have HRK:=hDD (fun (h:whB r (d1,ds)=true)=>wh_rank h)
 have HML:=hDD (whM_len (r:=r) (d:=(d1,ds)))
 generalize fmtWh (d1,ds)=fm at*
 obtain⟨mm,hmm⟩: ∃m,m=whM r (d1,ds):=⟨_,rfl⟩
 rw[←hmm] at HW1 HW2 HKM HID HPR HML
 have HM1:Hid (whB r (d1,ds)=true→mm.1=r):=hDD fun h=>by rw[hmm];unfold whM;rw[if_pos h]
 have HMI:Hid (I64 mm.1):=hDD (by rw[hmm];exact whM_I64 _ hrI)
 clear hmm
 generalize whB r (d1,ds)=is at*
 obtain⟨m1,B⟩:=mm
 simp only at HW1 HW2 HKM HID HPR HML HM1 HMI
 go_wp2_with fail
 rw[←hW2]
 clear hW2
 generalize w1.heap.size=qT at*
 refine(HW1.out _ (HAT.out _ S.out)).mono ?_
 rintro e w3 ⟨s3,rfl,o3,b3⟩
 obtain⟨A5,c5,rfl,_⟩:=o3.len
 have L5:=hDD o3.rd
 replace V:=hDD (V.out.below b3)
 replace T:=hDD (T.out.below b3)
 replace S:=hDD (S.out.below b3)
 replace BZ:=hDD (BZ.out.trans (b3.mono BZ.out.size))
 clear o3 b3 HW1
 obtain⟨W4,hW4⟩: ∃W,W=w3.alloc (Obj.cells #[Value.int IntKind.i64 m1, .slice A5 B.length c5] 31):=⟨_,rfl⟩
 obtain⟨xW4,bW4,sW4⟩:=MBx.new hW4
 have M:=hDD xW4
 replace V:=hDD (V.out.below bW4)
 replace T:=hDD (T.out.below bW4)
 replace S:=hDD (S.out.below bW4)
 replace L5:=hDD (L5.out.below bW4)
 replace BZ:=hDD (BZ.out.trans (bW4.mono BZ.out.size))
 clear xW4 bW4 sW4
 have uT0:=T.out.c0
 have uT1:=T.out.c1
 rw[hW4] at uT0 uT1
 go_wp2_with fail
 rw[←hW4]
 clear hW4
 clear uT0 uT1
 generalize w3.heap.size=qM at*
 refine(HW2.out _ (HAT.out _ S.out)).mono ?_
 rintro e w5 ⟨s5,rfl,o5,b5⟩
 obtain⟨A7,c7,rfl,_⟩:=o5.len
 have L7:=hDD o5.rd
 replace V:=hDD (V.out.below b5)
 replace T:=hDD (T.out.below b5)
 replace S:=hDD (S.out.below b5)
 replace L5:=hDD (L5.out.below b5)
 replace M:=hDD (M.out.below b5)
 replace BZ:=hDD (BZ.out.trans (b5.mono BZ.out.size))
 clear o5 b5 HW2
 obtain⟨W6,hW6⟩: ∃W,W=w5.alloc (Obj.cells #[Value.int IntKind.i64 m1, .slice A7 B.length c7] 31):=⟨_,rfl⟩
 obtain⟨xW6,bW6,sW6⟩:=MBx.new hW6
 have K:=hDD xW6
 replace V:=hDD (V.out.below bW6)
 replace T:=hDD (T.out.below bW6)
 replace S:=hDD (S.out.below bW6)
 replace L5:=hDD (L5.out.below bW6)
 replace L7:=hDD (L7.out.below bW6)
 replace M:=hDD (M.out.below bW6)
 replace BZ:=hDD (BZ.out.trans (bW6.mono BZ.out.size))
 clear xW6 bW6 sW6
 go_upto_region 6 with fail
 rw[←hW6]
 clear hW6
 generalize w5.heap.size=qK at*
 have HEQ:=hDD (fun W (h:RdII W (.slice A5 B.length c5) B) (h':RdII W (.slice A7 B.length c7) B)=>specEqualMorphisms_any _ _ (m1,B) (m1,B) W ⟨_,rfl,HMI.out,h⟩ ⟨_,rfl,HMI.out,h'⟩)
 go_cut [82] (fun s wx=>s= .bool false∧Below W6.heap.size W6 wx)
 case first=>as_aux_lemma=>
  refine wp_region_genG2 [] [.val (.bool is), .val (.bool is), .val (.bool false), .val (.bool false), .val (.agg #[.int .i64 m1, .slice A5 B.length c5]), .val (.agg #[.int .i64 m1, .slice A7 B.length c7]), .val (.bool true), .val (.bool false), .val (.bool false), .val (.bool false), .val (.int .i64 r), .val (.agg #[.int .i64 d1, .slice As ds.length cs]), .val (.bool is), .val (.bool is), .val (.bool false), .val (.bool false), .val (.bool false), .val (.agg #[.int .i64 d1, .slice As ds.length cs]), .val (str fm), .val (.agg #[.int .i64 d1, .slice As ds.length cs]), .val (str fm), .val (.bool false), .val (.bool false)]
   [none,none,none,none,none,none,some (fun W W'=>Below W.heap.size W W'),none,none,none,none,none,some (fun W W'=>Below W.heap.size W W'),none,none,none,none,none,some (fun W W'=>Below W.heap.size W W'),none,some (fun W W'=>Below W.heap.size W W'),none,none]
   (fun W=>Below W6.heap.size W6 W) (fun _=>True) [] [] (by kernel_rfl) (by kernel_rfl) (by kernel_rfl)
   trivial (by rfl) (by rfl) (Below.refl _ _).drew trivial
   ⟨fun _ _ h t=>h.trans (t.mono h.size),fun _ _ h t=>h.trans (t.mono h.size),fun _ _ h t=>h.trans (t.mono h.size),fun _ _ h t=>h.trans (t.mono h.size),trivial⟩ (itD_nil _ 0)
   trivial (fun vs=> ?_)
  refine⟨fun W' K' Q0 hI hD hK=> ?_,?_⟩
  ·skip
   go_simp
   exact hK.out _ _ rfl rfl
  simp only[Act.put,List.setIfInBounds_toArray,List.set_cons_zero,List.set_cons_succ,Sg.pick,Nat.reduceAdd]
  refine⟨fun W' K' Q0 hI hD hK=> ?_,?_⟩
  ·skip
   go_simp
   exact hK.out _ _ rfl rfl
  simp only[Act.put,List.setIfInBounds_toArray,List.set_cons_zero,List.set_cons_succ,Sg.pick,Nat.reduceAdd]
  refine⟨fun W' K' Q0 hI hD hK=> ?_,?_⟩
  ·skip
   go_simp
   exact hK.out _ _ rfl rfl
  simp only[Act.put,List.setIfInBounds_toArray,List.set_cons_zero,List.set_cons_succ,Sg.pick,Nat.reduceAdd]
  refine⟨fun W' K' Q0 hI hD hK=> ?_,?_⟩
  ·skip
   go_simp
   exact hK.out _ _ rfl rfl
  simp only[Act.put,List.setIfInBounds_toArray,List.set_cons_zero,List.set_cons_succ,Sg.pick,Nat.reduceAdd]
  refine⟨fun W' K' Q0 hI hD hK=> ?_,?_⟩
  ·have z0:=(M.out.below hI.out.1).c0
   have z1:=(M.out.below hI.out.1).c1
   go_simp
   exact hK.out _ _ rfl rfl
  simp only[Act.put,List.setIfInBounds_toArray,List.set_cons_zero,List.set_cons_succ,Sg.pick,Nat.reduceAdd]
  refine⟨fun W' K' Q0 hI hD hK=> ?_,?_⟩
  ·have z0:=(K.out.below hI.out.1).c0
   have z1:=(K.out.below hI.out.1).c1
   go_simp
   exact hK.out _ _ rfl rfl
  simp only[Act.put,List.setIfInBounds_toArray,List.set_cons_zero,List.set_cons_succ,Sg.pick,Nat.reduceAdd]
  refine⟨fun W' K' Q0 hI hD hK=> ?_,?_⟩
  ·skip
   go_simp
   refine(HEQ.out _ (L5.out.below hI.out.1) (L7.out.below hI.out.1)).mono ?_;rintro e w' ⟨rfl,b⟩;simp only[decide_true];exact hK.out _ _ b rfl
  simp only[Act.put,List.setIfInBounds_toArray,List.set_cons_zero,List.set_cons_succ,Sg.pick,Nat.reduceAdd]
  refine⟨fun W' K' Q0 hI hD hK=> ?_,?_⟩
  ·skip
   go_simp
   exact hK.out _ _ rfl rfl
  simp only[Act.put,List.setIfInBounds_toArray,List.set_cons_zero,List.set_cons_succ,Sg.pick,Nat.reduceAdd]
  refine⟨fun W' K' Q0 hI hD hK=> ?_,?_⟩
  ·skip
   go_simp
   exact hK.out _ _ rfl rfl
  simp only[Act.put,List.setIfInBounds_toArray,List.set_cons_zero,List.set_cons_succ,Sg.pick,Nat.reduceAdd]
  refine⟨fun W' K' Q0 hI hD hK=> ?_,?_⟩
  ·skip
   go_simp
   exact hK.out _ _ rfl rfl
  simp only[Act.put,List.setIfInBounds_toArray,List.set_cons_zero,List.set_cons_succ,Sg.pick,Nat.reduceAdd]
  refine⟨fun W' K' Q0 hI hD hK=> ?_,?_⟩
  ·skip
   go_simp
   exact hK.out _ _ rfl rfl
  simp only[Act.put,List.setIfInBounds_toArray,List.set_cons_zero,List.set_cons_succ,Sg.pick,Nat.reduceAdd]
  refine⟨fun W' K' Q0 hI hD hK=> ?_,?_⟩
  ·have z0:=(T.out.below hI.out.1).c0
   have z1:=(T.out.below hI.out.1).c1
   go_simp
   exact hK.out _ _ rfl rfl
  simp only[Act.put,List.setIfInBounds_toArray,List.set_cons_zero,List.set_cons_succ,Sg.pick,Nat.reduceAdd]
  refine⟨fun W' K' Q0 hI hD hK=> ?_,?_⟩
  ·skip
   go_simp
   refine(HIW.out _ (HAT.out _ (S.out.below hI.out.1))).mono ?_;rintro e w' ⟨rfl,b⟩;exact hK.out _ _ b rfl
  simp only[Act.put,List.setIfInBounds_toArray,List.set_cons_zero,List.set_cons_succ,Sg.pick,Nat.reduceAdd]
  refine⟨fun W' K' Q0 hI hD hK=> ?_,?_⟩
  ·skip
   go_simp
   exact hK.out _ _ rfl rfl
  simp only[Act.put,List.setIfInBounds_toArray,List.set_cons_zero,List.set_cons_succ,Sg.pick,Nat.reduceAdd]
  refine⟨fun W' K' Q0 hI hD hK=> ?_,?_⟩
  ·skip
   go_simp
   exact hK.out _ _ rfl rfl
  simp only[Act.put,List.setIfInBounds_toArray,List.set_cons_zero,List.set_cons_succ,Sg.pick,Nat.reduceAdd]
  refine⟨fun W' K' Q0 hI hD hK=> ?_,?_⟩
  ·skip
   go_simp
   exact hK.out _ _ rfl rfl
  simp only[Act.put,List.setIfInBounds_toArray,List.set_cons_zero,List.set_cons_succ,Sg.pick,Nat.reduceAdd]
  refine⟨fun W' K' Q0 hI hD hK=> ?_,?_⟩
  ·skip
   go_simp
   exact hK.out _ _ rfl rfl
  simp only[Act.put,List.setIfInBounds_toArray,List.set_cons_zero,List.set_cons_succ,Sg.pick,Nat.reduceAdd]
  refine⟨fun W' K' Q0 hI hD hK=> ?_,?_⟩
  ·have z0:=(T.out.below hI.out.1).c0
   have z1:=(T.out.below hI.out.1).c1
   go_simp
   exact hK.out _ _ rfl rfl
  simp only[Act.put,List.setIfInBounds_toArray,List.set_cons_zero,List.set_cons_succ,Sg.pick,Nat.reduceAdd]
  refine⟨fun W' K' Q0 hI hD hK=> ?_,?_⟩
  ·skip
   go_simp
   refine(HF1.out _ (HAT.out _ (S.out.below hI.out.1))).mono ?_;rintro e w' ⟨rfl,b⟩;exact hK.out _ _ b rfl
  simp only[Act.put,List.setIfInBounds_toArray,List.set_cons_zero,List.set_cons_succ,Sg.pick,Nat.reduceAdd]
  refine⟨fun W' K' Q0 hI hD hK=> ?_,?_⟩
  ·have z0:=(T.out.below hI.out.1).c0
   have z1:=(T.out.below hI.out.1).c1
   go_simp
   exact hK.out _ _ rfl rfl
  simp only[Act.put,List.setIfInBounds_toArray,List.set_cons_zero,List.set_cons_succ,Sg.pick,Nat.reduceAdd]
  refine⟨fun W' K' Q0 hI hD hK=> ?_,?_⟩
  ·skip
   go_simp
   refine(HF2.out _ (HAT.out _ (S.out.below hI.out.1))).mono ?_;rintro e w' ⟨rfl,b⟩;exact hK.out _ _ b rfl
  simp only[Act.put,List.setIfInBounds_toArray,List.set_cons_zero,List.set_cons_succ,Sg.pick,Nat.reduceAdd]
  refine⟨fun W' K' Q0 hI hD hK=> ?_,?_⟩
  ·skip
   go_simp
   exact hK.out _ _ rfl (show Value.bool _=Value.bool false from congrArg _ (by simp))
  simp only[Act.put,List.setIfInBounds_toArray,List.set_cons_zero,List.set_cons_succ,Sg.pick,Nat.reduceAdd]
  refine⟨fun W' K' Q0 hI hD hK=> ?_,?_⟩
  ·skip
   go_simp
   exact hK.out _ _ rfl rfl
  simp only[Act.put,List.setIfInBounds_toArray,List.set_cons_zero,List.set_cons_succ,Sg.pick,Nat.reduceAdd]
  intro W9 hI9 hD9
  have I9:=hDD hI9.out.1
  clear hI9 hD9
  go_wp2_with fail
  go_meet
  exact⟨rfl,I9.out⟩
 case rest=>as_aux_lemma=>
  obtain⟨rfl,b⟩:=hcut
  replace V:=hDD (V.out.below b)
  replace T:=hDD (T.out.below b)
  replace S:=hDD (S.out.below b)
  replace L5:=hDD (L5.out.below b)
  replace L7:=hDD (L7.out.below b)
  replace M:=hDD (M.out.below b)
  replace K:=hDD (K.out.below b)
  replace BZ:=hDD (BZ.out.trans (b.mono BZ.out.size))
  clear b HEQ HF1 HF2 HIW
  rename World=>wa
  go_upto_if 83 with fail
  go_cut [9,10,11,12,13,14,15,16] (fun _ _ _ _ _ _ _ _ wx=>Below wa.heap.size wa wx)
  case first=>as_aux_lemma=>
   cases is
   ·go_wp2_with fail
    go_meet
    exact Below.refl _ _
   ·obtain⟨hmor,hsur⟩:=HKM.out rfl
    obtain⟨n,hrn,hn1,hn3,-⟩:=HRK.out rfl
    have hm1:=HM1.out rfl
    obtain⟨hidE,hidL,hinv⟩:=HID.out rfl n hrn
    have HPI:=hDD (HPR.out rfl)
    have hB:=HML.out
    clear HKM HRK HM1 HID HPR HML
    subst hm1
    subst hrn
    have HWI:=hDD (fun W v (h:ArgWh W v (whInv (d1,ds)))=>implWhiteheadMorphism_any n v (whInv (d1,ds)) W hrI h (by show ds.length≤1073741824;omega))
    rw[hinv] at HWI
    obtain⟨⟨q1,C⟩,hC⟩: ∃m,m=whM (n:Int) (whInv (d1,ds)):=⟨_,rfl⟩
    have hmC:morB (q1,C)=true:=by rw[hC];exact wh_mor hinv
    have hq1:q1=(n:Int):=by
     have:q1=(whM (n:Int) (whInv (d1,ds))).1:=by rw[←hC]
     rw[this]
     unfold whM
     rw[if_pos hinv]
    rw[←hC] at HWI hidE hidL
    simp only at HWI hidE hidL
    subst hq1
    have hC3:C.length≤3:=by
     obtain⟨_,_,e⟩:=morB_parts hmC
     simp only at e
     omega
    have HCM:=hDD (fun W v u (h:ArgM W v ((n:Int),B)) (h':ArgM W u ((n:Int),C))=>implComposeMorphisms_any v u (n:Int) B C W h h' hmor hmC hidL)
    rw[hidE] at HCM
    have HSU:=hDD (fun W v (h:ArgM W v ((n:Int),B))=>implIsSurjective_any v ((n:Int),B) W h (by simp only;omega) (by simp only;omega) (fun x hx=>by have:=hB.2.1 x hx;omega))
    rw[hsur] at HSU
    have HIM:=hDD (fun W=>specIdentityMorphism_any n W hn1 hn3)
    have HMM:=hDD hmor
    have hB3:=hB.1
    have HB4:=hDD hB.2.1
    clear hC hmC hmor hsur hidE hidL hinv hB
    have uT0:=T.out.c0
    have uT1:=T.out.c1
    go_wp2_with fail
    refine(HIN.out _ _ (HOT.out _ S.out)).mono ?_
    rintro e w3 ⟨rv,rfl,⟨s3,rfl,hi3,o3⟩,b3⟩
    obtain⟨A3,c3,rfl,_⟩:=o3.form
    have BC:=hDD b3
    have HAI:Hid (ArgWh w3 _ (whInv (d1,ds))):=hDD ⟨_,rfl,hi3,o3.arg⟩
    generalize whInv (d1,ds)=dv at*
    replace V:=hDD (V.out.below b3)
    replace L7:=hDD (L7.out.below b3)
    replace K:=hDD (K.out.below b3)
    clear o3 b3 hi3 uT0 uT1 HIN HOT S T
    go_wp2_with fail
    refine(HWI.out _ _ HAI.out).mono ?_
    rintro e w4 ⟨s4,rfl,o4,b4⟩
    obtain⟨A9,c9,rfl,_⟩:=o4.len
    have L9:=hDD o4.rd
    replace V:=hDD (V.out.below b4)
    replace L7:=hDD (L7.out.below b4)
    replace K:=hDD (K.out.below b4)
    replace BC:=hDD (BC.out.trans (b4.mono BC.out.size))
    clear o4 b4 HWI HAI
    obtain⟨W5,hW5⟩: ∃W,W=w4.alloc (Obj.cells #[Value.int IntKind.i64 (n:Int), .slice A9 C.length c9] 31):=⟨_,rfl⟩
    obtain⟨xW5,bW5,sW5⟩:=MBx.new hW5
    have N9:=hDD xW5
    replace V:=hDD (V.out.below bW5)
    replace L7:=hDD (L7.out.below bW5)
    replace L9:=hDD (L9.out.below bW5)
    replace K:=hDD (K.out.below bW5)
    replace BC:=hDD (BC.out.trans (bW5.mono BC.out.size))
    clear xW5 bW5 sW5
    go_wp2_with fail
    rw[←hW5]
    clear hW5
    generalize w4.heap.size=q9 at*
    refine(HIM.out _).mono ?_
    rintro e w6 ⟨s6,rfl,o6,b6⟩
    obtain⟨A11,c11,rfl,_⟩:=o6.len
    have L11:=hDD o6.rd
    replace V:=hDD (V.out.below b6)
    replace L7:=hDD (L7.out.below b6)
    replace L9:=hDD (L9.out.below b6)
    replace K:=hDD (K.out.below b6)
    replace N9:=hDD (N9.out.below b6)
    replace BC:=hDD (BC.out.trans (b6.mono BC.out.size))
    clear o6 b6 HIM
    generalize idL n=ID at*
    obtain⟨W7,hW7⟩: ∃W,W=w6.alloc (Obj.cells #[Value.int IntKind.i64 (n:Int), .slice A11 ID.length c11] 31):=⟨_,rfl⟩
    obtain⟨xW7,bW7,sW7⟩:=MBx.new hW7
    have N11:=hDD xW7
    replace V:=hDD (V.out.below bW7)
    replace L7:=hDD (L7.out.below bW7)
    replace L9:=hDD (L9.out.below bW7)
    replace L11:=hDD (L11.out.below bW7)
    replace K:=hDD (K.out.below bW7)
    replace N9:=hDD (N9.out.below bW7)
    replace BC:=hDD (BC.out.trans (bW7.mono BC.out.size))
    clear xW7 bW7 sW7
    have uK0:=K.out.c0
    have uK1:=K.out.c1
    have uN90:=N9.out.c0
    have uN91:=N9.out.c1
    rw[hW7] at uK0 uK1 uN90 uN91
    go_wp2_with fail
    rw[←hW7]
    clear hW7
    clear uK0 uK1 uN90 uN91
    generalize w6.heap.size=q11 at*
    refine(HCM.out _ _ _ ⟨_,rfl,HMI.out,L7.out⟩ ⟨_,rfl,HMI.out,L9.out⟩).mono ?_
    rintro e w8 ⟨s8,rfl,o8,b8⟩
    obtain⟨A13,c13,rfl,_⟩:=o8.len
    have L13:=hDD o8.rd
    replace V:=hDD (V.out.below b8)
    replace L7:=hDD (L7.out.below b8)
    replace L11:=hDD (L11.out.below b8)
    replace K:=hDD (K.out.below b8)
    replace N11:=hDD (N11.out.below b8)
    replace BC:=hDD (BC.out.trans (b8.mono BC.out.size))
    clear o8 b8 HCM N9 L9
    obtain⟨W9,hW9⟩: ∃W,W=w8.alloc (Obj.cells #[Value.int IntKind.i64 (n:Int), .slice A13 ID.length c13] 31):=⟨_,rfl⟩
    obtain⟨xW9,bW9,sW9⟩:=MBx.new hW9
    have N13:=hDD xW9
    replace V:=hDD (V.out.below bW9)
    replace L7:=hDD (L7.out.below bW9)
    replace L11:=hDD (L11.out.below bW9)
    replace L13:=hDD (L13.out.below bW9)
    replace K:=hDD (K.out.below bW9)
    replace N11:=hDD (N11.out.below bW9)
    replace BC:=hDD (BC.out.trans (bW9.mono BC.out.size))
    clear xW9 bW9 sW9
    have uK0:=K.out.c0
    have uK1:=K.out.c1
    have uN110:=N11.out.c0
    have uN111:=N11.out.c1
    rw[hW9] at uK0 uK1 uN110 uN111
    go_wp2_with fail
    rw[←hW9]
    clear hW9
    clear uK0 uK1 uN110 uN111
    generalize w8.heap.size=q13 at*
    have HEQ:=hDD (fun W (h:RdII W (.slice A13 ID.length c13) ID) (h':RdII W (.slice A11 ID.length c11) ID)=>specEqualMorphisms_any _ _ ((n:Int),ID) ((n:Int),ID) W ⟨_,rfl,HMI.out,h⟩ ⟨_,rfl,HMI.out,h'⟩)
    refine(HEQ.out _ L13.out L11.out).mono ?_
    rintro e wb ⟨rfl,b⟩
    replace V:=hDD (V.out.below b)
    replace L7:=hDD (L7.out.below b)
    replace K:=hDD (K.out.below b)
    replace BC:=hDD (BC.out.trans (b.mono BC.out.size))
    clear b HEQ L13 L11 N11 N13
    simp only[decide_true]
    have uK0:=K.out.c0
    have uK1:=K.out.c1
    go_wp2_with fail
    refine(HSU.out _ _ ⟨_,rfl,HMI.out,L7.out⟩).mono ?_
    rintro e wc ⟨rfl,b⟩
    replace V:=hDD (V.out.below b)
    replace L7:=hDD (L7.out.below b)
    replace K:=hDD (K.out.below b)
    replace BC:=hDD (BC.out.trans (b.mono BC.out.size))
    clear b HSU uK0 uK1
    have HA:=hDD (fun W (h:ArgC W (.slice A0 x0.length c0) x0)=>lawAt_any _ x0 9 W h hl' (by omega))
    have HAP:=hDD (fun W u (i:Int) (h:RdII W (.slice A7 B.length c7) B) (h':RdI W u [i])=>specApplyMorphism_any _ u ((n:Int),B) [i] W ⟨_,rfl,HMI.out,h⟩ h' (by simp only;omega) (fun x hx=>by have:=HB4.out x hx;omega) (by simp))
    have HAV:Hid (∀i:Int,1≤i→i≤n→appF ((n:Int),B) [i]=(expL B [i],true)):=hDD fun i h1 h2=>by
     have hw:wordB (n:Int) [i]=true:=wordB_true (inB_iff.2 ⟨by omega,by omega⟩) (by simp) fun j hj=>by
      have:j=0:=by simpa using hj
      subst this
      unfold okAt letB
      rw[show wrap64 (-(n:Int))= -(n:Int) from IntWalk.wrap64_in _ ⟨by omega,by omega⟩]
      simp[inB]
      omega
     unfold appF
     rw[HMM.out]
     simp only[Bool.true_and]
     rw[hw]
     rfl
    have hn0: ¬(n:Int)=0:=by omega
    have hnP:(0:Int)<(n:Int):=by omega
    go_wp2_with fail
    refine wp_region_genG2 [] [.val (.agg #[.int .i64 (n:Int), .slice A7 B.length c7]), .val (.slice A0 x0.length c0), .pur (fun _ v=> ∃x:Int,0≤x∧x≤255∧v= .int .i64 x), .val (.int .i64 (n:Int)), .pur (fun _ v=> ∃x:Int,0≤x∧x<n∧v= .int .i64 x), .pur (fun _ v=> ∃x:Int,1≤x∧x≤n∧v= .int .i64 x), .mem (fun _ W v=>(∃(i:Int) (q:Nat),1≤i∧i≤n∧v= .slice (some ⟨q,0,none⟩) 1 1∧RdI W (.slice (some ⟨q,0,none⟩) 1 1) [i])), .mem (fun _ W v=>(∃(i:Int) (A:Option Addr) (c:Nat),1≤i∧i≤n∧v= .tuple #[.slice A (expL B [i]).length c, .bool true]∧RdI W (.slice A (expL B [i]).length c) (expL B [i]))), .pur (fun us v=>v=us 7), .pur (fun us v=> ∃x,us 8= .tuple #[v,x]), .pur (fun us v=> ∃x,us 8= .tuple #[x,v]), .pur (fun us v=>v=us 9), .pur (fun us v=>v=us 10)]
     [none,none,none,none,none,none,some (fun W W'=>Below W.heap.size W W'),some (fun W W'=>Below W.heap.size W W'),none,none,none,none,none]
     (fun W=>Below wc.heap.size wc W) (fun _=>True) [] [(6,7)] (by kernel_rfl) (by kernel_rfl) (by kernel_rfl)
     trivial (by rfl) (by rfl) (Below.refl _ _).drew trivial
     ⟨fun _ _ h t=>h.trans (t.mono h.size),fun _ _ h t=>h.trans (t.mono h.size),trivial⟩ (itD_nil _ 0)
     ⟨fun _ _ _ _ _ _ t h=>by obtain⟨i,q,h1,h2,e,r⟩:=h;exact⟨i,q,h1,h2,e,r.below t⟩,
      trivial⟩ (fun vs=> ?_)
    refine⟨fun W' K' Q0 hI hD hK=> ?_,?_⟩
    ·have z0:=(K.out.below hI.out.1).c0
     have z1:=(K.out.below hI.out.1).c1
     go_simp
     exact hK.out _ _ rfl rfl
    simp only[Act.put,List.setIfInBounds_toArray,List.set_cons_zero,List.set_cons_succ,Sg.pick,Nat.reduceAdd]
    refine⟨fun W' K' Q0 hI hD hK=> ?_,?_⟩
    ·skip
     go_simp
     exact hK.out _ _ rfl rfl
    simp only[Act.put,List.setIfInBounds_toArray,List.set_cons_zero,List.set_cons_succ,Sg.pick,Nat.reduceAdd]
    refine⟨fun W' K' Q0 hI hD hK=> ?_,?_⟩
    ·skip
     go_simp
     refine(HA.out _ (V.out.below hI.out.1)).mono ?_;rintro e w' ⟨x,rfl,⟨x0,x1⟩,rfl⟩;exact hK.out _ _ rfl ⟨x,x0,x1,rfl⟩
    simp only[Act.put,List.setIfInBounds_toArray,List.set_cons_zero,List.set_cons_succ,Sg.pick,Nat.reduceAdd]
    refine⟨fun W' K' Q0 hI hD hK=> ?_,?_⟩
    ·skip
     go_simp
     exact hK.out _ _ rfl rfl
    simp only[Act.put,List.setIfInBounds_toArray,List.set_cons_zero,List.set_cons_succ,Sg.pick,Nat.reduceAdd]
    refine⟨fun W' K' Q0 hI hD hK=> ?_,?_⟩
    ·obtain⟨x2,p2,r2,e2⟩:=(show ∃x:Int,0≤x∧x≤255∧vs 2= .int .i64 x from hD.out 2 (by kernel_rfl))
     rw[e2] at hK⊢
     have hnN: ¬n=0:=by omega
     have htm:Int.tmod x2 (n:Int)=x2%(n:Int):=Int.tmod_eq_emod_of_nonneg p2
     go_simp
     exact hK.out _ _ rfl ⟨x2%(n:Int),Int.emod_nonneg _ hn0,Int.emod_lt_of_pos _ hnP,rfl⟩
    simp only[Act.put,List.setIfInBounds_toArray,List.set_cons_zero,List.set_cons_succ,Sg.pick,Nat.reduceAdd]
    refine⟨fun W' K' Q0 hI hD hK=> ?_,?_⟩
    ·obtain⟨x4,p4,r4,e4⟩:=(show ∃x:Int,0≤x∧x<n∧vs 4= .int .i64 x from hD.out 4 (by kernel_rfl))
     rw[e4] at hK⊢
     have hw4:IntKind.i64.wrap (1+x4)=1+x4:=by rw[IntKind.wrap_i64];omega
     go_simp
     exact hK.out _ _ rfl ⟨1+x4,by omega,by omega,rfl⟩
    simp only[Act.put,List.setIfInBounds_toArray,List.set_cons_zero,List.set_cons_succ,Sg.pick,Nat.reduceAdd]
    refine⟨fun W' K' Q0 hI hD hK=> ?_,?_⟩
    ·obtain⟨x5,p5,r5,e5⟩:=(show ∃x:Int,1≤x∧x≤n∧vs 5= .int .i64 x from hD.out 5 (by kernel_rfl))
     rw[e5] at hK⊢
     go_simp
     exact hK.out _ _ ((Below.refl _ _).alloc (Nat.le_refl _) _) ⟨x5,_,p5,r5,rfl,(OwI_lit _ [x5] (fun z hz=>by rw[List.mem_singleton.1 hz];exact⟨by omega,by omega⟩) (by simp) (Nat.le_refl _)).rd⟩
    simp only[Act.put,List.setIfInBounds_toArray,List.set_cons_zero,List.set_cons_succ,Sg.pick,Nat.reduceAdd]
    refine⟨fun W' K' Q0 hI hD hK=> ?_,?_⟩
    ·obtain⟨i6,q6,h61,h62,e6,r6⟩:=(show(∃(i:Int) (q:Nat),1≤i∧i≤n∧vs 6= .slice (some ⟨q,0,none⟩) 1 1∧RdI W' (.slice (some ⟨q,0,none⟩) 1 1) [i]) from hD.out 6 (by kernel_rfl))
     rw[e6] at hK⊢
     go_simp
     refine(HAP.out _ _ i6 (L7.out.below hI.out.1) r6).mono ?_;rintro e w' ⟨rv,rfl,o,b⟩;rw[HAV.out i6 h61 h62] at o⊢;obtain⟨A,c,rfl,-⟩:=o.form;exact hK.out _ _ b ⟨i6,A,c,h61,h62,rfl,o.rd⟩
    simp only[Act.put,List.setIfInBounds_toArray,List.set_cons_zero,List.set_cons_succ,Sg.pick,Nat.reduceAdd]
    refine⟨fun W' K' Q0 hI hD hK=> ?_,?_⟩
    ·obtain⟨i7,A7',c7',h71,h72,e7,r7⟩:=(show(∃(i:Int) (A:Option Addr) (c:Nat),1≤i∧i≤n∧vs 7= .tuple #[.slice A (expL B [i]).length c, .bool true]∧RdI W' (.slice A (expL B [i]).length c) (expL B [i])) from hD.out 7 (by kernel_rfl))
     rw[e7] at hK⊢
     go_simp
     exact hK.out _ _ rfl ((mask_at (by kernel_rfl)).trans e7).symm
    simp only[Act.put,List.setIfInBounds_toArray,List.set_cons_zero,List.set_cons_succ,Sg.pick,Nat.reduceAdd]
    refine⟨fun W' K' Q0 hI hD hK=> ?_,?_⟩
    ·obtain⟨i7,A7',c7',h71,h72,e7,r7⟩:=(show(∃(i:Int) (A:Option Addr) (c:Nat),1≤i∧i≤n∧vs 7= .tuple #[.slice A (expL B [i]).length c, .bool true]∧RdI W' (.slice A (expL B [i]).length c) (expL B [i])) from hD.out 7 (by kernel_rfl))
     have e8:=(show vs 8=maskV _ 8 vs 7 from hD.out 8 (by kernel_rfl))
     rw[mask_at (by kernel_rfl),e7] at e8
     rw[e8,e7] at hK⊢
     go_simp
     exact hK.out _ _ rfl ⟨_,(mask_at (by kernel_rfl)).trans e8⟩
    simp only[Act.put,List.setIfInBounds_toArray,List.set_cons_zero,List.set_cons_succ,Sg.pick,Nat.reduceAdd]
    refine⟨fun W' K' Q0 hI hD hK=> ?_,?_⟩
    ·obtain⟨i7,A7',c7',h71,h72,e7,r7⟩:=(show(∃(i:Int) (A:Option Addr) (c:Nat),1≤i∧i≤n∧vs 7= .tuple #[.slice A (expL B [i]).length c, .bool true]∧RdI W' (.slice A (expL B [i]).length c) (expL B [i])) from hD.out 7 (by kernel_rfl))
     have e8:=(show vs 8=maskV _ 8 vs 7 from hD.out 8 (by kernel_rfl))
     rw[mask_at (by kernel_rfl),e7] at e8
     rw[e8,e7] at hK⊢
     go_simp
     exact hK.out _ _ rfl ⟨_,(mask_at (by kernel_rfl)).trans e8⟩
    simp only[Act.put,List.setIfInBounds_toArray,List.set_cons_zero,List.set_cons_succ,Sg.pick,Nat.reduceAdd]
    refine⟨fun W' K' Q0 hI hD hK=> ?_,?_⟩
    ·obtain⟨i7,A7',c7',h71,h72,e7,r7⟩:=(show(∃(i:Int) (A:Option Addr) (c:Nat),1≤i∧i≤n∧vs 7= .tuple #[.slice A (expL B [i]).length c, .bool true]∧RdI W' (.slice A (expL B [i]).length c) (expL B [i])) from hD.out 7 (by kernel_rfl))
     have e8:=(show vs 8=maskV _ 8 vs 7 from hD.out 8 (by kernel_rfl))
     rw[mask_at (by kernel_rfl),e7] at e8
     obtain⟨x9,e9⟩:=(show ∃x,maskV _ 9 vs 8= .tuple #[vs 9,x] from hD.out 9 (by kernel_rfl))
     rw[mask_at (by kernel_rfl),e8] at e9
     have e9':=(tup2 e9).1.symm
     clear e9
     rw[e9',e8,e7] at hK⊢
     go_simp
     exact hK.out _ _ rfl ((mask_at (by kernel_rfl)).trans e9').symm
    simp only[Act.put,List.setIfInBounds_toArray,List.set_cons_zero,List.set_cons_succ,Sg.pick,Nat.reduceAdd]
    refine⟨fun W' K' Q0 hI hD hK=> ?_,?_⟩
    ·obtain⟨i7,A7',c7',h71,h72,e7,r7⟩:=(show(∃(i:Int) (A:Option Addr) (c:Nat),1≤i∧i≤n∧vs 7= .tuple #[.slice A (expL B [i]).length c, .bool true]∧RdI W' (.slice A (expL B [i]).length c) (expL B [i])) from hD.out 7 (by kernel_rfl))
     have e8:=(show vs 8=maskV _ 8 vs 7 from hD.out 8 (by kernel_rfl))
     rw[mask_at (by kernel_rfl),e7] at e8
     obtain⟨x10,e10⟩:=(show ∃x,maskV _ 10 vs 8= .tuple #[x,vs 10] from hD.out 10 (by kernel_rfl))
     rw[mask_at (by kernel_rfl),e8] at e10
     have e10':=(tup2 e10).2.symm
     clear e10
     rw[e10',e8,e7] at hK⊢
     go_simp
     exact hK.out _ _ rfl ((mask_at (by kernel_rfl)).trans e10').symm
    simp only[Act.put,List.setIfInBounds_toArray,List.set_cons_zero,List.set_cons_succ,Sg.pick,Nat.reduceAdd]
    intro W9 hI9 hD9
    have I9:=hDD hI9.out.1
    obtain⟨i7,A7',c7',h71,h72,e7,r7⟩:=(show(∃(i:Int) (A:Option Addr) (c:Nat),1≤i∧i≤n∧vs 7= .tuple #[.slice A (expL B [i]).length c, .bool true]∧RdI W9 (.slice A (expL B [i]).length c) (expL B [i])) from hD9.out 7 (by decide))
    have e8:=(show vs 8=maskV _ 8 vs 7 from hD9.out 8 (by decide))
    rw[mask_at (by kernel_rfl),e7] at e8
    obtain⟨x9,e9⟩:=(show ∃x,maskV _ 9 vs 8= .tuple #[vs 9,x] from hD9.out 9 (by decide))
    rw[mask_at (by kernel_rfl),e8] at e9
    have e9':=(tup2 e9).1.symm
    have e11:=(show vs 11=maskV _ 11 vs 9 from hD9.out 11 (by decide))
    rw[mask_at (by kernel_rfl),e9'] at e11
    rw[e11]
    have HPP:=hDD (HPI.out i7 ⟨h71,h72⟩)
    have RX:=hDD r7
    replace BC:=hDD (BC.out.trans (I9.out.mono BC.out.size))
    have hlx:(expL B [i7]).length≤1048576:=by
     have:=expL_len (M:=3) HB4.out [i7]
     simp at this
     omega
    clear hI9 hD9 e7 e8 e9 e9' e11 r7 x9 I9
    generalize expL B [i7]=ax at*
    go_wp2_with fail
    refine(implIsPrimitive_any (n:Int) _ ax _ hrI RX.out hlx).mono ?_
    rintro e wd ⟨rfl,b⟩
    rw[HPP.out]
    replace BC:=hDD (BC.out.trans (b.mono BC.out.size))
    clear b
    go_wp2_with fail
    go_meet
    exact BC.out
  case rest=>as_aux_lemma=>
   have b:=hcut
   clear hcut HKM HRK HM1 HID HPR HML HMI HIN HAT HOT hr hi hd5 hrI S T L5 L7 M K
   replace V:=hDD (V.out.below b)
   replace BZ:=hDD (BZ.out.trans (b.mono BZ.out.size))
   clear b
   rename World=>we
   have HDR:=hDD (fun W (h:ArgC W (.slice A0 x0.length c0) x0)=>drawRed_any _ x0 W h hl')
   go_wp2_with fail
   refine(HDR.out _ V.out).mono ?_
   rintro e w3 ⟨n,uv,xs,rfl,⟨hn1,hn3⟩,ou,hx13,b⟩
   obtain⟨Au,cu,rfl,_⟩:=ou.form
   have U:=hDD ou.rd
   replace V:=hDD (V.out.below b)
   replace BZ:=hDD (BZ.out.trans (b.mono BZ.out.size))
   have hnI:I64 n:=⟨by omega,by omega⟩
   have HR1:=hDD (fun W (h:RdI W (.slice Au xs.length cu) xs)=>implReduceCyclic_any n _ xs W hnI h (by omega))
   have HR2:=hDD (fun W (h:RdI W (.slice Au xs.length cu) xs)=>specReduceCyclic_any n _ xs W hnI h (by omega))
   have HP1:=hDD (fun W (h:RdI W (.slice Au xs.length cu) xs)=>implIsPrimitive_any n _ xs W hnI h (by omega))
   have HP2:=hDD (fun W (h:RdI W (.slice Au xs.length cu) xs)=>specIsPrimitive_any n _ xs W hnI h (by omega))
   have HWD:=hDD (fun W (h:RdI W (.slice Au xs.length cu) xs)=>specIsWord_any n _ xs W h.arg (by omega))
   have HCF:=hDD (fun W (h:RdI W (.slice Au xs.length cu) xs)=>specCyclicForm_any _ xs W h (by omega))
   have HPW:=hDD (fun W (h:RdI W (.slice Au xs.length cu) xs)=>specIsProperPower_any _ xs W h (by omega))
   have HDV:=hDD (fun W (h:RdI W (.slice Au xs.length cu) xs)=>implInDerived_any n _ xs W h (by omega))
   have HRS:=hDD (fun (h:wordB n xs=true)=>And.intro (redF_S h) (goodF_cyc h))
   have HPD:=hDD (fun (h:wordB n xs=true) (hp:primB n xs=true)=>prim_no h hp)
   have hred:=Eq.refl (redF n xs)
   obtain⟨⟨ys,ls⟩,hrd⟩: ∃p,redF n xs=p:=⟨_,rfl⟩
   rw[hrd] at HR1 HR2 HRS
   simp only at HR1 HR2 HRS
   clear ou b HDR hred hrd hn1 hn3 hx13
   generalize primB n xs=pb at*
   generalize wordB n xs=wb at*
   generalize derB n xs=db at*
   go_wp2_with fail
   refine(HR1.out _ U.out).mono ?_
   rintro e w4 ⟨s4,t4,rfl,os,ot,b⟩
   obtain⟨A4,c4,rfl,_⟩:=os.form
   have T1:WhR w4 t4 ls:=⟨_,_,ot,Nat.le_refl _⟩
   obtain⟨A5,c5,rfl,h51,h52⟩:=T1.form
   have Y1:=hDD os.rd
   replace T1:=hDD T1
   replace V:=hDD (V.out.below b)
   replace U:=hDD (U.out.below b)
   replace BZ:=hDD (BZ.out.trans (b.mono BZ.out.size))
   clear os ot b HR1
   go_wp2_with fail
   refine(HR2.out _ U.out).mono ?_
   rintro e w5 ⟨s5,t5,rfl,os,ot,b⟩
   obtain⟨A6,c6,rfl,_⟩:=os.form
   have T2:WhR w5 t5 ls:=⟨_,_,ot,Nat.le_refl _⟩
   obtain⟨A7,c7,rfl,h71,h72⟩:=T2.form
   have Y2:=hDD os.rd
   replace T2:=hDD T2
   replace V:=hDD (V.out.below b)
   replace U:=hDD (U.out.below b)
   replace Y1:=hDD (Y1.out.below b)
   replace T1:=hDD (T1.out.below b)
   replace BZ:=hDD (BZ.out.trans (b.mono BZ.out.size))
   clear os ot b HR2 h71 h72
   unfold maxLen at h52
   go_wp2_with fail
   refine(sameI _ _ ys ys _ Y1.out Y2.out).mono ?_
   rintro e w6 ⟨rfl,b⟩
   replace V:=hDD (V.out.below b)
   replace U:=hDD (U.out.below b)
   replace Y2:=hDD (Y2.out.below b)
   replace T1:=hDD (T1.out.below b)
   replace BZ:=hDD (BZ.out.trans (b.mono BZ.out.size))
   clear b Y1 T2
   simp only[decide_true]
   go_wp2_with fail
   refine(HP1.out _ U.out).mono ?_
   rintro e w7 ⟨rfl,b⟩
   replace V:=hDD (V.out.below b)
   replace U:=hDD (U.out.below b)
   replace Y2:=hDD (Y2.out.below b)
   replace T1:=hDD (T1.out.below b)
   replace BZ:=hDD (BZ.out.trans (b.mono BZ.out.size))
   clear b
   go_wp2_with fail
   refine(HP2.out _ U.out).mono ?_
   rintro e w8 ⟨rfl,b⟩
   replace V:=hDD (V.out.below b)
   replace U:=hDD (U.out.below b)
   replace Y2:=hDD (Y2.out.below b)
   replace T1:=hDD (T1.out.below b)
   replace BZ:=hDD (BZ.out.trans (b.mono BZ.out.size))
   clear b HP2
   go_wp2_with fail
   refine(HWD.out _ U.out).mono ?_
   rintro e w9 ⟨rfl,nd,rfl⟩
   obtain⟨w9,hw9⟩: ∃W,W=w8.drewN nd:=⟨_,rfl⟩
   rw[←hw9]
   have b:Below w8.heap.size w8 w9:=by rw[hw9];exact bel_drewN (Below.refl _ _) _
   replace V:=hDD (V.out.below b)
   replace U:=hDD (U.out.below b)
   replace Y2:=hDD (Y2.out.below b)
   replace T1:=hDD (T1.out.below b)
   replace BZ:=hDD (BZ.out.trans (b.mono BZ.out.size))
   clear b hw9 HWD
   go_upto_if 173 with fail
   go_cut [23,24,25,26,27,28,29,30] (fun _ _ _ _ _ _ _ _ wx=>Below w9.heap.size w9 wx)
   case first=>as_aux_lemma=>
    cases wb
    ·go_wp2_with fail
     go_meet
     exact Below.refl _ _
    ·obtain⟨hrs,hgo⟩:=HRS.out rfl
     have HPE:=hDD (HPD.out rfl)
     have HRE:=hDD hrs
     have HGO:=hDD hgo
     clear hrs hgo HRS HPD
     go_wp2_with fail
     refine(HCF.out _ U.out).mono ?_
     rintro e wa ⟨zv,rfl,oz,b⟩
     obtain⟨Az,cz,rfl,_⟩:=oz.form
     have Z:=hDD oz.rd
     have BC:=hDD b
     replace U:=hDD (U.out.below b)
     replace Y2:=hDD (Y2.out.below b)
     replace T1:=hDD (T1.out.below b)
     clear oz b HCF
     generalize cycF xs=z0 at*
     go_wp2_with fail
     go_loopw [23,24] (fun zv iv wr=> ∃(i:Nat) (z:List Int) (A:Option Addr) (c:Nat),i≤ls.length∧iv= .int .i64 i∧zv= .slice A z.length c∧RdI wr (.slice A z.length c) z∧goodF n z∧RedS n z (ls.drop i) ys∧Below wa.heap.size wa wr) (fun _ iv _=>ls.length-(intOf iv).toNat)
     case atStart=>exact⟨0,z0,Az,cz,Nat.zero_le _,rfl,rfl,Z.out,HGO.out,HRE.out,Below.refl _ _⟩
     case round=>
      clear HRE HGO Z
      obtain⟨i,z,A,c,hil,rfl,rfl,hz,hg,hrs,hB⟩:=hrel
      have hsb:=hB.size
      have BL:=hDD hB
      have Z:=hDD hz
      have HG:=hDD hg
      have HRS:=hDD hrs
      have hz24:=hg.2.2.1
      replace U:=hDD (U.out.below hB)
      replace Y2:=hDD (Y2.out.below hB)
      replace T1:=hDD (T1.out.below hB)
      clear hz hg hrs hB
      by_cases hlt:i<ls.length
      ·have hltI:(i:Int)<(ls.length:Int):=by omega
       obtain⟨lg,s,rfl,hlg,y0,y1,hdi,od⟩:=T1.out.at hlt
       obtain⟨As,cs,rfl,_⟩:=od.form
       have HAW:Hid (ArgWh wr (.agg #[.int .i64 ls[i].1, .slice As ls[i].2.length cs]) ls[i]):=hDD ⟨_,rfl,hdi,od.arg⟩
       have HST:Hid (shortF n z=some ls[i]∧RedS n (cycF (whX n ls[i] z)) (ls.drop (i+1)) ys):=hDD (by
        have:=HRS.out
        rw[List.drop_eq_getElem_cons hlt] at this
        exact this.head)
       have hwk:IntKind.i64.wrap ((i:Int)+1)=((i+1:Nat):Int):=by rw[IntKind.wrap_i64];omega
       generalize ls[i]=d at*
       obtain⟨hsh,hnx⟩:=HST.out
       obtain⟨hwh,hd4⟩:=short_wh HG.out hsh
       have hlts:=shortF_lt hsh
       have HNX:=hDD hnx
       have HGN:=hDD (goodF_next HG.out hsh)
       have HWM:=hDD (fun W (h:ArgWh W (.agg #[.int .i64 d.1, .slice As d.2.length cs]) d)=>specWhiteheadMorphism_any n _ d W hnI h (by omega))
       rw[hwh] at HWM
       have hap:=app_wh hwh HG.out.word
       have HML:=hDD (whM_len (r:=n) (d:=d))
       have hm1:(whM n d).1=n:=by unfold whM;rw[if_pos hwh]
       have hmI:=whM_I64 d hnI
       have hxl:=whX_len n d z
       unfold whX at hlts hnx hxl
       obtain⟨⟨m1,B⟩,hmm⟩: ∃m,whM n d=m:=⟨_,rfl⟩
       have HXE:Hid (whX n d z=expL B z):=hDD (by unfold whX;rw[hmm])
       rw[hmm] at HWM hap HML hm1 hlts hmI hxl
       simp only at HWM hap HML hm1 hlts hmI hxl
       have HLT:=hDD hlts
       have HAP:=hDD (fun W v u (h:ArgM W v (m1,B)) (h':RdI W u z)=>specApplyMorphism_any v u (m1,B) z W h h' (by have:=HML.out.1;simp only;omega) (fun x hx=>by have:=HML.out.2.1 x hx;omega) (by omega))
       rw[hap] at HAP
       simp only at HAP
       have HMI:=hDD hmI
       clear hsh hnx hwh hd4 hlts hap hm1 hmI hmm HST HRS od hdi HML
       generalize whX n d z=vx at*
       obtain rfl:=HXE.out
       generalize expL B z=vx at*
       go_wp2_with fail
       refine(HWM.out _ HAW.out).mono ?_
       rintro e wb ⟨s8,rfl,o8,b⟩
       obtain⟨A8,c8,rfl,_⟩:=o8.len
       have L8:=hDD o8.rd
       replace U:=hDD (U.out.below b)
       replace Y2:=hDD (Y2.out.below b)
       replace T1:=hDD (T1.out.below b)
       replace Z:=hDD (Z.out.below b)
       replace BL:=hDD (BL.out.trans (b.mono hsb))
       clear o8 b HWM HAW y0 y1
       obtain⟨wc,hwc⟩: ∃W,W=wb.alloc (Obj.cells #[Value.int IntKind.i64 m1, .slice A8 B.length c8] 31):=⟨_,rfl⟩
       obtain⟨xwc,bwc,swc⟩:=MBx.new hwc
       have N:=hDD xwc
       replace U:=hDD (U.out.below bwc)
       replace Y2:=hDD (Y2.out.below bwc)
       replace T1:=hDD (T1.out.below bwc)
       replace Z:=hDD (Z.out.below bwc)
       replace L8:=hDD (L8.out.below bwc)
       clear xwc bwc swc
       replace BL:=hDD (BL.out.trans (show Below wa.heap.size wb wc by rw[hwc];exact(Below.refl _ _).alloc BL.out.size _))
       go_wp2_with fail
       rw[←hwc]
       clear hwc
       refine(HAP.out _ _ _ ⟨_,rfl,HMI.out,L8.out⟩ Z.out).mono ?_
       rintro e wd ⟨v9,rfl,o9,b⟩
       obtain⟨A9,c9,rfl,_⟩:=o9.form
       have X:=hDD o9.rd
       replace U:=hDD (U.out.below b)
       replace Y2:=hDD (Y2.out.below b)
       replace T1:=hDD (T1.out.below b)
       replace BL:=hDD (BL.out.trans (b.mono BL.out.size))
       clear o9 b HAP L8 N Z
       have HCL:=hDD (fun W (h:RdI W (.slice A9 vx.length c9) vx)=>specCyclicLength_any _ vx W h (by omega))
       have HCY:=hDD (fun W (h:RdI W (.slice A9 vx.length c9) vx)=>specCyclicForm_any _ vx W h (by omega))
       have hge: ¬(z.length:Int)≤((coreF vx).length:Int):=by have:=HLT.out;omega
       have hgn: ¬z.length≤(coreF vx).length:=by omega
       clear HLT
       generalize (coreF vx).length=cl at*
       go_wp2_with fail
       refine(HCL.out _ X.out).mono ?_
       rintro e we ⟨rfl,b⟩
       replace U:=hDD (U.out.below b)
       replace Y2:=hDD (Y2.out.below b)
       replace T1:=hDD (T1.out.below b)
       replace X:=hDD (X.out.below b)
       replace BL:=hDD (BL.out.trans (b.mono BL.out.size))
       clear b HCL
       go_wp2_with fail
       refine(HCY.out _ X.out).mono ?_
       rintro e wf ⟨v9,rfl,o9,b⟩
       obtain⟨Aq,cq,rfl,_⟩:=o9.form
       have Z:=hDD o9.rd
       replace BL:=hDD (BL.out.trans (b.mono BL.out.size))
       clear b o9 HCY hge hgn
       go_wp2
       go_roundw
       case rel=>exact⟨i+1,_,Aq,cq,by omega,by go_num,rfl,Z.out,HGN.out,HNX.out,BL.out⟩
       case measure=>(simp[intOf];omega)
      ·obtain rfl:i=ls.length:=by omega
       have hltI: ¬(ls.length:Int)<(ls.length:Int):=by omega
       have hlast:=HRS.out
       rw[List.drop_length] at hlast
       obtain⟨hsn,rfl⟩:=hlast.last
       have HSC:=hDD (fun W (h:RdI W (.slice A6 ys.length c6) ys)=>implShortenCyclic_any n _ ys W hnI h (by omega))
       rw[shF_none HG.out hsn] at HSC
       clear hlast hsn HRS HG
       go_wp2_with fail
       refine(HSC.out _ Y2.out).mono ?_
       rintro e wb ⟨tv,rfl,⟨s,rfl,-,os⟩,b⟩
       obtain⟨As,cs,rfl,_⟩:=os.form
       simp only at os⊢
       replace U:=hDD (U.out.below b)
       replace Y2:=hDD (Y2.out.below b)
       replace Z:=hDD (Z.out.below b)
       replace BL:=hDD (BL.out.trans (b.mono hsb))
       clear os b HSC
       obtain⟨wc,hwc⟩: ∃W,W=wb.alloc (Obj.cells #[Value.int IntKind.i64 0, .slice As 0 cs] 26):=⟨_,rfl⟩
       obtain⟨xwc,bwc,swc⟩:=MBx.new hwc
       have N:=hDD xwc
       replace U:=hDD (U.out.below bwc)
       replace Y2:=hDD (Y2.out.below bwc)
       replace Z:=hDD (Z.out.below bwc)
       clear xwc bwc swc
       replace BL:=hDD (BL.out.trans (show Below wa.heap.size wb wc by rw[hwc];exact(Below.refl _ _).alloc BL.out.size _))
       go_wp2_with fail
       rw[←hwc]
       clear hwc N
       refine(sameI _ _ ys ys _ Z.out Y2.out).mono ?_
       rintro e wd ⟨rfl,b⟩
       replace U:=hDD (U.out.below b)
       replace BL:=hDD (BL.out.trans (b.mono BL.out.size))
       clear b Z Y2
       simp only[decide_true]
       go_wp2_with fail
       refine(HP1.out _ U.out).mono ?_
       rintro e we ⟨rfl,b⟩
       replace U:=hDD (U.out.below b)
       replace BL:=hDD (BL.out.trans (b.mono BL.out.size))
       clear b HP1
       cases pb
       ·go_wp2_with fail
        go_meet
        exact BC.out.trans (BL.out.mono BC.out.size)
       ·obtain⟨hpw,rfl⟩:=HPE.out rfl
        have HPX:=hDD hpw
        clear hpw HPE
        go_wp2_with fail
        refine(HPW.out _ U.out).mono ?_
        rintro e wf ⟨bp,rfl,hbp,b⟩
        obtain rfl:bp=false:=by
         cases bp
         ·rfl
         ·obtain⟨d,m,h1,h2,h3⟩:=hbp rfl
          exact(HPX.out d m h1 h2 h3).elim
        replace U:=hDD (U.out.below b)
        replace BL:=hDD (BL.out.trans (b.mono BL.out.size))
        clear b hbp HPX HPW
        go_wp2_with fail
        refine(HDV.out _ U.out).mono ?_
        rintro e wg ⟨rfl,b⟩
        replace BL:=hDD (BL.out.trans (b.mono BL.out.size))
        clear b HDV
        go_wp2_with fail
        go_meet
        exact BC.out.trans (BL.out.mono BC.out.size)
   case rest=>as_aux_lemma=>
    have b:=hcut
    clear hcut HP1 HCF HPW HDV HRS HPD hnI U Y2 T1 h51 h52
    replace V:=hDD (V.out.below b)
    replace BZ:=hDD (BZ.out.trans (b.mono BZ.out.size))
    clear b
    rename World=>wf
    have HDA:=hDD (fun W (h:ArgC W (.slice A0 x0.length c0) x0)=>drawAll_any _ x0 W h hl')
    go_wp2_with fail
    refine(HDA.out _ V.out).mono ?_
    rintro e w3 ⟨q,rfl,⟨hq1,hq5⟩,b⟩
    replace V:=hDD (V.out.below b)
    replace BZ:=hDD (BZ.out.trans (b.mono BZ.out.size))
    clear b HDA
    have HA1:=hDD (fun W=>implAllWhitehead_any q W)
    have HA2:=hDD (fun W=>specAllWhitehead_any q W)
    generalize allWh q=LL at*
    go_wp2_with fail
    refine(HA1.out _).mono ?_
    rintro e w4 ⟨t4,rfl,ot,b⟩
    have T1:WhR w4 t4 LL:=⟨_,_,ot,Nat.le_refl _⟩
    obtain⟨A5,c5,rfl,h51,h52⟩:=T1.form
    replace T1:=hDD T1
    replace V:=hDD (V.out.below b)
    replace BZ:=hDD (BZ.out.trans (b.mono BZ.out.size))
    clear ot b HA1
    go_wp2_with fail
    refine(HA2.out _).mono ?_
    rintro e w5 ⟨t5,rfl,ot,b⟩
    have T2:WhR w5 t5 LL:=⟨_,_,ot,Nat.le_refl _⟩
    obtain⟨A7,c7,rfl,h71,h72⟩:=T2.form
    replace T2:=hDD T2
    replace V:=hDD (V.out.below b)
    replace T1:=hDD (T1.out.below b)
    replace BZ:=hDD (BZ.out.trans (b.mono BZ.out.size))
    clear ot b HA2 h71 h72
    unfold maxLen at h52
    go_wp2_with fail
    go_loopw [34] (fun iv wr=> ∃i:Nat,i≤LL.length∧iv= .int .i64 i∧Below w5.heap.size w5 wr) (fun iv _=>LL.length-(intOf iv).toNat)
    case atStart=>exact⟨0,Nat.zero_le _,rfl,Below.refl _ _⟩
    case round=>
     obtain⟨i,hil,rfl,hB⟩:=hrel
     have hsb:=hB.size
     have BL:=hDD hB
     replace V:=hDD (V.out.below hB)
     replace T1:=hDD (T1.out.below hB)
     replace T2:=hDD (T2.out.below hB)
     replace BZ:=hDD (BZ.out.trans (hB.mono BZ.out.size))
     clear hB
     by_cases hlt:i<LL.length
     ·have hltI:(i:Int)<(LL.length:Int):=by omega
      obtain⟨g1,s1,rfl,hg1,y0,y1,hdi,od⟩:=T1.out.at hlt
      obtain⟨g2,s2,rfl,hg2,z0',z1',-,od'⟩:=T2.out.at hlt
      obtain⟨As,cs,rfl,_⟩:=od.form
      obtain⟨At,ct,rfl,_⟩:=od'.form
      have R1:=hDD od.rd
      have R2:=hDD od'.rd
      have hwk:IntKind.i64.wrap ((i:Int)+1)=((i+1:Nat):Int):=by rw[IntKind.wrap_i64];omega
      clear od od' hdi
      generalize LL[i]=d at*
      obtain⟨d1,ds⟩:=d
      simp only at y0 y1 z0' z1' R1 R2
      go_wp2_with fail
      refine wp_region_genG2 [] [.val (.slice (some ⟨g1,0,none⟩) LL.length c5), .val (.int .i64 i), .val (.pointer (some ⟨g1,i*2,none⟩)), .val (.pointer (some ⟨g1,i*2,none⟩)), .val (.int .i64 d1), .val (.slice (some ⟨g2,0,none⟩) LL.length c7), .val (.int .i64 i), .val (.pointer (some ⟨g2,i*2,none⟩)), .val (.pointer (some ⟨g2,i*2,none⟩)), .val (.int .i64 d1), .val (.bool false), .val (.bool false), .val (.slice (some ⟨g1,0,none⟩) LL.length c5), .val (.int .i64 i), .val (.pointer (some ⟨g1,i*2,none⟩)), .val (.pointer (some ⟨g1,i*2+1,none⟩)), .val (.slice As ds.length cs), .val (.slice (some ⟨g2,0,none⟩) LL.length c7), .val (.int .i64 i), .val (.pointer (some ⟨g2,i*2,none⟩)), .val (.pointer (some ⟨g2,i*2+1,none⟩)), .val (.slice At ds.length ct), .val (.bool true), .val (.bool false), .val (.bool false)]
       [none,none,none,none,none,none,none,none,none,none,none,none,none,none,none,none,none,none,none,none,none,none,some (fun W W'=>Below W.heap.size W W'),none,none]
       (fun W=>Below wr.heap.size wr W) (fun _=>True) [] [] (by kernel_rfl) (by kernel_rfl) (by kernel_rfl)
       trivial (by rfl) (by rfl) (Below.refl _ _).drew trivial
       ⟨fun _ _ h t=>h.trans (t.mono h.size),trivial⟩ (itD_nil _ 0)
       trivial (fun vs=> ?_)
      refine⟨fun W' K' Q0 hI hD hK=> ?_,?_⟩
      ·skip
       go_simp
       exact hK.out _ _ rfl rfl
      simp only[Act.put,List.setIfInBounds_toArray,List.set_cons_zero,List.set_cons_succ,Sg.pick,Nat.reduceAdd]
      refine⟨fun W' K' Q0 hI hD hK=> ?_,?_⟩
      ·skip
       go_simp
       exact hK.out _ _ rfl rfl
      simp only[Act.put,List.setIfInBounds_toArray,List.set_cons_zero,List.set_cons_succ,Sg.pick,Nat.reduceAdd]
      refine⟨fun W' K' Q0 hI hD hK=> ?_,?_⟩
      ·skip
       go_simp
       exact hK.out _ _ rfl rfl
      simp only[Act.put,List.setIfInBounds_toArray,List.set_cons_zero,List.set_cons_succ,Sg.pick,Nat.reduceAdd]
      refine⟨fun W' K' Q0 hI hD hK=> ?_,?_⟩
      ·skip
       go_simp
       exact hK.out _ _ rfl rfl
      simp only[Act.put,List.setIfInBounds_toArray,List.set_cons_zero,List.set_cons_succ,Sg.pick,Nat.reduceAdd]
      refine⟨fun W' K' Q0 hI hD hK=> ?_,?_⟩
      ·have z0:=(hI.out.1.cell (p:=⟨g1,i*2,none⟩) hg1).trans y0
       go_simp
       exact hK.out _ _ rfl rfl
      simp only[Act.put,List.setIfInBounds_toArray,List.set_cons_zero,List.set_cons_succ,Sg.pick,Nat.reduceAdd]
      refine⟨fun W' K' Q0 hI hD hK=> ?_,?_⟩
      ·skip
       go_simp
       exact hK.out _ _ rfl rfl
      simp only[Act.put,List.setIfInBounds_toArray,List.set_cons_zero,List.set_cons_succ,Sg.pick,Nat.reduceAdd]
      refine⟨fun W' K' Q0 hI hD hK=> ?_,?_⟩
      ·skip
       go_simp
       exact hK.out _ _ rfl rfl
      simp only[Act.put,List.setIfInBounds_toArray,List.set_cons_zero,List.set_cons_succ,Sg.pick,Nat.reduceAdd]
      refine⟨fun W' K' Q0 hI hD hK=> ?_,?_⟩
      ·skip
       go_simp
       exact hK.out _ _ rfl rfl
      simp only[Act.put,List.setIfInBounds_toArray,List.set_cons_zero,List.set_cons_succ,Sg.pick,Nat.reduceAdd]
      refine⟨fun W' K' Q0 hI hD hK=> ?_,?_⟩
      ·skip
       go_simp
       exact hK.out _ _ rfl rfl
      simp only[Act.put,List.setIfInBounds_toArray,List.set_cons_zero,List.set_cons_succ,Sg.pick,Nat.reduceAdd]
      refine⟨fun W' K' Q0 hI hD hK=> ?_,?_⟩
      ·have z0:=(hI.out.1.cell (p:=⟨g2,i*2,none⟩) hg2).trans z0'
       go_simp
       exact hK.out _ _ rfl rfl
      simp only[Act.put,List.setIfInBounds_toArray,List.set_cons_zero,List.set_cons_succ,Sg.pick,Nat.reduceAdd]
      refine⟨fun W' K' Q0 hI hD hK=> ?_,?_⟩
      ·skip
       go_simp
       exact hK.out _ _ rfl rfl
      simp only[Act.put,List.setIfInBounds_toArray,List.set_cons_zero,List.set_cons_succ,Sg.pick,Nat.reduceAdd]
      refine⟨fun W' K' Q0 hI hD hK=> ?_,?_⟩
      ·skip
       go_simp
       exact hK.out _ _ rfl rfl
      simp only[Act.put,List.setIfInBounds_toArray,List.set_cons_zero,List.set_cons_succ,Sg.pick,Nat.reduceAdd]
      refine⟨fun W' K' Q0 hI hD hK=> ?_,?_⟩
      ·skip
       go_simp
       exact hK.out _ _ rfl rfl
      simp only[Act.put,List.setIfInBounds_toArray,List.set_cons_zero,List.set_cons_succ,Sg.pick,Nat.reduceAdd]
      refine⟨fun W' K' Q0 hI hD hK=> ?_,?_⟩
      ·skip
       go_simp
       exact hK.out _ _ rfl rfl
      simp only[Act.put,List.setIfInBounds_toArray,List.set_cons_zero,List.set_cons_succ,Sg.pick,Nat.reduceAdd]
      refine⟨fun W' K' Q0 hI hD hK=> ?_,?_⟩
      ·skip
       go_simp
       exact hK.out _ _ rfl rfl
      simp only[Act.put,List.setIfInBounds_toArray,List.set_cons_zero,List.set_cons_succ,Sg.pick,Nat.reduceAdd]
      refine⟨fun W' K' Q0 hI hD hK=> ?_,?_⟩
      ·skip
       go_simp
       exact hK.out _ _ rfl rfl
      simp only[Act.put,List.setIfInBounds_toArray,List.set_cons_zero,List.set_cons_succ,Sg.pick,Nat.reduceAdd]
      refine⟨fun W' K' Q0 hI hD hK=> ?_,?_⟩
      ·have z0:=(hI.out.1.cell (p:=⟨g1,i*2+1,none⟩) hg1).trans y1
       go_simp
       exact hK.out _ _ rfl rfl
      simp only[Act.put,List.setIfInBounds_toArray,List.set_cons_zero,List.set_cons_succ,Sg.pick,Nat.reduceAdd]
      refine⟨fun W' K' Q0 hI hD hK=> ?_,?_⟩
      ·skip
       go_simp
       exact hK.out _ _ rfl rfl
      simp only[Act.put,List.setIfInBounds_toArray,List.set_cons_zero,List.set_cons_succ,Sg.pick,Nat.reduceAdd]
      refine⟨fun W' K' Q0 hI hD hK=> ?_,?_⟩
      ·skip
       go_simp
       exact hK.out _ _ rfl rfl
      simp only[Act.put,List.setIfInBounds_toArray,List.set_cons_zero,List.set_cons_succ,Sg.pick,Nat.reduceAdd]
      refine⟨fun W' K' Q0 hI hD hK=> ?_,?_⟩
      ·skip
       go_simp
       exact hK.out _ _ rfl rfl
      simp only[Act.put,List.setIfInBounds_toArray,List.set_cons_zero,List.set_cons_succ,Sg.pick,Nat.reduceAdd]
      refine⟨fun W' K' Q0 hI hD hK=> ?_,?_⟩
      ·skip
       go_simp
       exact hK.out _ _ rfl rfl
      simp only[Act.put,List.setIfInBounds_toArray,List.set_cons_zero,List.set_cons_succ,Sg.pick,Nat.reduceAdd]
      refine⟨fun W' K' Q0 hI hD hK=> ?_,?_⟩
      ·have z0:=(hI.out.1.cell (p:=⟨g2,i*2+1,none⟩) hg2).trans z1'
       go_simp
       exact hK.out _ _ rfl rfl
      simp only[Act.put,List.setIfInBounds_toArray,List.set_cons_zero,List.set_cons_succ,Sg.pick,Nat.reduceAdd]
      refine⟨fun W' K' Q0 hI hD hK=> ?_,?_⟩
      ·skip
       go_simp
       refine(sameI _ _ ds ds _ (R1.out.below hI.out.1) (R2.out.below hI.out.1)).mono ?_;rintro e w' ⟨rfl,b⟩;simp only[decide_true];exact hK.out _ _ b rfl
      simp only[Act.put,List.setIfInBounds_toArray,List.set_cons_zero,List.set_cons_succ,Sg.pick,Nat.reduceAdd]
      refine⟨fun W' K' Q0 hI hD hK=> ?_,?_⟩
      ·skip
       go_simp
       exact hK.out _ _ rfl rfl
      simp only[Act.put,List.setIfInBounds_toArray,List.set_cons_zero,List.set_cons_succ,Sg.pick,Nat.reduceAdd]
      refine⟨fun W' K' Q0 hI hD hK=> ?_,?_⟩
      ·skip
       go_simp
       exact hK.out _ _ rfl rfl
      simp only[Act.put,List.setIfInBounds_toArray,List.set_cons_zero,List.set_cons_succ,Sg.pick,Nat.reduceAdd]
      intro W9 hI9 hD9
      have I9:=hDD hI9.out.1
      clear hI9 hD9
      replace BL:=hDD (BL.out.trans (I9.out.mono hsb))
      go_wp2
      go_roundw
      case rel=>exact⟨i+1,by omega,by go_num,BL.out⟩
      case measure=>(simp[intOf];omega)
     ·have hltI: ¬(i:Int)<(LL.length:Int):=by omega
      clear T1 T2 BL
      have HDS:=hDD (fun W (h:ArgC W (.slice A0 x0.length c0) x0)=>drawSho_any _ x0 W h hl')
      go_wp2_with fail
      refine(HDS.out _ V.out).mono ?_
      rintro e wa ⟨n,uv,xs,rfl,⟨hn1,hn3⟩,ou,hx13,b⟩
      obtain⟨Au,cu,rfl,_⟩:=ou.form
      have U:=hDD ou.rd
      replace BZ:=hDD (BZ.out.trans (b.mono BZ.out.size))
      clear ou b HDS V
      have hnI:I64 n:=⟨by omega,by omega⟩
      have HS1:=hDD (fun W (h:RdI W (.slice Au xs.length cu) xs)=>implShortenCyclic_any n _ xs W hnI h (by omega))
      have HS2:=hDD (fun W (h:RdI W (.slice Au xs.length cu) xs)=>specShortenCyclic_any n _ xs W hnI h (by omega))
      obtain⟨⟨⟨d1,ds⟩,sb⟩,hsh⟩: ∃p,shF n xs=p:=⟨_,rfl⟩
      rw[hsh] at HS1 HS2
      simp only at HS1 HS2
      clear hsh
      go_wp2_with fail
      refine(HS1.out _ U.out).mono ?_
      rintro e wb ⟨tv,rfl,⟨s,rfl,hdi,os⟩,b⟩
      obtain⟨As,cs,rfl,_⟩:=os.form
      have R1:=hDD os.rd
      simp only at R1
      replace U:=hDD (U.out.below b)
      replace BZ:=hDD (BZ.out.trans (b.mono BZ.out.size))
      clear os b HS1
      obtain⟨wc,hwc⟩: ∃W,W=wb.alloc (Obj.cells #[Value.int IntKind.i64 d1, .slice As ds.length cs] 26):=⟨_,rfl⟩
      obtain⟨xwc,bwc,swc⟩:=MBx.new hwc
      have N1:=hDD xwc
      replace U:=hDD (U.out.below bwc)
      replace R1:=hDD (R1.out.below bwc)
      replace BZ:=hDD (BZ.out.trans (bwc.mono BZ.out.size))
      clear xwc bwc swc
      go_wp2_with fail
      rw[←hwc]
      clear hwc
      generalize wb.heap.size=q1 at*
      refine(HS2.out _ U.out).mono ?_
      rintro e wd ⟨tv,rfl,⟨s,rfl,-,os⟩,b⟩
      obtain⟨At,ct,rfl,_⟩:=os.form
      have R2:=hDD os.rd
      simp only at R2
      replace R1:=hDD (R1.out.below b)
      replace N1:=hDD (N1.out.below b)
      replace BZ:=hDD (BZ.out.trans (b.mono BZ.out.size))
      clear os b HS2 U
      obtain⟨we,hwe⟩: ∃W,W=wd.alloc (Obj.cells #[Value.int IntKind.i64 d1, .slice At ds.length ct] 26):=⟨_,rfl⟩
      obtain⟨xwe,bwe,swe⟩:=MBx.new hwe
      have N2:=hDD xwe
      replace R1:=hDD (R1.out.below bwe)
      replace R2:=hDD (R2.out.below bwe)
      replace N1:=hDD (N1.out.below bwe)
      replace BZ:=hDD (BZ.out.trans (bwe.mono BZ.out.size))
      clear xwe bwe swe
      have uN10:=N1.out.c0
      have uN11:=N1.out.c1
      rw[hwe] at uN10 uN11
      go_wp2_with fail
      rw[←hwe]
      refine(sameI _ _ ds ds _ R1.out R2.out).mono ?_
      rintro e wf ⟨rfl,b⟩
      replace BZ:=hDD (BZ.out.trans (b.mono BZ.out.size))
      clear b
      simp only[decide_true]
      go_wp2
      go_ret
      exact⟨rfl,BZ.out⟩
set_option maxRecDepth 100000 in
theorem lifted (os:Os) (started:os.Started) (H:Type) (enc:TypeId×Value→H):
  ReturnsInHanded {} Tryz.checked os 3 .any (Rows.fnWhiteheadSpec.pre6 enc Tryz.prog Tryz.f3 Rows.fnWhiteheadRow.domain false) (Rows.fnWhiteheadSpec.post enc Tryz.prog Tryz.f3 false true false false):=by
 refine returnsInHanded_of_change (C:=Tryz.checked) own started (by kernel_rfl) Tryz.func3
  (ChangeSpec.witness6 (enc:=enc) (C:=Tryz.checked) false ⟨#[],#[.slice none 0 0],[]⟩ 8 (by kernel_rfl) (by kernel_rfl) (by kernel_rfl) (by kernel_rfl)) ?_
 intro W base args ds gs before hval0 hW hcnd _
 have hval: ∀(j:Nat) t v,Tryz.f3.params[j]? =some t→args[j]? =some v→Value.okWide Tryz.prog W .any base t v:=hval0
 have hW':=hW
 obtain⟨p,q,hA0,hV,rfl,hfz,hnd⟩:=hW
 have hA:DataW.TrodAll enc Tryz.prog W 0 (fun _=>true) true Tryz.f3.params.toList args.toList ds p:=hA0
 rw[Tryz.params3] at hA hval
 obtain⟨v0,vs0,d0,ds0,p0,q0,hargs,rfl,rfl,h0,r0⟩:=trodAll_cons hA
 obtain⟨rfl,rfl,rfl⟩:=trodAll_nil r0
 obtain rfl:args= #[v0]:=by cases args;simp_all
 obtain⟨rfl,rfl⟩:=trodVars_none hV
 have k0:=h0
 have lt0: ∀x∈p0,x.block<W.heap.size:=by obtain⟨m,hm⟩:=k0;exact DataW.trod_lt m _ _ _ hm
 obtain⟨x0,a0⟩:=open_argB (hval 0 22 v0 rfl rfl) h0
 clear hA0 hval0
 refine(walk v0 x0 W a0).mono fun e W' ⟨he,bel⟩=> ?_
 subst he
 exact⟨_,rfl,_,_,_,[],_,[],hW',trodAll_mk1 (shut_bool Tryz.underlying4 _),(trodAll_cons_mk (Below.trod laidOut (by kernel_rfl) (of_decide_eq_true (by kernel_rfl)) k0 bel lt0) trodAll_mk0),rfl,bel.frame _,fun h=>by cases h⟩
theorem proved:Rows.FnWhiteheadSaid:=
 OpenClaim.holds_of_wide 3 Tryz.f3 rfl rfl rfl rfl rfl rfl rfl ⟨rfl,rfl,rfl,rfl,rfl⟩ rfl rfl rfl rfl rfl (by as_aux_lemma=>kernel_rfl) Tryz.func3 closed
  (of_decide_eq_true (by as_aux_lemma=>kernel_rfl)) (by unfold Func.isWrapper;first | (rw[if_pos (by decide+kernel)];kernel_rfl) | (rw[if_neg (by decide+kernel)];exact⟨rfl,rfl⟩))
  (fun os started H enc _=>lifted os started H enc)
#print axioms proved
end Go.Proofs.YtlgcflpaekbopaaGreat.fnWhitehead
