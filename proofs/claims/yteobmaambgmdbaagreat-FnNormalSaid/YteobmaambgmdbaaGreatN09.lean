/- Parts of the proof: NorW, Rgh, SamG, FrameB. -/
import Derived.Test.YteobmaambgmdbaaGreatN08
import Derived.Test.YteobmaambgmdbaaGreatN07
import Derived.Test.YteobmaambgmdbaaGreatN01
namespace Go.Proofs.YteobmaambgmdbaaGreat
set_option maxRecDepth 20000
set_option linter.unusedVariables false
set_option linter.unusedSimpArgs false
open Go.RowKit
def nrU (g:GrD) (k:Nat):List (List Int):=((List.range k).filter fun (v:Nat)=>decide (movG g v=g)).map fun (v:Nat)=>wdO g v
theorem nrU_succ (g:GrD) (k:Nat):nrU g (k+1)=nrU g k++if movG g k=g then [wdO g k] else []:=by
 unfold nrU
 rw[List.range_succ,List.filter_append,List.map_append,List.filter_cons,List.filter_nil]
 by_cases q:movG g k=g
 ·rw[if_pos (decide_eq_true q),if_pos q];rfl
 ·rw[if_neg (by rw[decide_eq_false q];decide),if_neg q];rfl
theorem nrU_len (g:GrD) (k:Nat):(nrU g k).length≤k:=by
 unfold nrU
 rw[List.length_map]
 have:=List.length_filter_le (fun (v:Nat)=>decide (movG g v=g)) (List.range k)
 rwa [List.length_range] at this
set_option maxHeartbeats 1000000 in
theorem specNormalizerWords_any (v:Value) (g:GrD) (w:World) (h:ArgG w v g):
  Calls Tryz.prog 49 #[v] w fun e w'=> ∃r,e= .returned r∧OwII w.heap.size w'.heap.size r (nrmL g) w'∧Below w.heap.size w w':=by
 have HG:=hDD h
 have HTV:Hid (finB g=true→nrmL g=nrU g g.2.1.toNat):=hDD fun hc=>by unfold nrmL nrU;rw[if_pos hc]
 have HTN:Hid (finB g=false→nrmL g= []):=hDD fun hc=>by unfold nrmL;rw[if_neg (by rw[hc];decide)]
 have HIS:=hDD (fun W v (h:ArgG W v g)=>specIsFiniteIndex_any v g W h)
 have HTW:Hid (finB g=true→ ∀(k:Nat) W v,(k:Int)<g.2.1→ArgG W v g→Calls Tryz.prog 79 #[v, .int .i64 k] W fun e w'=> ∃r,e= .returned r∧OwI w' W.heap.size r (wdO g k)∧Below W.heap.size W w'):=hDD fun hc k W v hk h=>specTreeWord_any v g k W h (finB_fold hc) (core_all (fin_coreB hc) ⟨by omega,hk⟩)
 have HMB:Hid (finB g=true→ ∀(k:Nat) W v,(k:Int)<g.2.1→ArgG W v g→Calls Tryz.prog 98 #[v, .int .i64 (k:Int)] W fun e w'=> ∃r,e= .returned (.tuple #[r, .bool true])∧OwG w' W.heap.size r (movG g k)∧Below W.heap.size W w'):=hDD fun hc k W v hk h=>specMoveBase_any v g k W h (finB_fold hc) hk
 have HSZ:Hid (finB g=true→1≤g.2.1∧g.2.1≤40):=hDD fun hc=>(grB_parts (coreB_grB (fin_coreB hc))).2.1
 have HEG:=hDD (fun W v u (K:GrD) (h:ArgG W v K) (h':ArgG W u g)=>specEqualGraphs_any v u K g W h h')
 have HNL:=hDD (fun k=>nrU_len g k)
 have HNS:=hDD (fun k=>nrU_succ g k)
 have HN0:Hid (nrU g 0= []):=hDD rfl
 generalize nrmL g=TV at*
 generalize nrU g=U at*
 generalize wdO g=WD at*
 generalize movG g=MV at*
 obtain⟨s,rfl,hi1,hi2,ha⟩:=h
 obtain⟨A,cap,rfl⟩:=ha.form
 obtain⟨g1,N,es⟩:=g
 simp only at*
 clear ha
 go_enter Tryz.func49,Tryz.ntmps49
 go_wp2_with fail
 obtain⟨W1,hW1⟩: ∃W,W=w.alloc (Obj.cells #[Value.int IntKind.i64 g1,Value.int IntKind.i64 N, .slice A es.length cap] 26):=⟨_,rfl⟩
 rw[←hW1]
 obtain⟨xb,b0,s0⟩:=CBx.new hW1
 clear hW1
 have O2:Hid (OwII (w.heap.size+1) (w.heap.size+2) (.slice (some ⟨w.heap.size+1,0,none⟩) 0 0) [] (W1.alloc (.cells #[] 27))):=hDD (OwII.nilT W1 _ _ s0.symm (by omega))
 have b2:Below W1.heap.size W1 (W1.alloc (.cells #[] 27)):=(Below.refl _ _).alloc (Nat.le_refl _) _
 have X2:=hDD (xb.below b2)
 have B2:=hDD (b0.trans (b2.mono (by omega)))
 have hs2:(W1.alloc (.cells #[] 27)).heap.size=w.heap.size+2:=by simp;omega
 clear xb b0 b2
 generalize W1.alloc (.cells #[] 27)=W2 at*
 clear s0
 rcases ec:finB (g1,N,es) with _ | _
 ·rw[ec] at HIS
  have HE:Hid (TV= []):=hDD (HTN.out ec)
  have u0:=X2.out.c0
  have u1:=X2.out.c1
  have u2:=X2.out.c2
  have hN0:0<N∨ ¬0<N:=Classical.em _
  go_loopw [3,4] (fun ov iv wr=>iv= .int .i64 0∧ov= .slice (some ⟨w.heap.size+1,0,none⟩) 0 0∧wr=W2) (fun _ _ _=>0)
  case atStart=>exact⟨rfl,rfl,rfl⟩
  case round=>
   obtain⟨rfl,rfl,rfl⟩:=hrel
   rcases hN0 with hn | hn
   ·go_wp2_with fail
    refine(HIS.out wr _ (HG.out.below B2.out)).mono ?_
    rintro e w3 ⟨rfl,b3⟩
    have O3:=hDD (O2.out.belowL (by omega) b3)
    have B3:=hDD (B2.out.trans (b3.mono B2.out.size))
    have hs3:=b3.size
    clear b3
    go_wp2
    exact bodyPost_ret (v:= .slice (some ⟨w.heap.size+1,0,none⟩) 0 0) (by simp[results,Tryz.results49,go_sem]) rfl ⟨_,rfl,by rw[HE.out];exact O3.out.widen (by omega) (by omega),B3.out⟩
   ·go_wp2
    exact bodyPost_ret (v:= .slice (some ⟨w.heap.size+1,0,none⟩) 0 0) (by simp[results,Tryz.results49,go_sem]) rfl ⟨_,rfl,by rw[HE.out];exact O2.out.widen (by omega) (by omega),B2.out⟩
 ·rw[ec] at HIS
  have hsz:=HSZ.out ec
  obtain⟨N,rfl⟩: ∃M:Nat,N=M:=⟨N.toNat,by omega⟩
  have HT:Hid (TV=U N):=hDD (by have:=HTV.out ec;rwa [Int.toNat_natCast] at this)
  have HWD:=hDD (fun (k:Nat) (hk:k<N)=>HTW.out ec k)
  have HMV:=hDD (fun (k:Nat) (hk:k<N)=>HMB.out ec k)
  clear ec HTV HTN
  go_loopw [3,4] (fun ov iv wr=> ∃k:Nat,k≤N∧iv= .int .i64 k∧OwII (w.heap.size+1) wr.heap.size ov (U k) wr∧Below w.heap.size w wr∧CBx wr w.heap.size (.int .i64 g1) (.int .i64 (N:Int)) (.slice A es.length cap)) (fun _ iv _=>N-(intOf iv).toNat)
  case atStart=>exact⟨0,Nat.zero_le _,rfl,by rw[HN0.out];exact O2.out.widen (Nat.le_refl _) (by omega),B2.out,X2.out⟩
  case round=>
   obtain⟨k,hk,rfl,hO,hB,hX⟩:=hrel
   have HO:=hDD hO
   have HB:=hDD hB
   have HX:=hDD hX
   have hxl:=hX.lt
   have hsr:=hB.size
   have htl:(U k).length≤40:=by have:=HNL.out k;omega
   have u0:=hX.c0
   have u1:=hX.c1
   have u2:=hX.c2
   clear hO hB hX
   by_cases hlt:k<N
   ·have hkI:(k:Int)<(N:Int):=by omega
    have HS:=hDD (HNS.out k)
    have HTR:=hDD (HWD.out k hlt)
    have HMR:=hDD (HMV.out k hlt)
    have HER:=hDD (fun W v u=>HEG.out W v u (MV k))
    generalize U k=acc at*
    generalize WD k=wk at*
    generalize MV k=K at*
    obtain⟨Ao,mo,co,rfl⟩:=OwII_any HO.out
    go_wp2_with fail
    refine(HIS.out wr _ (HG.out.below HB.out)).mono ?_
    rintro e w3 ⟨rfl,b3⟩
    have O3:=hDD (HO.out.belowL (Nat.le_refl _) b3)
    have X3:=hDD (HX.out.below b3)
    have B3:=hDD (HB.out.trans (b3.mono hsr))
    have hs3:=b3.size
    clear b3 HO HX HB u0 u1 u2
    have u0:=X3.out.c0
    have u1:=X3.out.c1
    have u2:=X3.out.c2
    go_wp2_with fail
    refine(HMR.out w3 _ hkI (HG.out.below B3.out)).mono ?_
    rintro e w5 ⟨r5,rfl,o5,b5⟩
    have O5:=hDD (O3.out.belowL (by have:=O3.out;omega) b5)
    have X5:=hDD (X3.out.below b5)
    have B5:=hDD (B3.out.trans (b5.mono (by omega)))
    have hs5:=b5.size
    obtain⟨k1,k2,ks⟩:=K
    have HK5:=hDD o5.arg
    obtain⟨s5,rfl,hj1,hj2,oe5⟩:=o5
    obtain⟨A5,c5,rfl,_⟩:=oe5.form
    simp only at*
    clear oe5 b5 O3 X3 B3 u0 u1 u2
    have HWX: ∃WX,WX=w5.alloc (Obj.cells #[Value.int IntKind.i64 k1,Value.int IntKind.i64 k2, .slice A5 ks.length c5] 26):=⟨_,rfl⟩
    obtain⟨WX,hWX⟩:=HWX
    obtain⟨xX,bX,sX⟩:=CBx.new hWX
    have OX:=hDD (O5.out.belowL (Nat.le_refl _) bX)
    have XX:=hDD (X5.out.below bX)
    have BX:=hDD (B5.out.trans (bX.mono (by omega)))
    have HKX:=hDD (HK5.out.below bX)
    have hsX:=bX.size
    have u0:=XX.out.c0
    have u1:=XX.out.c1
    have u2:=XX.out.c2
    rw[hWX] at u0 u1 u2
    clear xX bX O5 X5 B5 HK5
    go_wp2_with fail
    rw[←hWX]
    clear hWX
    refine(HER.out WX _ _ HKX.out (HG.out.below BX.out)).mono ?_
    rintro e w6 ⟨rfl,b6⟩
    have O6:=hDD (OX.out.belowL (Nat.le_refl _) b6)
    have X6:=hDD (XX.out.below b6)
    have B6:=hDD (BX.out.trans (b6.mono (by omega)))
    have hs6:=b6.size
    clear b6 OX XX BX HKX u0 u1 u2
    rcases eq:decide (((k1,k2,ks):GrD)=(g1,(N:Int),es)) with _ | _
    ·have HS1:Hid (U (k+1)=acc):=hDD (by rw[HS.out,if_neg (of_decide_eq_false eq),List.append_nil])
     clear eq
     go_wp2
     go_roundw
     case rel=>exact⟨k+1,by omega,by go_num,by rw[HS1.out];exact O6.out,B6.out,X6.out⟩
     case measure=>(simp[intOf];omega)
    ·have HS1:Hid (U (k+1)=acc++ [wk]):=hDD (by rw[HS.out,if_pos (of_decide_eq_true eq)])
     clear eq
     have u0:=X6.out.c0
     have u1:=X6.out.c1
     have u2:=X6.out.c2
     go_wp2_with fail
     refine(HTR.out w6 _ hkI (HG.out.below B6.out)).mono ?_
     rintro e w7 ⟨r7,rfl,o7,b7⟩
     have O7:=hDD (O6.out.keep EI.stable fun b _ h2=>b7.block b (by omega))
     have V7:=hDD o7
     have X7:=hDD (X6.out.below b7)
     have B7:=hDD (B6.out.trans (b7.mono (by omega)))
     have hs7:=b7.size
     obtain⟨A7,m7,c7,rfl⟩:=o7.any2
     clear o7 b7 O6 X6 B6 u0 u1 u2
     go_wp2_with (at_builtin;refine push_rows rfl (.tmp 31) (.tmp 33) rfl (O7.out.keep (w':=w7.alloc (.cells #[.slice A7 m7 c7] 27)) EI.stable fun b _ hb=>Below.heap_alloc w7 _ b (by omega)) (by omega) (by simp;omega) rfl _ _ wk rfl (V7.out.alloc _) (Nat.le_refl _) (cell_new1 _ _ _) rfl (by omega) ?_;intro v8 w8 o8 g8;have O8:=hDD o8;have G8:=hDD g8;clear o8 g8)
     have X8:=(X7.out.below ((Below.refl _ _).alloc (Nat.le_refl _) (.cells #[.slice A7 m7 c7] 27))).grown G8.out (fun b hb=>by have:=(O7.out.lt hb).1;omega)
     have B8:=(B7.out.alloc (by omega) (.cells #[.slice A7 m7 c7] 27)).grown G8.out (by simp;omega) (fun b hb=>by have:=(O7.out.lt hb).1;omega)
     go_roundw
     case rel=>exact⟨k+1,by omega,by go_num,by rw[HS1.out];exact O8.out,B8,X8⟩
     case measure=>(simp[intOf];omega)
   ·obtain rfl:N=k:=by omega
    rw[←HT.out] at HO
    obtain⟨Ao,mo,co,rfl⟩:=OwII_any HO.out
    go_wp2
    exact bodyPost_ret (v:= .slice Ao mo co) (by simp[results,Tryz.results49,go_sem]) rfl ⟨_,rfl,HO.out.widen (by omega) (Nat.le_refl _),HB.out⟩
set_option maxHeartbeats 1000000 in
theorem implNormalizerWords_any (v:Value) (g:GrD) (w:World) (h:ArgG w v g):
  Calls Tryz.prog 46 #[v] w fun e w'=> ∃r,e= .returned r∧OwII w.heap.size w'.heap.size r (nrmL g) w'∧Below w.heap.size w w':=by
 have HG:=hDD h
 have HTV:Hid (finB g=true→nrmL g=nrU g g.2.1.toNat):=hDD fun hc=>by unfold nrmL nrU;rw[if_pos hc]
 have HTN:Hid (finB g=false→nrmL g= []):=hDD fun hc=>by unfold nrmL;rw[if_neg (by rw[hc];decide)]
 have HIS:=hDD (fun W v (h:ArgG W v g)=>implIsFiniteIndex_any v g W h)
 have HTW:Hid (finB g=true→ ∀(k:Nat) W v,(k:Int)<g.2.1→ArgG W v g→Calls Tryz.prog 86 #[v, .int .i64 k] W fun e w'=> ∃r,e= .returned r∧OwI w' W.heap.size r (wdO g k)∧Below W.heap.size W w'):=hDD fun hc k W v hk h=>implTreeWordO_any v g k W h (finB_fold hc) (core_all (fin_coreB hc) ⟨by omega,hk⟩)
 have HMB:Hid (finB g=true→ ∀(k:Nat) W v,(k:Int)<g.2.1→ArgG W v g→Calls Tryz.prog 95 #[v, .int .i64 (k:Int)] W fun e w'=> ∃r,e= .returned (.tuple #[r, .bool true])∧OwG w' W.heap.size r (movG g k)∧Below W.heap.size W w'):=hDD fun hc k W v hk h=>implMoveBase_any v g k W h (finB_fold hc) hk
 have HSZ:Hid (finB g=true→1≤g.2.1∧g.2.1≤40):=hDD fun hc=>(grB_parts (coreB_grB (fin_coreB hc))).2.1
 have HEG:=hDD (fun W v u (K:GrD) (h:ArgG W v K) (h':ArgG W u g)=>implEqualGraphs_any v u K g W h h')
 have HNL:=hDD (fun k=>nrU_len g k)
 have HNS:=hDD (fun k=>nrU_succ g k)
 have HN0:Hid (nrU g 0= []):=hDD rfl
 generalize nrmL g=TV at*
 generalize nrU g=U at*
 generalize wdO g=WD at*
 generalize movG g=MV at*
 obtain⟨s,rfl,hi1,hi2,ha⟩:=h
 obtain⟨A,cap,rfl⟩:=ha.form
 obtain⟨g1,N,es⟩:=g
 simp only at*
 clear ha
 go_enter Tryz.func46,Tryz.ntmps46
 go_wp2_with fail
 obtain⟨W1,hW1⟩: ∃W,W=w.alloc (Obj.cells #[Value.int IntKind.i64 g1,Value.int IntKind.i64 N, .slice A es.length cap] 26):=⟨_,rfl⟩
 rw[←hW1]
 obtain⟨xb,b0,s0⟩:=CBx.new hW1
 clear hW1
 have O2:Hid (OwII (w.heap.size+1) (w.heap.size+2) (.slice (some ⟨w.heap.size+1,0,none⟩) 0 0) [] (W1.alloc (.cells #[] 27))):=hDD (OwII.nilT W1 _ _ s0.symm (by omega))
 have b2:Below W1.heap.size W1 (W1.alloc (.cells #[] 27)):=(Below.refl _ _).alloc (Nat.le_refl _) _
 have X2:=hDD (xb.below b2)
 have B2:=hDD (b0.trans (b2.mono (by omega)))
 have hs2:(W1.alloc (.cells #[] 27)).heap.size=w.heap.size+2:=by simp;omega
 clear xb b0 b2
 generalize W1.alloc (.cells #[] 27)=W2 at*
 clear s0
 refine(HIS.out W2 _ (HG.out.below B2.out)).mono ?_
 rintro e w3 ⟨rfl,b3⟩
 replace O2:=hDD (O2.out.belowL (by omega) b3)
 replace X2:=hDD (X2.out.below b3)
 replace B2:=hDD (B2.out.trans (b3.mono (by omega)))
 have hs3:=b3.size
 clear b3 HIS
 rcases ec:finB (g1,N,es) with _ | _
 ·have HE:Hid (TV= []):=hDD (HTN.out ec)
  go_wp2
  exact bodyPost_ret (v:= .slice (some ⟨w.heap.size+1,0,none⟩) 0 0) (by simp[results,Tryz.results46,go_sem]) rfl ⟨_,rfl,by rw[HE.out];exact O2.out.widen (by omega) (by omega),B2.out⟩
 ·skip
  have hsz:=HSZ.out ec
  obtain⟨N,rfl⟩: ∃M:Nat,N=M:=⟨N.toNat,by omega⟩
  have HT:Hid (TV=U N):=hDD (by have:=HTV.out ec;rwa [Int.toNat_natCast] at this)
  have HWD:=hDD (fun (k:Nat) (hk:k<N)=>HTW.out ec k)
  have HMV:=hDD (fun (k:Nat) (hk:k<N)=>HMB.out ec k)
  clear ec HTV HTN
  go_wp2
  go_loopw [3,4] (fun ov iv wr=> ∃k:Nat,k≤N∧iv= .int .i64 k∧OwII (w.heap.size+1) wr.heap.size ov (U k) wr∧Below w.heap.size w wr∧CBx wr w.heap.size (.int .i64 g1) (.int .i64 (N:Int)) (.slice A es.length cap)) (fun _ iv _=>N-(intOf iv).toNat)
  case atStart=>exact⟨0,Nat.zero_le _,rfl,by rw[HN0.out];exact O2.out.widen (Nat.le_refl _) (by omega),B2.out,X2.out⟩
  case round=>
   obtain⟨k,hk,rfl,hO,hB,hX⟩:=hrel
   have HO:=hDD hO
   have HB:=hDD hB
   have HX:=hDD hX
   have hxl:=hX.lt
   have hsr:=hB.size
   have htl:(U k).length≤40:=by have:=HNL.out k;omega
   have u0:=hX.c0
   have u1:=hX.c1
   have u2:=hX.c2
   clear hO hB hX
   by_cases hlt:k<N
   ·have hkI:(k:Int)<(N:Int):=by omega
    have HS:=hDD (HNS.out k)
    have HTR:=hDD (HWD.out k hlt)
    have HMR:=hDD (HMV.out k hlt)
    have HER:=hDD (fun W v u=>HEG.out W v u (MV k))
    generalize U k=acc at*
    generalize WD k=wk at*
    generalize MV k=K at*
    obtain⟨Ao,mo,co,rfl⟩:=OwII_any HO.out
    go_wp2_with fail
    have O3:=HO
    have X3:=HX
    have B3:=HB
    have hs3:=Nat.le_refl wr.heap.size
    clear HO HX HB
    obtain⟨w3,hw3⟩: ∃x,x=wr:=⟨_,rfl⟩
    rw[←hw3] at O3 X3 B3 hs3 hxl hsr u0 u1 u2⊢
    clear hw3
    refine(HMR.out w3 _ hkI (HG.out.below B3.out)).mono ?_
    rintro e w5 ⟨r5,rfl,o5,b5⟩
    have O5:=hDD (O3.out.belowL (by have:=O3.out;omega) b5)
    have X5:=hDD (X3.out.below b5)
    have B5:=hDD (B3.out.trans (b5.mono (by omega)))
    have hs5:=b5.size
    obtain⟨k1,k2,ks⟩:=K
    have HK5:=hDD o5.arg
    obtain⟨s5,rfl,hj1,hj2,oe5⟩:=o5
    obtain⟨A5,c5,rfl,_⟩:=oe5.form
    simp only at*
    clear oe5 b5 O3 X3 B3 u0 u1 u2
    have HWX: ∃WX,WX=w5.alloc (Obj.cells #[Value.int IntKind.i64 k1,Value.int IntKind.i64 k2, .slice A5 ks.length c5] 26):=⟨_,rfl⟩
    obtain⟨WX,hWX⟩:=HWX
    obtain⟨xX,bX,sX⟩:=CBx.new hWX
    have OX:=hDD (O5.out.belowL (Nat.le_refl _) bX)
    have XX:=hDD (X5.out.below bX)
    have BX:=hDD (B5.out.trans (bX.mono (by omega)))
    have HKX:=hDD (HK5.out.below bX)
    have hsX:=bX.size
    have u0:=XX.out.c0
    have u1:=XX.out.c1
    have u2:=XX.out.c2
    rw[hWX] at u0 u1 u2
    clear xX bX O5 X5 B5 HK5
    go_wp2_with fail
    rw[←hWX]
    clear hWX
    refine(HER.out WX _ _ HKX.out (HG.out.below BX.out)).mono ?_
    rintro e w6 ⟨rfl,b6⟩
    have O6:=hDD (OX.out.belowL (Nat.le_refl _) b6)
    have X6:=hDD (XX.out.below b6)
    have B6:=hDD (BX.out.trans (b6.mono (by omega)))
    have hs6:=b6.size
    clear b6 OX XX BX HKX u0 u1 u2
    rcases eq:decide (((k1,k2,ks):GrD)=(g1,(N:Int),es)) with _ | _
    ·have HS1:Hid (U (k+1)=acc):=hDD (by rw[HS.out,if_neg (of_decide_eq_false eq),List.append_nil])
     clear eq
     go_wp2
     go_roundw
     case rel=>exact⟨k+1,by omega,by go_num,by rw[HS1.out];exact O6.out,B6.out,X6.out⟩
     case measure=>(simp[intOf];omega)
    ·have HS1:Hid (U (k+1)=acc++ [wk]):=hDD (by rw[HS.out,if_pos (of_decide_eq_true eq)])
     clear eq
     have u0:=X6.out.c0
     have u1:=X6.out.c1
     have u2:=X6.out.c2
     go_wp2_with fail
     refine(HTR.out w6 _ hkI (HG.out.below B6.out)).mono ?_
     rintro e w7 ⟨r7,rfl,o7,b7⟩
     have O7:=hDD (O6.out.keep EI.stable fun b _ h2=>b7.block b (by omega))
     have V7:=hDD o7
     have X7:=hDD (X6.out.below b7)
     have B7:=hDD (B6.out.trans (b7.mono (by omega)))
     have hs7:=b7.size
     obtain⟨A7,m7,c7,rfl⟩:=o7.any2
     clear o7 b7 O6 X6 B6 u0 u1 u2
     go_wp2_with (at_builtin;refine push_rows rfl (.tmp 27) (.tmp 31) rfl (O7.out.keep (w':=w7.alloc (.cells #[.slice A7 m7 c7] 27)) EI.stable fun b _ hb=>Below.heap_alloc w7 _ b (by omega)) (by omega) (by simp;omega) rfl _ _ wk rfl (V7.out.alloc _) (Nat.le_refl _) (cell_new1 _ _ _) rfl (by omega) ?_;intro v8 w8 o8 g8;have O8:=hDD o8;have G8:=hDD g8;clear o8 g8)
     have X8:=(X7.out.below ((Below.refl _ _).alloc (Nat.le_refl _) (.cells #[.slice A7 m7 c7] 27))).grown G8.out (fun b hb=>by have:=(O7.out.lt hb).1;omega)
     have B8:=(B7.out.alloc (by omega) (.cells #[.slice A7 m7 c7] 27)).grown G8.out (by simp;omega) (fun b hb=>by have:=(O7.out.lt hb).1;omega)
     go_roundw
     case rel=>exact⟨k+1,by omega,by go_num,by rw[HS1.out];exact O8.out,B8,X8⟩
     case measure=>(simp[intOf];omega)
   ·obtain rfl:N=k:=by omega
    rw[←HT.out] at HO
    obtain⟨Ao,mo,co,rfl⟩:=OwII_any HO.out
    go_wp2
    exact bodyPost_ret (v:= .slice Ao mo co) (by simp[results,Tryz.results46,go_sem]) rfl ⟨_,rfl,HO.out.widen (by omega) (Nat.le_refl _),HB.out⟩
end Go.Proofs.YteobmaambgmdbaaGreat
namespace Go.Proofs.YteobmaambgmdbaaGreat
set_option maxRecDepth 20000
set_option linter.unusedVariables false
set_option linter.unusedSimpArgs false
open Go.RowKit
def gdB2 (l:List Oper) (L:List Sg) (G:List Nat):Bool:=(List.range l.length).all fun i=>match l[i]? with
 | none=>true
 | some o=>match o.guard with
   | none=> !G.contains i
   | some (j,want)=>reachB l l.length i j&&(match (l[j]?).bind (·.dst) with | some _=>true | none=>false)&&(match sgA L j with | .val (.bool b)=>(b==want)== !G.contains i | .val (.tuple _)=>G.contains i | _=>false)
section
variable {P:Program} {I Hs:World→Prop} {D:List Nat} {J:Nat→World→Prop} {l:List Oper} {L:List Sg} {T:List (Option (World→World→Prop))} {w:World} {a:Act} {Q:Exit→Act→World→Prop} {G:List Nat}
theorem gen_anyG2 (hB:freG l=true) (hgB:gdB2 l L G=true) (hGo:GOff L T G) (hsz: ∀(i:Nat) (o:Oper),l[i]? =some o→ ∀t,o.dst=some t→t<a.tmps.size)
  (hIT: ∀t,some t∈T→ ∀W W',I W→t W W'→I W') (hHT:ItD I Hs D T 0 T) (hst:Stb I L T (clG l L T)) (h: ∀vs,ObwG G P (JH I Hs l D) l L T vs Q l L 0 a): ∀(fuel:Nat) (listed:Array Bool) (vs:Nat→Value) (W:World),
  ((List.range l.length).filter fun j=> !listed.getD j false).length=fuel→Cl l.toArray listed→I W→((∀d∈D,listed.getD d false=false)→Hs W)→(∀j,j<l.length→(sgA L j).pick (vs j)=vs j)→(∀j,listed.getD j false=true→(sgA L j).R (maskV l j vs) W (vs j))→
  wpAny P .any l.toArray Q fuel listed (actV (fun j=>listed.getD j false) vs l 0 a) W:=by
 have hI: ∀k W W',I W→tnA T k W W'→I W':=fun k W W' hi ht=>by
  unfold tnA at ht
  cases e:T.getD k none with
  | none=>rw[e] at ht;rw[show W'=W from ht];exact hi
  | some t=>
    rw[e] at ht
    refine hIT t ?_ W W' hi ht
    rw[List.getD_eq_getElem?_getD] at e
    cases e2:T[k]? with
    | none=>rw[e2] at e;cases e
    | some q=>rw[e2] at e;simp only[Option.getD_some] at e;subst e;exact List.mem_of_getElem? e2
 have hH: ∀k W W',I W→k∉D→Hs W→tnA T k W W'→Hs W':=fun k W W' hi hk hs ht=>by
  unfold tnA at ht
  cases e:T.getD k none with
  | none=>rw[e] at ht;rw[show W'=W from ht];exact hs
  | some t=>
    rw[e] at ht
    rw[List.getD_eq_getElem?_getD] at e
    cases e2:T[k]? with
    | none=>rw[e2] at e;cases e
    | some q=>
      rw[e2] at e;simp only[Option.getD_some] at e;subst e
      rcases hHT.at k t e2 with h | h
      ·rw[Nat.zero_add] at h;exact absurd h hk
      ·exact h W W' hi hs ht
 have all: ∀(listed:Array Bool) (vs:Nat→Value) (W:World),Cl l.toArray listed→I W→((∀d∈D,listed.getD d false=false)→Hs W)→(∀j,j<l.length→(sgA L j).pick (vs j)=vs j)→(∀j,listed.getD j false=true→(sgA L j).R (maskV l j vs) W (vs j))→(∀j,j<l.length→listed.getD j false=true)→Q .normal (actV (fun j=>listed.getD j false) vs l 0 a) W:=fun listed vs W hc hb hd hp hr hl=>by
  have:=(obwG_at hp l L 0 a (fun j=>by rw[Nat.zero_add]) (fun j=>by rw[Nat.zero_add];rfl) (h vs)).2 W (hDD ⟨hb,fun ok=>hd fun d hd'=>by
   have h1:=List.all_eq_true.1 ok d hd'
   simp only[Bool.or_eq_true,beq_iff_eq] at h1
   rcases h1 with h1 | h1
   ·rw[Array.getD_eq_getD_getElem?,Array.getElem?_eq_none (by rw[hc.1,h1];simp)];rfl
   ·have h2:=reach_ltG hB _ _ _ h1
    rw[Array.getD_eq_getD_getElem?,Array.getElem?_eq_none (by rw[hc.1];simp;omega)];rfl⟩) (hDD fun j hj=>hr j (hl j hj))
  rwa [actV_congr (S':=fun _=>true) (vs':=vs) l 0 a fun j hj=>by rw[Nat.zero_add];exact⟨hl j hj,fun _=>rfl⟩]
 have none_ready: ∀(listed:Array Bool),Cl l.toArray listed→Region.ready .any l.toArray listed= []→ ∀j,j<l.length→listed.getD j false=true:=fun listed hc hr j=>by
  induction j using Nat.strongRecOn with
  | _ j ih=>
    intro hj
    by_cases q:listed.getD j false=true
    ·exact q
    ·exfalso
     have:j∈Region.ready .any l.toArray listed:=by
      rw[mem_ready]
      refine⟨by rw[getD_tf (by rw[hc.1];simpa using hj)];simpa using q,l[j],by simp[hj],fun e he hb=> ?_⟩
      have:=((freG_parts hB).2 j l[j] (List.getElem?_eq_getElem hj)).1 e he hb
      exact ih e.on this (by omega)
     rw[hr] at this
     cases this
 intro fuel
 induction fuel with
 | zero=>
   intro listed vs W hf hc hb hd hp hr
   have hl: ∀j,j<l.length→listed.getD j false=true:=fun j hj=>by
    have:=List.filter_eq_nil_iff.1 (List.eq_nil_of_length_eq_zero hf) j (List.mem_range.2 hj)
    simpa using this
   refine⟨?_,all listed vs W hc hb hd hp hr hl⟩
   cases hq:Region.ready .any l.toArray listed with
   | nil=>rfl
   | cons i r=>
     obtain⟨h1,o,ho,_⟩:=mem_ready.1 (show i∈Region.ready .any l.toArray listed by rw[hq];simp)
     have hi:i<l.length:=by simpa using (Array.getElem?_eq_some_iff.1 ho).1
     rw[getD_tf (by rw[hc.1];simpa using hi),hl i hi] at h1
     cases h1
 | succ fuel ih=>
   intro listed vs W hf hc hb hd hp hr
   refine⟨fun h0=>all listed vs W hc hb hd hp hr (none_ready listed hc h0),fun i hi=> ?_⟩
   obtain⟨h1,o,ho,hdeps⟩:=mem_ready.1 hi
   have ho':l[i]? =some o:=by simpa using ho
   have hil:i<l.length:=(List.getElem?_eq_some_iff.1 ho').1
   have his:i<listed.size:=by rw[hc.1];simpa using hil
   have hif:listed.getD i false=false:=by rw[←getD_tf his];exact h1
   obtain⟨_,hdst,hlook⟩:=(freG_parts hB).2 i o ho'
   have hsel:=fun (cs:Array SelectCase) (b:Bool)=>Region.noSelect_spec (freG_parts hB).1 i o cs b ho
   have hob0:=(obwG_at hp l L 0 a (fun j=>by rw[Nat.zero_add]) (fun j=>by rw[Nat.zero_add];rfl) (h vs)).1 i o ho'
   rw[Nat.zero_add] at hob0
   have hlst: ∀j,reachB l l.length i j=true→listed.getD j false=true:=fun j hj=>reach_listed hc l.length i j (fun o2 ho2 e he hb=>by rw[ho'] at ho2;injection ho2 with ho2;subst ho2;exact hdeps e he hb) hj
   have hno: ∀j,listed.getD j false=true→reachB l l.length j i=false:=fun j hj=>by
    cases q:reachB l l.length j i with
    | false=>rfl
    | true=>
      have:=reach_listed hc l.length j i (fun o2 ho2 e he hb=>hc.2 j o2 (by simpa using ho2) hj e he hb) q
      rw[hif] at this
      cases this
   have hwant:Region.wanted o (yielded l.toArray (actV (fun j=>listed.getD j false) vs l 0 a).tmps)= !G.contains i:=by
    have h1:=List.all_eq_true.1 hgB i (List.mem_range.2 hil)
    rw[ho'] at h1
    cases hq:o.guard with
    | none=>
      simp only[hq] at h1
      rw[wanted_none hq,h1]
    | some p=>
      obtain⟨j,want⟩:=p
      simp only[hq,Bool.and_eq_true] at h1
      obtain⟨⟨h2,h3⟩,h4⟩:=h1
      have hjl:=hlst j h2
      cases hlj:l[j]? with
      | none=>rw[hlj] at h3;cases h3
      | some oj=>
        cases hdj:oj.dst with
        | none=>rw[hlj] at h3;simp only[Option.bind_some,hdj] at h3;cases h3
        | some d=>
          have hrj:=hr j hjl
          have hjn:j<l.length:=(List.getElem?_eq_some_iff.1 hlj).1
          have hy:yielded l.toArray (actV (fun j=>listed.getD j false) vs l 0 a).tmps j=(match vs j with | .bool b=>some b | _=>none):=by
           have hg:=actV_get (S:=fun j=>listed.getD j false) (vs:=vs) (d:=d) l 0 a j oj hlj hdj (by rw[Nat.zero_add];exact hjl) (fun m o2 hm hmj=>((freG_parts hB).2 j oj hlj).2.1 m o2 hm (fun e=>hmj e.symm) d hdj) (hsz j oj hlj d hdj)
           rw[Nat.zero_add] at hg
           unfold yielded
           simp only[List.getElem?_toArray,hlj,Option.bind_some,hdj,hg]
           cases vs j<;>rfl
          cases hsj:sgA L j with
          | pur q=>rw[hsj] at h4;cases h4
          | mem q=>rw[hsj] at h4;cases h4
          | val c=>
            rw[hsj] at h4 hrj
            have hvj:vs j=c:=hrj
            cases c with
            | bool b=>
              unfold Region.wanted
              rw[hq]
              simp only[hy,hvj]
              simp only[beq_iff_eq] at h4
              rw[←h4]
              cases b<;>cases want<;>rfl
            | tuple _=>
              unfold Region.wanted
              rw[hq]
              simp only[hy,hvj]
              simp only at h4
              rw[h4]
              rfl
            | _=>cases h4
   have tail: ∀v W',tnA T i W W'→(sgA L i).R (maskV l i vs) W' v→wpAny P .any l.toArray Q fuel (listed.setIfInBounds i true) ((actV (fun j=>listed.getD j false) vs l 0 a).put o.dst v) W':=fun v W' hbv hv=>by
    have e:=actV_set (S:=fun j=>listed.getD j false) (vs:=vs) (v:=v) l 0 a i o ho' (by rw[Nat.zero_add];exact hif) fun j o2 hj hij d hd=>hdst j o2 hj hij d hd
    rw[Nat.zero_add] at e
    rw[e]
    rw[actV_congr (S':=fun j=>(listed.setIfInBounds i true).getD j false) (vs':=fun j=>if j=i then v else vs j) l 0 a fun j hj=>⟨by
     rw[Nat.zero_add]
     by_cases q:j=i
     ·subst q;simp[his]
     ·rw[decide_eq_false q,Bool.or_false,getD_set_ne false (fun e=>q e.symm)],fun _=>rfl⟩]
    have hset: ∀j,(listed.setIfInBounds i true).getD j false=true→j≠i→listed.getD j false=true:=fun j hj q=>by
     rwa [getD_set_ne false (fun e=>q e.symm)] at hj
    have hmask: ∀j,reachB l l.length j i=false→maskV l j (fun m=>if m=i then v else vs m)=maskV l j vs:=fun j hj=>by
     funext m
     unfold maskV
     by_cases q:m=i
     ·subst q;rw[if_neg (by simp[hj]),if_neg (by simp[hj])]
     ·simp only[if_neg q]
    have hii:reachB l l.length i i=false:=by
     cases q:reachB l l.length i i with
     | false=>rfl
     | true=>have:=reach_ltG hB _ _ _ q;omega
    have hI':I W':=hI i W W' hb hbv
    refine ih (listed.setIfInBounds i true) _ W' ?_ (hc.set hi) hI' (fun hd'=> ?_) (fun j hj=> ?_) (fun j hj=> ?_)
    ·have:=nlisted_set his hif l.length hil
     omega
    ·have hni:i∉D:=fun hm=>by have:=hd' i hm;simp[his] at this
     exact hH i W W' hb hni (hd fun d hdm=>by
      have hne:i≠d:=fun e=>hni (e▸hdm)
      have:=hd' d hdm
      rwa [getD_set_ne false hne] at this) hbv
    ·by_cases q:j=i
     ·subst q;simp only[if_true];exact Sg.pick_of _ _ hv
     ·simp only[if_neg q];exact hp j hj
    ·by_cases q:j=i
     ·subst q;simp only[if_true];rw[hmask _ hii];exact hv
     ·simp only[if_neg q]
      have hjl:=hset j hj q
      rw[hmask j (hno j hjl)]
      have hjn:j<l.length:=by
       by_cases q:j<l.length
       ·exact q
       ·rw[Array.getD_eq_getD_getElem?,Array.getElem?_eq_none (by rw[hc.1];simpa using q)] at hjl
        cases hjl
      have hold:=hr j hjl
      cases hs:sgA L j with
      | val c=>rw[hs] at hold;exact hold
      | pur p=>rw[hs] at hold;exact hold
      | mem p=>
        cases ht:T.getD i none with
        | none=>
          have:W'=W:=by unfold tnA at hbv;rw[ht] at hbv;exact hbv
          rw[this,←hs];exact hold
        | some t=>
          rw[←hs]
          refine hst.at (j,i) ?_ _ W W' _ hb hI' hbv hold
          unfold clG
          refine List.mem_flatMap.2 ⟨j,List.mem_range.2 hjn,List.mem_filterMap.2 ⟨i,List.mem_range.2 hil,?_⟩⟩
          rw[if_pos]
          simp only[hs,ht,Sg.isMem,Option.isSome_some,hno j hjl,Bool.not_false,Bool.and_true,Bool.true_and]
          simpa using q
   unfold wpOp
   simp only[ho]
   cases hGi:G.contains i with
   | true=>
     rw[hGi] at hwant
     rw[if_neg (by rw[hwant];decide)]
     obtain⟨hu,ht⟩:=hGo.at i hGi
     refine tail undef W ?_ ?_
     ·unfold tnA;rw[ht]
     ·rw[hu];rfl
   | false=>
   have hob:=hob0 hGi
   have hwp:=hob W (fun c W'=> ∃v,c=(actV (fun j=>decide (j<i)) vs l 0 a).put o.dst v∧(tnA T i W W'∧(sgA L i).R (maskV l i vs) W' v)) (fun e _ _=>e= .outgrown∧False) (hDD ⟨hb,fun ok=>hd fun d hd'=>by
    have h1:=List.all_eq_true.1 ok d hd'
    simp only[Bool.or_eq_true,beq_iff_eq] at h1
    rcases h1 with h1 | h1
    ·rw[h1];exact hif
    ·cases q:listed.getD d false with
     | false=>rfl
     | true=>have:=hno d q;rw[h1] at this;cases this⟩) (hDD fun j hj=>hr j (hlst j hj)) (hDD fun v W' hbv hv=>⟨v,rfl,hbv,hv⟩)
   rw[hGi] at hwant
   rw[if_pos (by rw[hwant];rfl)]
   refine .inl (wp_swap ?_ hwp (fun t ht=> ?_) fun v W' ⟨hbv,hv⟩=>tail v W' hbv hv)
   ·refine execOp_congr o (fun cs b e=>hsel cs b e) fun x hx=> ?_
    cases x with
    | tmp t=>
      refine actV_eval l 0 a a rfl rfl fun k o' hk hd=> ?_
      rw[Nat.zero_add]
      have ht:t∈o.looksAt l.toArray:=List.mem_append_left _ (List.mem_filterMap.2 ⟨.tmp t,by simpa using hx,rfl⟩)
      rcases hlook k o' t hk hd ht with q | q
      ·rw[hlst k q,decide_eq_true (reach_ltG hB _ _ _ q)]
      ·have hki:=reach_ltG hB _ _ _ q
       rw[decide_eq_false (by omega)]
       cases hkl:listed.getD k false with
       | false=>rfl
       | true=>
         exfalso
         have:=hno k hkl
         rw[q] at this
         cases this
    | const v=>rfl
    | global g=>rfl
    | func f=>rfl
   ·have: ∀(S:Nat→Bool) (r:List Oper) (k:Nat) (b:Act),(actV S vs r k b).tmps.size=b.tmps.size:=by
     intro S r
     induction r with
     | nil=>intros;rfl
     | cons o r ih=>intro k b;unfold actV;rw[ih];split;exact put_size _ _ _;rfl
    rw[this]
    exact hsz i o ho' t ht
theorem wp_region_genG2 {id:Nat} (G:List Nat) (L:List Sg) (T:List (Option (World→World→Prop))) (I Hs:World→Prop) (D:List Nat) (X:List (Nat×Nat)) (hm:P.follows .mixedOrders=true) (hB:freG l=true) (hgB:gdB2 l L G=true) (hGo:GOff L T G) (hX:clG l L T=X) (hsz:(l.all fun o=>match o.dst with | some t=>decide (t<a.tmps.size) | none=>true)=true)
  (hI0:I w.drew) (hH0:Hs w.drew) (hIT:Its I T) (hHT:ItD I Hs D T 0 T) (hst:Stb I L T X)
  (h: ∀vs,ObwG G P (JH I Hs l D) l L T vs Q l L 0 a):(Code.region id l.toArray true).wp P Q a w:=by
 refine wp_region_any hm ?_
 subst hX
 have hv: ∀j,j<l.length→(sgA L j).pick ((sgA L j).pick undef)=(sgA L j).pick undef:=fun j _=>by cases sgA L j<;>rfl
 have h0: ∀j,(Array.replicate l.toArray.size false).getD j false=false:=fun j=>by
  simp only[Array.getD_eq_getD_getElem?,Array.getElem?_replicate]
  split<;>rfl
 have:=gen_anyG2 (P:=P) (Q:=Q) (G:=G) hB hgB hGo (fun i o ho t ht=>by
  have:=List.all_eq_true.1 hsz o (List.mem_of_getElem? ho)
  rw[ht] at this
  simpa using this) hIT.at hHT hst h l.toArray.size (Array.replicate l.toArray.size false) (fun j=>(sgA L j).pick undef) w.drew (by
   have:(List.range l.length).filter (fun j=> !(Array.replicate l.toArray.size false).getD j false)=List.range l.length:=List.filter_eq_self.2 fun j _=>by rw[h0];rfl
   rw[this];simp) ⟨by simp,fun j o _ hj=>by rw[h0] at hj;cases hj⟩ hI0 (fun _=>hH0) hv (fun j hj=>by rw[h0] at hj;cases hj)
 have e:actV (fun j=>(Array.replicate l.toArray.size false).getD j false) (fun j=>(sgA L j).pick undef) l 0 a=a:=by
  have: ∀(r:List Oper) (k:Nat) (b:Act),actV (fun j=>(Array.replicate l.toArray.size false).getD j false) (fun j=>(sgA L j).pick undef) r k b=b:=by
   intro r
   induction r with
   | nil=>intros;rfl
   | cons o r ih=>intro k b;unfold actV;rw[h0];exact ih _ _
  exact this l 0 a
 rw[e] at this
 exact this
end
end Go.Proofs.YteobmaambgmdbaaGreat
namespace Go.Proofs.YteobmaambgmdbaaGreat
set_option maxRecDepth 20000
set_option linter.unusedVariables false
set_option linter.unusedSimpArgs false
open Go.RowKit
set_option maxHeartbeats 2000000 in
theorem sameGraphs_any (v u:Value) (ds:List GrD) (w:World) (h:ArgGS w v ds) (h':ArgGS w u ds):
  Calls Tryz.prog 47 #[v,u] w fun e w'=>e= .returned (.bool true)∧Below w.heap.size w w':=by
 have H:=hDD h
 have H':=hDD h'
 obtain⟨A',cap',rfl⟩:=h'.form
 obtain⟨A,cap,rfl,hcap,hm,_⟩:=h
 unfold maxLen at hm
 clear h'
 go_enter Tryz.func47,Tryz.ntmps47
 go_wp2
 go_loopw [5] (fun i wr=> ∃k:Nat,k≤ds.length∧i= .int .i64 k∧Below w.heap.size w wr) (fun i _=>ds.length-(intOf i).toNat)
 case atStart=>exact⟨0,Nat.zero_le _,rfl,Below.refl _ _⟩
 case round=>
  obtain⟨k,hk,rfl,hB⟩:=hrel
  have HB:=hDD hB
  have hsz:=hB.size
  clear hB
  by_cases hlt:k<ds.length
  ·have hkI:(k:Int)<(ds.length:Int):=by omega
   obtain⟨b,off,s,rfl,hb,c0,c1,c2,hax⟩:=(H.out.below HB.out).at hlt
   obtain⟨b',off',s',rfl,hb',c0',c1',c2',hax'⟩:=(H'.out.below HB.out).at hlt
   have HX:=hDD hax
   have HX':=hDD hax'
   generalize ds[k]=d at*
   obtain⟨x,y,z⟩:=d
   simp only at c0 c1 c0' c1' HX HX'
   have HEQ:=hDD (fun W (h:ArgG W (.agg #[.int .i64 x, .int .i64 y,s]) (x,y,z)) (h':ArgG W (.agg #[.int .i64 x, .int .i64 y,s']) (x,y,z))=>specEqualGraphs_any _ _ (x,y,z) (x,y,z) W h h')
   rw[decide_eq_true rfl] at HEQ
   clear hax hax'
   go_wp2_with fail
   refine wp_region_gen [.val (.slice (some ⟨b,off,none⟩) ds.length cap), .val (.int .i64 k), .val (.pointer (some ⟨b,off+k*3,none⟩)), .val (.agg #[.int .i64 x, .int .i64 y,s]), .val (.slice (some ⟨b',off',none⟩) ds.length cap'), .val (.int .i64 k), .val (.pointer (some ⟨b',off'+k*3,none⟩)), .val (.agg #[.int .i64 x, .int .i64 y,s']), .val (.bool true), .val (.bool false)]
    [none,none,none,none,none,none,none,none,some (fun W W'=>Below W.heap.size W W'),none] (fun W'=>Below wr.heap.size wr W') [] (by kernel_rfl) (by kernel_rfl) (by rfl) (by rfl) (Below.refl _ _).drew ⟨fun _ _ h t=>h.trans (t.mono h.size),trivial⟩ trivial (fun vs=> ?_)
   refine⟨fun W' K' Q0 hI hD hK=> ?_,?_⟩
   ·skip
    go_simp
    exact hK.out _ _ rfl rfl
   simp only[Act.put,List.setIfInBounds_toArray,List.set_cons_zero,List.set_cons_succ,Sg.pick,Nat.reduceAdd]
   refine⟨fun W' K' Q0 hI hD hK=> ?_,?_⟩
   ·skip
    go_simp
    exact hK.out _ _ rfl rfl
   simp only[Act.put,List.setIfInBounds_toArray,List.set_cons_zero,List.set_cons_succ,Sg.pick,Nat.reduceAdd]
   refine⟨fun W' K' Q0 hI hD hK=> ?_,?_⟩
   ·skip
    go_simp
    exact hK.out _ _ rfl rfl
   simp only[Act.put,List.setIfInBounds_toArray,List.set_cons_zero,List.set_cons_succ,Sg.pick,Nat.reduceAdd]
   refine⟨fun W' K' Q0 hI hD hK=> ?_,?_⟩
   ·have z0:=(hI.out.cell (p:=⟨b,off+k*3,none⟩) hb).trans c0
    have z1:=(hI.out.cell (p:=⟨b,off+k*3+1,none⟩) hb).trans c1
    have z2:=(hI.out.cell (p:=⟨b,off+k*3+2,none⟩) hb).trans c2
    go_simp
    exact hK.out _ _ rfl rfl
   simp only[Act.put,List.setIfInBounds_toArray,List.set_cons_zero,List.set_cons_succ,Sg.pick,Nat.reduceAdd]
   refine⟨fun W' K' Q0 hI hD hK=> ?_,?_⟩
   ·skip
    go_simp
    exact hK.out _ _ rfl rfl
   simp only[Act.put,List.setIfInBounds_toArray,List.set_cons_zero,List.set_cons_succ,Sg.pick,Nat.reduceAdd]
   refine⟨fun W' K' Q0 hI hD hK=> ?_,?_⟩
   ·skip
    go_simp
    exact hK.out _ _ rfl rfl
   simp only[Act.put,List.setIfInBounds_toArray,List.set_cons_zero,List.set_cons_succ,Sg.pick,Nat.reduceAdd]
   refine⟨fun W' K' Q0 hI hD hK=> ?_,?_⟩
   ·skip
    go_simp
    exact hK.out _ _ rfl rfl
   simp only[Act.put,List.setIfInBounds_toArray,List.set_cons_zero,List.set_cons_succ,Sg.pick,Nat.reduceAdd]
   refine⟨fun W' K' Q0 hI hD hK=> ?_,?_⟩
   ·have z0:=(hI.out.cell (p:=⟨b',off'+k*3,none⟩) hb').trans c0'
    have z1:=(hI.out.cell (p:=⟨b',off'+k*3+1,none⟩) hb').trans c1'
    have z2:=(hI.out.cell (p:=⟨b',off'+k*3+2,none⟩) hb').trans c2'
    go_simp
    exact hK.out _ _ rfl rfl
   simp only[Act.put,List.setIfInBounds_toArray,List.set_cons_zero,List.set_cons_succ,Sg.pick,Nat.reduceAdd]
   refine⟨fun W' K' Q0 hI hD hK=> ?_,?_⟩
   ·skip
    go_simp
    refine(HEQ.out _ (HX.out.below hI.out) (HX'.out.below hI.out)).mono ?_;rintro e w' ⟨rfl,b⟩;exact hK.out _ _ b rfl
   simp only[Act.put,List.setIfInBounds_toArray,List.set_cons_zero,List.set_cons_succ,Sg.pick,Nat.reduceAdd]
   refine⟨fun W' K' Q0 hI hD hK=> ?_,?_⟩
   ·skip
    go_simp
    exact hK.out _ _ rfl rfl
   simp only[Act.put,List.setIfInBounds_toArray,List.set_cons_zero,List.set_cons_succ,Sg.pick,Nat.reduceAdd]
   intro W9 hI9 hD9
   have I9:=hDD (HB.out.trans (hI9.out.mono hsz))
   clear hI9 hD9
   go_wp2
   go_roundw
   case rel=>exact⟨k+1,by omega,by go_num,I9.out⟩
   case measure=>(simp[intOf];omega)
  ·obtain rfl:k=ds.length:=by omega
   go_wp2
   go_ret
   exact⟨rfl,HB.out⟩
theorem trv_eq {g:GrD}:(coreB g&&((g.2.1==1)&&((g.2.2.length:Int)==0)))=trvB g:=by
 unfold trvB
 rcases e:coreB g with _ | _
 ·rfl
 ·rw[Bool.true_and,Bool.true_and,Bool.eq_iff_iff,Bool.and_eq_true,beq_iff_eq,beq_iff_eq,decide_eq_true_eq]
  constructor
  ·rintro⟨_,h⟩
   exact List.eq_nil_of_length_eq_zero (by omega)
  ·intro h
   exact⟨core_nil e h,by rw[h];rfl⟩
set_option maxHeartbeats 1000000 in
theorem specIsTrivial_any (v:Value) (g:GrD) (w:World) (h:ArgG w v g):
  Calls Tryz.prog 100 #[v] w fun e w'=>e= .returned (.bool (trvB g))∧Below w.heap.size w w':=by
 have HIS:=hDD (fun W v (h:ArgG W v g)=>specIsSubgroup_any v g W h)
 have HT:Hid (trvB g=(coreB g&&decide (g.2.2= []))):=hDD rfl
 have HG:=hDD h
 generalize trvB g=t at*
 obtain⟨s,rfl,hi1,hi2,ha⟩:=h
 obtain⟨A,cap,rfl⟩:=ha.form
 obtain⟨g1,N,es⟩:=g
 simp only at*
 clear ha
 go_enter Tryz.func100,Tryz.ntmps100
 go_wp2_with fail
 obtain⟨W1,hW1⟩: ∃W,W=w.alloc (Obj.cells #[Value.int IntKind.i64 g1,Value.int IntKind.i64 N, .slice A es.length cap] 26):=⟨_,rfl⟩
 rw[←hW1]
 obtain⟨xb,b0,s0⟩:=CBx.new hW1
 have X:=hDD xb
 have B:=hDD b0
 clear hW1 xb b0
 refine(HIS.out W1 _ (HG.out.below B.out)).mono ?_
 rintro e w2 ⟨rfl,b⟩
 replace X:=hDD (X.out.below b)
 replace B:=hDD (B.out.trans (b.mono (by omega)))
 have u2:=X.out.c2
 clear b
 rcases ec:coreB (g1,N,es) with _ | _
 ·rw[ec,Bool.false_and] at HT
  go_wp2
  go_ret
  rw[HT.out]
  exact⟨rfl,B.out⟩
 ·rw[ec,Bool.true_and] at HT
  by_cases h0:es.length=0
  ·have h0I:((es.length:Int)==0)=true:=by simp[h0]
   have h0J:((es.length:Nat)==0)=true:=by simp[h0]
   have HT2:Hid (t=true):=hDD (by rw[HT.out];exact decide_eq_true (List.eq_nil_of_length_eq_zero h0))
   go_wp2
   go_ret
   rw[HT2.out]
   exact⟨by simp[h0],B.out⟩
  ·have h0I:((es.length:Int)==0)=false:=by rw[beq_eq_false_iff_ne];omega
   have h0J:((es.length:Nat)==0)=false:=by rw[beq_eq_false_iff_ne];omega
   have HT2:Hid (t=false):=hDD (by rw[HT.out];exact decide_eq_false fun q=>h0 (by rw[q];rfl))
   have h0K: ¬es= []:=fun q=>h0 (by rw[q];rfl)
   go_wp2
   go_ret
   rw[HT2.out]
   exact⟨by simp[h0K],B.out⟩
set_option maxRecDepth 100000 in
set_option maxHeartbeats 4000000 in
theorem specIsNormal_any (v:Value) (g:GrD) (w:World) (h:ArgG w v g):
  Calls Tryz.prog 51 #[v] w fun e w'=>e= .returned (.bool (norB g))∧Below w.heap.size w w':=by
 have HT:=hDD (fun W v (h:ArgG W v g)=>specIsTrivial_any v g W h)
 have HF:=hDD (fun W v (h:ArgG W v g)=>specIsFiniteIndex_any v g W h)
 have HW:=hDD (fun W v (h:ArgG W v g)=>specNormalizerWords_any v g W h)
 have HN:Hid (norB g=(trvB g||(finB g&&decide (((nrmL g).length:Int)=g.2.1)))):=hDD rfl
 have HG:=hDD h
 generalize norB g=nb at*
 generalize nrmL g=NL at*
 generalize trvB g=tb at*
 generalize finB g=fb at*
 obtain⟨s,rfl,hi1,hi2,ha⟩:=h
 obtain⟨A,cap,rfl⟩:=ha.form
 obtain⟨g1,N,es⟩:=g
 simp only at*
 clear ha
 go_enter Tryz.func51,Tryz.ntmps51
 go_wp2_with fail
 obtain⟨W1,hW1⟩: ∃W,W=w.alloc (Obj.cells #[Value.int IntKind.i64 g1,Value.int IntKind.i64 N, .slice A es.length cap] 26):=⟨_,rfl⟩
 obtain⟨xb,b0,s0⟩:=CBx.new hW1
 have X:=hDD xb
 have B:=hDD b0
 clear xb b0
 rw[←hW1]
 clear hW1
 cases tb
 ·cases fb
  ·have HN:Hid (nb=false):=hDD (HN.out.trans rfl)
   refine wp_region_genG2 [6,7,8,9,10,11] [.val (.agg #[.int .i64 g1, .int .i64 N, .slice A es.length cap]), .val (.bool false), .val (.bool false), .val (.agg #[.int .i64 g1, .int .i64 N, .slice A es.length cap]), .val (.bool false), .val (.bool false), .val undef, .val undef, .val undef, .val undef, .val undef, .val undef, .val (.bool false), .val (.bool false), .val (.bool false)]
    [none,some (fun W W'=>Below W.heap.size W W'),none,none,some (fun W W'=>Below W.heap.size W W'),none,none,none,none,none,none,none,none,none,none]
    (fun W=>Below W1.heap.size W1 W) (fun _=>True) [] [] (by kernel_rfl) (by kernel_rfl) (by kernel_rfl)
    ⟨⟨rfl,rfl⟩,⟨rfl,rfl⟩,⟨rfl,rfl⟩,⟨rfl,rfl⟩,⟨rfl,rfl⟩,⟨rfl,rfl⟩,trivial⟩ (by rfl) (by rfl) (Below.refl _ _).drew trivial
    ⟨fun _ _ h t=>h.trans (t.mono h.size),fun _ _ h t=>h.trans (t.mono h.size),trivial⟩ (itD_nil _ 0)
    trivial (fun vs=> ?_)
   refine⟨fun W' K' Q0 hI hD hK=> ?_,?_⟩
   ·have z0:=(X.out.below hI.out.1).c0
    have z1:=(X.out.below hI.out.1).c1
    have z2:=(X.out.below hI.out.1).c2
    go_simp
    exact hK.out _ _ rfl rfl
   simp only[Act.put,List.setIfInBounds_toArray,List.set_cons_zero,List.set_cons_succ,Sg.pick,Nat.reduceAdd]
   refine⟨fun W' K' Q0 hI hD hK=> ?_,?_⟩
   ·skip
    go_simp
    refine(HT.out _ _ (HG.out.below (B.out.trans (hI.out.1.mono B.out.size)))).mono ?_;rintro e w' ⟨rfl,b⟩;exact hK.out _ _ b rfl
   simp only[Act.put,List.setIfInBounds_toArray,List.set_cons_zero,List.set_cons_succ,Sg.pick,Nat.reduceAdd]
   refine⟨fun W' K' Q0 hI hD hK=> ?_,?_⟩
   ·skip
    go_simp
    exact hK.out _ _ rfl rfl
   simp only[Act.put,List.setIfInBounds_toArray,List.set_cons_zero,List.set_cons_succ,Sg.pick,Nat.reduceAdd]
   refine⟨fun W' K' Q0 hI hD hK=> ?_,?_⟩
   ·have z0:=(X.out.below hI.out.1).c0
    have z1:=(X.out.below hI.out.1).c1
    have z2:=(X.out.below hI.out.1).c2
    go_simp
    exact hK.out _ _ rfl rfl
   simp only[Act.put,List.setIfInBounds_toArray,List.set_cons_zero,List.set_cons_succ,Sg.pick,Nat.reduceAdd]
   refine⟨fun W' K' Q0 hI hD hK=> ?_,?_⟩
   ·skip
    go_simp
    refine(HF.out _ _ (HG.out.below (B.out.trans (hI.out.1.mono B.out.size)))).mono ?_;rintro e w' ⟨rfl,b⟩;exact hK.out _ _ b rfl
   simp only[Act.put,List.setIfInBounds_toArray,List.set_cons_zero,List.set_cons_succ,Sg.pick,Nat.reduceAdd]
   refine⟨fun W' K' Q0 hI hD hK=> ?_,?_⟩
   ·skip
    go_simp
    exact hK.out _ _ rfl rfl
   simp only[Act.put,List.setIfInBounds_toArray,List.set_cons_zero,List.set_cons_succ,Sg.pick,Nat.reduceAdd]
   refine⟨trivial,?_⟩
   simp only[Act.put,List.setIfInBounds_toArray,List.set_cons_zero,List.set_cons_succ,Sg.pick,Nat.reduceAdd]
   refine⟨trivial,?_⟩
   simp only[Act.put,List.setIfInBounds_toArray,List.set_cons_zero,List.set_cons_succ,Sg.pick,Nat.reduceAdd]
   refine⟨trivial,?_⟩
   simp only[Act.put,List.setIfInBounds_toArray,List.set_cons_zero,List.set_cons_succ,Sg.pick,Nat.reduceAdd]
   refine⟨trivial,?_⟩
   simp only[Act.put,List.setIfInBounds_toArray,List.set_cons_zero,List.set_cons_succ,Sg.pick,Nat.reduceAdd]
   refine⟨trivial,?_⟩
   simp only[Act.put,List.setIfInBounds_toArray,List.set_cons_zero,List.set_cons_succ,Sg.pick,Nat.reduceAdd]
   refine⟨trivial,?_⟩
   simp only[Act.put,List.setIfInBounds_toArray,List.set_cons_zero,List.set_cons_succ,Sg.pick,Nat.reduceAdd]
   refine⟨fun W' K' Q0 hI hD hK=> ?_,?_⟩
   ·skip
    go_simp
    exact hK.out _ _ rfl rfl
   simp only[Act.put,List.setIfInBounds_toArray,List.set_cons_zero,List.set_cons_succ,Sg.pick,Nat.reduceAdd]
   refine⟨fun W' K' Q0 hI hD hK=> ?_,?_⟩
   ·skip
    go_simp
    exact hK.out _ _ rfl rfl
   simp only[Act.put,List.setIfInBounds_toArray,List.set_cons_zero,List.set_cons_succ,Sg.pick,Nat.reduceAdd]
   refine⟨fun W' K' Q0 hI hD hK=> ?_,?_⟩
   ·skip
    go_simp
    exact hK.out _ _ rfl rfl
   simp only[Act.put,List.setIfInBounds_toArray,List.set_cons_zero,List.set_cons_succ,Sg.pick,Nat.reduceAdd]
   intro W9 hI9 hD9
   have I9:=hDD (B.out.trans (hI9.out.1.mono B.out.size))
   clear hI9 hD9
   go_wp2
   go_ret
   rw[HN.out]
   exact⟨rfl,I9.out⟩
  ·rw[Bool.false_or,Bool.true_and] at HN
   obtain⟨n,hn⟩: ∃n,n=decide ((NL.length:Int)=N):=⟨_,rfl⟩
   rw[←hn] at HN
   have hn2:((NL.length:Int)==N)=n:=by rw[hn,Bool.eq_iff_iff,beq_iff_eq,decide_eq_true_eq]
   replace hn:=hn.symm
   refine wp_region_genG2 [] [.val (.agg #[.int .i64 g1, .int .i64 N, .slice A es.length cap]), .val (.bool false), .val (.bool false), .val (.agg #[.int .i64 g1, .int .i64 N, .slice A es.length cap]), .val (.bool true), .val (.bool true), .val (.agg #[.int .i64 g1, .int .i64 N, .slice A es.length cap]), .mem (fun _ W v=> ∃A c,v= .slice A NL.length c), .val (.int .i64 NL.length), .val (.pointer (some ⟨w.heap.size,1,none⟩)), .val (.int .i64 N), .val (.bool n), .val (.bool n), .val (.bool n), .val (.bool n)]
    [none,some (fun W W'=>Below W.heap.size W W'),none,none,some (fun W W'=>Below W.heap.size W W'),none,none,some (fun W W'=>Below W.heap.size W W'),none,none,none,none,none,none,none]
    (fun W=>Below W1.heap.size W1 W) (fun _=>True) [] [] (by kernel_rfl) (by kernel_rfl) (by kernel_rfl)
    trivial (by rfl) (by rfl) (Below.refl _ _).drew trivial
    ⟨fun _ _ h t=>h.trans (t.mono h.size),fun _ _ h t=>h.trans (t.mono h.size),fun _ _ h t=>h.trans (t.mono h.size),trivial⟩ (itD_nil _ 0)
    trivial (fun vs=> ?_)
   refine⟨fun W' K' Q0 hI hD hK=> ?_,?_⟩
   ·have z0:=(X.out.below hI.out.1).c0
    have z1:=(X.out.below hI.out.1).c1
    have z2:=(X.out.below hI.out.1).c2
    go_simp
    exact hK.out _ _ rfl rfl
   simp only[Act.put,List.setIfInBounds_toArray,List.set_cons_zero,List.set_cons_succ,Sg.pick,Nat.reduceAdd]
   refine⟨fun W' K' Q0 hI hD hK=> ?_,?_⟩
   ·skip
    go_simp
    refine(HT.out _ _ (HG.out.below (B.out.trans (hI.out.1.mono B.out.size)))).mono ?_;rintro e w' ⟨rfl,b⟩;exact hK.out _ _ b rfl
   simp only[Act.put,List.setIfInBounds_toArray,List.set_cons_zero,List.set_cons_succ,Sg.pick,Nat.reduceAdd]
   refine⟨fun W' K' Q0 hI hD hK=> ?_,?_⟩
   ·skip
    go_simp
    exact hK.out _ _ rfl rfl
   simp only[Act.put,List.setIfInBounds_toArray,List.set_cons_zero,List.set_cons_succ,Sg.pick,Nat.reduceAdd]
   refine⟨fun W' K' Q0 hI hD hK=> ?_,?_⟩
   ·have z0:=(X.out.below hI.out.1).c0
    have z1:=(X.out.below hI.out.1).c1
    have z2:=(X.out.below hI.out.1).c2
    go_simp
    exact hK.out _ _ rfl rfl
   simp only[Act.put,List.setIfInBounds_toArray,List.set_cons_zero,List.set_cons_succ,Sg.pick,Nat.reduceAdd]
   refine⟨fun W' K' Q0 hI hD hK=> ?_,?_⟩
   ·skip
    go_simp
    refine(HF.out _ _ (HG.out.below (B.out.trans (hI.out.1.mono B.out.size)))).mono ?_;rintro e w' ⟨rfl,b⟩;exact hK.out _ _ b rfl
   simp only[Act.put,List.setIfInBounds_toArray,List.set_cons_zero,List.set_cons_succ,Sg.pick,Nat.reduceAdd]
   refine⟨fun W' K' Q0 hI hD hK=> ?_,?_⟩
   ·skip
    go_simp
    exact hK.out _ _ rfl rfl
   simp only[Act.put,List.setIfInBounds_toArray,List.set_cons_zero,List.set_cons_succ,Sg.pick,Nat.reduceAdd]
   refine⟨fun W' K' Q0 hI hD hK=> ?_,?_⟩
   ·have z0:=(X.out.below hI.out.1).c0
    have z1:=(X.out.below hI.out.1).c1
    have z2:=(X.out.below hI.out.1).c2
    go_simp
    exact hK.out _ _ rfl rfl
   simp only[Act.put,List.setIfInBounds_toArray,List.set_cons_zero,List.set_cons_succ,Sg.pick,Nat.reduceAdd]
   refine⟨fun W' K' Q0 hI hD hK=> ?_,?_⟩
   ·skip
    go_simp
    refine(HW.out _ _ (HG.out.below (B.out.trans (hI.out.1.mono B.out.size)))).mono ?_;rintro e w' ⟨o,rfl,oo,b⟩;obtain⟨Ao,mo,co,rfl⟩:=OwII_any oo;obtain⟨A5,c5,e5⟩:=(show LsW w' (.slice Ao mo co) NL from⟨_,_,oo,Nat.le_refl _⟩).form;exact hK.out _ _ b ⟨A5,c5,e5⟩
   simp only[Act.put,List.setIfInBounds_toArray,List.set_cons_zero,List.set_cons_succ,Sg.pick,Nat.reduceAdd]
   refine⟨fun W' K' Q0 hI hD hK=> ?_,?_⟩
   ·obtain⟨A7,c7,e7⟩:=(show ∃A c,vs 7= .slice A NL.length c from hD.out 7 (by kernel_rfl))
    rw[e7] at hK⊢
    go_simp
    exact hK.out _ _ rfl rfl
   simp only[Act.put,List.setIfInBounds_toArray,List.set_cons_zero,List.set_cons_succ,Sg.pick,Nat.reduceAdd]
   refine⟨fun W' K' Q0 hI hD hK=> ?_,?_⟩
   ·skip
    go_simp
    exact hK.out _ _ rfl rfl
   simp only[Act.put,List.setIfInBounds_toArray,List.set_cons_zero,List.set_cons_succ,Sg.pick,Nat.reduceAdd]
   refine⟨fun W' K' Q0 hI hD hK=> ?_,?_⟩
   ·have z1:=(X.out.below hI.out.1).c1
    go_simp
    exact hK.out _ _ rfl rfl
   simp only[Act.put,List.setIfInBounds_toArray,List.set_cons_zero,List.set_cons_succ,Sg.pick,Nat.reduceAdd]
   refine⟨fun W' K' Q0 hI hD hK=> ?_,?_⟩
   ·skip
    go_simp
    exact hK.out _ _ rfl rfl
   simp only[Act.put,List.setIfInBounds_toArray,List.set_cons_zero,List.set_cons_succ,Sg.pick,Nat.reduceAdd]
   refine⟨fun W' K' Q0 hI hD hK=> ?_,?_⟩
   ·skip
    go_simp
    exact hK.out _ _ rfl rfl
   simp only[Act.put,List.setIfInBounds_toArray,List.set_cons_zero,List.set_cons_succ,Sg.pick,Nat.reduceAdd]
   refine⟨fun W' K' Q0 hI hD hK=> ?_,?_⟩
   ·skip
    go_simp
    exact hK.out _ _ rfl rfl
   simp only[Act.put,List.setIfInBounds_toArray,List.set_cons_zero,List.set_cons_succ,Sg.pick,Nat.reduceAdd]
   refine⟨fun W' K' Q0 hI hD hK=> ?_,?_⟩
   ·skip
    go_simp
    exact hK.out _ _ rfl rfl
   simp only[Act.put,List.setIfInBounds_toArray,List.set_cons_zero,List.set_cons_succ,Sg.pick,Nat.reduceAdd]
   intro W9 hI9 hD9
   have I9:=hDD (B.out.trans (hI9.out.1.mono B.out.size))
   clear hI9 hD9
   go_wp2
   go_ret
   rw[HN.out]
   exact⟨rfl,I9.out⟩
 ·have HN:Hid (nb=true):=hDD (HN.out.trans rfl)
  refine wp_region_genG2 [3,4,5,6,7,8,9,10,11,12] [.val (.agg #[.int .i64 g1, .int .i64 N, .slice A es.length cap]), .val (.bool true), .val (.bool true), .val undef, .val undef, .val undef, .val undef, .val undef, .val undef, .val undef, .val undef, .val undef, .val undef, .val (.bool true), .val (.bool true)]
   [none,some (fun W W'=>Below W.heap.size W W'),none,none,none,none,none,none,none,none,none,none,none,none,none]
   (fun W=>Below W1.heap.size W1 W) (fun _=>True) [] [] (by kernel_rfl) (by kernel_rfl) (by kernel_rfl)
   ⟨⟨rfl,rfl⟩,⟨rfl,rfl⟩,⟨rfl,rfl⟩,⟨rfl,rfl⟩,⟨rfl,rfl⟩,⟨rfl,rfl⟩,⟨rfl,rfl⟩,⟨rfl,rfl⟩,⟨rfl,rfl⟩,⟨rfl,rfl⟩,trivial⟩ (by rfl) (by rfl) (Below.refl _ _).drew trivial
   ⟨fun _ _ h t=>h.trans (t.mono h.size),trivial⟩ (itD_nil _ 0)
   trivial (fun vs=> ?_)
  refine⟨fun W' K' Q0 hI hD hK=> ?_,?_⟩
  ·have z0:=(X.out.below hI.out.1).c0
   have z1:=(X.out.below hI.out.1).c1
   have z2:=(X.out.below hI.out.1).c2
   go_simp
   exact hK.out _ _ rfl rfl
  simp only[Act.put,List.setIfInBounds_toArray,List.set_cons_zero,List.set_cons_succ,Sg.pick,Nat.reduceAdd]
  refine⟨fun W' K' Q0 hI hD hK=> ?_,?_⟩
  ·skip
   go_simp
   refine(HT.out _ _ (HG.out.below (B.out.trans (hI.out.1.mono B.out.size)))).mono ?_;rintro e w' ⟨rfl,b⟩;exact hK.out _ _ b rfl
  simp only[Act.put,List.setIfInBounds_toArray,List.set_cons_zero,List.set_cons_succ,Sg.pick,Nat.reduceAdd]
  refine⟨fun W' K' Q0 hI hD hK=> ?_,?_⟩
  ·skip
   go_simp
   exact hK.out _ _ rfl rfl
  simp only[Act.put,List.setIfInBounds_toArray,List.set_cons_zero,List.set_cons_succ,Sg.pick,Nat.reduceAdd]
  refine⟨trivial,?_⟩
  simp only[Act.put,List.setIfInBounds_toArray,List.set_cons_zero,List.set_cons_succ,Sg.pick,Nat.reduceAdd]
  refine⟨trivial,?_⟩
  simp only[Act.put,List.setIfInBounds_toArray,List.set_cons_zero,List.set_cons_succ,Sg.pick,Nat.reduceAdd]
  refine⟨trivial,?_⟩
  simp only[Act.put,List.setIfInBounds_toArray,List.set_cons_zero,List.set_cons_succ,Sg.pick,Nat.reduceAdd]
  refine⟨trivial,?_⟩
  simp only[Act.put,List.setIfInBounds_toArray,List.set_cons_zero,List.set_cons_succ,Sg.pick,Nat.reduceAdd]
  refine⟨trivial,?_⟩
  simp only[Act.put,List.setIfInBounds_toArray,List.set_cons_zero,List.set_cons_succ,Sg.pick,Nat.reduceAdd]
  refine⟨trivial,?_⟩
  simp only[Act.put,List.setIfInBounds_toArray,List.set_cons_zero,List.set_cons_succ,Sg.pick,Nat.reduceAdd]
  refine⟨trivial,?_⟩
  simp only[Act.put,List.setIfInBounds_toArray,List.set_cons_zero,List.set_cons_succ,Sg.pick,Nat.reduceAdd]
  refine⟨trivial,?_⟩
  simp only[Act.put,List.setIfInBounds_toArray,List.set_cons_zero,List.set_cons_succ,Sg.pick,Nat.reduceAdd]
  refine⟨trivial,?_⟩
  simp only[Act.put,List.setIfInBounds_toArray,List.set_cons_zero,List.set_cons_succ,Sg.pick,Nat.reduceAdd]
  refine⟨trivial,?_⟩
  simp only[Act.put,List.setIfInBounds_toArray,List.set_cons_zero,List.set_cons_succ,Sg.pick,Nat.reduceAdd]
  refine⟨fun W' K' Q0 hI hD hK=> ?_,?_⟩
  ·skip
   go_simp
   exact hK.out _ _ rfl rfl
  simp only[Act.put,List.setIfInBounds_toArray,List.set_cons_zero,List.set_cons_succ,Sg.pick,Nat.reduceAdd]
  refine⟨fun W' K' Q0 hI hD hK=> ?_,?_⟩
  ·skip
   go_simp
   exact hK.out _ _ rfl rfl
  simp only[Act.put,List.setIfInBounds_toArray,List.set_cons_zero,List.set_cons_succ,Sg.pick,Nat.reduceAdd]
  intro W9 hI9 hD9
  have I9:=hDD (B.out.trans (hI9.out.1.mono B.out.size))
  clear hI9 hD9
  go_wp2
  go_ret
  rw[HN.out]
  exact⟨rfl,I9.out⟩
set_option maxRecDepth 100000 in
set_option maxHeartbeats 4000000 in
theorem implIsNormal_any (v:Value) (g:GrD) (w:World) (h:ArgG w v g):
  Calls Tryz.prog 50 #[v] w fun e w'=>e= .returned (.bool (norB g))∧Below w.heap.size w w':=by
 have HT:=hDD (fun W v (h:ArgG W v g)=>trv_eq (g:=g)▸implIsTrivial_any v g W h)
 have HF:=hDD (fun W v (h:ArgG W v g)=>implIsFiniteIndex_any v g W h)
 have HW:=hDD (fun W v (h:ArgG W v g)=>implNormalizerWords_any v g W h)
 have HN:Hid (norB g=(trvB g||(finB g&&decide (((nrmL g).length:Int)=g.2.1)))):=hDD rfl
 have HG:=hDD h
 generalize norB g=nb at*
 generalize nrmL g=NL at*
 generalize trvB g=tb at*
 generalize finB g=fb at*
 obtain⟨s,rfl,hi1,hi2,ha⟩:=h
 obtain⟨A,cap,rfl⟩:=ha.form
 obtain⟨g1,N,es⟩:=g
 simp only at*
 clear ha
 go_enter Tryz.func50,Tryz.ntmps50
 go_wp2_with fail
 obtain⟨W1,hW1⟩: ∃W,W=w.alloc (Obj.cells #[Value.int IntKind.i64 g1,Value.int IntKind.i64 N, .slice A es.length cap] 26):=⟨_,rfl⟩
 obtain⟨xb,b0,s0⟩:=CBx.new hW1
 have X:=hDD xb
 have B:=hDD b0
 clear xb b0
 rw[←hW1]
 clear hW1
 cases tb
 ·cases fb
  ·have HN:Hid (nb=false):=hDD (HN.out.trans rfl)
   refine wp_region_genG2 [6,7,8,9,10,11] [.val (.agg #[.int .i64 g1, .int .i64 N, .slice A es.length cap]), .val (.bool false), .val (.bool false), .val (.agg #[.int .i64 g1, .int .i64 N, .slice A es.length cap]), .val (.bool false), .val (.bool false), .val undef, .val undef, .val undef, .val undef, .val undef, .val undef, .val (.bool false), .val (.bool false), .val (.bool false)]
    [none,some (fun W W'=>Below W.heap.size W W'),none,none,some (fun W W'=>Below W.heap.size W W'),none,none,none,none,none,none,none,none,none,none]
    (fun W=>Below W1.heap.size W1 W) (fun _=>True) [] [] (by kernel_rfl) (by kernel_rfl) (by kernel_rfl)
    ⟨⟨rfl,rfl⟩,⟨rfl,rfl⟩,⟨rfl,rfl⟩,⟨rfl,rfl⟩,⟨rfl,rfl⟩,⟨rfl,rfl⟩,trivial⟩ (by rfl) (by rfl) (Below.refl _ _).drew trivial
    ⟨fun _ _ h t=>h.trans (t.mono h.size),fun _ _ h t=>h.trans (t.mono h.size),trivial⟩ (itD_nil _ 0)
    trivial (fun vs=> ?_)
   refine⟨fun W' K' Q0 hI hD hK=> ?_,?_⟩
   ·have z0:=(X.out.below hI.out.1).c0
    have z1:=(X.out.below hI.out.1).c1
    have z2:=(X.out.below hI.out.1).c2
    go_simp
    exact hK.out _ _ rfl rfl
   simp only[Act.put,List.setIfInBounds_toArray,List.set_cons_zero,List.set_cons_succ,Sg.pick,Nat.reduceAdd]
   refine⟨fun W' K' Q0 hI hD hK=> ?_,?_⟩
   ·skip
    go_simp
    refine(HT.out _ _ (HG.out.below (B.out.trans (hI.out.1.mono B.out.size)))).mono ?_;rintro e w' ⟨rfl,b⟩;exact hK.out _ _ b rfl
   simp only[Act.put,List.setIfInBounds_toArray,List.set_cons_zero,List.set_cons_succ,Sg.pick,Nat.reduceAdd]
   refine⟨fun W' K' Q0 hI hD hK=> ?_,?_⟩
   ·skip
    go_simp
    exact hK.out _ _ rfl rfl
   simp only[Act.put,List.setIfInBounds_toArray,List.set_cons_zero,List.set_cons_succ,Sg.pick,Nat.reduceAdd]
   refine⟨fun W' K' Q0 hI hD hK=> ?_,?_⟩
   ·have z0:=(X.out.below hI.out.1).c0
    have z1:=(X.out.below hI.out.1).c1
    have z2:=(X.out.below hI.out.1).c2
    go_simp
    exact hK.out _ _ rfl rfl
   simp only[Act.put,List.setIfInBounds_toArray,List.set_cons_zero,List.set_cons_succ,Sg.pick,Nat.reduceAdd]
   refine⟨fun W' K' Q0 hI hD hK=> ?_,?_⟩
   ·skip
    go_simp
    refine(HF.out _ _ (HG.out.below (B.out.trans (hI.out.1.mono B.out.size)))).mono ?_;rintro e w' ⟨rfl,b⟩;exact hK.out _ _ b rfl
   simp only[Act.put,List.setIfInBounds_toArray,List.set_cons_zero,List.set_cons_succ,Sg.pick,Nat.reduceAdd]
   refine⟨fun W' K' Q0 hI hD hK=> ?_,?_⟩
   ·skip
    go_simp
    exact hK.out _ _ rfl rfl
   simp only[Act.put,List.setIfInBounds_toArray,List.set_cons_zero,List.set_cons_succ,Sg.pick,Nat.reduceAdd]
   refine⟨trivial,?_⟩
   simp only[Act.put,List.setIfInBounds_toArray,List.set_cons_zero,List.set_cons_succ,Sg.pick,Nat.reduceAdd]
   refine⟨trivial,?_⟩
   simp only[Act.put,List.setIfInBounds_toArray,List.set_cons_zero,List.set_cons_succ,Sg.pick,Nat.reduceAdd]
   refine⟨trivial,?_⟩
   simp only[Act.put,List.setIfInBounds_toArray,List.set_cons_zero,List.set_cons_succ,Sg.pick,Nat.reduceAdd]
   refine⟨trivial,?_⟩
   simp only[Act.put,List.setIfInBounds_toArray,List.set_cons_zero,List.set_cons_succ,Sg.pick,Nat.reduceAdd]
   refine⟨trivial,?_⟩
   simp only[Act.put,List.setIfInBounds_toArray,List.set_cons_zero,List.set_cons_succ,Sg.pick,Nat.reduceAdd]
   refine⟨trivial,?_⟩
   simp only[Act.put,List.setIfInBounds_toArray,List.set_cons_zero,List.set_cons_succ,Sg.pick,Nat.reduceAdd]
   refine⟨fun W' K' Q0 hI hD hK=> ?_,?_⟩
   ·skip
    go_simp
    exact hK.out _ _ rfl rfl
   simp only[Act.put,List.setIfInBounds_toArray,List.set_cons_zero,List.set_cons_succ,Sg.pick,Nat.reduceAdd]
   refine⟨fun W' K' Q0 hI hD hK=> ?_,?_⟩
   ·skip
    go_simp
    exact hK.out _ _ rfl rfl
   simp only[Act.put,List.setIfInBounds_toArray,List.set_cons_zero,List.set_cons_succ,Sg.pick,Nat.reduceAdd]
   refine⟨fun W' K' Q0 hI hD hK=> ?_,?_⟩
   ·skip
    go_simp
    exact hK.out _ _ rfl rfl
   simp only[Act.put,List.setIfInBounds_toArray,List.set_cons_zero,List.set_cons_succ,Sg.pick,Nat.reduceAdd]
   intro W9 hI9 hD9
   have I9:=hDD (B.out.trans (hI9.out.1.mono B.out.size))
   clear hI9 hD9
   go_wp2
   go_ret
   rw[HN.out]
   exact⟨rfl,I9.out⟩
  ·rw[Bool.false_or,Bool.true_and] at HN
   obtain⟨n,hn⟩: ∃n,n=decide ((NL.length:Int)=N):=⟨_,rfl⟩
   rw[←hn] at HN
   have hn2:((NL.length:Int)==N)=n:=by rw[hn,Bool.eq_iff_iff,beq_iff_eq,decide_eq_true_eq]
   replace hn:=hn.symm
   refine wp_region_genG2 [] [.val (.agg #[.int .i64 g1, .int .i64 N, .slice A es.length cap]), .val (.bool false), .val (.bool false), .val (.agg #[.int .i64 g1, .int .i64 N, .slice A es.length cap]), .val (.bool true), .val (.bool true), .val (.agg #[.int .i64 g1, .int .i64 N, .slice A es.length cap]), .mem (fun _ W v=> ∃A c,v= .slice A NL.length c), .val (.int .i64 NL.length), .val (.pointer (some ⟨w.heap.size,1,none⟩)), .val (.int .i64 N), .val (.bool n), .val (.bool n), .val (.bool n), .val (.bool n)]
    [none,some (fun W W'=>Below W.heap.size W W'),none,none,some (fun W W'=>Below W.heap.size W W'),none,none,some (fun W W'=>Below W.heap.size W W'),none,none,none,none,none,none,none]
    (fun W=>Below W1.heap.size W1 W) (fun _=>True) [] [] (by kernel_rfl) (by kernel_rfl) (by kernel_rfl)
    trivial (by rfl) (by rfl) (Below.refl _ _).drew trivial
    ⟨fun _ _ h t=>h.trans (t.mono h.size),fun _ _ h t=>h.trans (t.mono h.size),fun _ _ h t=>h.trans (t.mono h.size),trivial⟩ (itD_nil _ 0)
    trivial (fun vs=> ?_)
   refine⟨fun W' K' Q0 hI hD hK=> ?_,?_⟩
   ·have z0:=(X.out.below hI.out.1).c0
    have z1:=(X.out.below hI.out.1).c1
    have z2:=(X.out.below hI.out.1).c2
    go_simp
    exact hK.out _ _ rfl rfl
   simp only[Act.put,List.setIfInBounds_toArray,List.set_cons_zero,List.set_cons_succ,Sg.pick,Nat.reduceAdd]
   refine⟨fun W' K' Q0 hI hD hK=> ?_,?_⟩
   ·skip
    go_simp
    refine(HT.out _ _ (HG.out.below (B.out.trans (hI.out.1.mono B.out.size)))).mono ?_;rintro e w' ⟨rfl,b⟩;exact hK.out _ _ b rfl
   simp only[Act.put,List.setIfInBounds_toArray,List.set_cons_zero,List.set_cons_succ,Sg.pick,Nat.reduceAdd]
   refine⟨fun W' K' Q0 hI hD hK=> ?_,?_⟩
   ·skip
    go_simp
    exact hK.out _ _ rfl rfl
   simp only[Act.put,List.setIfInBounds_toArray,List.set_cons_zero,List.set_cons_succ,Sg.pick,Nat.reduceAdd]
   refine⟨fun W' K' Q0 hI hD hK=> ?_,?_⟩
   ·have z0:=(X.out.below hI.out.1).c0
    have z1:=(X.out.below hI.out.1).c1
    have z2:=(X.out.below hI.out.1).c2
    go_simp
    exact hK.out _ _ rfl rfl
   simp only[Act.put,List.setIfInBounds_toArray,List.set_cons_zero,List.set_cons_succ,Sg.pick,Nat.reduceAdd]
   refine⟨fun W' K' Q0 hI hD hK=> ?_,?_⟩
   ·skip
    go_simp
    refine(HF.out _ _ (HG.out.below (B.out.trans (hI.out.1.mono B.out.size)))).mono ?_;rintro e w' ⟨rfl,b⟩;exact hK.out _ _ b rfl
   simp only[Act.put,List.setIfInBounds_toArray,List.set_cons_zero,List.set_cons_succ,Sg.pick,Nat.reduceAdd]
   refine⟨fun W' K' Q0 hI hD hK=> ?_,?_⟩
   ·skip
    go_simp
    exact hK.out _ _ rfl rfl
   simp only[Act.put,List.setIfInBounds_toArray,List.set_cons_zero,List.set_cons_succ,Sg.pick,Nat.reduceAdd]
   refine⟨fun W' K' Q0 hI hD hK=> ?_,?_⟩
   ·have z0:=(X.out.below hI.out.1).c0
    have z1:=(X.out.below hI.out.1).c1
    have z2:=(X.out.below hI.out.1).c2
    go_simp
    exact hK.out _ _ rfl rfl
   simp only[Act.put,List.setIfInBounds_toArray,List.set_cons_zero,List.set_cons_succ,Sg.pick,Nat.reduceAdd]
   refine⟨fun W' K' Q0 hI hD hK=> ?_,?_⟩
   ·skip
    go_simp
    refine(HW.out _ _ (HG.out.below (B.out.trans (hI.out.1.mono B.out.size)))).mono ?_;rintro e w' ⟨o,rfl,oo,b⟩;obtain⟨Ao,mo,co,rfl⟩:=OwII_any oo;obtain⟨A5,c5,e5⟩:=(show LsW w' (.slice Ao mo co) NL from⟨_,_,oo,Nat.le_refl _⟩).form;exact hK.out _ _ b ⟨A5,c5,e5⟩
   simp only[Act.put,List.setIfInBounds_toArray,List.set_cons_zero,List.set_cons_succ,Sg.pick,Nat.reduceAdd]
   refine⟨fun W' K' Q0 hI hD hK=> ?_,?_⟩
   ·obtain⟨A7,c7,e7⟩:=(show ∃A c,vs 7= .slice A NL.length c from hD.out 7 (by kernel_rfl))
    rw[e7] at hK⊢
    go_simp
    exact hK.out _ _ rfl rfl
   simp only[Act.put,List.setIfInBounds_toArray,List.set_cons_zero,List.set_cons_succ,Sg.pick,Nat.reduceAdd]
   refine⟨fun W' K' Q0 hI hD hK=> ?_,?_⟩
   ·skip
    go_simp
    exact hK.out _ _ rfl rfl
   simp only[Act.put,List.setIfInBounds_toArray,List.set_cons_zero,List.set_cons_succ,Sg.pick,Nat.reduceAdd]
   refine⟨fun W' K' Q0 hI hD hK=> ?_,?_⟩
   ·have z1:=(X.out.below hI.out.1).c1
    go_simp
    exact hK.out _ _ rfl rfl
   simp only[Act.put,List.setIfInBounds_toArray,List.set_cons_zero,List.set_cons_succ,Sg.pick,Nat.reduceAdd]
   refine⟨fun W' K' Q0 hI hD hK=> ?_,?_⟩
   ·skip
    go_simp
    exact hK.out _ _ rfl rfl
   simp only[Act.put,List.setIfInBounds_toArray,List.set_cons_zero,List.set_cons_succ,Sg.pick,Nat.reduceAdd]
   refine⟨fun W' K' Q0 hI hD hK=> ?_,?_⟩
   ·skip
    go_simp
    exact hK.out _ _ rfl rfl
   simp only[Act.put,List.setIfInBounds_toArray,List.set_cons_zero,List.set_cons_succ,Sg.pick,Nat.reduceAdd]
   refine⟨fun W' K' Q0 hI hD hK=> ?_,?_⟩
   ·skip
    go_simp
    exact hK.out _ _ rfl rfl
   simp only[Act.put,List.setIfInBounds_toArray,List.set_cons_zero,List.set_cons_succ,Sg.pick,Nat.reduceAdd]
   refine⟨fun W' K' Q0 hI hD hK=> ?_,?_⟩
   ·skip
    go_simp
    exact hK.out _ _ rfl rfl
   simp only[Act.put,List.setIfInBounds_toArray,List.set_cons_zero,List.set_cons_succ,Sg.pick,Nat.reduceAdd]
   intro W9 hI9 hD9
   have I9:=hDD (B.out.trans (hI9.out.1.mono B.out.size))
   clear hI9 hD9
   go_wp2
   go_ret
   rw[HN.out]
   exact⟨rfl,I9.out⟩
 ·have HN:Hid (nb=true):=hDD (HN.out.trans rfl)
  refine wp_region_genG2 [3,4,5,6,7,8,9,10,11,12] [.val (.agg #[.int .i64 g1, .int .i64 N, .slice A es.length cap]), .val (.bool true), .val (.bool true), .val undef, .val undef, .val undef, .val undef, .val undef, .val undef, .val undef, .val undef, .val undef, .val undef, .val (.bool true), .val (.bool true)]
   [none,some (fun W W'=>Below W.heap.size W W'),none,none,none,none,none,none,none,none,none,none,none,none,none]
   (fun W=>Below W1.heap.size W1 W) (fun _=>True) [] [] (by kernel_rfl) (by kernel_rfl) (by kernel_rfl)
   ⟨⟨rfl,rfl⟩,⟨rfl,rfl⟩,⟨rfl,rfl⟩,⟨rfl,rfl⟩,⟨rfl,rfl⟩,⟨rfl,rfl⟩,⟨rfl,rfl⟩,⟨rfl,rfl⟩,⟨rfl,rfl⟩,⟨rfl,rfl⟩,trivial⟩ (by rfl) (by rfl) (Below.refl _ _).drew trivial
   ⟨fun _ _ h t=>h.trans (t.mono h.size),trivial⟩ (itD_nil _ 0)
   trivial (fun vs=> ?_)
  refine⟨fun W' K' Q0 hI hD hK=> ?_,?_⟩
  ·have z0:=(X.out.below hI.out.1).c0
   have z1:=(X.out.below hI.out.1).c1
   have z2:=(X.out.below hI.out.1).c2
   go_simp
   exact hK.out _ _ rfl rfl
  simp only[Act.put,List.setIfInBounds_toArray,List.set_cons_zero,List.set_cons_succ,Sg.pick,Nat.reduceAdd]
  refine⟨fun W' K' Q0 hI hD hK=> ?_,?_⟩
  ·skip
   go_simp
   refine(HT.out _ _ (HG.out.below (B.out.trans (hI.out.1.mono B.out.size)))).mono ?_;rintro e w' ⟨rfl,b⟩;exact hK.out _ _ b rfl
  simp only[Act.put,List.setIfInBounds_toArray,List.set_cons_zero,List.set_cons_succ,Sg.pick,Nat.reduceAdd]
  refine⟨fun W' K' Q0 hI hD hK=> ?_,?_⟩
  ·skip
   go_simp
   exact hK.out _ _ rfl rfl
  simp only[Act.put,List.setIfInBounds_toArray,List.set_cons_zero,List.set_cons_succ,Sg.pick,Nat.reduceAdd]
  refine⟨trivial,?_⟩
  simp only[Act.put,List.setIfInBounds_toArray,List.set_cons_zero,List.set_cons_succ,Sg.pick,Nat.reduceAdd]
  refine⟨trivial,?_⟩
  simp only[Act.put,List.setIfInBounds_toArray,List.set_cons_zero,List.set_cons_succ,Sg.pick,Nat.reduceAdd]
  refine⟨trivial,?_⟩
  simp only[Act.put,List.setIfInBounds_toArray,List.set_cons_zero,List.set_cons_succ,Sg.pick,Nat.reduceAdd]
  refine⟨trivial,?_⟩
  simp only[Act.put,List.setIfInBounds_toArray,List.set_cons_zero,List.set_cons_succ,Sg.pick,Nat.reduceAdd]
  refine⟨trivial,?_⟩
  simp only[Act.put,List.setIfInBounds_toArray,List.set_cons_zero,List.set_cons_succ,Sg.pick,Nat.reduceAdd]
  refine⟨trivial,?_⟩
  simp only[Act.put,List.setIfInBounds_toArray,List.set_cons_zero,List.set_cons_succ,Sg.pick,Nat.reduceAdd]
  refine⟨trivial,?_⟩
  simp only[Act.put,List.setIfInBounds_toArray,List.set_cons_zero,List.set_cons_succ,Sg.pick,Nat.reduceAdd]
  refine⟨trivial,?_⟩
  simp only[Act.put,List.setIfInBounds_toArray,List.set_cons_zero,List.set_cons_succ,Sg.pick,Nat.reduceAdd]
  refine⟨trivial,?_⟩
  simp only[Act.put,List.setIfInBounds_toArray,List.set_cons_zero,List.set_cons_succ,Sg.pick,Nat.reduceAdd]
  refine⟨trivial,?_⟩
  simp only[Act.put,List.setIfInBounds_toArray,List.set_cons_zero,List.set_cons_succ,Sg.pick,Nat.reduceAdd]
  refine⟨fun W' K' Q0 hI hD hK=> ?_,?_⟩
  ·skip
   go_simp
   exact hK.out _ _ rfl rfl
  simp only[Act.put,List.setIfInBounds_toArray,List.set_cons_zero,List.set_cons_succ,Sg.pick,Nat.reduceAdd]
  refine⟨fun W' K' Q0 hI hD hK=> ?_,?_⟩
  ·skip
   go_simp
   exact hK.out _ _ rfl rfl
  simp only[Act.put,List.setIfInBounds_toArray,List.set_cons_zero,List.set_cons_succ,Sg.pick,Nat.reduceAdd]
  intro W9 hI9 hD9
  have I9:=hDD (B.out.trans (hI9.out.1.mono B.out.size))
  clear hI9 hD9
  go_wp2
  go_ret
  rw[HN.out]
  exact⟨rfl,I9.out⟩
end Go.Proofs.YteobmaambgmdbaaGreat
namespace Go.Proofs.YteobmaambgmdbaaGreat
set_option maxRecDepth 20000
set_option linter.unusedVariables false
set_option linter.unusedSimpArgs false
open Go.ChangeShapes Go.WideShapes Go.ChangeAt Go.RowKit
theorem open_argB {H:Type} {enc:TypeId×Value→H} {W:World} {base:Nat} {spare:Nat→Bool} {held:Bool} {v:Value} {d:DataW H} {p:List MemPlace}
  (hv:Value.okWide Tryz.prog W .any base 22 v) (h:DataW.Trod enc Tryz.prog W 0 spare held 22 v d p): ∃xs,ArgC W v xs:=by
 obtain⟨a,len,cap,rfl⟩:=okWide_slice Tryz.underlying22 hv
 obtain⟨fuel,hf⟩:=h
 have hf:DataW.trod enc Tryz.prog W 0 spare held fuel 22 [.slice a len cap]=some (d,p):=by simpa[Value.cells] using hf
 rcases open_ints Tryz.underlying22 Tryz.underlying5 (by kernel_rfl) hf with ⟨hcs,_⟩ | ⟨x,l,c,zs,hcs,_,hl,hm,hz,_,hcell,hwz⟩
 ·simp at hcs
  obtain⟨rfl,rfl,rfl⟩:=hcs
  exact⟨[],none,0,rfl,by simp,by simp[maxLen],by simp,by simp⟩
 ·simp at hcs
  obtain⟨rfl,rfl,rfl⟩:=hcs
  have hlz:len≤zs.length:=by rw[hz];split<;>omega
  have hlen:(zs.take len).length=len:=by simp;omega
  refine⟨zs.take len,_,cap,by rw[hlen],by omega,hm,fun n hn=> ?_,fun h0=> ?_⟩
  ·have:=hwz n (List.mem_of_mem_take hn)
   simpa[Lit.wf,IntKind.min,IntKind.max,IntKind.signed,IntKind.bits] using this
  ·obtain⟨b,off,sp⟩:=x
   have hsp:sp=none:=by simpa[Addr.add] using World.cell?_spot (hcell 0 (by omega))
   subst hsp
   refine⟨b,off,rfl,fun i hi=> ?_⟩
   have:=hcell i (by omega)
   rw[Addr.add_lit] at this
   rw[this]
   simp[List.getD,show i<zs.length by omega]
end Go.Proofs.YteobmaambgmdbaaGreat
