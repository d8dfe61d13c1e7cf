/- Parts of the proof: CoreI, FoldI, MerI, FoldK, Mov, Word, IsWord, CycP, Prod, Read, Parts, Core, InsI, IdxI. -/
import Derived.Test.YtfadnkjlilhneaaGreatP03
import Derived.Test.YtfadnkjlilhneaaGreatP02
import Derived.Test.YtfadnkjlilhneaaGreatP01
import Derived.Outline
import Derived.Deep.RegionHeld3
namespace Go.Proofs.YtfadnkjlilhneaaGreat
set_option maxRecDepth 20000
set_option linter.unusedVariables false
set_option linter.unusedSimpArgs false
open Go.RowKit
set_option maxHeartbeats 1000000 in
theorem canonicalOrder_any (v:Value) (g:GrD) (w:World) (h:ArgG w v g) (hf:foldB g=true):
  Calls Tryz.prog 104 #[v] w fun e w'=> ∃r,e= .returned r∧OwI w' w.heap.size r (canO g)∧Below w.heap.size w w':=by
 have HG:=hDD h
 have HF:=hDD hf
 obtain⟨s,rfl,hi1,hi2,ha⟩:=h
 clear hf ha
 go_enter Tryz.func104,Tryz.ntmps104
 go_wp2_with fail
 have bx:Below w.heap.size w (w.alloc (Obj.cells #[Value.int IntKind.i64 g.1,Value.int IntKind.i64 g.2.1,s] 31)):=(by repeat(first | exact Below.refl _ _ | (refine Below.setCell ?_ (by first | omega | (simp<;>omega)) _) | (refine bel_drewN ?_ _) | (refine Below.drew ?_) | (refine Below.alloc ?_ (by first | omega | (simp<;>omega)) _)))
 have l0:(w.alloc (Obj.cells #[Value.int IntKind.i64 g.1,Value.int IntKind.i64 g.2.1,s] 31)).cell? ⟨w.heap.size,0,none⟩=some (.int .i64 g.1):=by simp[go_sem]
 have l1:(w.alloc (Obj.cells #[Value.int IntKind.i64 g.1,Value.int IntKind.i64 g.2.1,s] 31)).cell? ⟨w.heap.size,1,none⟩=some (.int .i64 g.2.1):=by simp[go_sem]
 have l2:(w.alloc (Obj.cells #[Value.int IntKind.i64 g.1,Value.int IntKind.i64 g.2.1,s] 31)).cell? ⟨w.heap.size,2,none⟩=some s:=by simp[go_sem]
 have sA:w.heap.size<(w.alloc (Obj.cells #[Value.int IntKind.i64 g.1,Value.int IntKind.i64 g.2.1,s] 31)).heap.size:=by simp
 generalize w.alloc (Obj.cells #[Value.int IntKind.i64 g.1,Value.int IntKind.i64 g.2.1,s] 31)=W at bx l0 l1 l2 sA⊢
 have hif:=implIsFolded_any _ g W (HG.out.below bx)
 rw[HF.out] at hif
 have HIF:=hDD hif
 have BX:=hDD bx
 clear hif bx
 refine HIF.out.mono ?_
 rintro e w1 ⟨rfl,b1⟩
 have q0:=(b1.cell (p:=⟨w.heap.size,0,none⟩) sA).trans l0
 have q1:=(b1.cell (p:=⟨w.heap.size,1,none⟩) sA).trans l1
 have q2:=(b1.cell (p:=⟨w.heap.size,2,none⟩) sA).trans l2
 have BB:Hid (Below w.heap.size w w1):=hDD (BX.out.trans (b1.mono BX.out.size))
 clear b1 HIF l0 l1 l2
 go_wp2_with fail
 refine(tree_any _ g w1 (HG.out.below BB.out) HF.out).mono ?_
 rintro e w2 ⟨r2,s2,rfl,o2,b2⟩
 have O2:=hDD (o2.mono (BB.out.size))
 have B2:=hDD (BB.out.trans (b2.mono BB.out.size))
 clear o2 b2 q0 q1 q2
 go_wp2
 exact bodyPost_ret (v:=r2) (by simp[results,Tryz.results104]) rfl ⟨_,rfl,O2.out,B2.out⟩
set_option maxHeartbeats 1000000 in
theorem canonicalGraph_any (v:Value) (g:GrD) (w:World) (h:ArgG w v g) (hf:foldB g=true):
  Calls Tryz.prog 65 #[v] w fun e w'=> ∃r,e= .returned r∧OwG w' w.heap.size r (canG g)∧Below w.heap.size w w':=by
 have HG:=hDD h
 have HF:=hDD hf
 obtain⟨hg,_⟩:=foldB_parts hf
 have HGR:=hDD hg
 have HOK:=hDD (canO_ok hg)
 have HCG:Hid (canG g=rnG g (canO g)):=hDD rfl
 generalize canG g=cg at*
 obtain⟨s,rfl,hi1,hi2,ha⟩:=h
 obtain⟨A,cap,rfl⟩:=ha.form
 clear hf hg ha
 go_enter Tryz.func65,Tryz.ntmps65
 go_wp2_with fail
 have bx:Below w.heap.size w ((w.alloc (Obj.cells #[Value.int IntKind.i64 g.1,Value.int IntKind.i64 g.2.1, .slice A g.2.2.length cap] 31)).alloc (Obj.cells #[Value.int IntKind.i64 0,Value.int IntKind.i64 0, .slice none 0 0] 31)):=(by repeat(first | exact Below.refl _ _ | (refine Below.setCell ?_ (by first | omega | (simp<;>omega)) _) | (refine bel_drewN ?_ _) | (refine Below.drew ?_) | (refine Below.alloc ?_ (by first | omega | (simp<;>omega)) _)))
 obtain⟨W0,hW0⟩: ∃W,W=(w.alloc (Obj.cells #[Value.int IntKind.i64 g.1,Value.int IntKind.i64 g.2.1, .slice A g.2.2.length cap] 31)).alloc (Obj.cells #[Value.int IntKind.i64 0,Value.int IntKind.i64 0, .slice none 0 0] 31):=⟨_,rfl⟩
 rw[←hW0] at bx⊢
 have hsW:W0.heap.size=w.heap.size+1+1:=by rw[hW0];simp
 have B0:W0.cell? ⟨w.heap.size,0,none⟩=some (.int .i64 g.1):=by rw[hW0];simp[go_sem]
 have B1:W0.cell? ⟨w.heap.size,1,none⟩=some (.int .i64 g.2.1):=by rw[hW0];simp[go_sem]
 have B2:W0.cell? ⟨w.heap.size,2,none⟩=some (.slice A g.2.2.length cap):=by rw[hW0];simp[go_sem]
 have R0:Hid (W0.cell? ⟨w.heap.size+1,0,none⟩=some (.int .i64 0)):=hDD (by rw[hW0];simp[go_sem])
 have R1:Hid (W0.cell? ⟨w.heap.size+1,1,none⟩=some (.int .i64 0)):=hDD (by rw[hW0];simp[go_sem])
 have R2:Hid (W0.cell? ⟨w.heap.size+1,2,none⟩=some (.slice none 0 0)):=hDD (by rw[hW0];simp[go_sem])
 have RF:Hid (∀j,W0.frozen? ⟨w.heap.size+1,j,none⟩=false):=hDD fun j=>by rw[hW0];simp[go_sem]
 clear hW0
 have HSW:=hDD hsW
 have hl0:w.heap.size<W0.heap.size:=by omega
 have hl1:w.heap.size+1<W0.heap.size:=by omega
 clear hsW
 have BX:=hDD bx
 have HA:Hid (∀w',Below W0.heap.size W0 w'→ArgG w' (.agg #[.int .i64 g.1, .int .i64 g.2.1, .slice A g.2.2.length cap]) g):=hDD fun w' hb=>HG.out.below (BX.out.trans (hb.mono (by omega)))
 have hif:=implIsFolded_any _ g W0 (HA.out _ (Below.refl _ _))
 rw[HF.out] at hif
 have HIF:=hDD hif
 clear hif bx
 refine HIF.out.mono ?_
 rintro e w1 ⟨rfl,b1⟩
 have q0:=(b1.cell (p:=⟨w.heap.size,0,none⟩) hl0).trans B0
 have q1:=(b1.cell (p:=⟨w.heap.size,1,none⟩) hl0).trans B1
 have q2:=(b1.cell (p:=⟨w.heap.size,2,none⟩) hl0).trans B2
 have BB:=hDD b1
 have C0:=hDD B0
 have C1:=hDD B1
 have C2:=hDD B2
 clear b1 HIF B0 B1 B2
 go_wp2_with fail
 go_region_held3 (fun w'=>w'.cell? ⟨w.heap.size,0,none⟩=some (.int .i64 g.1)∧w'.cell? ⟨w.heap.size,1,none⟩=some (.int .i64 g.2.1)∧w'.cell? ⟨w.heap.size,2,none⟩=some (.slice A g.2.2.length cap))
  (first | exact⟨k0,k1,k2⟩ | go_keep)
  (first
   | (go_at_call 104;refine(canonicalOrder_any _ g _ (HA.out _ BB.out.drew) HF.out).mono ?_;rintro e' w2 ⟨r2,rfl,o2,b2⟩;have O2:=hDD o2;have B2:=hDD (BB.out.drew.trans (b2.mono BB.out.size));have k0:=(B2.out.cell (p:=⟨w.heap.size,0,none⟩) hl0).trans C0.out;have k1:=(B2.out.cell (p:=⟨w.heap.size,1,none⟩) hl0).trans C1.out;have k2:=(B2.out.cell (p:=⟨w.heap.size,2,none⟩) hl0).trans C2.out;clear o2 b2 q0 q1 q2)
   | (go_at_call 102;refine(part_any _ _ g (canO g) _ (HA.out _ B2.out) O2.out.rd HGR.out HOK.out).mono ?_;rintro e' w3 ⟨r3,rfl,o3,b3⟩;have s2:=B2.out.size;have B3:=hDD (B2.out.trans (b3.mono s2));obtain⟨s3,rfl,i1,i2,oe3⟩:=o3;obtain⟨A3,cap3,rfl,_⟩:=OwE.form oe3;have OE3:=hDD (oe3.mono s2);have I1:=hDD i1;have I2:=hDD i2;have k0:=(B3.out.cell (p:=⟨w.heap.size,0,none⟩) hl0).trans C0.out;have k1:=(B3.out.cell (p:=⟨w.heap.size,1,none⟩) hl0).trans C1.out;have k2:=(B3.out.cell (p:=⟨w.heap.size,2,none⟩) hl0).trans C2.out;have rr0:=(B3.out.cell (p:=⟨w.heap.size+1,0,none⟩) hl1).trans R0.out;have rr1:=(B3.out.cell (p:=⟨w.heap.size+1,1,none⟩) hl1).trans R1.out;have rr2:=(B3.out.cell (p:=⟨w.heap.size+1,2,none⟩) hl1).trans R2.out;have rf0:=(B3.out.frozen (p:=⟨w.heap.size+1,0,none⟩) hl1).trans (RF.out 0);have rf1:=(B3.out.frozen (p:=⟨w.heap.size+1,1,none⟩) hl1).trans (RF.out 1);have rf2:=(B3.out.frozen (p:=⟨w.heap.size+1,2,none⟩) hl1).trans (RF.out 2);clear b3 oe3 i1 i2))
 obtain⟨c0,c1,c2⟩:=set3_cells w3 (w.heap.size+1) (.int .i64 (rnG g (canO g)).1) (.int .i64 (rnG g (canO g)).2.1) (.slice A3 (rnG g (canO g)).2.2.length cap3) rr0 rr1 rr2
 have HB3:Hid (Below w.heap.size w w3):=hDD (BX.out.trans (B3.out.mono BX.out.size))
 have bw:Below w.heap.size w (((w3.setCell ⟨w.heap.size+1,0,none⟩ (.int .i64 (rnG g (canO g)).1)).setCell ⟨w.heap.size+1,1,none⟩ (.int .i64 (rnG g (canO g)).2.1)).setCell ⟨w.heap.size+1,2,none⟩ (.slice A3 (rnG g (canO g)).2.2.length cap3)):=(by repeat(first | exact Below.refl _ _ | (refine Below.setCell ?_ (by first | omega | (simp<;>omega)) _) | (refine bel_drewN ?_ _) | (refine Below.drew ?_) | (refine Below.alloc ?_ (by first | omega | (simp<;>omega)) _) | (refine Below.trans ?_ (Below.mono (Hid.out HB3) (by first | omega | (simp<;>omega))))))
 have ow:OwE (((w3.setCell ⟨w.heap.size+1,0,none⟩ (.int .i64 (rnG g (canO g)).1)).setCell ⟨w.heap.size+1,1,none⟩ (.int .i64 (rnG g (canO g)).2.1)).setCell ⟨w.heap.size+1,2,none⟩ (.slice A3 (rnG g (canO g)).2.2.length cap3)) W0.heap.size (.slice A3 (rnG g (canO g)).2.2.length cap3) (rnG g (canO g)).2.2:=
  ((OE3.out.far (p:=⟨w.heap.size+1,0,none⟩) hl1 _).far (p:=⟨w.heap.size+1,1,none⟩) hl1 _).far (p:=⟨w.heap.size+1,2,none⟩) hl1 _
 generalize ((w3.setCell ⟨w.heap.size+1,0,none⟩ (.int .i64 (rnG g (canO g)).1)).setCell ⟨w.heap.size+1,1,none⟩ (.int .i64 (rnG g (canO g)).2.1)).setCell ⟨w.heap.size+1,2,none⟩ (.slice A3 (rnG g (canO g)).2.2.length cap3)=wf at*
 go_wp2
 refine bodyPost_ret (v:= .agg #[.int .i64 (rnG g (canO g)).1, .int .i64 (rnG g (canO g)).2.1, .slice A3 (rnG g (canO g)).2.2.length cap3]) (by simp[results,Tryz.results65,go_sem,c0,c1,c2]) rfl ⟨_,rfl,?_,bw⟩
 rw[HCG.out]
 exact⟨_,rfl,I1.out,I2.out,ow.mono (by omega)⟩
set_option maxHeartbeats 1000000 in
theorem implIsCore_any (v:Value) (g:GrD) (w:World) (h:ArgG w v g):
  Calls Tryz.prog 33 #[v] w fun e w'=>e= .returned (.bool (coreB g))∧Below w.heap.size w w':=by
 have HG:=hDD h
 obtain⟨s,rfl,hi1,hi2,ha⟩:=h
 obtain⟨A,cap,rfl⟩:=ha.form
 have HC:Hid (coreB g=(foldB g&&decide (leafV g.2.2 g.2.1.toNat<0)&&decide (canG g=g))):=hDD rfl
 generalize coreB g=cb at*
 clear ha
 go_enter Tryz.func33,Tryz.ntmps33
 go_wp2_with fail
 have bx:Below w.heap.size w (w.alloc (Obj.cells #[Value.int IntKind.i64 g.1,Value.int IntKind.i64 g.2.1, .slice A g.2.2.length cap] 31)):=(by repeat(first | exact Below.refl _ _ | (refine Below.setCell ?_ (by first | omega | (simp<;>omega)) _) | (refine bel_drewN ?_ _) | (refine Below.drew ?_) | (refine Below.alloc ?_ (by first | omega | (simp<;>omega)) _)))
 have l0:(w.alloc (Obj.cells #[Value.int IntKind.i64 g.1,Value.int IntKind.i64 g.2.1, .slice A g.2.2.length cap] 31)).cell? ⟨w.heap.size,0,none⟩=some (.int .i64 g.1):=by simp[go_sem]
 have l1:(w.alloc (Obj.cells #[Value.int IntKind.i64 g.1,Value.int IntKind.i64 g.2.1, .slice A g.2.2.length cap] 31)).cell? ⟨w.heap.size,1,none⟩=some (.int .i64 g.2.1):=by simp[go_sem]
 have l2:(w.alloc (Obj.cells #[Value.int IntKind.i64 g.1,Value.int IntKind.i64 g.2.1, .slice A g.2.2.length cap] 31)).cell? ⟨w.heap.size,2,none⟩=some (.slice A g.2.2.length cap):=by simp[go_sem]
 have sA:w.heap.size<(w.alloc (Obj.cells #[Value.int IntKind.i64 g.1,Value.int IntKind.i64 g.2.1, .slice A g.2.2.length cap] 31)).heap.size:=by simp
 generalize w.alloc (Obj.cells #[Value.int IntKind.i64 g.1,Value.int IntKind.i64 g.2.1, .slice A g.2.2.length cap] 31)=W at bx l0 l1 l2 sA⊢
 have BX:=hDD bx
 have HA:Hid (∀w',Below W.heap.size W w'→ArgG w' (.agg #[.int .i64 g.1, .int .i64 g.2.1, .slice A g.2.2.length cap]) g):=hDD fun w' hb=>HG.out.below (BX.out.trans (hb.mono (by omega)))
 clear bx
 refine(implIsFolded_any _ g W (HA.out _ (Below.refl _ _))).mono ?_
 rintro e w1 ⟨rfl,b1⟩
 have BW:=hDD b1
 have q0:=(b1.cell (p:=⟨w.heap.size,0,none⟩) sA).trans l0
 have q1:=(b1.cell (p:=⟨w.heap.size,1,none⟩) sA).trans l1
 have q2:=(b1.cell (p:=⟨w.heap.size,2,none⟩) sA).trans l2
 have L0:=hDD l0
 have L1:=hDD l1
 have L2:=hDD l2
 clear b1 l0 l1 l2
 rcases e1:foldB g with _ | _
 ·have HR:Hid (cb=false):=hDD (by rw[HC.out,e1];rfl)
  clear e1
  go_wp2
  exact bodyPost_ret (v:= .bool false) (by simp[results,Tryz.results33]) rfl ⟨by rw[HR.out],BX.out.trans (BW.out.mono (Nat.le_of_lt sA))⟩
 ·have HF:=hDD e1
  have hg:=(foldB_parts e1).1
  have HGR:=hDD hg
  have HTS:=hDD (trimG_size hg)
  go_wp2_with fail
  refine(trimGraph_any _ g w1 (HA.out _ BW.out) HGR.out).mono ?_
  rintro e w2 ⟨rt,lt,rfl,ot,ol,b2⟩
  have s1:=BW.out.size
  have B2:=hDD (BW.out.trans (b2.mono s1))
  have s2:=B2.out.size
  generalize trimG g=T at*
  obtain⟨⟨t0,t1,t2⟩,tl⟩:=T
  obtain⟨st,rfl,_,_,oe⟩:=ot
  obtain⟨At,capt,rfl,_⟩:=OwE.form oe
  simp only at HTS⊢
  have k0:=(B2.out.cell (p:=⟨w.heap.size,0,none⟩) sA).trans L0.out
  have k1:=(B2.out.cell (p:=⟨w.heap.size,1,none⟩) sA).trans L1.out
  have k2:=(B2.out.cell (p:=⟨w.heap.size,2,none⟩) sA).trans L2.out
  have hsA2:w.heap.size<w2.heap.size:=by omega
  clear b2 ol oe q0 q1 q2 hg e1
  go_wp2
  have b3:Below w2.heap.size w2 (w2.alloc (Obj.cells #[Value.int IntKind.i64 t0,Value.int IntKind.i64 t1, .slice At t2.length capt] 31)):=(Below.refl _ _).alloc (Nat.le_refl _) _
  have m1:(w2.alloc (Obj.cells #[Value.int IntKind.i64 t0,Value.int IntKind.i64 t1, .slice At t2.length capt] 31)).cell? ⟨w2.heap.size,1,none⟩=some (.int .i64 t1):=by simp[go_sem]
  have s3:w2.heap.size<(w2.alloc (Obj.cells #[Value.int IntKind.i64 t0,Value.int IntKind.i64 t1, .slice At t2.length capt] 31)).heap.size:=by simp
  generalize w2.alloc (Obj.cells #[Value.int IntKind.i64 t0,Value.int IntKind.i64 t1, .slice At t2.length capt] 31)=W3 at b3 m1 s3⊢
  have p0:=(b3.cell (p:=⟨w.heap.size,0,none⟩) hsA2).trans k0
  have p1:=(b3.cell (p:=⟨w.heap.size,1,none⟩) hsA2).trans k1
  have p2:=(b3.cell (p:=⟨w.heap.size,2,none⟩) hsA2).trans k2
  have B3:=hDD (B2.out.trans (b3.mono s2))
  have hsA3:w.heap.size<W3.heap.size:=by omega
  have P0:=hDD p0
  have P1:=hDD p1
  have P2:=hDD p2
  have M1:=hDD m1
  clear k0 k1 k2 b3
  rcases hq:(t1==g.2.1) with _ | _
  ·have HR:Hid (cb=false):=hDD (by
    have h1:=HTS.out
    have h2:decide (t1=g.2.1)=false:=by rw[decide_eq_false_iff_not];exact beq_eq_false_iff_ne.1 hq
    rw[h2] at h1
    rw[HC.out,←h1]
    simp)
   have f1:=BelW.cell p1 hsA3
   have f2:=BelW.cell m1 s3
   have f3:=BelW.cell p0 hsA3
   have f4:=BelW.cell p2 hsA3
   (refine wp_region_quiet_bel (by kernel_rfl) (by kernel_rfl) ?_;(repeat(go_big_quiet_step (fail)));refine wpQuiet_nil ?_;intro wq hw';obtain⟨pq,hw''⟩:=hw';have bq:=pq.h;rw[←hw''] at bq;clear hw'' pq)
   go_wp2
   exact bodyPost_ret (v:= .bool false) (by simp[results,Tryz.results33]) rfl ⟨by rw[HR.out],BX.out.trans ((B3.out.trans (bq.mono (by omega))).mono (Nat.le_of_lt sA))⟩
  ·have HR:Hid (cb=decide (canG g=g)):=hDD (by
    have h1:=HTS.out
    have h2:decide (t1=g.2.1)=true:=by rw[decide_eq_true_iff];exact eq_of_beq hq
    rw[h2] at h1
    rw[HC.out,←h1,HF.out]
    simp)
   go_region_held3 (fun w'=>w'.cell? ⟨w.heap.size,0,none⟩=some (.int .i64 g.1)∧w'.cell? ⟨w.heap.size,1,none⟩=some (.int .i64 g.2.1)∧w'.cell? ⟨w.heap.size,2,none⟩=some (.slice A g.2.2.length cap)∧w'.cell? ⟨w2.heap.size,1,none⟩=some (.int .i64 t1))
    (first | exact⟨k0,k1,k2,k3⟩ | go_keep)
    (first
     | (go_at_call 65;refine(canonicalGraph_any _ g _ (HA.out _ B3.out.drew) HF.out).mono ?_;rintro e' w4 ⟨r4,rfl,o4,b4⟩;have B4:=hDD ((Below.refl W3.heap.size W3).drew.trans b4);have O4:=hDD o4;have k0:=(B4.out.cell (p:=⟨w.heap.size,0,none⟩) hsA3).trans P0.out;have k1:=(B4.out.cell (p:=⟨w.heap.size,1,none⟩) hsA3).trans P1.out;have k2:=(B4.out.cell (p:=⟨w.heap.size,2,none⟩) hsA3).trans P2.out;have k3:=(B4.out.cell (p:=⟨w2.heap.size,1,none⟩) s3).trans M1.out;clear b4 o4)
     | (go_at_call 64;refine(implEqualGraphs_any _ _ (canG g) g _ O4.out.arg (HA.out _ (B3.out.trans (B4.out.mono B3.out.size)))).mono ?_;rintro e' w5 ⟨rfl,b5⟩;have B5:=hDD (B4.out.trans (b5.mono B4.out.size));have k0:=(B5.out.cell (p:=⟨w.heap.size,0,none⟩) hsA3).trans P0.out;have k1:=(B5.out.cell (p:=⟨w.heap.size,1,none⟩) hsA3).trans P1.out;have k2:=(B5.out.cell (p:=⟨w.heap.size,2,none⟩) hsA3).trans P2.out;have k3:=(B5.out.cell (p:=⟨w2.heap.size,1,none⟩) s3).trans M1.out;clear b5))
   go_wp2
   exact bodyPost_ret (v:= .bool (decide (canG g=g))) (by simp[results,Tryz.results33]) rfl ⟨by rw[HR.out],BX.out.trans ((B3.out.trans (B5.out.mono (by omega))).mono (Nat.le_of_lt sA))⟩
end Go.Proofs.YtfadnkjlilhneaaGreat
namespace Go.Proofs.YtfadnkjlilhneaaGreat
set_option maxRecDepth 20000
set_option linter.unusedVariables false
set_option linter.unusedSimpArgs false
open Go.RowKit
end Go.Proofs.YtfadnkjlilhneaaGreat
namespace Go.Proofs.YtfadnkjlilhneaaGreat
set_option maxRecDepth 20000
set_option linter.unusedVariables false
set_option linter.unusedSimpArgs false
open Go.RowKit
end Go.Proofs.YtfadnkjlilhneaaGreat
namespace Go.Proofs.YtfadnkjlilhneaaGreat
set_option maxRecDepth 20000
set_option linter.unusedVariables false
set_option linter.unusedSimpArgs false
open Go.RowKit
end Go.Proofs.YtfadnkjlilhneaaGreat
namespace Go.Proofs.YtfadnkjlilhneaaGreat
set_option maxRecDepth 20000
set_option linter.unusedVariables false
set_option linter.unusedSimpArgs false
open Go.RowKit
end Go.Proofs.YtfadnkjlilhneaaGreat
namespace Go.Proofs.YtfadnkjlilhneaaGreat
set_option maxRecDepth 20000
set_option linter.unusedVariables false
set_option linter.unusedSimpArgs false
open Go.RowKit
def negL (xs:List Int):List Int:=xs.map fun x=>wrap64 (-x)
def invL (xs:List Int):List Int:=(negL xs).reverse
theorem I64_wrap (x:Int):I64 (wrap64 x):=by
 unfold I64 wrap64;omega
theorem invL_step (xs:List Int) (k:Nat) (hk:k<xs.length):(invL xs).take (k+1)=(invL xs).take k++ [wrap64 (-xs[xs.length-1-k])]:=by
 have h:k<(invL xs).length:=by simpa[invL,negL] using hk
 rw[List.take_succ_eq_append_getElem h]
 congr 2
 simp[invL,negL]
set_option maxHeartbeats 400000 in
theorem specInvertWord_any (v:Value) (xs:List Int) (w:World) (h:RdI w v xs) (hl:xs.length≤1073741824):
  Calls Tryz.prog 28 #[v] w fun e w'=> ∃r,e= .returned r∧OwI w' w.heap.size r (invL xs)∧Below w.heap.size w w':=by
 have H:=hDD h
 obtain⟨A,cap,rfl,hcap,hm,hr,hb⟩:=h.arg
 clear h hb
 go_enter Tryz.func28,Tryz.ntmps28
 go_wp2
 go_loopw [3,4] (fun out i wr=> ∃k:Nat,k≤xs.length∧i= .int .i64 ((xs.length:Int)-1-(k:Int))∧OwI wr w.heap.size out ((invL xs).take k)∧Below w.heap.size w wr)
  (fun _ i _=>(intOf i+1).toNat)
 case atStart=>exact⟨0,Nat.zero_le _,by simp,OwI_lit _ [] I64s_nil (by simp) (Nat.le_refl _),(Below.refl _ _).alloc (Nat.le_refl _) _⟩
 case round=>
  obtain⟨k,hk,rfl,hown,hbel⟩:=hrel
  have hsz:=hbel.size
  have hkl:((invL xs).take k).length≤k:=List.length_take_le _ _
  by_cases hlt:k<xs.length
  ·obtain⟨b,off,rfl,hbl,hc⟩:=(H.out.below hbel).at (by omega)
   have hcell:=hc (xs.length-1-k) (by omega)
   have HS:=hDD (invL_step xs k hlt)
   have HO:=hDD hown
   clear hc hown
   go_wp2_with (at_builtin;refine push_int rfl (.tmp 13) (.tmp 19) rfl _ _ _ (OwI.alloc HO.out _) rfl _ _ rfl (cell_new1 _ _ _) (I64_wrap _) (by first | omega | (simp<;>omega)) (by first | omega | (simp<;>omega)) ?_;intro v1 wv1 o1 g1 p1)
   go_roundw
   case rel=>exact⟨k+1,by omega,by go_num,by rw[HS.out];exact o1,bel_push hbel hsz HO.out.1 (Nat.le_refl _) g1⟩
   case measure=>simp[intOf];omega
  ·obtain rfl:k=xs.length:=by omega
   go_wp2
   go_ret
   exact⟨_,rfl,by rw[List.take_of_length_le (by simp[invL,negL])] at hown;exact hown,hbel⟩
set_option maxHeartbeats 400000 in
theorem implInvertWord_any (v:Value) (xs:List Int) (w:World) (h:RdI w v xs) (hl:xs.length≤1073741824):
  Calls Tryz.prog 38 #[v] w fun e w'=> ∃r,e= .returned r∧OwI w' w.heap.size r (invL xs)∧Below w.heap.size w w':=by
 have H:=hDD h
 obtain⟨A,cap,rfl,hcap,hm,hr,hb⟩:=h.arg
 clear h hb
 go_enter Tryz.func38,Tryz.ntmps38
 obtain⟨i0,hi0,hz0,hz1,hz2⟩:=info_parts int_info
 go_wp2_with (at_make;refine wpList_make_own _ rfl _ _ 26 rfl w.heap.size 3 i0 (.int .i64 0) 1 Tryz.underlying26 hi0 hz0 hz1 _ _ _ xs.length rfl rfl rfl (by rw[hz2];omega) (by unfold maxLen;omega) (Nat.le_refl _) ?_)
 intro w0 hown0 hgrow0
 go_wp2
 go_loopw [3,4] (fun out i wr=> ∃k:Nat,k≤xs.length∧i= .int .i64 ((xs.length:Int)-1-(k:Int))∧OwI wr w.heap.size out ((invL xs).take k)∧Below w.heap.size w wr)
  (fun _ i _=>(intOf i+1).toNat)
 case atStart=>exact⟨0,Nat.zero_le _,by simp,⟨hown0,I64s_nil⟩,(Below.refl _ _).grown hgrow0 (Nat.le_refl _) (fun k h=>by cases h)⟩
 case round=>
  obtain⟨k,hk,rfl,hown,hbel⟩:=hrel
  have hsz:=hbel.size
  have hkl:((invL xs).take k).length≤k:=List.length_take_le _ _
  by_cases hlt:k<xs.length
  ·obtain⟨b,off,rfl,hbl,hc⟩:=(H.out.below hbel).at (by omega)
   have hcell:=hc (xs.length-1-k) (by omega)
   have HS:=hDD (invL_step xs k hlt)
   have HO:=hDD hown
   clear hc hown
   go_wp2_with (at_builtin;refine push_int rfl (.tmp 15) (.tmp 21) rfl _ _ _ (OwI.alloc HO.out _) rfl _ _ rfl (cell_new1 _ _ _) (I64_wrap _) (by first | omega | (simp<;>omega)) (by first | omega | (simp<;>omega)) ?_;intro v1 wv1 o1 g1 p1)
   go_roundw
   case rel=>exact⟨k+1,by omega,by go_num,by rw[HS.out];exact o1,bel_push hbel hsz HO.out.1 (Nat.le_refl _) g1⟩
   case measure=>simp[intOf];omega
  ·obtain rfl:k=xs.length:=by omega
   go_wp2
   go_ret
   exact⟨_,rfl,by rw[List.take_of_length_le (by simp[invL,negL])] at hown;exact hown,hbel⟩
def red1 (acc:List Int) (x:Int):List Int:=if 0<acc.length∧invB (acc.getLastD 0) x=true then acc.dropLast else acc++ [x]
def redL (acc xs:List Int):List Int:=xs.foldl red1 acc
theorem red1_len (acc:List Int) (x:Int):(red1 acc x).length≤acc.length+1:=by
 unfold red1;split<;>simp;omega
theorem redL_len (acc xs:List Int):(redL acc xs).length≤acc.length+xs.length:=by
 unfold redL
 induction xs generalizing acc with
 | nil=>simp
 | cons x xs ih=>have:=ih (red1 acc x);have:=red1_len acc x;simp only[List.foldl_cons,List.length_cons];omega
theorem redL_succ (acc xs:List Int) (k:Nat) (h:k<xs.length):redL acc (xs.take (k+1))=red1 (redL acc (xs.take k)) xs[k]:=by
 unfold redL
 rw[List.take_succ_eq_append_getElem h,List.foldl_append]
 rfl
theorem last_get {acc:List Int} (h:0<acc.length):acc.getLastD 0=acc[acc.length-1]:=by
 cases acc with
 | nil=>simp at h
 | cons a l=>simp[List.getLastD,List.getLast_eq_getElem]
theorem red1_cut {acc:List Int} {x:Int} (h:0<acc.length) (hi:invB acc[acc.length-1] x=true):red1 acc x=acc.take (acc.length-1):=by
 rw[←last_get h] at hi
 rw[red1,if_pos ⟨h,hi⟩,List.dropLast_eq_take]
theorem red1_push {acc:List Int} {x:Int} (h:0<acc.length) (hi:invB acc[acc.length-1] x=false):red1 acc x=acc++ [x]:=by
 rw[←last_get h] at hi
 rw[red1,if_neg]
 intro hh
 rw[hi] at hh
 exact absurd hh.2 (by simp)
theorem invB_spec {l x:Int} (hl:I64 l) (hx:I64 x):invB l x=(x != 0&&l==wrap64 (-x)&&l != x):=by
 have hl1:=hl.1
 have hl2:=hl.2
 unfold invB
 by_cases h:x= -9223372036854775808
 ·subst h
  have:wrap64 (- -9223372036854775808)= -9223372036854775808:=by decide+kernel
  rw[this,Bool.eq_iff_iff]
  simp
  omega
 ·rw[I64.neg hx h,Bool.eq_iff_iff]
  have hx1:=hx.1
  simp
  constructor
  ·rintro⟨⟨h1,h2⟩,h3⟩
   exact⟨⟨fun hh=>h1 (by omega),by rw[h3,Int.neg_neg]⟩,fun hh=>h1 (by omega)⟩
  ·rintro⟨⟨h1,h2⟩,h3⟩
   exact⟨⟨fun hh=>h1 (by omega),fun hh=>by have:=hx.2;omega⟩,by rw[h2,Int.neg_neg]⟩
set_option maxHeartbeats 1000000 in
theorem specReduceLetters_any (v:Value) (xs:List Int) (w:World) (h:RdI w v xs) (hl:xs.length≤1073741824):
  Calls Tryz.prog 54 #[v] w fun e w'=> ∃r,e= .returned r∧OwI w' w.heap.size r (redL [] xs)∧Below w.heap.size w w':=by
 have H:=hDD h
 obtain⟨A,cap,rfl,hcap,hm,hr,hb⟩:=h.arg
 have HR:=hDD hr
 clear h hb hr
 go_enter Tryz.func54,Tryz.ntmps54
 go_wp2
 go_loopw [3,4] (fun out i wr=> ∃k:Nat,k≤xs.length∧i= .int .i64 k∧OwI wr w.heap.size out (redL [] (xs.take k))∧Below w.heap.size w wr)
  (fun _ i _=>xs.length-(intOf i).toNat)
 case atStart=>exact⟨0,Nat.zero_le _,rfl,OwI_lit _ [] I64s_nil (by simp) (Nat.le_refl _),(Below.refl _ _).alloc (Nat.le_refl _) _⟩
 case round=>
  obtain⟨k,hk,rfl,hown,hbel⟩:=hrel
  have hsz:=hbel.size
  have hkl:(redL [] (xs.take k)).length≤k:=by have:=redL_len [] (xs.take k);have:=List.length_take_le k xs;simp at*;omega
  by_cases hlt:k<xs.length
  ·obtain⟨b,off,rfl,hbl,hc⟩:=(H.out.below hbel).at (by omega)
   have hcell:=hc k hlt
   have HS:=hDD (redL_succ [] xs k hlt)
   have HX:=hDD (HR.out xs[k] (by simp))
   generalize hg:redL [] (xs.take k)=acc at hown hkl HS
   clear hg hc
   generalize hxk:xs[k]=x at hcell HS HX
   clear hxk
   have HO:=hDD hown
   obtain⟨A1,cap1,rfl,hcap1,hm1,_,hform⟩:=hown.form
   by_cases h0:0<acc.length
   ·obtain⟨g,rfl,hg1,hg2⟩:=hform h0
    obtain⟨b1,off1,hA1,_,hc1⟩:=hown.rd.at h0
    obtain⟨rfl,rfl⟩:g=b1∧0=off1:=by simpa using hA1
    have hlast:=hc1 (acc.length-1) (by omega)
    rw[Nat.zero_add] at hlast
    have HLI:=hDD (hown.2 acc[acc.length-1] (by simp))
    have HC:=hDD (red1_cut (x:=x) h0)
    have HP:=hDD (red1_push (x:=x) h0)
    generalize acc[acc.length-1]=last at hlast HLI HC HP
    have HT:=hDD (invB_spec HLI.out HX.out)
    have hd0:decide ((0:Int)<(acc.length:Int))=true:=by simp;omega
    clear hc1 hform hown hA1
    have push: ∀(hf:invB last x=false),red1 acc x=acc++ [x]:=fun hf=>HP.out hf
    have PU:=hDD push
    clear push
    by_cases e1:x=0
    ·subst e1
     have PF:=hDD (PU.out (by rw[HT.out];simp))
     go_wp2
     go_quiet (fail)
     go_wp2_with (at_builtin;refine push_int rfl (.tmp 53) (.tmp 58) rfl _ _ _ (OwI.alloc (OwI.drewN HO.out _) _) rfl _ _ rfl (cell_new1 _ _ _) HX.out (by first | omega | (simp<;>omega)) (by first | omega | (simp<;>omega)) ?_;intro v1 wv1 o1 g1 p1)
     go_roundw
     case rel=>exact⟨k+1,by omega,by go_num,by rw[HS.out,PF.out];exact o1,bel_push (bel_drewN hbel _) hsz (OwI.drewN HO.out _).1 (Nat.le_refl _) g1⟩
     case measure=>simp[intOf];omega
    ·have e1':(x != 0)=true:=by simp[e1]
     by_cases e2:last=wrap64 (-x)
     ·have e2':(last==wrap64 (-x))=true:=by simp[e2]
      have E2:=hDD e2
      clear e2
      by_cases e3:last=x
      ·have e3':(last != x)=false:=by simp[e3]
       have PF:=hDD (PU.out (by rw[HT.out,e3'];simp))
       have E3:=hDD e3
       clear e3 e1
       go_wp2
       go_quiet (fail)
       go_wp2_with (at_builtin;refine push_int rfl (.tmp 53) (.tmp 58) rfl _ _ _ (OwI.alloc (OwI.drewN HO.out _) _) rfl _ _ rfl (cell_new1 _ _ _) HX.out (by first | omega | (simp<;>omega)) (by first | omega | (simp<;>omega)) ?_;intro v1 wv1 o1 g1 p1)
       go_roundw
       case rel=>exact⟨k+1,by omega,by go_num,by rw[HS.out,PF.out];exact o1,bel_push (bel_drewN hbel _) hsz (OwI.drewN HO.out _).1 (Nat.le_refl _) g1⟩
       case measure=>simp[intOf];omega
      ·have e3':(last != x)=true:=by simp[e3]
       have PF:=hDD (HC.out (by rw[HT.out,e1',e2',e3'];rfl))
       clear e3 e1
       go_wp2
       go_quiet (fail)
       go_wp2
       go_roundw
       case rel=>exact⟨k+1,by omega,by go_num,by rw[HS.out,PF.out];exact owI_cut (OwI.drewN HO.out _) (by omega),bel_drewN hbel _⟩
       case measure=>simp[intOf];omega
     ·have e2':(last==wrap64 (-x))=false:=by simp[e2]
      have PF:=hDD (PU.out (by rw[HT.out,e2'];simp))
      clear e2 e1
      go_wp2
      go_quiet (fail)
      go_wp2_with (at_builtin;refine push_int rfl (.tmp 53) (.tmp 58) rfl _ _ _ (OwI.alloc (OwI.drewN HO.out _) _) rfl _ _ rfl (cell_new1 _ _ _) HX.out (by first | omega | (simp<;>omega)) (by first | omega | (simp<;>omega)) ?_;intro v1 wv1 o1 g1 p1)
      go_roundw
      case rel=>exact⟨k+1,by omega,by go_num,by rw[HS.out,PF.out];exact o1,bel_push (bel_drewN hbel _) hsz (OwI.drewN HO.out _).1 (Nat.le_refl _) g1⟩
      case measure=>simp[intOf];omega
   ·obtain rfl:acc= []:=List.eq_nil_of_length_eq_zero (by omega)
    clear hform hown
    go_wp2
    go_quiet (fail)
    go_wp2_with (at_builtin;refine push_int rfl (.tmp 53) (.tmp 58) rfl _ _ _ (OwI.alloc (OwI.drewN HO.out _) _) rfl _ _ rfl (cell_new1 _ _ _) HX.out (by first | omega | (simp<;>omega)) (by first | omega | (simp<;>omega)) ?_;intro v1 wv1 o1 g1 p1)
    go_roundw
    case rel=>exact⟨k+1,by omega,by go_num,by rw[HS.out];exact o1,bel_push (bel_drewN hbel _) hsz (OwI.drewN HO.out _).1 (Nat.le_refl _) g1⟩
    case measure=>simp[intOf];omega
  ·obtain rfl:k=xs.length:=by omega
   rw[List.take_length] at hown hkl
   have HO:=hDD hown
   obtain⟨A1,cap1,rfl,hcap1,hm1,_,hform⟩:=hown.form
   clear hown hform
   go_wp2_with (at_builtin;refine append_ints rfl (.tmp 60) (.tmp 61) rfl w.heap.size _ [] (OwI_lit _ [] I64s_nil (by simp) hsz) rfl _ _ (HO.out.alloc _).rd rfl (by first | omega | (simp<;>omega)) (by first | omega | (simp<;>omega)) ?_;intro v1 w1 o1 g1 p1)
   go_ret
   exact⟨_,rfl,by simpa using o1,(hbel.alloc hsz _).grown g1 (by simp;omega) (fun k hk=>by simp[Value.ownBlock] at hk;omega)⟩
end Go.Proofs.YtfadnkjlilhneaaGreat
namespace Go.Proofs.YtfadnkjlilhneaaGreat
set_option maxRecDepth 20000
set_option linter.unusedVariables false
set_option linter.unusedSimpArgs false
open Go.RowKit
end Go.Proofs.YtfadnkjlilhneaaGreat
namespace Go.Proofs.YtfadnkjlilhneaaGreat
set_option maxRecDepth 20000
set_option linter.unusedVariables false
set_option linter.unusedSimpArgs false
open Go.RowKit
theorem getD_app_l (a b:List Int) (i:Nat) (h:i<a.length):(a++b).getD i 0=a.getD i 0:=by
 simp only[List.getD];rw[List.getElem?_append_left h]
theorem getD_app_r (a b:List Int) (i:Nat) (h:a.length≤i):(a++b).getD i 0=b.getD (i-a.length) 0:=by
 simp only[List.getD];rw[List.getElem?_append_right h]
def redP (xs:List Int):Prop:= ∀i,i+1<xs.length→invB (xs.getD i 0) (xs.getD (i+1) 0)=false
theorem redP_take {xs:List Int} (h:redP xs) (k:Nat):redP (xs.take k):=by
 intro i hi
 simp only[List.length_take] at hi
 have e1: ∀j,j<k→(xs.take k).getD j 0=xs.getD j 0:=fun j hj=>by simp only[List.getD,List.getElem?_take];rw[if_pos hj]
 rw[e1 i (by omega),e1 (i+1) (by omega)]
 exact h i (by omega)
theorem redP_snoc {xs:List Int} {x:Int} (h:redP xs) (hx:0<xs.length→invB (xs.getLastD 0) x=false):redP (xs++ [x]):=by
 intro i hi
 simp only[List.length_append,List.length_singleton] at hi
 rcases Nat.lt_or_eq_of_le (Nat.le_of_lt_succ (show i+1<xs.length+1 by omega)) with h1 | h1
 ·rw[getD_app_l _ _ _ (by omega),getD_app_l _ _ _ h1]
  exact h i h1
 ·rw[getD_app_l _ _ _ (by omega),getD_app_r _ _ _ (by omega),h1,Nat.sub_self]
  have:=hx (by omega)
  rw[last_get (by omega)] at this
  have e:i=xs.length-1:=by omega
  subst e
  simpa[List.getD,show xs.length-1<xs.length by omega] using this
theorem red1_red {acc:List Int} {x:Int} (h:redP acc):redP (red1 acc x):=by
 unfold red1
 split
 ·rw[List.dropLast_eq_take];exact redP_take h _
 ·rename_i hn
  refine redP_snoc h fun h0=> ?_
  cases hb:invB (acc.getLastD 0) x with
  | false=>rfl
  | true=>exact absurd ⟨h0,hb⟩ hn
theorem redL_red {acc xs:List Int} (h:redP acc):redP (redL acc xs):=by
 unfold redL
 induction xs generalizing acc with
 | nil=>exact h
 | cons x xs ih=>exact ih (red1_red h)
theorem redP_nil:redP []:=fun i hi=>by simp at hi
theorem redL_id {acc xs:List Int} (h:redP (acc++xs)):redL acc xs=acc++xs:=by
 unfold redL
 induction xs generalizing acc with
 | nil=>simp
 | cons x xs ih=>
   have e:red1 acc x=acc++ [x]:=by
    unfold red1
    rw[if_neg]
    rintro⟨h0,hb⟩
    have:=h (acc.length-1) (by simp;omega)
    rw[getD_app_l _ _ _ (by omega),getD_app_r _ _ _ (by omega),show acc.length-1+1-acc.length=0 by omega] at this
    rw[last_get h0] at hb
    have e2:acc.getD (acc.length-1) 0=acc[acc.length-1]:=by simp[List.getD,show acc.length-1<acc.length by omega]
    rw[e2] at this
    simp only[List.getD_cons_zero] at this
    rw[this] at hb
    cases hb
   rw[List.foldl_cons,e,ih (by simpa using h)]
   simp
end Go.Proofs.YtfadnkjlilhneaaGreat
namespace Go.Proofs.YtfadnkjlilhneaaGreat
set_option maxRecDepth 20000
set_option linter.unusedVariables false
set_option linter.unusedSimpArgs false
open Go.RowKit
set_option maxHeartbeats 1000000 in
theorem specMultiplyWords_any (u v:Value) (xs ys:List Int) (w:World) (h:RdI w u xs) (h':RdI w v ys) (hl:xs.length≤536870912) (hl':ys.length≤536870912):
  Calls Tryz.prog 26 #[u,v] w fun e w'=> ∃r,e= .returned r∧OwI w' w.heap.size r (redL [] (xs++ys))∧Below w.heap.size w w':=by
 have H:=hDD h
 have H':=hDD h'
 clear h h'
 go_enter Tryz.func26,Tryz.ntmps26
 go_wp2_with (first
  | (at_builtin;refine append_ints rfl (.tmp 5) (.tmp 6) rfl w.heap.size _ [] (OwI_lit w [] I64s_nil (by simp) (Nat.le_refl _)) rfl _ _ (H.out.alloc _) rfl (by simp only[List.length_nil];omega) (by simp) ?_;intro v1 w1 o1 g1 p1;have O1:=hDD o1;have hb1:Hid (Below w.heap.size w w1):=hDD (((Below.refl _ _).alloc (Nat.le_refl _) _).grown g1 (by simp) (fun k hk=>by simp[Value.ownBlock] at hk;omega));clear o1 g1 p1)
  | (at_builtin;have hs1:=hb1.out.size;refine append_ints rfl (.tmp 7) (.tmp 8) rfl w.heap.size _ _ O1.out rfl _ _ (H'.out.below hb1.out) rfl (by simp only[List.length_append,List.length_nil];omega) hs1 ?_;intro v2 w2 o2 g2 p2;have O2:=hDD o2;have hb2:Hid (Below w.heap.size w w2):=hDD (hb1.out.grown g2 hs1 (fun k hk=>(O1.out.1.lt k hk).1));clear o2 g2 p2))
 have hs2:=hb2.out.size
 refine(specReduceLetters_any _ _ _ O2.out.rd (by simp only[List.length_append,List.length_nil];omega)).mono ?_
 rintro e w3 ⟨r3,rfl,o3,b3⟩
 have O3:=hDD o3
 have B3:=hDD b3
 clear o3 b3
 go_wp2
 go_ret
 exact⟨_,rfl,by have:=O3.out.mono hs2;simpa using this,hb2.out.trans (B3.out.mono hs2)⟩
def redLL (L:List (List Int)):List Int:=redL [] L.flatten
def lenLL (L:List (List Int)):Nat:=(L.map List.length).sum
theorem redLL_succ (L:List (List Int)) (k:Nat) (h:k<L.length):redLL (L.take (k+1))=redL (redLL (L.take k)) L[k]:=by
 unfold redLL redL
 rw[List.take_succ_eq_append_getElem h,List.flatten_append,List.foldl_append]
 simp
theorem lenLL_take (L:List (List Int)) (k:Nat) (h:k<L.length):lenLL (L.take k)+L[k].length≤lenLL L:=by
 unfold lenLL
 have:L=L.take k++L[k]::L.drop (k+1):=by rw[←List.drop_eq_getElem_cons h,List.take_append_drop]
 have e:=congrArg (fun l=>(l.map List.length).sum) this
 simp only[List.map_append,List.map_cons,List.sum_append,List.sum_cons] at e
 omega
theorem redLL_len (L:List (List Int)):(redLL L).length≤lenLL L:=by
 have:=redL_len [] L.flatten
 simp only[redLL,lenLL,List.length_flatten,List.length_nil] at*
 omega
set_option maxHeartbeats 1000000 in
theorem product_any (v:Value) (L:List (List Int)) (w:World) (h:RdII w v L) (hl:lenLL L≤1073741824) (hn:L.length≤1073741824):
  Calls Tryz.prog 37 #[v] w fun e w'=> ∃r,e= .returned r∧OwI w' w.heap.size r (redLL L)∧Below w.heap.size w w':=by
 have H:=hDD h
 obtain⟨A,cap,rfl,hcap,hm,hA⟩:=h.form
 have HA:=hDD hA
 clear h hA
 unfold maxLen at hm
 go_enter Tryz.func37,Tryz.ntmps37
 go_wp2
 go_loopw [3,11] (fun out i wr=> ∃k:Nat,k≤L.length∧i= .int .i64 k∧OwI wr w.heap.size out (redLL (L.take k))∧Below w.heap.size w wr)
  (fun _ i _=>L.length-(intOf i).toNat)
 case atStart=>exact⟨0,Nat.zero_le _,rfl,OwI_lit _ [] I64s_nil (by simp) (Nat.le_refl _),(Below.refl _ _).alloc (Nat.le_refl _) _⟩
 case round=>
  obtain⟨k,hk,rfl,hown,hbel⟩:=hrel
  have hsz:=hbel.size
  by_cases hlt:k<L.length
  ·have hll:=lenLL_take L k hlt
   have hkl:=redLL_len (L.take k)
   obtain⟨b,off,A1,cap1,rfl,hbl,hcell0,hc1,hm1,hrd⟩:=H.out.at hlt
   have hcell:=(hbel.cell hbl).trans hcell0
   clear hcell0
   have HS:=hDD (redLL_succ L k hlt)
   generalize redLL (L.take k)=acc0 at hown hkl HS
   have HR:=hDD hrd
   clear hrd
   generalize L[k]=ys at hcell hc1 HR hll HS
   have HO:=hDD hown
   have HB:=hDD hbel
   clear hown hbel
   unfold maxLen at hm1
   obtain⟨wo,rfl⟩: ∃wo:World,wo=wr:=⟨_,rfl⟩
   go_wp2
   go_loopw [3,17] (fun out j wi=> ∃m:Nat,m≤ys.length∧j= .int .i64 m∧OwI wi w.heap.size out (redL acc0 (ys.take m))∧Below w.heap.size w wi)
    (fun _ j _=>ys.length-(intOf j).toNat)
   case atStart=>exact⟨0,Nat.zero_le _,rfl,HO.out,HB.out⟩
   case round=>
    obtain⟨m,hm',rfl,hown,hbel⟩:=hrel
    have hsz':=hbel.size
    have hal:(redL acc0 (ys.take m)).length≤acc0.length+m:=by have:=redL_len acc0 (ys.take m);have:=List.length_take_le m ys;omega
    by_cases hlt':m<ys.length
    ·obtain⟨b',off',rfl,hbl',hc'⟩:=(HR.out.below hbel).at (by omega)
     have hcell':=hc' m hlt'
     have HS':=hDD (redL_succ acc0 ys m hlt')
     have HX:=hDD (HR.out.2 ys[m] (by simp))
     clear hc'
     generalize redL acc0 (ys.take m)=acc at hown hal HS'
     generalize ys[m]=x at hcell' HS' HX
     have HO':=hDD hown
     obtain⟨A1,cap1',rfl,hcap1,hm1',_,hform⟩:=hown.form
     unfold maxLen at hm1'
     by_cases h0:0<acc.length
     ·obtain⟨g,rfl,hg1,hg2⟩:=hform h0
      obtain⟨b1,off1,hA1,_,hc1⟩:=hown.rd.at h0
      obtain⟨rfl,rfl⟩:g=b1∧0=off1:=by simpa using hA1
      have hlast:=hc1 (acc.length-1) (by omega)
      rw[Nat.zero_add] at hlast
      have HLI:=hDD (hown.2 acc[acc.length-1] (by simp))
      have HC:=hDD (red1_cut (x:=x) h0)
      have HP:=hDD (red1_push (x:=x) h0)
      generalize acc[acc.length-1]=last at hlast HLI HC HP
      have hd0:decide ((0:Int)<(acc.length:Int))=true:=by simp;omega
      clear hc1 hform hown hA1
      rcases hi:invB last x with _ | _
      ·have PF:=hDD (HP.out hi)
       have hi':=areInverse_any last x
       rw[hi] at hi'
       have HI:=hDD hi'
       clear hi hi'
       go_wp2_with (first | (go_at_call 72;refine(HI.out _ HLI.out).mono ?_;rintro e w' ⟨rfl,rfl⟩) | (at_builtin;refine push_int rfl (.tmp 39) (.tmp 41) rfl _ _ _ (OwI.alloc HO'.out _) rfl _ _ rfl (cell_new1 _ _ _) HX.out (by first | omega | (simp<;>omega)) (by first | omega | (simp<;>omega)) ?_;intro v1 wv1 o1 g1 p1))
       go_roundw
       case rel=>exact⟨m+1,by omega,by go_num,by rw[HS'.out,PF.out];exact o1,bel_push hbel hsz' HO'.out.1 (Nat.le_refl _) g1⟩
       case measure=>simp[intOf];omega
      ·have PF:=hDD (HC.out hi)
       have hi':=areInverse_any last x
       rw[hi] at hi'
       have HI:=hDD hi'
       clear hi hi'
       go_wp2_with (go_at_call 72;refine(HI.out _ HLI.out).mono ?_;rintro e w' ⟨rfl,rfl⟩)
       go_roundw
       case rel=>exact⟨m+1,by omega,by go_num,by rw[HS'.out,PF.out];exact owI_cut HO'.out (by omega),hbel⟩
       case measure=>simp[intOf];omega
     ·obtain rfl:acc= []:=List.eq_nil_of_length_eq_zero (by omega)
      clear hform hown
      go_wp2_with (at_builtin;refine push_int rfl (.tmp 39) (.tmp 41) rfl _ _ _ (OwI.alloc HO'.out _) rfl _ _ rfl (cell_new1 _ _ _) HX.out (by first | omega | (simp<;>omega)) (by first | omega | (simp<;>omega)) ?_;intro v1 wv1 o1 g1 p1)
      go_roundw
      case rel=>exact⟨m+1,by omega,by go_num,by rw[HS'.out];exact o1,bel_push hbel hsz' HO'.out.1 (Nat.le_refl _) g1⟩
      case measure=>simp[intOf];omega
    ·obtain rfl:m=ys.length:=by omega
     rw[List.take_length] at hown
     have HO':=hDD hown
     have HB':=hDD hbel
     clear hown hbel
     go_wp2
     go_roundw
     case rel=>exact⟨k+1,by omega,by go_num,by rw[HS.out];exact HO'.out,HB'.out⟩
     case measure=>simp[intOf];omega
  ·obtain rfl:k=L.length:=by omega
   rw[List.take_length] at hown
   go_wp2
   go_ret
   exact⟨_,rfl,hown,hbel⟩
end Go.Proofs.YtfadnkjlilhneaaGreat
namespace Go.Proofs.YtfadnkjlilhneaaGreat
set_option maxRecDepth 20000
set_option linter.unusedVariables false
set_option linter.unusedSimpArgs false
open Go.RowKit
end Go.Proofs.YtfadnkjlilhneaaGreat
namespace Go.Proofs.YtfadnkjlilhneaaGreat
set_option maxRecDepth 20000
set_option linter.unusedVariables false
set_option linter.unusedSimpArgs false
open Go.RowKit
end Go.Proofs.YtfadnkjlilhneaaGreat
namespace Go.Proofs.YtfadnkjlilhneaaGreat
set_option maxRecDepth 20000
set_option linter.unusedVariables false
set_option linter.unusedSimpArgs false
open Go.RowKit
end Go.Proofs.YtfadnkjlilhneaaGreat
namespace Go.Proofs.YtfadnkjlilhneaaGreat
set_option maxRecDepth 20000
set_option linter.unusedVariables false
set_option linter.unusedSimpArgs false
open Go.RowKit
structure IsI (a b:GrD) (ls:List Int) (N P bl capl:Nat) (W wr:World) (out:Value) (o im:List Int):Prop where
 ok:OrdOk (N:Int) o
 len:im.length=N
 img: ∀y:Nat,y<N→(y:Int)∈o→im[y]? =some (imgW a b y)∧0≤imgW a b y
 fnd:OwI wr (P+1) out o
 row:OwI wr P (.slice (some ⟨P,0,none⟩) N N) im
 lets:RdI wr (.slice (some ⟨bl,0,none⟩) ls.length capl) ls
 ne:out.ownBlock≠some bl
 blt:bl<wr.heap.size
 blP:P<bl
 bel:Below P W wr
section
variable {a b:GrD} {ls:List Int} {N P bl capl:Nat} {W wr w':World} {out:Value} {o im:List Int}
theorem IsI.below (h:IsI a b ls N P bl capl W wr out o im) (hb:Below wr.heap.size wr w'):IsI a b ls N P bl capl W w' out o im:=
 ⟨h.ok,h.len,h.img,h.fnd.below hb,h.row.below hb,h.lets.below hb,h.ne,Nat.lt_of_lt_of_le h.blt hb.size,h.blP,h.bel.trans (hb.mono (by have:=h.blt;have:=h.blP;omega))⟩
theorem IsI.found (h:IsI a b ls N P bl capl W wr out o im) {y:Nat} (hy:y<N) {v9:Value} {w9:World} {ob:Obj} (hok:OrdOk (N:Int) (o++ [(y:Int)])) (o9:OwI w9 (P+1) v9 (o++ [(y:Int)])) (g9:(wr.alloc ob).grownBy w9 out.ownBlock)
  (p9:v9.ownBlock=out.ownBlock∨v9.ownBlock=some (wr.alloc ob).heap.size) {z:Int} (hz:imgW a b y=z) (hz0:0≤z) (hz64:I64 z):
  IsI a b ls N P bl capl W (w9.setCell ⟨P,y,none⟩ (.int .i64 z)) v9 (o++ [(y:Int)]) (im.set y z):=by
 have hs9:=g9.size
 have hsa:(wr.alloc ob).heap.size=wr.heap.size+1:=by simp
 have hbl:=h.blt
 have hbP:=h.blP
 have hP: ∀c,out.ownBlock=some c→P+1≤c:=fun c hc=>(h.fnd.1.lt c hc).1
 have hrow:OwI w9 P (.slice (some ⟨P,0,none⟩) N N) im:=(h.row.alloc ob).kept g9 (.inr fun e=>by have:=hP P (by rw[←e];rfl);omega)
 have hlet:RdI w9 (.slice (some ⟨bl,0,none⟩) ls.length capl) ls:=(h.lets.alloc ob).grown g9 fun b hb hb'=>by
  simp only[Value.ownBlock,Option.some.injEq] at hb
  subst hb
  exact h.ne hb'
 obtain⟨r1,r2⟩:=hrow.set y z hz64
 refine⟨hok,by rw[List.length_set];exact h.len,fun j hj hm=> ?_,o9.far (p:=⟨P,y,none⟩) (Nat.lt_succ_self _) _,r1,hlet.grown r2 fun b hb hb'=>by simp[Value.ownBlock] at hb hb';omega,?_,by simp;omega,h.blP,?_⟩
 ·by_cases e:j=y
  ·subst e
   rw[List.getElem?_set_self (by rw[h.len];exact hy),hz]
   exact⟨rfl,hz0⟩
  ·rw[List.getElem?_set_ne (Ne.symm e)]
   rcases List.mem_append.1 hm with hm | hm
   ·exact h.img j hj hm
   ·rw[List.mem_singleton] at hm;omega
 ·rcases p9 with p9 | p9
  ·rw[p9];exact h.ne
  ·rw[p9]
   intro e
   injection e with e
   omega
 ·refine Below.setCell ?_ (by show P≤P;omega) _
  exact bel_push h.bel (by omega) h.fnd.1 (by omega) g9
end
structure TreeX (f:Int→List Int) (bb P N:Nat) (w:World) (ord:Value) (o:List Int):Prop where
 ex: ∃vs:List Value,vs.length=N∧w.ownsRow bb 26 1 (.slice (some ⟨P,0,none⟩) N N) N vs∧ ∀(j:Nat) (hj:j<vs.length),
  ((j:Int)∉o∧vs[j]= .slice none 0 0)∨((j:Int)∈o∧ ∃(b cap:Nat),vs[j]= .slice (some ⟨b,0,none⟩) (f j).length cap∧(f j).length≤o.length∧RdI w vs[j] (f j)∧P<b∧ord.ownBlock≠some b∧b<w.heap.size)
 ne:ord.ownBlock≠some P
section
variable {f:Int→List Int} {bb P N:Nat} {w w':World} {ord:Value} {o:List Int}
theorem TreeX.lt (h:TreeX f bb P N w ord o):bb≤P∧P<w.heap.size:=by
 obtain⟨vs,_,h2,_⟩:=h.ex
 exact h2.lt P rfl
theorem TreeX.at_new (h:TreeX f bb P N w ord o) {y:Nat} (hy:y<N) (hn:(y:Int)∉o):w.cell? ⟨P,y,none⟩=some (.slice none 0 0):=by
 obtain⟨vs,h1,h2,h3⟩:=h.ex
 rw[World.ownsRow.cellAt h2 y (by omega)]
 rcases h3 y (by omega) with ⟨_,h4⟩ | ⟨h4,_⟩
 ·rw[List.getElem?_eq_getElem (by omega),h4]
 ·exact absurd h4 hn
theorem TreeX.at_old (h:TreeX f bb P N w ord o) {y:Nat} (hy:y<N) (hn:(y:Int)∈o):
  ∃(b cap:Nat),w.cell? ⟨P,y,none⟩=some (.slice (some ⟨b,0,none⟩) (f y).length cap)∧(f y).length≤o.length∧RdI w (.slice (some ⟨b,0,none⟩) (f y).length cap) (f y)∧b<w.heap.size∧P<b:=by
 obtain⟨vs,h1,h2,h3⟩:=h.ex
 rw[World.ownsRow.cellAt h2 y (by omega)]
 rcases h3 y (by omega) with ⟨h4,_⟩ | ⟨_,b,cap,e1,e2,e3,e4,_,e6⟩
 ·exact absurd hn h4
 ·rw[e1] at e3
  exact⟨b,cap,by rw[List.getElem?_eq_getElem (by omega),e1],e2,e3,e6,e4⟩
theorem TreeX.free (h:TreeX f bb P N w ord o) (j:Nat):w.frozen? ⟨P,j,none⟩=false:=by
 obtain⟨vs,h1,h2,h3⟩:=h.ex
 exact World.ownsRow.frozenAt h2 j
theorem TreeX.below (h:TreeX f bb P N w ord o) (hb:Below w.heap.size w w'):TreeX f bb P N w' ord o:=by
 obtain⟨vs,h1,h2,h3⟩:=h.ex
 refine⟨⟨vs,h1,ownsRow_below h2 hb,fun j hj=> ?_⟩,h.ne⟩
 rcases h3 j hj with h4 | ⟨h4,b,cap,e1,e2,e3,e4,e5,e6⟩
 ·exact .inl h4
 ·exact .inr ⟨h4,b,cap,e1,e2,e3.below hb,e4,e5,by have:=hb.size;omega⟩
theorem TreeX.set (h:TreeX f bb P N w ord o) {y:Nat} (hy:y<N) {b cap:Nat} {ws:List Int} (hws:f (y:Int)=ws) (hr:RdI w (.slice (some ⟨b,0,none⟩) ws.length cap) ws) (hl:ws.length≤o.length+1) (hb:P<b) (ho:ord.ownBlock≠some b) (hlt:b<w.heap.size):
  TreeX f bb P N (w.setCell ⟨P,y,none⟩ (.slice (some ⟨b,0,none⟩) ws.length cap)) ord (o++ [(y:Int)]):=by
 obtain⟨vs,h1,h2,h3⟩:=h.ex
 obtain⟨s1,s2⟩:=World.ownsRow.stored h2 y (.slice (some ⟨b,0,none⟩) ws.length cap)
 have hsz:(w.setCell ⟨P,y,none⟩ (.slice (some ⟨b,0,none⟩) ws.length cap)).heap.size=w.heap.size:=by simp
 have hg:w.grownBy (w.setCell ⟨P,y,none⟩ (.slice (some ⟨b,0,none⟩) ws.length cap)) (some P):=set_grown _ _ _ _
 refine⟨⟨_,by simpa using h1,s1,fun j hj=> ?_⟩,h.ne⟩
 have hj':j<vs.length:=by simpa using hj
 by_cases hjy:j=y
 ·subst hjy
  refine .inr ⟨by simp,b,cap,by rw[hws];simp,by rw[hws];simp;omega,?_,hb,ho,by omega⟩
  rw[List.getElem_set_self,hws]
  exact hr.grown hg fun x hx hx'=>by simp[Value.ownBlock] at hx hx';omega
 ·rw[List.getElem_set_ne (Ne.symm hjy)]
  rcases h3 j hj' with ⟨h4,h5⟩ | ⟨h4,b',cap',e1,e2,e3,e4,e5,e6⟩
  ·refine .inl ⟨?_,h5⟩
   rw[List.mem_append,List.mem_singleton]
   rintro(h6 | h6)
   ·exact h4 h6
   ·omega
  ·refine .inr ⟨List.mem_append_left _ h4,b',cap',e1,by simp;omega,e3.grown hg fun x hx hx'=> ?_,e4,e5,by omega⟩
   rw[e1] at hx
   simp[Value.ownBlock] at hx hx'
   omega
theorem TreeX.lit (h:TreeX f bb P N w (.slice none 0 0) o) (ob:Obj) (n c:Nat):TreeX f bb P N (w.alloc ob) (.slice (some ⟨w.heap.size,0,none⟩) n c) o:=by
 have hlt:=h.lt
 obtain⟨vs,h1,h2,h3⟩:=h.ex
 refine⟨⟨vs,h1,ownsRow_below h2 ((Below.refl w.heap.size w).alloc (Nat.le_refl _) ob),fun j hj=> ?_⟩,by simp[Value.ownBlock];omega⟩
 rcases h3 j hj with h4 | ⟨h4,b,cap,e1,e2,e3,e4,e5,e6⟩
 ·exact .inl h4
 ·exact .inr ⟨h4,b,cap,e1,e2,e3.alloc _,e4,by simp[Value.ownBlock];omega,by simp;omega⟩
theorem TreeX.push (h:TreeX f bb P N w ord o) {w9:World} {v9:Value} {ob:Obj} (hg:(w.alloc ob).grownBy w9 ord.ownBlock) (hp:v9.ownBlock=ord.ownBlock∨v9.ownBlock=some (w.alloc ob).heap.size):TreeX f bb P N w9 v9 o:=by
 have hlt:=h.lt
 have h':=h.below ((Below.refl w.heap.size w).alloc (Nat.le_refl _) ob)
 obtain⟨vs,h1,h2,h3⟩:=h'.ex
 have hs:(w.alloc ob).heap.size=w.heap.size+1:=by simp
 have hs9:=hg.size
 refine⟨⟨vs,h1,h2.kept hg (.inr fun e=>h.ne e.symm),fun j hj=> ?_⟩,?_⟩
 ·rcases h3 j hj with h4 | ⟨h4,b,cap,e1,e2,e3,e4,e5,e6⟩
  ·exact .inl h4
  ·refine .inr ⟨h4,b,cap,e1,e2,e3.grown hg fun x hx hx'=> ?_,e4,?_,by omega⟩
   ·rw[e1] at hx
    simp only[Value.ownBlock,Option.some.injEq] at hx
    subst hx
    exact e5 hx'
   ·rcases hp with hp | hp
    ·rw[hp];exact e5
    ·rw[hp]
     intro e
     injection e with e
     omega
 ·rcases hp with hp | hp
  ·rw[hp];exact h.ne
  ·rw[hp]
   intro e
   injection e with e
   omega
end
set_option maxHeartbeats 1000000 in
theorem treeX_any (v:Value) (g:GrD) (w:World) (h:ArgG w v g) (hf:foldB g=true):
  Calls Tryz.prog 110 #[v, .int .i64 0] w fun e w'=> ∃r P,e= .returned (.tuple #[r, .slice (some ⟨P,0,none⟩) g.2.1.toNat g.2.1.toNat])∧w.heap.size≤P∧TreeX (wdO g) P P g.2.1.toNat w' r (canO g)∧OwI w' w.heap.size r (canO g)∧Below w.heap.size w w':=by
 have HG:=hDD h
 obtain⟨hg,hfol⟩:=foldB_parts hf
 have ONE:=hDD (steps_one hfol)
 have LET:=hDD (let_of_gr hg)
 obtain⟨hr13,hsz40,hl120,_⟩:=grB_parts hg
 obtain⟨A,cap,hv⟩: ∃A cap,v= .agg #[.int .i64 g.1, .int .i64 g.2.1, .slice A g.2.2.length cap]:=by
  obtain⟨s,hv,_,_,ha⟩:=h
  obtain⟨A,cap,rfl⟩:=ha.form
  exact⟨A,cap,hv⟩
 subst hv
 obtain⟨N,hN⟩: ∃N:Nat,g.2.1=(N:Int):=⟨g.2.1.toNat,by omega⟩
 obtain⟨rn,hrn⟩: ∃rn:Nat,g.1=(rn:Int):=⟨g.1.toNat,by omega⟩
 have hrn1:1≤rn:=by omega
 have hrn3:rn≤3:=by omega
 have hN1:1≤N:=by omega
 have hN2:N≤40:=by omega
 have HCO:Hid (canO g=canF g.2.2 (lettersL rn) 41 0 [0]):=hDD (by unfold canO;rw[hrn];rfl)
 have HZ:Hid (wdO g 0= []):=hDD (wd_zero hg)
 have HS0:Hid (TwS g (lettersL rn) 0 [0]):=hDD (by have h:=TwS.zero g;rwa [hrn] at h)
 have HNW:Hid (∀(k:Nat) (o:List Int) (u:Int),TwS g (lettersL rn) k o→o[k]? =some u→k<41→ ∀(m:Nat) (hm:m<(lettersL rn).length),0≤nextV g.2.2 u (lettersL rn)[m]→hasB (((lettersL rn).take m).foldl (cstep g.2.2 u) o) (nextV g.2.2 u (lettersL rn)[m])=false→wdO g (nextV g.2.2 u (lettersL rn)[m])=wdO g u++ [(lettersL rn)[m]]):=hDD fun k o u h h1 h2 m hm h3 h4=>h.new hg h1 h2 hm h3 h4
 have OK0:=hDD (OrdOk.one (n:=g.2.1) (by omega))
 have OKS:Hid (∀(u:Int) (o:List Int) (k:Nat),OrdOk g.2.1 o→OrdOk g.2.1 (((lettersL rn).take k).foldl (cstep g.2.2 u) o)):=hDD fun u o k h=>cfold_take_ok hg _ k h
 have OKL:Hid (∀o:List Int,OrdOk g.2.1 o→o.length≤40):=hDD fun o h=>h.len (by omega) (by omega)
 have OKR:Hid (∀o:List Int,OrdOk g.2.1 o→ ∀y∈o,0≤y∧y<N):=hDD fun o h y hy=>by have:=h.2.1 y hy;omega
 have NV:Hid (∀u x,nextV g.2.2 u x= -1∨(0≤nextV g.2.2 u x∧nextV g.2.2 u x<N)):=hDD fun u x=>by
  rcases nextV_range hg u x with e | e
  ·exact .inl e
  ·exact .inr ⟨e.1,by omega⟩
 have hll:=lettersL_len rn
 have HLE:Hid (∀W:World,Calls Tryz.prog 66 #[.int .i64 g.1] W fun e w'=> ∃r,e= .returned r∧OwI w' W.heap.size r (lettersL rn)∧Below W.heap.size W w'):=hDD fun W=>by
  rw[hrn]
  exact letters_any rn W (by omega)
 generalize lettersL rn=ls at*
 obtain⟨F,hF⟩: ∃F,F=wdO g:=⟨_,rfl⟩
 rw[←hF] at HZ HNW⊢
 replace hF:=hDD hF
 rw[hN] at HG
 clear hg hf hfol h hrn
 have hr1:1≤g.1∧g.1≤3:=hr13
 clear hsz40 hl120 hr13
 rw[hN]
 simp only[Int.toNat_natCast]
 have bx:Below w.heap.size w (w.alloc (Obj.cells #[Value.int IntKind.i64 g.1,Value.int IntKind.i64 N, .slice A g.2.2.length cap] 31)):=(by repeat(first | exact Below.refl _ _ | (refine Below.setCell ?_ (by first | omega | (simp<;>omega)) _) | (refine bel_drewN ?_ _) | (refine Below.drew ?_) | (refine Below.alloc ?_ (by first | omega | (simp<;>omega)) _)))
 have k0:(w.alloc (Obj.cells #[Value.int IntKind.i64 g.1,Value.int IntKind.i64 N, .slice A g.2.2.length cap] 31)).cell? ⟨w.heap.size,0,none⟩=some (.int .i64 g.1):=by simp[go_sem]
 have k1:(w.alloc (Obj.cells #[Value.int IntKind.i64 g.1,Value.int IntKind.i64 N, .slice A g.2.2.length cap] 31)).cell? ⟨w.heap.size,1,none⟩=some (.int .i64 N):=by simp[go_sem]
 have k2:(w.alloc (Obj.cells #[Value.int IntKind.i64 g.1,Value.int IntKind.i64 N, .slice A g.2.2.length cap] 31)).cell? ⟨w.heap.size,2,none⟩=some (.slice A g.2.2.length cap):=by simp[go_sem]
 have sx:w.heap.size<(w.alloc (Obj.cells #[Value.int IntKind.i64 g.1,Value.int IntKind.i64 N, .slice A g.2.2.length cap] 31)).heap.size:=by simp
 have ex:(w.alloc (Obj.cells #[Value.int IntKind.i64 g.1,Value.int IntKind.i64 N, .slice A g.2.2.length cap] 31)).heap.size=w.heap.size+1:=by simp
 have qT: ∀(w:World) (a:Option Addr) (n c n' c':Nat),(binOp .eql 26 (.slice a n c) (.slice none n' c')).run Tryz.prog w= .ok (.bool a.isNone) w:=fun w a n c n' c'=>Lib.run_eql_slice_nil w _ _ a n c n' c' Tryz.underlying26
 go_enter Tryz.func110,Tryz.ntmps110
 obtain⟨i0,hi0,hz0,hz1,hz2⟩:=info_parts ints_info'
 go_wp2_with (at_make;refine wpList_make_full _ rfl _ _ 57 rfl (w.heap.size+1) 26 i0 (.slice none 0 0) 1 Tryz.underlying57 hi0 hz0 hz1 _ _ _ _ N rfl rfl rfl rfl (by rw[hz2];omega) (by unfold maxLen;omega) (by simp) ?_)
 generalize w.alloc (Obj.cells #[Value.int IntKind.i64 g.1,Value.int IntKind.i64 N, .slice A g.2.2.length cap] 31)=w1 at bx k0 k1 k2 sx ex⊢
 rw[←ex]
 have BX:=hDD bx
 have K0:=hDD k0
 have K1:=hDD k1
 have K2:=hDD k2
 have EX:=hDD ex
 clear k0 k1 k2 bx ex
 intro w2 hown0 hgrow0
 have hP2:w1.heap.size<w2.heap.size:=(hown0.lt w1.heap.size rfl).2
 have B12:Below w1.heap.size w1 w2:=(Below.refl w1.heap.size w1).grown hgrow0 (Nat.le_refl _) (fun k h=>by cases h)
 have TW0:TreeX F w1.heap.size w1.heap.size N w2 (.slice none 0 0) []:=⟨⟨List.replicate N (.slice none 0 0),by simp,by simpa[toList_madeCells_one] using hown0,fun j hj=> .inl ⟨by simp,by simp⟩⟩,by simp[Value.ownBlock]⟩
 have TW1:TreeX F w1.heap.size w1.heap.size N (w2.alloc (.cells #[] 3)) (.slice none 0 0) []:=TW0.below ((Below.refl _ _).alloc (Nat.le_refl _) _)
 have oE:OwI (w2.alloc (.cells #[] 3)) w2.heap.size (.slice (some ⟨w2.heap.size,0,none⟩) 0 0) []:=OwI_lit w2 [] (fun _ h=>by cases h) (by simp) (Nat.le_refl _)
 have TW2:=TW1.set (y:=0) (by omega) HZ.out (b:=w2.heap.size) (cap:=0) (ws:= []) oE.rd (by simp) (by omega) (by simp[Value.ownBlock]) (by simp)
 have hc0:=TW1.at_new (y:=0) (by omega) (by simp)
 have hf0:=TW1.free 0
 have j1:(0:Int)<(N:Int):=by omega
 have TWH:=hDD TW2
 have B13:Hid (Below w1.heap.size w1 ((w2.alloc (.cells #[] 3)).setCell ⟨w1.heap.size,0,none⟩ (.slice (some ⟨w2.heap.size,0,none⟩) 0 0))):=hDD ((B12.alloc (by omega) _).setCell (by show w1.heap.size≤w1.heap.size;omega) _)
 clear TW0 TW1 TW2 oE hown0 hgrow0 B12
 go_wp2
 have oO:OwI (((w2.alloc (.cells #[] 3)).setCell ⟨w1.heap.size,0,none⟩ (.slice (some ⟨w2.heap.size,0,none⟩) 0 0)).alloc (.cells #[Value.int IntKind.i64 0] 3)) (w1.heap.size+1) (.slice (some ⟨w2.heap.size+1,0,none⟩) 1 1) [0]:=OwI_litN _ [0] (w2.heap.size+1) (by simp) (fun x hx=>by simp at hx;subst hx;exact⟨by decide,by decide⟩) (by simp) (by omega)
 have TWL:=TWH.out.lit (.cells #[Value.int IntKind.i64 0] 3) 1 1
 have B14:Below w1.heap.size w1 (((w2.alloc (.cells #[] 3)).setCell ⟨w1.heap.size,0,none⟩ (.slice (some ⟨w2.heap.size,0,none⟩) 0 0)).alloc (.cells #[Value.int IntKind.i64 0] 3)):=B13.out.alloc (by simp;omega) _
 have e3:((w2.alloc (.cells #[] 3)).setCell ⟨w1.heap.size,0,none⟩ (.slice (some ⟨w2.heap.size,0,none⟩) 0 0)).heap.size=w2.heap.size+1:=by simp
 simp only[List.length_nil,List.nil_append] at TWL
 rw[e3] at TWL
 have hsw:(w2.alloc (.cells #[] 3)).setCell ⟨w1.heap.size,0,none⟩ (.slice (some ⟨w2.heap.size,0,none⟩) 0 0)=(w2.setCell ⟨w1.heap.size,0,none⟩ (.slice (some ⟨w2.heap.size,0,none⟩) 0 0)).alloc (.cells #[] 3):=World.setCell_alloc_past _ _ _ _ hP2
 rw[hsw] at oO TWL B14
 generalize ((w2.setCell ⟨w1.heap.size,0,none⟩ (.slice (some ⟨w2.heap.size,0,none⟩) 0 0)).alloc (.cells #[] 3)).alloc (.cells #[Value.int IntKind.i64 0] 3)=w3 at oO TWL B14⊢
 have OO:=hDD oO
 have TW:=hDD TWL
 have HB0:=hDD B14
 clear oO TWL B14 e3 hc0 hf0 TWH B13
 go_loopw [7,8] (fun out i wo=> ∃(k:Nat) (o:List Int),k≤o.length∧i= .int .i64 k∧OrdOk g.2.1 o∧TwS g ls k o∧canO g=canF g.2.2 ls (41-k) k o∧OwI wo (w1.heap.size+1) out o∧TreeX F w1.heap.size w1.heap.size N wo out o∧Below w1.heap.size w1 wo) (fun _ i _=>41-(intOf i).toNat)
 case atStart=>exact⟨0,[0],by simp,rfl,OK0.out,HS0.out,HCO.out,OO.out,TW.out,HB0.out⟩
 case round=>
  obtain⟨k,o,hk,rfl,hok,hts0,hco,hown,htw,hbel⟩:=hrel
  have HTS0:=hDD hts0
  clear hts0
  obtain⟨wo,rfl⟩: ∃wo:World,wo=wr:=⟨_,rfl⟩
  have hol:=OKL.out o hok
  have HOK:=hDD hok
  have HC:=hDD hco
  have HO:=hDD hown
  have HTW:=hDD htw
  have HB2:=hDD hbel
  have hsz:=hbel.size
  have q0:=(hbel.cell (p:=⟨w.heap.size,0,none⟩) sx).trans K0.out
  obtain⟨A1,cap1,rfl,_,_,_,hf2⟩:=hown.form
  clear hok hco htw hbel
  by_cases hlt:k<o.length
  ·obtain⟨u,hu⟩: ∃u,o[k]? =some u:=⟨o[k],by simp⟩
   have hku:o[k]=u:=by rw[List.getElem?_eq_getElem hlt] at hu;injection hu
   have HCF:Hid (canO g=canF g.2.2 ls (41-(k+1)) (k+1) (ls.foldl (cstep g.2.2 u) o)):=hDD (by
    rw[HC.out,show 41-k=(41-(k+1))+1 by omega,canF_step _ _ _ _ _ hlt,hku])
   have HTS1:=hDD (HTS0.out.step hu (by omega))
   have HNW1:=hDD (HNW.out k o u HTS0.out hu (by omega))
   have HPU:Hid (∀m:Nat,(((ls.take m).foldl (cstep g.2.2 u) o))[k]? =some u):=hDD fun m=>cfold_prefix _ _ _ _ _ _ hu
   have HSU:Hid (∀(m:Nat) (hm:m<ls.length),(ls.take (m+1)).foldl (cstep g.2.2 u) o=cstep g.2.2 u ((ls.take m).foldl (cstep g.2.2 u) o) ls[m]):=hDD fun m hm=>cfold_succ _ _ _ _ _ hm
   have HOKm:Hid (∀m:Nat,OrdOk g.2.1 ((ls.take m).foldl (cstep g.2.2 u) o)):=hDD fun m=>OKS.out u o m HOK.out
   obtain⟨un,hun,hunN⟩: ∃un:Nat,u=(un:Int)∧un<N:=by
    have h1:=HOK.out.2.1 u (by rw[←hku];simp)
    exact⟨u.toNat,by omega,by omega⟩
   obtain⟨b1,rfl,_,hb1⟩:=hf2 (by omega)
   have ck:=hown.cellAt k hlt
   rw[hku] at ck
   have HUN:=hDD hun
   clear hf2 hu hku hown hun
   go_wp2_with fail
   refine(HLE.out wo).mono ?_
   rintro e wl ⟨rl,rfl,ol,bl⟩
   have sl:=bl.size
   obtain⟨Al,capl,rfl,hcl,hml,_,hfl⟩:=ol.form
   obtain⟨gl,rfl,hgl1,hgl2⟩:=hfl (by omega)
   unfold maxLen at hml
   have OL:=hDD ol.rd
   have BL:=hDD bl
   have HO3:=hDD (HO.out.below bl)
   have HT3:=hDD (HTW.out.below bl)
   have hne1:b1≠gl:=by omega
   clear hfl ol bl
   go_wp2
   go_loopw [7,36] (fun out j wr=> ∃m:Nat,m≤ls.length∧j= .int .i64 m∧OwI wr (w1.heap.size+1) out ((ls.take m).foldl (cstep g.2.2 u) o)∧TreeX F w1.heap.size w1.heap.size N wr out ((ls.take m).foldl (cstep g.2.2 u) o)∧RdI wr (.slice (some ⟨gl,0,none⟩) ls.length capl) ls∧out.ownBlock≠some gl∧gl≠w1.heap.size∧gl<wr.heap.size∧Below w1.heap.size wl wr) (fun _ j _=>ls.length-(intOf j).toNat)
   case atStart=>exact⟨0,Nat.zero_le _,rfl,HO3.out,HT3.out,OL.out,by simp[Value.ownBlock];omega,by have:=HTW.out.lt;omega,hgl2,Below.refl _ _⟩
   case round=>
    obtain⟨m,hm1,rfl,hown,htw,hrd,hne,hnP,hblr,hbi⟩:=hrel
    have hsi:=hbi.size
    have HBI:=hDD hbi
    have HB4:Hid (Below w1.heap.size w1 wr):=hDD ((HB2.out.trans (BL.out.mono (by omega))).trans hbi)
    have p0:=(HB4.out.cell (p:=⟨w.heap.size,0,none⟩) sx).trans K0.out
    have p1:=(HB4.out.cell (p:=⟨w.heap.size,1,none⟩) sx).trans K1.out
    have p2:=(HB4.out.cell (p:=⟨w.heap.size,2,none⟩) sx).trans K2.out
    have HRR:=hDD hrd
    have HNR:=hDD hne
    have HTW2:=hDD htw
    clear hbi htw
    by_cases hlt2:m<ls.length
    ·have hokm:=HOKm.out m
     have hlm:=OKL.out _ hokm
     have hpu:=HPU.out m
     have HS:=hDD (HSU.out m hlt2)
     have HORm:=hDD (OKR.out _ hokm)
     obtain⟨_,_,hAl,_,hcl⟩:=hrd.at (by omega)
     obtain⟨rfl,rfl⟩:gl=_∧0=_:=by simpa using hAl
     have c0:=hcl m hlt2
     rw[Nat.zero_add] at c0
     have hx64:I64 ls[m]:=hrd.2 _ (by simp)
     have HNW2:=hDD (HNW1.out m hlt2)
     generalize ls[m]=x at c0 HS hx64 HNW2
     have HX:=hDD hx64
     generalize (ls.take m).foldl (cstep g.2.2 u) o=om at*
     have hum:u∈om:=List.mem_of_getElem? hpu
     have HUM:=hDD hum
     have HOM:=hDD hown
     have NX:=hDD (NV.out u x)
     have N0:=hDD (cstep_no (es:=g.2.2) (u:=u) (x:=x) (o:=om))
     have N1:=hDD (cstep_in (es:=g.2.2) (u:=u) (x:=x) (o:=om))
     have N2:=hDD (cstep_new (es:=g.2.2) (u:=u) (x:=x) (o:=om))
     have HNX:=hDD (implNextVertex_any _ g u x wr (HG.out.below (BX.out.trans (HB4.out.mono (by omega)))) (ONE.out u x) LET.out)
     clear hcl hAl hown hrd hpu hokm hx64 hum
     go_wp2_with fail
     refine HNX.out.mono ?_
     rintro e wq ⟨rfl,bq⟩
     clear HNX
     have sq:=bq.size
     have HQ:Hid (Below w1.heap.size wl wq):=hDD (HBI.out.trans (bq.mono (by omega)))
     have HOQ:=hDD (HOM.out.below bq)
     have HRQ:=hDD (HRR.out.below bq)
     have HTQ:=hDD (HTW2.out.below bq)
     clear bq p0 p1 p2
     generalize nextV g.2.2 u x=y at*
     rcases NX.out with hy | hy
     ·subst hy
      have F0:=hDD (N0.out (by omega))
      go_wp2
      go_roundw
      case rel=>exact⟨m+1,by omega,by go_num,by rw[HS.out,F0.out];exact HOQ.out,by rw[HS.out,F0.out];exact HTQ.out,HRQ.out,HNR.out,hnP,by omega,HQ.out⟩
      case measure=>simp[intOf];omega
     ·obtain⟨yn,rfl⟩: ∃yn:Nat,y=(yn:Int):=⟨y.toNat,by omega⟩
      have hy0:(0:Int)≤(yn:Int):=hy.1
      have hyN:(yn:Int)<(N:Int):=hy.2
      have hynN:yn<N:=by omega
      rcases h1:hasB om (yn:Int) with _ | _
      ·have F0:=hDD (N2.out hy0 h1)
       have HY:Hid (I64 (yn:Int)):=hDD ⟨by omega,by omega⟩
       have hnotin:(yn:Int)∉om:=hasB_not h1
       have HWY:=hDD (HNW2.out hy0 h1)
       have ct:=HTQ.out.at_new hynN hnotin
       have ft:=HTQ.out.free yn
       obtain⟨bu,capu,cu,hwul,hru,_⟩:=HTQ.out.at_old hunN (by rw[←HUN.out];exact HUM.out)
       have HWU:Hid (F u=F (un:Int)):=hDD (by rw[HUN.out])
       have HWY2:Hid (F (yn:Int)=F (un:Int)++ [x]):=hDD (by rw[HWY.out,HWU.out])
       generalize F (un:Int)=wu at*
       have HRU:=hDD hru
       have huN':u<(N:Int):=by rw[HUN.out];omega
       have hu0':(0:Int)≤u:=by rw[HUN.out];omega
       have cu':wq.cell? ⟨w1.heap.size,u.toNat,none⟩=some (.slice (some ⟨bu,0,none⟩) wu.length capu):=by rw[HUN.out];exact cu
       clear hru hnotin
       go_wp2_with fail
       refine(copyInts_any _ wu _ HRU.out (by omega)).mono ?_
       rintro e wc ⟨rc,rfl,oc,bc⟩
       have sc:=bc.size
       have OC:=hDD oc
       have BC:=hDD bc
       have hPq:=HTQ.out.lt.2
       have hneT:=HTQ.out.ne
       have hA2: ∀x,u7.ownBlock=some x→x<wq.heap.size:=fun x hx=>(HOQ.out.1.lt x hx).2
       have HA2:=hDD hA2
       have CT:=hDD ct
       have FT:=hDD ft
       obtain⟨Ac,capc,rfl,_⟩:=OwI.form oc
       clear oc bc ct ft hA2
       go_wp2_with (first | ((at_builtin;refine push_int rfl (.tmp 59) (.tmp 61) rfl _ _ _ (OwI.alloc OC.out _) rfl _ _ rfl (cell_new1 _ _ _) HX.out (by first | omega | (simp<;>omega)) (by first | omega | (simp<;>omega)) ?_;intro v8 wv8 o8 g8 p8);obtain⟨A8,cap8,rfl,hl8,hm8,_,hf8⟩:=OwI.form o8;obtain⟨b8,rfl,hb81,hb82⟩:=hf8 (by simp);have B8:Below wq.heap.size wq wv8:=bel_push BC.out sc OC.out.1 (Nat.le_refl _) g8;have ct3:=(B8.cell (p:=⟨w1.heap.size,yn,none⟩) hPq).trans CT.out;have ft3:=(B8.frozen (p:=⟨w1.heap.size,yn,none⟩) hPq).trans FT.out;have hts:=(HTQ.out.below B8).set hynN HWY2.out o8.rd (by simp;omega) (by omega) (fun e=>by have:=HA2.out _ e;omega) hb82;have s8:=B8.size;have HB8:=hDD B8;simp only[List.length_append,List.length_cons,List.length_nil,Nat.zero_add] at hts;have HTS:=hDD hts;clear o8 g8 p8 hf8 B8 hts;have hgS:wv8.grownBy (wv8.setCell ⟨w1.heap.size,yn,none⟩ (.slice (some ⟨b8,0,none⟩) (wu.length+1) cap8)) (some w1.heap.size):=set_grown _ _ _ _;have HOS:Hid (OwI (wv8.setCell ⟨w1.heap.size,yn,none⟩ (.slice (some ⟨b8,0,none⟩) (wu.length+1) cap8)) (w1.heap.size+1) u7 om):=hDD ((HOQ.out.below HB8.out).far (p:=⟨w1.heap.size,yn,none⟩) (by show w1.heap.size<_;omega) _);have HRS:Hid (RdI (wv8.setCell ⟨w1.heap.size,yn,none⟩ (.slice (some ⟨b8,0,none⟩) (wu.length+1) cap8)) (.slice (some ⟨gl,0,none⟩) ls.length capl) ls):=hDD ((HRQ.out.below HB8.out).grown hgS fun b hb hb'=>by simp[Value.ownBlock] at hb hb';omega);have HBS:Hid (Below w1.heap.size wl (wv8.setCell ⟨w1.heap.size,yn,none⟩ (.slice (some ⟨b8,0,none⟩) (wu.length+1) cap8))):=hDD ((HQ.out.trans (HB8.out.mono (by omega))).setCell (by show w1.heap.size≤w1.heap.size;omega) _);clear hgS) | (at_builtin;refine push_int rfl (.tmp 64) (.tmp 66) rfl _ _ _ (OwI.alloc HOS.out _) rfl _ _ rfl (by simp[go_sem]) HY.out (by first | omega | (simp<;>omega)) (by first | omega | (simp<;>omega)) ?_;intro v9 wv9 o9 g9 p9))
       have hS:(wv8.setCell ⟨w1.heap.size,yn,none⟩ (.slice (some ⟨b8,0,none⟩) (wu.length+1) cap8)).heap.size=wv8.heap.size:=by simp
       have hz9:=g9.size
       simp at hz9
       go_roundw
       case rel=>
        refine⟨m+1,by omega,by go_num,by rw[HS.out,F0.out];exact o9,by rw[HS.out,F0.out];exact HTS.out.push g9 p9,(HRS.out.alloc _).grown g9 (fun b hb hb'=> ?_),fun e=> ?_,hnP,by omega,bel_push HBS.out (by omega) HOS.out.1 (by omega) g9⟩
        ·simp only[Value.ownBlock,Option.some.injEq] at hb
         subst hb
         exact HNR.out hb'
        ·rcases p9 with p9 | p9
         ·rw[p9] at e;exact HNR.out e
         ·rw[p9] at e;simp at e;omega
       case measure=>simp[intOf];omega
      ·have F0:=hDD (N1.out hy0 h1)
       obtain⟨bu,capu,cu,hwul,hru,_⟩:=HTQ.out.at_old hynN (hasB_iff.1 h1)
       clear hru
       generalize F (yn:Int)=wy at*
       go_wp2
       go_roundw
       case rel=>exact⟨m+1,by omega,by go_num,by rw[HS.out,F0.out];exact HOQ.out,by rw[HS.out,F0.out];exact HTQ.out,HRQ.out,HNR.out,hnP,by omega,HQ.out⟩
       case measure=>simp[intOf];omega
    ·obtain rfl:m=ls.length:=by omega
     rw[List.take_length] at hown HTW2
     have hokm:=HOKm.out ls.length
     rw[List.take_length] at hokm
     have HOKF:=hDD hokm
     have HOM:=hDD hown
     have hlen:k+1≤(ls.foldl (cstep g.2.2 u) o).length:=by
      have:=HPU.out ls.length
      rw[List.take_length] at this
      have:=(List.getElem?_eq_some_iff.1 this).1
      omega
     obtain⟨A2,cap2,rfl,_⟩:=hown.form
     clear hown hrd hne hokm p0 p1 p2
     go_wp2
     go_roundw
     case rel=>exact⟨k+1,_,hlen,by go_num,HOKF.out,HTS1.out,HCF.out,HOM.out,HTW2.out,HB4.out⟩
     case measure=>simp[intOf];omega
  ·obtain rfl:k=o.length:=by omega
   have F':Hid (canO g=o):=hDD (by rw[HC.out,canF_end])
   clear hown hf2
   have HBW:Hid (Below w.heap.size w wo):=hDD (BX.out.trans (HB2.out.mono (by omega)))
   have HEX:=EX.out
   have hbase:w.heap.size≤w1.heap.size+1:=by omega
   have hP0:w.heap.size≤w1.heap.size:=by omega
   clear HEX
   go_wp2
   exact bodyPost_ret (v:= .tuple #[.slice A1 o.length cap1, .slice (some ⟨w1.heap.size,0,none⟩) N N]) (by simp[results,Tryz.results110]) rfl ⟨_,w1.heap.size,rfl,hP0,by rw[F'.out];exact HTW.out,by rw[F'.out];exact HO.out.mono hbase,HBW.out⟩
theorem gboxE {w W:World} {a b c:Value} {t:TypeId} (hW:W=w.alloc (.cells #[a,b,c] t)):W.heap.size=w.heap.size+1∧Below w.heap.size w W∧
  (∀w',Below (w.heap.size+1) W w'→w'.cell? ⟨w.heap.size,0,none⟩=some a∧w'.cell? ⟨w.heap.size,1,none⟩=some b∧w'.cell? ⟨w.heap.size,2,none⟩=some c):=by
 have hs:W.heap.size=w.heap.size+1:=by rw[hW];simp
 have h0:W.cell? ⟨w.heap.size,0,none⟩=some a:=by rw[hW];simp[go_sem]
 have h1:W.cell? ⟨w.heap.size,1,none⟩=some b:=by rw[hW];simp[go_sem]
 have h2:W.cell? ⟨w.heap.size,2,none⟩=some c:=by rw[hW];simp[go_sem]
 exact⟨hs,by rw[hW];exact(Below.refl _ _).alloc (Nat.le_refl _) _,fun w' hb=>⟨(hb.cell (p:=⟨w.heap.size,0,none⟩) (Nat.lt_succ_self _)).trans h0,(hb.cell (p:=⟨w.heap.size,1,none⟩) (Nat.lt_succ_self _)).trans h1,(hb.cell (p:=⟨w.heap.size,2,none⟩) (Nat.lt_succ_self _)).trans h2⟩⟩
def stE (u x v:Int):EdD:=if x<0 then(v,-x,u) else(u,x,v)
set_option maxHeartbeats 400000 in
theorem step_any (u x v:Int) (w:World) (hx: -3≤x∧x≤3):
  Calls Tryz.prog 69 #[.int .i64 u, .int .i64 x, .int .i64 v] w fun e w'=>e= .returned (edV (stE u x v))∧Below w.heap.size w w':=by
 have hn:IntKind.i64.wrap (-x)= -x:=by rw[IntKind.wrap_i64];omega
 by_cases h:x<0
 ·have F:Hid (stE u x v=(v,-x,u)):=hDD (by unfold stE;rw[if_pos h])
  go_enter Tryz.func69,Tryz.ntmps69
  go_wp2
  refine bodyPost_ret (v:= .agg #[.int .i64 v, .int .i64 (-x), .int .i64 u]) (by simp[results,Tryz.results69,go_sem]) rfl ⟨by rw[F.out];rfl,(by repeat(first | exact Below.refl _ _ | (refine Below.setCell ?_ (by first | omega | (simp<;>omega)) _) | (refine bel_drewN ?_ _) | (refine Below.drew ?_) | (refine Below.alloc ?_ (by first | omega | (simp<;>omega)) _)))⟩
 ·have F:Hid (stE u x v=(u,x,v)):=hDD (by unfold stE;rw[if_neg h])
  go_enter Tryz.func69,Tryz.ntmps69
  go_wp2
  refine bodyPost_ret (v:= .agg #[.int .i64 u, .int .i64 x, .int .i64 v]) (by simp[results,Tryz.results69,go_sem]) rfl ⟨by rw[F.out];rfl,(by repeat(first | exact Below.refl _ _ | (refine Below.setCell ?_ (by first | omega | (simp<;>omega)) _) | (refine bel_drewN ?_ _) | (refine Below.drew ?_) | (refine Below.alloc ?_ (by first | omega | (simp<;>omega)) _)))⟩
set_option maxHeartbeats 1000000 in
theorem indexE_any (v:Value) (es:List EdD) (d:EdD) (w:World) (h:ArgE w v es) (hl:es.length≤1073741824):
  Calls Tryz.prog 111 #[v,edV d] w fun e w'=> ∃n:Int,e= .returned (.int .i64 n)∧(decide (0≤n)=decide (d∈es))∧Below w.heap.size w w':=by
 obtain⟨d1,d2,d3⟩:=d
 obtain⟨A,cap,rfl⟩:=h.form
 have H:=hDD h
 clear h
 have HEQ:Hid (∀(y:EdD) (w:World),(binOp .eql 54 (edV (d1,d2,d3)) (edV y)).run Tryz.prog w= .ok (.bool (decide ((d1,d2,d3)=y))) w):=hDD fun y w=>edge_eql (d1,d2,d3) y w
 unfold edV
 go_enter Tryz.func111,Tryz.ntmps111
 go_wp2_with fail
 obtain⟨W,hW⟩: ∃W,W=w.alloc (Obj.cells #[Value.int IntKind.i64 d1,Value.int IntKind.i64 d2,Value.int IntKind.i64 d3] 54):=⟨_,rfl⟩
 obtain⟨hsW,b1,hc1⟩:=gboxE hW
 rw[←hW]
 have BX:=hDD b1
 have HCL:=hDD hc1
 clear hW b1 hc1
 go_loopw [8] (fun i wr=> ∃k:Nat,k≤es.length∧i= .int .i64 k∧(∀j (hj:j<es.length),j<k→es[j]≠(d1,d2,d3))∧ ∃q,wr=W.drewN q) (fun i _=>es.length-(intOf i).toNat)
 case atStart=>exact⟨0,Nat.zero_le _,rfl,fun j hj h=>absurd h (by omega),0,rfl⟩
 case round=>
  obtain⟨k,hk,rfl,hno,q,rfl⟩:=hrel
  have HNO:=hDD hno
  clear hno
  obtain⟨q0,q1,q2⟩:=HCL.out W ((Below.refl W.heap.size W).mono (by omega))
  have HBF:Hid (∀q,Below w.heap.size w (W.drewN q)):=hDD fun q=>bel_drewN BX.out q
  by_cases hlt:k<es.length
  ·obtain⟨b,off,rfl,hbl,c0,c1,c2,_⟩:=(H.out.below BX.out).at hlt
   have heql:=fun w=>HEQ.out es[k] w
   unfold edV at heql
   have hgd:=edge_guard
   have HN:Hid (¬(d1,d2,d3)=es[k]→ ∀j (hj:j<es.length),j<k+1→es[j]≠(d1,d2,d3)):=hDD fun e j hj hjk=>by
    rcases Nat.lt_or_eq_of_le (Nat.le_of_lt_succ hjk) with h | rfl
    ·exact HNO.out j hj h
    ·exact fun h=>e h.symm
   have HY:Hid ((d1,d2,d3)=es[k]→(d1,d2,d3)∈es):=hDD fun e=>e▸List.getElem_mem hlt
   obtain⟨be,hbe⟩: ∃be,be=decide ((d1,d2,d3)=es[k]):=⟨_,rfl⟩
   rw[←hbe] at heql
   have HBE:=hDD hbe
   clear hbe
   generalize es[k]=y at*
   obtain⟨y1,y2,y3⟩:=y
   simp only at*
   rcases be with _ | _
   ·have F:=hDD (HN.out (by simpa using HBE.out.symm))
    go_wp2
    go_quiet (fail)
    go_wp2
    go_roundw
    case rel=>exact⟨k+1,by omega,by go_num,F.out,_,rfl⟩
    case measure=>simp[intOf];omega
   ·have F:=hDD (HY.out (by simpa using HBE.out.symm))
    go_wp2
    go_quiet (fail)
    go_wp2
    go_ret
    exact⟨_,rfl,by rw[decide_eq_true F.out];simp,bel_drewN (HBF.out q) _⟩
  ·obtain rfl:k=es.length:=by omega
   have F:Hid ((d1,d2,d3)∉es):=hDD fun hm=>by
    obtain⟨j,hj,e⟩:=List.getElem_of_mem hm
    exact HNO.out j hj hj e
   go_wp2
   go_ret
   exact⟨_,rfl,by rw[decide_eq_false F.out];simp,HBF.out q⟩
set_option maxHeartbeats 1000000 in
theorem containsE_any (v:Value) (es:List EdD) (d:EdD) (w:World) (h:ArgE w v es) (hl:es.length≤1073741824):
  Calls Tryz.prog 73 #[v,edV d] w fun e w'=>e= .returned (.bool (decide (d∈es)))∧Below w.heap.size w w':=by
 have H:=hDD h
 have HI:=hDD (fun W' (h:ArgE W' v es)=>indexE_any v es d W' h hl)
 obtain⟨A,cap,rfl⟩:=h.form
 clear h
 obtain⟨d1,d2,d3⟩:=d
 unfold edV at HI⊢
 go_enter Tryz.func73,Tryz.ntmps73
 go_wp2_with fail
 refine(HI.out _ (H.out.alloc _)).mono ?_
 rintro e w1 ⟨n,rfl,hn,b1⟩
 have HN:=hDD hn
 have HB:Hid (Below w.heap.size w w1):=hDD (((Below.refl w.heap.size w).alloc (Nat.le_refl _) (Obj.cells #[Value.int IntKind.i64 d1,Value.int IntKind.i64 d2,Value.int IntKind.i64 d3] 54)).trans (b1.mono (by simp)))
 clear hn b1
 go_wp2
 go_ret
 exact⟨ret_bool HN.out,HB.out⟩
set_option maxHeartbeats 2000000 in
theorem treeEdges_any (v:Value) (g:GrD) (w:World) (h:ArgG w v g) (hf:foldB g=true):
  Calls Tryz.prog 74 #[v] w fun e w'=> ∃r T,e= .returned r∧OwE w' w.heap.size r T∧TrE g (canO g) T∧T.length≤40∧Below w.heap.size w w':=by
 have HG:=hDD h
 have HF:=hDD hf
 obtain⟨hg,hfol⟩:=foldB_parts hf
 have ONE:=hDD (steps_one hfol)
 have LET:=hDD (let_of_gr hg)
 obtain⟨hr13,hsz40,hl120,_⟩:=grB_parts hg
 have HOK:=hDD (canO_ok hg)
 have HPAR:Hid (∀y∈canO g,y≠0→ ∃(u x:Int) (ws:List Int),wdO g y=ws++ [x]∧(-3≤x∧x≤3)∧ws.length<40∧nextV g.2.2 y (-x)=u∧tE g y=stE u x y∧(0≤u∧u<g.2.1)):=hDD fun y hy h0=>by
  obtain⟨u,hu,x,hx,e1,hnx⟩:=wd_par hg hy h0
  have hyr:=(canO_ok hg).2.1 y hy
  have hur:=(canO_ok hg).2.1 u hu
  have hb:=nextV_back hg hfol (let3 hg hx) (by rw[hnx];omega)
  rw[hnx] at hb
  have ht:=tE_new hg hfol hx (by rw[hnx];omega) hnx e1
  refine⟨u,x,wdO g u,e1,let3 hg hx,wd_len hg hu,hb,?_,hur⟩
  rw[ht]
  unfold stE
  have hx0:=letters_mem.1 hx
  by_cases hp:0<x
  ·rw[if_pos hp,if_neg (by omega)]
  ·rw[if_neg hp,if_pos (by omega)]
 obtain⟨N,hN⟩: ∃N:Nat,g.2.1=(N:Int):=⟨g.2.1.toNat,by omega⟩
 have hol:=(canO_ok hg).len (by omega) (by omega)
 have HHEAD:=hDD (canO_ok hg).2.2
 have HND:=hDD (canO_ok hg).1
 obtain⟨s,rfl,hi1,hi2,ha⟩:=h
 obtain⟨A,cap,rfl⟩:=ha.form
 have HTREE:=hDD (fun W' (h:ArgG W' (.agg #[.int .i64 g.1, .int .i64 g.2.1, .slice A g.2.2.length cap]) g)=>treeX_any _ g W' h hf)
 obtain⟨g1,n,es⟩:=g
 simp only at*
 subst hN
 clear ha hf hg hfol
 obtain⟨O,hO⟩: ∃O,O=canO (g1,(N:Int),es):=⟨_,rfl⟩
 obtain⟨F,hF⟩: ∃F,F=wdO (g1,(N:Int),es):=⟨_,rfl⟩
 obtain⟨TE,hTE⟩: ∃TE,TE=tE (g1,(N:Int),es):=⟨_,rfl⟩
 have HTRE:Hid (∀(o:List Int) (T T':List EdD) (y:Int),TrE (g1,(N:Int),es) o T→y≠0→(∀e,e∈T'↔e=TE y∨e∈T)→TrE (g1,(N:Int),es) (o++ [y]) T'):=hDD fun o T T' y h h0 hT=>h.add h0 (by rw[←hTE];exact hT)
 rw[←hO] at HOK HPAR hol HHEAD HND HTREE⊢
 rw[←hF] at HPAR HTREE
 rw[←hTE] at HPAR
 simp only[Int.toNat_natCast] at HTREE
 clear hO hF hTE
 have hO1:1≤O.length:=HOK.out.toN.2.2
 go_enter Tryz.func74,Tryz.ntmps74
 go_wp2_with fail
 obtain⟨W1,hW1⟩: ∃W,W=w.alloc (Obj.cells #[Value.int IntKind.i64 g1,Value.int IntKind.i64 (N:Int), .slice A es.length cap] 31):=⟨_,rfl⟩
 obtain⟨hs1,b1,hc1⟩:=gboxE hW1
 obtain⟨W,hW⟩: ∃W,W=W1.alloc (Obj.cells #[] 54):=⟨_,rfl⟩
 have b2:Below W1.heap.size W1 W:=by rw[hW];exact(Below.refl _ _).alloc (Nat.le_refl _) _
 have hsW:W.heap.size=w.heap.size+2:=by rw[hW];simp;omega
 have o0:OwE W (w.heap.size+1) (.slice (some ⟨w.heap.size+1,0,none⟩) 0 0) []:=by rw[hW];exact OwE_litN W1 (w.heap.size+1) hs1 (Nat.le_refl _)
 rw[←hW1,←hW]
 have BX:Hid (Below w.heap.size w W):=hDD (b1.trans (b2.mono (by omega)))
 have B12:=hDD (b2.mono (show w.heap.size+1≤W1.heap.size by omega))
 have HC1:=hDD hc1
 have HCL:Hid (∀w',Below (w.heap.size+1) W w'→w'.cell? ⟨w.heap.size,0,none⟩=some (.int .i64 g1)∧w'.cell? ⟨w.heap.size,1,none⟩=some (.int .i64 (N:Int))∧w'.cell? ⟨w.heap.size,2,none⟩=some (.slice A es.length cap)):=hDD fun w' hb=>HC1.out w' (B12.out.trans hb)
 have HA:Hid (∀w',Below (w.heap.size+1) W w'→ArgG w' (.agg #[.int .i64 g1, .int .i64 (N:Int), .slice A es.length cap]) (g1,(N:Int),es)):=hDD fun w' hb=>HG.out.below (BX.out.trans (hb.mono (by omega)))
 have O0:=hDD o0
 clear hW1 hW hc1 b1 b2 HC1 o0
 refine(HTREE.out W (HA.out W ((Below.refl W.heap.size W).mono (by omega)))).mono ?_
 rintro e w2 ⟨r2,P,rfl,hP,tx,o2,b2⟩
 have hs2:=b2.size
 have B2:Hid (Below (w.heap.size+1) W w2):=hDD (b2.mono (by omega))
 have OE2:=hDD (O0.out.below b2)
 have TX2:=hDD tx
 have OR2:=hDD o2.rd
 obtain⟨Ar,cr,rfl,hcr,hmr,_,hgr⟩:=OwI.form o2
 obtain⟨br,rfl,hbr1,hbr2⟩:=hgr (by omega)
 unfold maxLen at hmr
 have hPl:=tx.lt.2
 have hcb:1≤cr:=by omega
 have hcO:(1:Int)≤(O.length:Int):=by omega
 have hcI:(O.length:Int)≤(cr:Int):=by omega
 clear tx o2 b2 hgr
 obtain⟨q0,q1,q2⟩:=HCL.out w2 B2.out
 have hlenI:IntKind.i64.wrap ((O.length:Int)-1)=(O.length:Int)-1:=by rw[IntKind.wrap_i64];omega
 have HCUT:=hDD (fun W' (h:RdI W' (.slice (some ⟨br,0,none⟩) O.length cr) O)=>h.cut (k:=1) rfl (by omega))
 have HTR1:Hid (TrE (g1,(N:Int),es) (O.take 1) []):=hDD fun e=>⟨fun h=>(by cases h),fun ⟨y,hy,h0,_⟩=>by
  have h1:=HHEAD.out
  cases hO:O with
  | nil=>rw[hO] at h1;cases h1
  | cons a O'=>
    rw[hO] at h1 hy
    simp at h1 hy
    omega⟩
 have HBW:Hid (∀w',Below (w.heap.size+1) W w'→Below w.heap.size w w'):=hDD fun w' hb=>BX.out.trans (hb.mono (by omega))
 have HSO:Hid (∀(v:Value) (T:List EdD) (w':World),ArgE w' v T→T.length≤40→Calls Tryz.prog 70 #[v] w' fun e w''=> ∃r,e= .returned r∧OwE w'' w'.heap.size r (srt cmpE T)∧Below w'.heap.size w' w''):=hDD fun v T w' h hl=>sortedD_any v T w' h (by omega)
 have HSF:Hid (∀T:List EdD,TrE (g1,(N:Int),es) O T→TrE (g1,(N:Int),es) O (srt cmpE T)):=hDD fun T h e=>by rw[(srt_spec cmpE_ord T).2 e];exact h e
 have HSL:Hid (∀T:List EdD,(srt cmpE T).length≤T.length):=hDD fun T=>srt_len T
 by_cases hc1:cr=1
 ·subst hc1
  obtain⟨y0,hy0⟩: ∃y0,O= [y0]:=List.length_eq_one_iff.1 (by omega)
  subst hy0
  simp only[List.length_singleton] at*
  have HTR2:Hid (TrE (g1,(N:Int),es) [y0] []):=HTR1
  go_wp2
  refine wp_loop_rounds 1 ?_
  rw[rounds_succ]
  go_wp2_with fail
  refine(HSO.out _ [] w2 OE2.out.arg (by simp)).mono ?_
  rintro e w5 ⟨r5,rfl,o5,b5⟩
  have O5:=hDD o5
  have HBF:=hDD (HBW.out w5 (B2.out.trans (b5.mono (by omega))))
  obtain⟨A5,c5,rfl,_⟩:=o5.form
  clear o5 b5
  go_wp2
  go_ret
  exact⟨_,_,rfl,O5.out.mono (by omega),HSF.out [] HTR2.out,Nat.le_trans (HSL.out []) (by simp),HBF.out⟩
 have hRC:(if cr=1 then none else some (⟨br,0+1,none⟩:Addr))=some ⟨br,1,none⟩:=by rw[if_neg hc1]
 go_wp2
 obtain⟨L,hL⟩: ∃L:Nat,O.length=L+1:=⟨O.length-1,by omega⟩
 have HHL:=hDD hL
 have HAT:Hid (∀k,k<L→ ∃hk:k+1<O.length,O[k+1]∈O∧O[k+1]≠0):=hDD fun k hk=>⟨by have:=HHL.out;omega,List.getElem_mem _,fun e=>by
  have h0:=HHEAD.out
  have h1:O[k+1]? =some 0:=by rw[List.getElem?_eq_getElem (by have:=HHL.out;omega),e]
  have:=(List.getElem?_inj (i:=0) (j:=k+1) (by omega) HND.out).1 (h0.trans h1.symm)
  omega⟩
 have HTK:Hid (∀k (hk:k+1<O.length),O.take (k+2)=O.take (k+1)++ [O[k+1]]):=hDD fun k hk=>by rw[List.take_succ_eq_append_getElem hk]
 have HTF:Hid (O.take (L+1)=O):=hDD (by rw[←hL,List.take_length])
 clear hL
 have hLn:((O.length:Int)-1)=(L:Int):=by have:=HHL.out;omega
 have hsub:O.length-1=L:=by have:=HHL.out;omega
 rw[hsub]
 clear hsub hLn
 go_loopw [3,20] (fun vo i wr=> ∃(k:Nat) (T:List EdD),k≤L∧i= .int .i64 k∧OwE wr (w.heap.size+1) vo T∧TrE (g1,(N:Int),es) (O.take (k+1)) T∧T.length=k∧(∀c,vo.ownBlock=some c→c<W.heap.size∨w2.heap.size≤c)∧(∀b,W.heap.size≤b→b<w2.heap.size→wr.heap[b]? =w2.heap[b]?)∧w2.heap.size≤wr.heap.size∧Below (w.heap.size+1) W wr) (fun _ i _=>L-(intOf i).toNat)
 case atStart=>exact⟨0,[],Nat.zero_le _,rfl,OE2.out,HTR1.out,rfl,fun c hc=> .inl (by simp[Value.ownBlock] at hc;omega),fun _ _ _=>rfl,Nat.le_refl _,B2.out⟩
 case round=>
  obtain⟨k,T,hk,rfl,ho,htr,htl,hvo,hkp,hsr,hb⟩:=hrel
  have HO:=hDD ho
  have HTR:=hDD htr
  have HTL:=hDD htl
  have HVO:=hDD hvo
  have HKP:=hDD hkp
  have HB:=hDD hb
  obtain⟨wi,rfl⟩: ∃wi:World,wi=wr:=⟨_,rfl⟩
  clear ho htr htl hvo hkp hb
  obtain⟨Ao,co,rfl,_⟩:=OwE.form HO.out
  by_cases hlt:k<L
  ·obtain⟨hkO,hmO,hn0⟩:=HAT.out k hlt
   obtain⟨u,x,ws,hw1,hx3,hwl,hnu,hte,hur⟩:=HPAR.out O[k+1] hmO hn0
   have hyr:=HOK.out.2.1 O[k+1] hmO
   have HTKk:=hDD (HTK.out k hkO)
   obtain⟨_,_,hAo,_,hcO'⟩:=OR2.out.at (by omega)
   obtain⟨rfl,rfl⟩:br=_∧0=_:=by simpa using hAo
   have c0:=(World.cell?_of_block (w:=w2) (HKP.out br hbr1 hbr2)).trans (hcO' (k+1) hkO)
   rw[show 0+(k+1)=1+k by omega] at c0
   generalize O[k+1]=y at*
   obtain⟨yn,rfl⟩: ∃yn:Nat,y=(yn:Int):=⟨y.toNat,by omega⟩
   have hyN:yn<N:=by omega
   obtain⟨bw,cw,cu,_,hru,hbw,hPb⟩:=TX2.out.at_old hyN hmO
   have cu2:=(World.cell?_of_block (w:=w2) (HKP.out P hP hPl)).trans cu
   rw[hw1,List.length_append,List.length_singleton] at cu2
   obtain⟨_,_,hAw,_,hcw⟩:=hru.at (by rw[hw1];simp)
   obtain⟨rfl,rfl⟩:bw=_∧0=_:=by simpa using hAw
   have cx0:=hcw ws.length (by rw[hw1];simp)
   have hxx:(F (yn:Int))[ws.length]'(by rw[hw1];simp)=x:=by simp[hw1]
   rw[hxx,Nat.zero_add] at cx0
   have cx:=(World.cell?_of_block (w:=w2) (HKP.out bw (by omega) hbw)).trans cx0
   have hwr1:IntKind.i64.wrap ((ws.length:Int)+1-1)=(ws.length:Int):=by rw[IntKind.wrap_i64];omega
   have hwi:(0:Int)≤(ws.length:Int):=by omega
   have hwl1:(ws.length:Int)<(ws.length:Int)+1:=by omega
   have hnx:IntKind.i64.wrap (-x)= -x:=by rw[IntKind.wrap_i64];omega
   have hyI:(yn:Int)<(N:Int):=hyr.2
   have hy0:(0:Int)≤(yn:Int):=hyr.1
   have hkI:(k:Int)<(L:Int):=by omega
   have HE64:Hid (E64 (stE u x (yn:Int))):=hDD (by
    unfold stE
    split
    ·exact⟨⟨by simp only;omega,by simp only;omega⟩,⟨by simp only;omega,by simp only;omega⟩,⟨by simp only;omega,by simp only;omega⟩⟩
    ·exact⟨⟨by simp only;omega,by simp only;omega⟩,⟨by simp only;omega,by simp only;omega⟩,⟨by simp only;omega,by simp only;omega⟩⟩)
   have HTE:Hid (TE (yn:Int)=stE u x (yn:Int)):=hDD hte
   have HN0:Hid ((yn:Int)≠0):=hDD hn0
   have HNX:=hDD (fun W' (h:ArgG W' (.agg #[.int .i64 g1, .int .i64 (N:Int), .slice A es.length cap]) (g1,(N:Int),es))=>implNextVertex_any _ (g1,(N:Int),es) (yn:Int) (-x) W' h (ONE.out (yn:Int) (-x)) LET.out)
   simp only at HNX
   rw[hnu] at HNX
   have HSTP:=hDD (fun W'=>step_any u x (yn:Int) W' hx3)
   clear hAo hcO' hAw hcw cx0 hxx hru cu hw1 hte hn0 hmO hnu
   obtain⟨q0,q1,q2⟩:=HCL.out wi HB.out
   go_wp2_with fail
   refine(HNX.out wi (HA.out wi HB.out)).mono ?_
   rintro e w3 ⟨rfl,b3⟩
   have hs3:=b3.size
   have HO3:=hDD (HO.out.below b3)
   have HB3:=hDD (HB.out.trans (b3.mono (by omega)))
   have HKP3:Hid (∀b,W.heap.size≤b→b<w2.heap.size→w3.heap[b]? =w2.heap[b]?):=hDD fun b h1 h2=>(b3.block b (by omega)).trans (HKP.out b h1 h2)
   clear b3 q0 q1 q2 c0 cu2 cx
   go_wp2_with fail
   refine(HSTP.out w3).mono ?_
   rintro e w4 ⟨rfl,b4⟩
   have hs4:=b4.size
   have HO4:=hDD (HO3.out.below b4)
   have HB4:=hDD (HB3.out.trans (b4.mono (by omega)))
   have HKP4:Hid (∀b,W.heap.size≤b→b<w2.heap.size→w4.heap[b]? =w2.heap[b]?):=hDD fun b h1 h2=>(b4.block b (by omega)).trans (HKP3.out b h1 h2)
   clear b4
   generalize stE u x (yn:Int)=E at*
   obtain⟨e1,e2,e3⟩:=E
   unfold edV
   simp only
   go_wp2_with (at_builtin;refine push_edge rfl (.tmp 39) (.tmp 44) rfl (w.heap.size+1) _ _ (HO4.out.alloc _) rfl _ (e1,e2,e3) rfl (edC_new _ _ _) HE64.out (by have:=HTL.out;omega) (by simp;omega) ?_;intro v5 wv5 o5 g5 p5;have hz5:=g5.size;simp at hz5;have O5:=hDD o5;have B5:=hDD (bel_pushE HB4.out (show w.heap.size+1≤w4.heap.size by omega) HO4.out (Nat.le_refl _) g5);have HVO5:Hid (∀c,v5.ownBlock=some c→c<W.heap.size∨w2.heap.size≤c):=hDD fun c hc=>(by rcases p5 with p5 | p5<;>rw[p5] at hc<;>first | exact HVO.out c hc | (simp at hc;omega));have HKP5:Hid (∀b,W.heap.size≤b→b<w2.heap.size→wv5.heap[b]? =w2.heap[b]?):=hDD fun b h1 h2=>((g5.block b (by simp;omega) (fun e=>by have:=HVO.out b e.symm;omega)).trans (((Below.refl w4.heap.size w4).alloc (Nat.le_refl _) _).block b (by omega))).trans (HKP4.out b h1 h2);clear o5 g5 p5)
   go_roundw
   case rel=>exact⟨k+1,T++ [(e1,e2,e3)],by omega,by go_num,O5.out,by rw[HTKk.out];exact HTRE.out _ _ _ _ HTR.out HN0.out (fun e=>by rw[HTE.out,List.mem_append,List.mem_singleton];exact Or.comm),by rw[List.length_append,HTL.out];rfl,HVO5.out,HKP5.out,by omega,B5.out⟩
   case measure=>simp[intOf];omega
  ·obtain rfl:k=L:=by omega
   have HTR2:Hid (TrE (g1,(N:Int),es) O T):=hDD (by have h:=HTR.out;rwa [HTF.out] at h)
   have hT40:T.length≤40:=by have:=HTL.out;have:=HHL.out;omega
   have hwi:=HB.out.size
   go_wp2_with fail
   refine(HSO.out _ T wi HO.out.arg hT40).mono ?_
   rintro e w5 ⟨r5,rfl,o5,b5⟩
   have O5:=hDD o5
   have HBF:=hDD (HBW.out w5 (HB.out.trans (b5.mono (by omega))))
   obtain⟨A5,c5,rfl,_⟩:=o5.form
   have hsl:=HSL.out T
   have HS40:Hid ((srt cmpE T).length≤40):=hDD (by omega)
   have HSF2:=hDD (HSF.out T HTR2.out)
   clear o5 b5 hsl
   generalize srt cmpE T=T2 at*
   go_wp2
   go_ret
   exact⟨_,T2,rfl,O5.out.mono (by omega),HSF2.out,HS40.out,HBF.out⟩
theorem take_filterE {α} (p:α→Bool) (l:List α) (k:Nat) (h:k<l.length):(l.take (k+1)).filter p=if p l[k]=true then(l.take k).filter p++ [l[k]] else(l.take k).filter p:=by
 rw[List.take_succ_eq_append_getElem h,List.filter_append]
 split
 ·rename_i h1;simp[h1]
 ·rename_i h1;simp[h1]
set_option maxHeartbeats 2000000 in
theorem extraEdges_any (v:Value) (g:GrD) (w:World) (h:ArgG w v g) (hf:foldB g=true):
  Calls Tryz.prog 40 #[v] w fun e w'=> ∃r,e= .returned r∧OwE w' w.heap.size r (extL g)∧Below w.heap.size w w':=by
 have HG:=hDD h
 have HF:=hDD hf
 obtain⟨hg,hfol⟩:=foldB_parts hf
 obtain⟨hr13,hsz40,hl120,_⟩:=grB_parts hg
 have HEX:Hid (∀T,TrE g (canO g) T→ ∀e∈g.2.2,exB g e= !decide (e∈T)):=hDD fun T hT e he=>by
  have h1:=hT.ext hf he
  rcases ex:exB g e with _ | _
  ·rw[decide_eq_true (h1.2 ex)];rfl
  ·rw[decide_eq_false (fun hm=>by rw[h1.1 hm] at ex;cases ex)];rfl
 have HXL:Hid (extL g=g.2.2.filter (exB g)):=hDD rfl
 obtain⟨s,rfl,hi1,hi2,ha⟩:=h
 obtain⟨A,cap,rfl⟩:=ha.form
 have HTREE:=hDD (fun W' (h:ArgG W' (.agg #[.int .i64 g.1, .int .i64 g.2.1, .slice A g.2.2.length cap]) g)=>treeEdges_any _ g W' h hf)
 obtain⟨g1,n,es⟩:=g
 simp only at*
 clear ha hf hg hfol
 obtain⟨XB,hXB⟩: ∃X,X=exB (g1,n,es):=⟨_,rfl⟩
 rw[←hXB] at HEX HXL
 clear hXB
 go_enter Tryz.func40,Tryz.ntmps40
 go_wp2_with fail
 obtain⟨W1,hW1⟩: ∃W,W=w.alloc (Obj.cells #[Value.int IntKind.i64 g1,Value.int IntKind.i64 n, .slice A es.length cap] 31):=⟨_,rfl⟩
 obtain⟨hs1,b1,hc1⟩:=gboxE hW1
 obtain⟨W,hW⟩: ∃W,W=W1.alloc (Obj.cells #[] 54):=⟨_,rfl⟩
 have b2:Below W1.heap.size W1 W:=by rw[hW];exact(Below.refl _ _).alloc (Nat.le_refl _) _
 have hsW:W.heap.size=w.heap.size+2:=by rw[hW];simp;omega
 have o0:OwE W (w.heap.size+1) (.slice (some ⟨w.heap.size+1,0,none⟩) 0 0) []:=by rw[hW];exact OwE_litN W1 (w.heap.size+1) hs1 (Nat.le_refl _)
 rw[←hW1,←hW]
 have BX:Hid (Below w.heap.size w W):=hDD (b1.trans (b2.mono (by omega)))
 have B12:=hDD (b2.mono (show w.heap.size+1≤W1.heap.size by omega))
 have HC1:=hDD hc1
 have HCL:Hid (∀w',Below (w.heap.size+1) W w'→w'.cell? ⟨w.heap.size,0,none⟩=some (.int .i64 g1)∧w'.cell? ⟨w.heap.size,1,none⟩=some (.int .i64 n)∧w'.cell? ⟨w.heap.size,2,none⟩=some (.slice A es.length cap)):=hDD fun w' hb=>HC1.out w' (B12.out.trans hb)
 have HA:Hid (∀w',Below (w.heap.size+1) W w'→ArgG w' (.agg #[.int .i64 g1, .int .i64 n, .slice A es.length cap]) (g1,n,es)):=hDD fun w' hb=>HG.out.below (BX.out.trans (hb.mono (by omega)))
 have HBW:Hid (∀w',Below (w.heap.size+1) W w'→Below w.heap.size w w'):=hDD fun w' hb=>BX.out.trans (hb.mono (by omega))
 have O0:=hDD o0
 clear hW1 hW hc1 b1 b2 HC1 o0
 have hfo:=implIsFolded_any _ (g1,n,es) W (HA.out W ((Below.refl W.heap.size W).mono (by omega)))
 rw[HF.out] at hfo
 refine hfo.mono ?_
 clear hfo
 rintro e w2 ⟨rfl,b2⟩
 have hs2:=b2.size
 have B2:Hid (Below (w.heap.size+1) W w2):=hDD (b2.mono (by omega))
 have OE2:=hDD (O0.out.below b2)
 clear b2
 obtain⟨q0,q1,q2⟩:=HCL.out w2 B2.out
 go_wp2_with fail
 refine(HTREE.out w2 (HA.out w2 B2.out)).mono ?_
 rintro e w3 ⟨r3,T,rfl,o3,htr,hT40,b3⟩
 have hs3:=b3.size
 have B3:Hid (Below (w.heap.size+1) W w3):=hDD (B2.out.trans (b3.mono (by omega)))
 have OE3:=hDD (OE2.out.below b3)
 have OT3:=hDD o3
 have HEXT:=hDD (HEX.out T htr)
 obtain⟨At,ct,rfl,_⟩:=o3.form
 clear o3 htr b3 q0 q1 q2
 obtain⟨q0,q1,q2⟩:=HCL.out w3 B3.out
 have HTB:Hid (∀b,(Value.slice At T.length ct).ownBlock=some b→w2.heap.size≤b∧b<w3.heap.size):=hDD fun b hb=>OT3.out.1.lt b hb
 go_wp2
 go_loopw [3,17] (fun vo i wr=> ∃k:Nat,k≤es.length∧i= .int .i64 k∧OwE wr (w.heap.size+1) vo ((es.take k).filter XB)∧(∀c,vo.ownBlock=some c→c<W.heap.size∨w3.heap.size≤c)∧(∀b,W.heap.size≤b→b<w3.heap.size→wr.heap[b]? =w3.heap[b]?)∧w3.heap.size≤wr.heap.size∧Below (w.heap.size+1) W wr) (fun _ i _=>es.length-(intOf i).toNat)
 case atStart=>exact⟨0,Nat.zero_le _,rfl,by simpa using OE3.out,fun c hc=> .inl (by simp[Value.ownBlock] at hc;omega),fun _ _ _=>rfl,Nat.le_refl _,B3.out⟩
 case round=>
  obtain⟨k,hk,rfl,ho,hvo,hkp,hsr,hb⟩:=hrel
  have HO:=hDD ho
  have HVO:=hDD hvo
  have HKP:=hDD hkp
  have HB:=hDD hb
  obtain⟨wi,rfl⟩: ∃wi:World,wi=wr:=⟨_,rfl⟩
  clear ho hvo hkp hb
  have hfl:((es.take k).filter XB).length≤120:=by
   have h1:=List.length_filter_le XB (es.take k)
   rw[List.length_take] at h1
   omega
  obtain⟨Ao,co,rfl,_⟩:=OwE.form HO.out
  by_cases hlt:k<es.length
  ·have HTK:=hDD (take_filterE XB es k hlt)
   have HXE:=hDD (HEXT.out es[k] (List.getElem_mem hlt))
   obtain⟨_,_,hIN,hAE,_,_⟩:=(HA.out wi HB.out).inner
   injection hIN with e1 e2 e3
   subst e1 e3
   clear e2
   obtain⟨b,off,rfl,hbl,c0,c1,c2,he64⟩:=hAE.at hlt
   have HE64:=hDD he64
   have hkI:(k:Int)<(es.length:Int):=by omega
   generalize es[k]=E at*
   generalize (es.take k).filter XB=LO at*
   obtain⟨e1,e2,e3⟩:=E
   simp only at*
   clear hAE he64
   have HCT:=hDD (fun W' (h:ArgE W' (.slice At T.length ct) T)=>containsE_any _ T (e1,e2,e3) W' h (by omega))
   unfold edV at HCT
   simp only at HCT
   go_wp2_with fail
   obtain⟨WX,hWX⟩: ∃WX,WX=wi.alloc (Obj.cells #[Value.int IntKind.i64 e1,Value.int IntKind.i64 e2,Value.int IntKind.i64 e3] 54):=⟨_,rfl⟩
   obtain⟨hsX,bX,hcX⟩:=gboxE hWX
   rw[←hWX]
   have HOX:=hDD (HO.out.below bX)
   have HBX:=hDD (HB.out.trans (bX.mono (by have:=HB.out.size;omega)))
   have HKPX:Hid (∀b,W.heap.size≤b→b<w3.heap.size→WX.heap[b]? =w3.heap[b]?):=hDD fun b h1 h2=>(bX.block b (by omega)).trans (HKP.out b h1 h2)
   have HCX:=hDD hcX
   clear hWX bX hcX c0 c1 c2
   refine(HCT.out WX (OT3.out.keep fun b hb=>HKPX.out b (by have:=HTB.out b hb;omega) (HTB.out b hb).2).arg).mono ?_
   rintro e w4 ⟨rfl,b4⟩
   have hs4:=b4.size
   obtain⟨z0,z1,z2⟩:=HCX.out w4 (b4.mono (by omega))
   have HO4:=hDD (HOX.out.below b4)
   have HB4:=hDD (HBX.out.trans (b4.mono (by have:=HBX.out.size;omega)))
   have HKP4:Hid (∀b,W.heap.size≤b→b<w3.heap.size→w4.heap[b]? =w3.heap[b]?):=hDD fun b h1 h2=>(b4.block b (by omega)).trans (HKPX.out b h1 h2)
   clear b4
   have hw4:w.heap.size+1≤w4.heap.size:=by have:=HB4.out.size;omega
   rcases ed:decide ((e1,e2,e3)∈T) with _ | _
   ·have HT2:Hid ((es.take (k+1)).filter XB=LO++ [(e1,e2,e3)]):=hDD (by rw[HTK.out,HXE.out,ed];rfl)
    clear ed
    go_wp2_with (at_builtin;refine push_edge rfl (.tmp 25) (.tmp 27) rfl (w.heap.size+1) _ _ (HO4.out.alloc _) rfl _ (e1,e2,e3) rfl (edC_new _ _ _) HE64.out (by omega) (by simp;omega) ?_;intro v5 wv5 o5 g5 p5;have hz5:=g5.size;simp at hz5;have O5:=hDD o5;have B5:=hDD (bel_pushE HB4.out hw4 HO4.out (Nat.le_refl _) g5);have HVO5:Hid (∀c,v5.ownBlock=some c→c<W.heap.size∨w3.heap.size≤c):=hDD fun c hc=>(by rcases p5 with p5 | p5<;>rw[p5] at hc<;>first | exact HVO.out c hc | (simp at hc;omega));have HKP5:Hid (∀b,W.heap.size≤b→b<w3.heap.size→wv5.heap[b]? =w3.heap[b]?):=hDD fun b h1 h2=>((g5.block b (by simp;omega) (fun e=>by have:=HVO.out b e.symm;omega)).trans (((Below.refl w4.heap.size w4).alloc (Nat.le_refl _) _).block b (by omega))).trans (HKP4.out b h1 h2);clear o5 g5 p5)
    go_roundw
    case rel=>exact⟨k+1,by omega,by go_num,by rw[HT2.out];exact O5.out,HVO5.out,HKP5.out,by omega,B5.out⟩
    case measure=>simp[intOf];omega
   ·have HT2:Hid ((es.take (k+1)).filter XB=LO):=hDD (by rw[HTK.out,HXE.out,ed];rfl)
    clear ed z0 z1 z2
    go_wp2
    go_roundw
    case rel=>exact⟨k+1,by omega,by go_num,by rw[HT2.out];exact HO4.out,HVO.out,HKP4.out,by omega,HB4.out⟩
    case measure=>simp[intOf];omega
  ·obtain rfl:k=es.length:=by omega
   rw[List.take_length] at HO hfl
   have HOF:=hDD (HXL.out▸HO.out)
   have HBF:=hDD (HBW.out wi HB.out)
   go_wp2
   go_ret
   exact⟨_,rfl,by rw[HXL.out];rw[List.take_length];exact HO.out.mono (by omega),HBF.out⟩
theorem invL_length (xs:List Int):(invL xs).length=xs.length:=by simp[invL,negL]
theorem RdI.keepB {w w':World} {b off n c:Nat} {xs:List Int} (h:RdI w (.slice (some ⟨b,off,none⟩) n c) xs) (hb:w'.heap[b]? =w.heap[b]?):RdI w' (.slice (some ⟨b,off,none⟩) n c) xs:=by
 obtain⟨⟨h1,A,cap,hv,h2,h3,h4,h5⟩,h6⟩:=h
 injection hv with e1 e2 e3
 subst e1 e3
 refine⟨⟨h1,_,_,by rw[e2],h2,h3,h4,fun h0=> ?_⟩,h6⟩
 obtain⟨b',off',cur,fr,hA,hh,hx⟩:=h5 h0
 injection hA with hA
 injection hA with hA1 hA2
 subst hA1 hA2
 exact⟨b,off,cur,fr,rfl,by rw[hb];exact hh,hx⟩
end Go.Proofs.YtfadnkjlilhneaaGreat
namespace Go.Proofs.YtfadnkjlilhneaaGreat
set_option maxRecDepth 20000
set_option linter.unusedVariables false
set_option linter.unusedSimpArgs false
open Go.RowKit
theorem mt_iff {v x y:Int} {e:EdD} (hx: -3≤x∧x≤3):mt v x e=some y↔(0<x∧e.2.1=x∧e.1=v∧e.2.2=y)∨(x<0∧e.2.1= -x∧e.2.2=v∧e.1=y):=by
 have hw:wrap64 (-x)= -x:=IntWalk.wrap64_in _ ⟨by omega,by omega⟩
 unfold mt
 rw[hw]
 constructor
 ·intro h
  split at h
  ·split at h
   ·rename_i p q;injection h with h;exact .inl ⟨p,q.1,q.2,h⟩
   ·cases h
  ·split at h
   ·split at h
    ·rename_i p q;injection h with h;exact .inr ⟨p,q.1,q.2,h⟩
    ·cases h
   ·cases h
 ·rintro(⟨p,q,r,s⟩ | ⟨p,q,r,s⟩)
  ·rw[if_pos p,if_pos ⟨q,r⟩,s]
  ·rw[if_neg (by omega),if_pos p,if_pos ⟨q,r⟩,s]
theorem next_iff {g:GrD} (hg:grB g=true) (hf:Fol g.2.2) {v x y:Int} (hx: -3≤x∧x≤3) (hy:0≤y):nextV g.2.2 v x=y↔(0<x∧(v,x,y)∈g.2.2)∨(x<0∧(y,-x,v)∈g.2.2):=by
 constructor
 ·intro h
  obtain⟨e,he,hm⟩:=nextV_mem (by omega:0≤nextV g.2.2 v x)
  rw[h] at hm
  rcases(mt_iff hx).1 hm with ⟨p,q,r,s⟩ | ⟨p,q,r,s⟩
  ·left
   obtain⟨a,l,b⟩:=e
   simp only at q r s
   subst q r s
   exact⟨p,he⟩
  ·right
   obtain⟨a,l,b⟩:=e
   simp only at q r s
   subst q r s
   exact⟨p,he⟩
 ·rintro(⟨p,h⟩ | ⟨p,h⟩)
  ·exact nextV_of hf h ((mt_iff hx).2 (.inl ⟨p,rfl,rfl,rfl⟩))
  ·exact nextV_of hf h ((mt_iff hx).2 (.inr ⟨p,rfl,rfl,rfl⟩))
theorem next_letter {g:GrD} (hg:grB g=true) {v x:Int} (hx: -3≤x∧x≤3) (h:0≤nextV g.2.2 v x):x∈lettersL g.1.toNat:=by
 obtain⟨e,he,hm⟩:=nextV_mem h
 have hl:=(edge_of_gr hg he).2.1
 rw[letters_mem]
 rcases(mt_iff hx).1 hm with ⟨p,q,_⟩ | ⟨p,q,_⟩<;>omega
def ov (o:List Int) (i:Int):Int:=o.getD i.toNat (-1)
theorem plv_get {o:List Int} (hd:o.Nodup): ∀(k:Nat) (hk:k<o.length),plv o o[k]=(k:Int)+1:=by
 induction o with
 | nil=>intro k hk;cases hk
 | cons u o ih=>
   rw[List.nodup_cons] at hd
   intro k hk
   cases k with
   | zero=>simp[plv]
   | succ k=>
     have hk':k<o.length:=by simpa using hk
     have hne:u≠o[k]:=fun e=>hd.1 (e▸List.getElem_mem hk')
     have:=ih hd.2 k hk'
     simp only[List.getElem_cons_succ]
     unfold plv
     rw[if_neg hne,if_neg (by omega),this]
     omega
theorem ov_get {o:List Int} {k:Nat} (hk:k<o.length):ov o k=o[k]:=by
 unfold ov
 rw[Int.toNat_natCast]
 simp[hk]
theorem plv_ov {o:List Int} (hd:o.Nodup) {i:Int} (h0:0≤i) (h1:i<o.length):plv o (ov o i)=i+1:=by
 obtain⟨k,rfl⟩: ∃k:Nat,i=(k:Int):=⟨i.toNat,by omega⟩
 rw[ov_get (by omega),plv_get hd k (by omega)]
theorem ov_mem {o:List Int} {i:Int} (h0:0≤i) (h1:i<o.length):ov o i∈o:=by
 obtain⟨k,rfl⟩: ∃k:Nat,i=(k:Int):=⟨i.toNat,by omega⟩
 rw[ov_get (by omega)]
 exact List.getElem_mem _
theorem ov_plv {o:List Int} (hd:o.Nodup) {v:Int} (h:v∈o):ov o (plv o v-1)=v:=by
 obtain⟨k,hk,rfl⟩:=List.getElem_of_mem h
 rw[plv_get hd k hk,show(k:Int)+1-1=k by omega,ov_get hk]
theorem plv_pos {o:List Int} {v:Int} (h:v∈o):0<plv o v:=by
 have:=plv_range o v
 have h0:plv o v≠0:=fun e=>plv_zero.1 e h
 omega
theorem rn_mem {g:GrD} {o:List Int} {e:EdD}:e∈(rnG g o).2.2↔ ∃a∈g.2.2,rnE o a=some e:=by
 show e∈srt cmpE (rnL g.2.2 o)↔_
 rw[(srt_spec cmpE_ord _).2]
 unfold rnL
 rw[List.mem_filterMap]
theorem rnE_iff {o:List Int} (hd:o.Nodup) {a e:EdD} (h1:0≤e.1∧e.1<o.length) (h2:0≤e.2.2∧e.2.2<o.length):rnE o a=some e↔a=(ov o e.1,e.2.1,ov o e.2.2):=by
 unfold rnE
 constructor
 ·intro h
  split at h
  ·rename_i p
   injection h with h
   subst h
   simp only
   have m1:a.1∈o:=Classical.byContradiction fun hn=>by have:=plv_zero.2 hn;omega
   have m2:a.2.2∈o:=Classical.byContradiction fun hn=>by have:=plv_zero.2 hn;omega
   rw[ov_plv hd m1,ov_plv hd m2]
  ·cases h
 ·rintro rfl
  simp only
  rw[plv_ov hd h1.1 h1.2,plv_ov hd h2.1 h2.2,if_pos ⟨by omega,by omega⟩]
  congr 1
  obtain⟨x,l,y⟩:=e
  simp only
  rw[show x+1-1=x by omega,show y+1-1=y by omega]
theorem rn_edge {g:GrD} {o:List Int} (hd:o.Nodup) {e:EdD} (h1:0≤e.1∧e.1<o.length) (h2:0≤e.2.2∧e.2.2<o.length):e∈(rnG g o).2.2↔(ov o e.1,e.2.1,ov o e.2.2)∈g.2.2:=by
 rw[rn_mem]
 constructor
 ·rintro⟨a,ha,hr⟩
  rw[(rnE_iff hd h1 h2).1 hr] at ha
  exact ha
 ·intro h
  exact⟨_,h,(rnE_iff hd h1 h2).2 rfl⟩
theorem rn_next {g:GrD} {o:List Int} (hf:foldB g=true) (ho:OrdN g.2.1 o) {i x:Int} (h0:0≤i) (h1:i<o.length) (hx: -3≤x∧x≤3):
  nextV (rnG g o).2.2 i x=if 0≤nextV g.2.2 (ov o i) x then plv o (nextV g.2.2 (ov o i) x)-1 else-1:=by
 obtain⟨hg,hfo⟩:=foldB_parts hf
 obtain⟨hg',hfo'⟩:=foldB_parts (foldB_rnGN hf ho)
 have fwd: ∀j:Int,0≤j→j<o.length→(nextV (rnG g o).2.2 i x=j↔nextV g.2.2 (ov o i) x=ov o j):=fun j j0 j1=>by
  have hoj:=(ho.2.1 _ (ov_mem j0 j1)).1
  rw[next_iff hg' hfo' hx j0,next_iff hg hfo hx hoj,rn_edge ho.1 (e:=(i,x,j)) ⟨h0,h1⟩ ⟨j0,j1⟩,rn_edge ho.1 (e:=(j,-x,i)) ⟨j0,j1⟩ ⟨h0,h1⟩]
 by_cases hy:0≤nextV g.2.2 (ov o i) x
 ·rw[if_pos hy]
  by_cases hm:nextV g.2.2 (ov o i) x∈o
  ·have hp:=plv_pos hm
   have hr:=plv_range o (nextV g.2.2 (ov o i) x)
   exact(fwd _ (by omega) (by omega)).2 (ov_plv ho.1 hm).symm
  ·rw[plv_zero.2 hm]
   rcases nextV_range hg' i x with h | h
   ·rw[h];rfl
   ·have:=(fwd _ h.1 h.2).1 rfl
    rw[this] at hm
    exact absurd (ov_mem h.1 h.2) hm
 ·rw[if_neg hy]
  rcases nextV_range hg' i x with h | h
  ·exact h
  ·have:=(fwd _ h.1 h.2).1 rfl
   have h2:=(ho.2.1 _ (ov_mem h.1 h.2)).1
   omega
theorem conn_next {es:List EdD} {u v x:Int} (hx: -3≤x∧x≤3) (h:Conn es u v) (hn:0≤nextV es v x):Conn es u (nextV es v x):=by
 obtain⟨e,he,hm⟩:=nextV_mem hn
 rcases(mt_iff hx).1 hm with ⟨_,_,r,s⟩ | ⟨_,_,r,s⟩
 ·rw[←s];exact .fwd e he (r▸h)
 ·rw[←s];exact .back e he (r▸h)
structure Sub (x g:GrD) (s:Int→Int):Prop where
 rk:x.1=g.1
 rng: ∀i,0≤i→i<x.2.1→0≤s i∧s i<g.2.1
 cn:Conn g.2.2 0 (s 0)
 fw: ∀i l,0≤i→i<x.2.1→ -3≤l∧l≤3→0≤nextV x.2.2 i l→nextV g.2.2 (s i) l=s (nextV x.2.2 i l)
 lp: ∀i w,0≤i→i<x.2.1→Conn x.2.2 0 i→(∀l∈w,-3≤l∧l≤3)→NoB w→walkF g.2.2 (s i) w=s i→walkF x.2.2 i w=i
theorem Sub.walk {x g:GrD} {s:Int→Int} (h:Sub x g s) (hx:grB x=true): ∀(w:List Int) (i:Int),0≤i→i<x.2.1→(∀l∈w,-3≤l∧l≤3)→0≤walkF x.2.2 i w→walkF g.2.2 (s i) w=s (walkF x.2.2 i w)
 | [],_,_,_,_,_=>rfl
 | l::w,i,h0,h1,hl,hw=>by
   rw[walkF_cons] at hw⊢
   split at hw
   ·exact absurd hw (by decide)
   ·rename_i hn
    have hl0:=hl l (by simp)
    have hf:=h.fw i l h0 h1 hl0 (by omega)
    rcases nextV_range hx i l with e | ⟨e1,e2⟩
    ·omega
    ·have hr:=h.rng _ e1 e2
     rw[hf,if_neg (by omega)]
     conv=>rhs;rw[walkF_cons,if_neg hn]
     exact h.walk hx w _ e1 e2 (fun l hl'=>hl l (by simp[hl'])) hw
theorem Sub.conn {x g:GrD} {s:Int→Int} (h:Sub x g s) (hx:grB x=true) (hfx:Fol x.2.2) (hg:grB g=true) {i:Int} (hc:Conn x.2.2 0 i):(0≤i∧i<x.2.1)∧Conn g.2.2 0 (s i):=by
 have hs:=(grB_parts hx).2.1
 have key: ∀e∈x.2.2,(Conn g.2.2 0 (s e.1)↔Conn g.2.2 0 (s e.2.2)):=fun e he=>by
  have hr:=edge_of_gr hx he
  have h3:=(grB_parts hx).1
  have hl: -3≤e.2.1∧e.2.1≤3:=by omega
  have n1:=nextV_out hx hfx he
  have n2:=nextV_in hx hfx he
  have f1:=h.fw e.1 e.2.1 hr.1.1 hr.1.2 hl (by rw[n1];exact hr.2.2.1)
  have f2:=h.fw e.2.2 (-e.2.1) hr.2.2.1 hr.2.2.2 (by omega) (by rw[n2];exact hr.1.1)
  rw[n1] at f1
  rw[n2] at f2
  constructor
  ·intro c
   have:=conn_next hl c (by rw[f1];exact(h.rng _ hr.2.2.1 hr.2.2.2).1)
   rwa [f1] at this
  ·intro c
   have:=conn_next (x:= -e.2.1) (by omega) c (by rw[f2];exact(h.rng _ hr.1.1 hr.1.2).1)
   rwa [f2] at this
 refine conn_of_closed (S:=fun i=>(0≤i∧i<x.2.1)∧Conn g.2.2 0 (s i)) ⟨by omega,h.cn⟩ (fun e he=> ?_) hc
 have hr:=edge_of_gr hx he
 have:=key e he
 constructor
 ·rintro⟨_,c⟩;exact⟨hr.2.2,this.1 c⟩
 ·rintro⟨_,c⟩;exact⟨hr.1,this.2 c⟩
theorem Sub.refl {g:GrD}:Sub g g id where
 rk:=rfl
 rng:=fun _ h0 h1=>⟨h0,h1⟩
 cn:= .base
 fw:=fun _ _ _ _ _ _=>rfl
 lp:=fun _ _ _ _ _ _ _ h=>h
theorem Sub.trans {x y g:GrD} {s t:Int→Int} (h:Sub x y s) (k:Sub y g t) (hx:grB x=true) (hfx:Fol x.2.2) (hy:grB y=true) (hfy:Fol y.2.2) (hg:grB g=true):Sub x g (fun i=>t (s i)) where
 rk:=h.rk.trans k.rk
 rng:=fun i h0 h1=>by have:=h.rng i h0 h1;exact k.rng _ this.1 this.2
 cn:=(k.conn hy hfy hg h.cn).2
 fw:=fun i l h0 h1 hl hn=>by
  have hr:=h.rng i h0 h1
  have f:=h.fw i l h0 h1 hl hn
  rw[←f]
  refine k.fw _ l hr.1 hr.2 hl ?_
  rw[f]
  rcases nextV_range hx i l with e | ⟨e1,e2⟩
  ·omega
  ·exact(h.rng _ e1 e2).1
 lp:=fun i w h0 h1 hc hl hn hw=>by
  have hr:=h.rng i h0 h1
  exact h.lp i w h0 h1 hc hl hn (k.lp (s i) w hr.1 hr.2 (h.conn hx hfx hy hc).2 hl hn hw)
theorem NoB.tail {a:Int} {l:List Int} (h:NoB (a::l)):NoB l:=by
 cases l with
 | nil=>trivial
 | cons b l=>exact h.2
theorem Sub.rn {g:GrD} {o:List Int} (hf:foldB g=true) (ho:OrdN g.2.1 o) (h0:Conn g.2.2 0 (ov o 0))
  (H: ∀v∈o,Conn g.2.2 0 v→ ∀l w,-3≤l∧l≤3→(∀x∈w,-3≤x∧x≤3)→NoB (l::w)→0≤nextV g.2.2 v l→nextV g.2.2 v l∉o→walkF g.2.2 (nextV g.2.2 v l) w∉o):Sub (rnG g o) g (ov o):=by
 obtain⟨hg,hfo⟩:=foldB_parts hf
 obtain⟨hg',hfo'⟩:=foldB_parts (foldB_rnGN hf ho)
 have rngs: ∀i,0≤i→i<(rnG g o).2.1→0≤ov o i∧ov o i<g.2.1:=fun i a b=>ho.2.1 _ (ov_mem a b)
 have fws: ∀i l,0≤i→i<(rnG g o).2.1→ -3≤l∧l≤3→0≤nextV (rnG g o).2.2 i l→nextV g.2.2 (ov o i) l=ov o (nextV (rnG g o).2.2 i l):=fun i l a b hl hn=>by
  have e:=rn_next hf ho a b hl
  split at e
  ·rename_i hp
   rw[e] at hn⊢
   refine(ov_plv ho.1 (Classical.byContradiction fun hm=> ?_)).symm
   have:=plv_zero.2 hm
   omega
  ·omega
 have walks: ∀(w:List Int) (v:Int),v∈o→Conn g.2.2 0 v→(∀l∈w,-3≤l∧l≤3)→NoB w→walkF g.2.2 v w∈o→walkF (rnG g o).2.2 (plv o v-1) w=plv o (walkF g.2.2 v w)-1:=by
  intro w
  induction w with
  | nil=>intro v _ _ _ _ _;rfl
  | cons l w ih=>
    intro v hv hc hl hn hw
    have hl0:=hl l (by simp)
    have hlw: ∀x∈w,-3≤x∧x≤3:=fun x hx=>hl x (by simp[hx])
    rw[walkF_cons] at hw
    split at hw
    ·have:=(ho.2.1 _ hw).1;omega
    ·rename_i hnn
     have hm:nextV g.2.2 v l∈o:=Classical.byContradiction fun hm=>H v hv hc l w hl0 hlw hn (by omega) hm hw
     have hp:=plv_pos hv
     have hr:=plv_range o v
     have hp2:=plv_pos hm
     have e:=rn_next hf ho (i:=plv o v-1) (x:=l) (by omega) (by omega) hl0
     rw[ov_plv ho.1 hv,if_pos (by omega)] at e
     rw[walkF_cons,walkF_cons,e,if_neg (by omega),if_neg hnn]
     exact ih _ hm (conn_next hl0 hc (by omega)) hlw hn.tail hw
 exact⟨rfl,rngs,h0,fws,fun i w a b hc hl hn hw=>by
  have hci:Conn g.2.2 0 (ov o i):=by
   have key: ∀e∈(rnG g o).2.2,(Conn g.2.2 0 (ov o e.1)↔Conn g.2.2 0 (ov o e.2.2)):=fun e he=>by
    have hr:=edge_of_gr hg' he
    have h3:=(grB_parts hg').1
    have hl: -3≤e.2.1∧e.2.1≤3:=by omega
    have n1:=nextV_out hg' hfo' he
    have n2:=nextV_in hg' hfo' he
    have f1:=fws e.1 e.2.1 hr.1.1 hr.1.2 hl (by rw[n1];exact hr.2.2.1)
    have f2:=fws e.2.2 (-e.2.1) hr.2.2.1 hr.2.2.2 (by omega) (by rw[n2];exact hr.1.1)
    rw[n1] at f1
    rw[n2] at f2
    constructor
    ·intro c
     have:=conn_next hl c (by rw[f1];exact(rngs _ hr.2.2.1 hr.2.2.2).1)
     rwa [f1] at this
    ·intro c
     have:=conn_next (x:= -e.2.1) (by omega) c (by rw[f2];exact(rngs _ hr.1.1 hr.1.2).1)
     rwa [f2] at this
   exact conn_of_closed (S:=fun i=>Conn g.2.2 0 (ov o i)) h0 key hc
  have hmi:=ov_mem a b
  have:=walks w (ov o i) hmi hci hl hn (by rw[hw];exact hmi)
  rw[hw,plv_ov ho.1 a b] at this
  rw[show i+1-1=i by omega] at this
  exact this⟩
theorem degE_pos {v x y:Int} {e:EdD} (hx: -3≤x∧x≤3) (h:mt v x e=some y):1≤degE v e:=by
 unfold degE
 rcases(mt_iff hx).1 h with ⟨_,_,r,_⟩ | ⟨_,_,r,_⟩
 ·rw[if_pos r];omega
 ·rw[if_pos r];omega
theorem degL_cons (e:EdD) (es:List EdD) (v:Int):degL (e::es) v=degE v e+degL es v:=by simp[degL]
theorem degL_mem {v:Int} {e:EdD}: ∀ {es:List EdD},e∈es→degE v e≤degL es v
 | a::es,h=>by
   rw[degL_cons]
   rcases List.mem_cons.1 h with rfl | h
   ·omega
   ·have:=degL_mem (v:=v) h;omega
theorem degL_two {v:Int} {e1 e2:EdD} (hne:e1≠e2): ∀ {es:List EdD},e1∈es→e2∈es→degE v e1+degE v e2≤degL es v
 | a::es,h1,h2=>by
   rw[degL_cons]
   rcases List.mem_cons.1 h1 with r1 | h1
   ·rcases List.mem_cons.1 h2 with r2 | h2
    ·exact absurd (r1.trans r2.symm) hne
    ·have:=degL_mem (v:=v) h2
     rw[r1];omega
   ·rcases List.mem_cons.1 h2 with r2 | h2
    ·have:=degL_mem (v:=v) h1
     rw[r2];omega
    ·have:=degL_two (v:=v) hne h1 h2;omega
theorem deg_uniq {es:List EdD} {v l m:Int} (hl: -3≤l∧l≤3) (hm: -3≤m∧m≤3) (hd:degL es v≤1) (h1:0≤nextV es v l) (h2:0≤nextV es v m):l=m:=by
 obtain⟨e1,he1,m1⟩:=nextV_mem h1
 obtain⟨e2,he2,m2⟩:=nextV_mem h2
 have p1:=degE_pos hl m1
 have p2:=degE_pos hm m2
 by_cases he:e1=e2
 ·subst he
  have hd1:=degL_mem (v:=v) he1
  unfold degE at hd1
  rcases(mt_iff hl).1 m1 with ⟨a1,a2,a3,a4⟩ | ⟨a1,a2,a3,a4⟩<;>rcases(mt_iff hm).1 m2 with ⟨b1,b2,b3,b4⟩ | ⟨b1,b2,b3,b4⟩
  ·omega
  ·rw[if_pos a3,if_pos b3] at hd1;omega
  ·rw[if_pos a3,if_pos b3] at hd1;omega
  ·omega
 ·have:=degL_two (v:=v) he he1 he2
  omega
theorem leafFrom_leaf (es:List EdD) (n:Nat): ∀f v:Nat,0≤leafFrom es n f v→leafB es (leafFrom es n f v).toNat=true
 | 0,v,h=>by unfold leafFrom at h;exact absurd h (by decide)
 | f+1,v,h=>by
   unfold leafFrom at h⊢
   split
   ·rename_i hv
    rw[if_pos hv] at h
    split
    ·rename_i hb;simpa using hb
    ·rename_i hb
     rw[if_neg hb] at h
     exact leafFrom_leaf es n f (v+1) h
   ·rename_i hv
    rw[if_neg hv] at h
    exact absurd h (by decide)
theorem Sub.leaf {g:GrD} (hf:foldB g=true) (hl:0≤leafV g.2.2 g.2.1.toNat):Sub (rnG g (delO g.2.1.toNat (leafV g.2.2 g.2.1.toNat))) g (ov (delO g.2.1.toNat (leafV g.2.2 g.2.1.toNat)))∧ov (delO g.2.1.toNat (leafV g.2.2 g.2.1.toNat)) 0=0:=by
 obtain⟨hg,hfo⟩:=foldB_parts hf
 have hsz:=(grB_parts hg).2.1
 have hr:=leafV_range g.2.2 g.2.1.toNat
 have hlf:=leafFrom_leaf g.2.2 g.2.1.toNat _ _ hl
 change leafB g.2.2 (leafV g.2.2 g.2.1.toNat).toNat=true at hlf
 generalize leafV g.2.2 g.2.1.toNat=u at*
 have hok:=delO_ok (n:=g.2.1.toNat) (x:=u) (by omega) (by omega)
 rw[show((g.2.1.toNat:Nat):Int)=g.2.1 by omega] at hok
 have hz:ov (delO g.2.1.toNat u) 0=0:=by
  have:=hok.2.2
  unfold ov
  simp[List.getD,this]
 refine⟨Sub.rn hf hok.toN (by rw[hz];exact .base) ?_,hz⟩
 intro v hv hc l w hll hlw hn h0 hm
 have hyu:nextV g.2.2 v l=u:=Classical.byContradiction fun hne=>by
  rcases nextV_range hg v l with e | ⟨e1,e2⟩
  ·omega
  ·exact hm (delO_mem.2 ⟨⟨e1,by omega⟩,hne⟩)
 have hcu:=conn_next hll hc h0
 rw[hyu] at hcu hm⊢
 have hd:degL g.2.2 u<2:=by
  unfold leafB at hlf
  rw[show((u.toNat:Nat):Int)=u by omega,Bool.or_eq_true,decide_eq_true_eq] at hlf
  rcases hlf with h | h
  ·exact h
  ·rw[hasB_iff.2 ((reachL_mem _ _ _).2 hcu)] at h
   cases h
 cases w with
 | nil=>exact hm
 | cons m w=>
   have hml:=hlw m (by simp)
   rw[walkF_cons]
   by_cases hnm:nextV g.2.2 u m<0
   ·rw[if_pos hnm]
    intro q
    have:=(delO_mem.1 q).1
    omega
   ·have hb:=nextV_back hg hfo hll h0
    rw[hyu] at hb
    have hv0:=(hok.2.1 v hv).1
    have:=deg_uniq hml (m:= -l) (by omega) (by omega:degL g.2.2 u≤1) (by omega) (by rw[hb];exact hv0)
    exact absurd this hn.1
theorem Sub.trimF: ∀(f:Nat) (g:GrD) (l:List Int),foldB g=true→ ∃s,Sub (trimF f g l).1 g s∧s 0=0
 | 0,g,l,_=>⟨id,Sub.refl,rfl⟩
 | f+1,g,l,hf=>by
   unfold Go.Proofs.YtfadnkjlilhneaaGreat.trimF
   split
   ·exact⟨id,Sub.refl,rfl⟩
   ·rename_i hn
    obtain⟨hg,hfo⟩:=foldB_parts hf
    obtain⟨s1,z1⟩:=Sub.leaf hf (by omega)
    have hsz:=(grB_parts hg).2.1
    have hr:=leafV_range g.2.2 g.2.1.toNat
    have hok:=delO_ok (n:=g.2.1.toNat) (x:=leafV g.2.2 g.2.1.toNat) (by omega) (by omega)
    rw[show((g.2.1.toNat:Nat):Int)=g.2.1 by omega] at hok
    have hf2:=foldB_rnG hf hok
    obtain⟨s,hs,hz⟩:=Sub.trimF f _ (l.take (leafV g.2.2 g.2.1.toNat).toNat++l.drop ((leafV g.2.2 g.2.1.toNat).toNat+1)) hf2
    obtain⟨ga,fa⟩:=foldB_parts hf2
    obtain⟨gb,fb⟩:=foldB_parts (trimF_fold f _ (l.take (leafV g.2.2 g.2.1.toNat).toNat++l.drop ((leafV g.2.2 g.2.1.toNat).toNat+1)) hf2)
    exact⟨_,hs.trans s1 gb fb ga fa hg,by rw[hz,z1]⟩
theorem cstep_sub (es:List EdD) (u:Int) (o:List Int) (x:Int) {y:Int} (h:y∈o):y∈cstep es u o x:=by
 unfold cstep
 split
 ·split
  ·exact h
  ·exact List.mem_append.2 (.inl h)
 ·exact h
theorem cfold_sub (es:List EdD) (u:Int): ∀(ls:List Int) (o:List Int) {y:Int},y∈o→y∈ls.foldl (cstep es u) o
 | [],_,_,h=>h
 | x::ls,o,_,h=>cfold_sub es u ls _ (cstep_sub es u o x h)
theorem cfold_has (es:List EdD) (u:Int): ∀(ls:List Int) (o:List Int) (x:Int),x∈ls→0≤nextV es u x→nextV es u x∈ls.foldl (cstep es u) o
 | a::ls,o,x,hx,h=>by
   rw[List.foldl_cons]
   rcases List.mem_cons.1 hx with rfl | hx
   ·refine cfold_sub es u ls _ ?_
    unfold cstep
    rw[if_pos h]
    split
    ·rename_i hb;exact hasB_iff.1 hb
    ·exact List.mem_append.2 (.inr (by simp))
   ·exact cfold_has es u ls _ x hx h
theorem canF_closed {g:GrD} (hg:grB g=true) (ls:List Int): ∀(f i:Nat) (o:List Int),OrdOk g.2.1 o→41≤f+i→
  (∀(j:Nat) (v:Int),j<i→o[j]? =some v→ ∀x∈ls,0≤nextV g.2.2 v x→nextV g.2.2 v x∈o)→
  ∀v∈canF g.2.2 ls f i o,∀x∈ls,0≤nextV g.2.2 v x→nextV g.2.2 v x∈canF g.2.2 ls f i o
 | 0,i,o,hok,hi,hc=>by
   have hl:=hok.len (grB_parts hg).2.1.2 (by have:=(grB_parts hg).2.1.1;omega)
   intro v hv x hx h0
   obtain⟨j,hj,rfl⟩:=List.getElem_of_mem hv
   exact hc j _ (by have:(canF g.2.2 ls 0 i o).length=o.length:=rfl;omega) (List.getElem?_eq_getElem hj) x hx h0
 | f+1,i,o,hok,hi,hc=>by
   have hl:=hok.len (grB_parts hg).2.1.2 (by have:=(grB_parts hg).2.1.1;omega)
   by_cases hil:i<o.length
   ·rw[canF_step _ _ _ _ _ hil]
    refine canF_closed hg ls f (i+1) _ (cfold_ok hg ls hok) (by omega) ?_
    intro j v hj hv x hx h0
    by_cases hji:j<i
    ·have hjo:j<o.length:=by omega
     have e:=cfold_prefix g.2.2 o[i] ls o j _ (List.getElem?_eq_getElem hjo)
     rw[hv] at e
     injection e with e
     subst e
     exact cfold_sub _ _ _ _ (hc j _ hji (List.getElem?_eq_getElem hjo) x hx h0)
    ·obtain rfl:j=i:=by omega
     have e:=cfold_prefix g.2.2 o[j] ls o j _ (List.getElem?_eq_getElem hil)
     rw[hv] at e
     injection e with e
     subst e
     exact cfold_has _ _ _ _ _ hx h0
   ·have e:canF g.2.2 ls (f+1) i o=o:=by
     rw[canF,List.getElem?_eq_none (by omega)]
    rw[e]
    intro v hv x hx h0
    obtain⟨j,hj,rfl⟩:=List.getElem_of_mem hv
    exact hc j _ (by omega) (List.getElem?_eq_getElem hj) x hx h0
theorem canO_closed {g:GrD} (hg:grB g=true) {v x:Int} (hv:v∈canO g) (hx: -3≤x∧x≤3) (h0:0≤nextV g.2.2 v x):nextV g.2.2 v x∈canO g:=
 canF_closed hg _ 41 0 [0] (OrdOk.one (grB_parts hg).2.1.1) (by omega) (fun j _ hj=>by omega) v hv x (next_letter hg hx h0) h0
theorem canO_conn {g:GrD} (hf:foldB g=true) {v:Int} (h:Conn g.2.2 0 v):v∈canO g:=by
 obtain⟨hg,hfo⟩:=foldB_parts hf
 refine conn_of_closed (S:=fun v=>v∈canO g) (List.mem_of_getElem? (canO_ok hg).2.2) (fun e he=> ?_) h
 have hr:=edge_of_gr hg he
 have h3:=(grB_parts hg).1
 have n1:=nextV_out hg hfo he
 have n2:=nextV_in hg hfo he
 constructor
 ·intro c
  have:=canO_closed hg c (x:=e.2.1) (by omega) (by rw[n1];exact hr.2.2.1)
  rwa [n1] at this
 ·intro c
  have:=canO_closed hg c (x:= -e.2.1) (by omega) (by rw[n2];exact hr.1.1)
  rwa [n2] at this
theorem ov_zero {n:Int} {o:List Int} (h:OrdOk n o):ov o 0=0:=by
 have:=h.2.2
 unfold ov
 simp[List.getD,this]
theorem Sub.can {g:GrD} (hf:foldB g=true):Sub (canG g) g (ov (canO g)):=by
 obtain⟨hg,hfo⟩:=foldB_parts hf
 have hok:=canO_ok hg
 refine Sub.rn hf hok.toN (by rw[ov_zero hok];exact .base) ?_
 intro v hv hc l w hl hlw hn h0 hm
 exact absurd (canO_closed hg hv hl h0) hm
theorem foL_of_fol {es:List EdD} (h:Fol es):foL es= []:=by
 cases e:foL es with
 | nil=>rfl
 | cons f l=>
   obtain⟨i,k,hi,hk,hf⟩:=foL_from (show f∈foL es by rw[e];simp)
   have hc:=List.pairwise_iff_getElem.1 h i k (by omega) hk hi
   unfold clash at hc
   unfold fo2 at hf
   rw[Bool.eq_false_iff] at hc
   rcases List.mem_append.1 hf with hf | hf
   ·split at hf
    ·rename_i q
     exact absurd (by simp[q.1,q.2]) hc
    ·cases hf
   ·split at hf
    ·rename_i q
     exact absurd (by simp[q.1,q.2]) hc
    ·cases hf
theorem folA_fol {g:GrD} (hf:foldB g=true):folA g=g:=folF_nil (foL_of_fol (foldB_parts hf).2) _
theorem foldB_canG {g:GrD} (hf:foldB g=true):foldB (canG g)=true:=foldB_rnG hf (canO_ok (foldB_parts hf).1)
theorem Sub.core {g:GrD} (hf:foldB g=true): ∃s,Sub (coreG g) g s∧s 0=0:=by
 obtain⟨hg,hfo⟩:=foldB_parts hf
 unfold coreG
 rw[folA_fol hf]
 obtain⟨s,hs,hz⟩:=Sub.trimF g.2.1.toNat g ((List.range g.2.1.toNat).map fun v=>((v:Nat):Int)) hf
 have ht:=trimG_fold hf
 obtain⟨ga,fa⟩:=foldB_parts ht
 obtain⟨gb,fb⟩:=foldB_parts (foldB_canG ht)
 exact⟨_,(Sub.can ht).trans hs gb fb ga fa hg,by rw[ov_zero (canO_ok ga),hz]⟩
theorem core_fold {g:GrD} (h:coreB g=true):foldB g=true:=by
 unfold coreB at h;simp only[Bool.and_eq_true] at h;exact h.1.1
structure GBx (w:World) (p base:Nat) (A:Option Addr) (c:Nat) (g:GrD):Prop where
 c0:w.cell? ⟨p,0,none⟩=some (.int .i64 g.1)
 c1:w.cell? ⟨p,1,none⟩=some (.int .i64 g.2.1)
 c2:w.cell? ⟨p,2,none⟩=some (.slice A g.2.2.length c)
 fz: ∀j,w.frozen? ⟨p,j,none⟩=false
 ow:OwE w base (.slice A g.2.2.length c) g.2.2
 ne: ∀b,(Value.slice A g.2.2.length c).ownBlock=some b→b≠p
 i1:I64 g.1
 i2:I64 g.2.1
 lt:p<w.heap.size
theorem GBx.below {w w':World} {p base:Nat} {A:Option Addr} {c:Nat} {g:GrD} (h:GBx w p base A c g) (hb:Below w.heap.size w w'):GBx w' p base A c g:=
 ⟨(hb.cell (p:=⟨p,0,none⟩) h.lt).trans h.c0,(hb.cell (p:=⟨p,1,none⟩) h.lt).trans h.c1,(hb.cell (p:=⟨p,2,none⟩) h.lt).trans h.c2,fun j=>(hb.frozen (p:=⟨p,j,none⟩) h.lt).trans (h.fz j),h.ow.below hb,h.ne,h.i1,h.i2,Nat.lt_of_lt_of_le h.lt hb.size⟩
theorem GBx.keep {w w':World} {p base:Nat} {A:Option Addr} {c:Nat} {g:GrD} (h:GBx w p base A c g) (hs:w.heap.size≤w'.heap.size) (hk: ∀b,b=p∨(Value.slice A g.2.2.length c).ownBlock=some b→w'.heap[b]? =w.heap[b]?):GBx w' p base A c g:=by
 have hp:=hk p (.inl rfl)
 exact⟨(World.cell?_of_block (w:=w) hp).trans h.c0,(World.cell?_of_block (w:=w) hp).trans h.c1,(World.cell?_of_block (w:=w) hp).trans h.c2,fun j=>(World.frozen?_of_block (w:=w) hp).trans (h.fz j),h.ow.keep fun b hb=>hk b (.inr hb),h.ne,h.i1,h.i2,Nat.lt_of_lt_of_le h.lt hs⟩
theorem GBx.grown {w w':World} {p base:Nat} {A:Option Addr} {c:Nat} {g:GrD} {row:Option Nat} (h:GBx w p base A c g) (hg:w.grownBy w' row) (h1: ∀b,row=some b→b≠p∧(Value.slice A g.2.2.length c).ownBlock≠some b):GBx w' p base A c g:=by
 refine h.keep hg.size fun b hb=> ?_
 have hlt:b<w.heap.size:=by
  rcases hb with rfl | hb
  ·exact h.lt
  ·exact(h.ow.1.lt b hb).2
 refine hg.block b hlt fun e=> ?_
 have:=h1 b e.symm
 rcases hb with rfl | hb
 ·exact this.1 rfl
 ·exact this.2 hb
theorem GBx.arg {w:World} {p base:Nat} {A:Option Addr} {c:Nat} {g:GrD} (h:GBx w p base A c g):ArgG w (.agg #[.int .i64 g.1, .int .i64 g.2.1, .slice A g.2.2.length c]) g:=⟨_,rfl,h.i1,h.i2,h.ow.arg⟩
theorem OwI.keepB {w w':World} {base:Nat} {s:Value} {xs:List Int} (h:OwI w base s xs) (hb: ∀b,s.ownBlock=some b→w'.heap[b]? =w.heap[b]?):OwI w' base s xs:=by
 refine⟨⟨h.1.1,?_⟩,h.2⟩
 rcases h.1.2 with h0 | ⟨g,cap,cur,hv,hg,hh,r⟩
 ·exact .inl h0
 ·exact .inr ⟨g,cap,cur,hv,hg,by rw[hb g (by rw[hv];rfl)];exact hh,r⟩
theorem GBx.set {w:World} {p base base':Nat} {A A':Option Addr} {c c':Nat} {g m:GrD} (h:GBx w p base A c g) (o:OwE w base' (.slice A' m.2.2.length c') m.2.2) (hn: ∀b,(Value.slice A' m.2.2.length c').ownBlock=some b→b≠p) (h1:I64 m.1) (h2:I64 m.2.1):
  GBx (((w.setCell ⟨p,0,none⟩ (.int .i64 m.1)).setCell ⟨p,1,none⟩ (.int .i64 m.2.1)).setCell ⟨p,2,none⟩ (.slice A' m.2.2.length c')) p base' A' c' m:=by
 obtain⟨e0,e1,e2⟩:=cells3F (.int .i64 m.1) (.int .i64 m.2.1) (.slice A' m.2.2.length c') h.c0 h.c1 h.c2
 refine⟨e0,e1,e2,fun j=>by rw[World.frozen?_setCell,World.frozen?_setCell,World.frozen?_setCell];exact h.fz j,?_,hn,h1,h2,by simpa using h.lt⟩
 refine o.keep fun b hb=> ?_
 have:=hn b hb
 rw[Below.heap_setCell _ _ _ b this,Below.heap_setCell _ _ _ b this,Below.heap_setCell _ _ _ b this]
structure CBx (w:World) (p:Nat) (x y z:Value):Prop where
 c0:w.cell? ⟨p,0,none⟩=some x
 c1:w.cell? ⟨p,1,none⟩=some y
 c2:w.cell? ⟨p,2,none⟩=some z
 fz: ∀j,w.frozen? ⟨p,j,none⟩=false
 lt:p<w.heap.size
theorem CBx.below {w w':World} {p:Nat} {x y z:Value} (h:CBx w p x y z) (hb:Below w.heap.size w w'):CBx w' p x y z:=
 ⟨(hb.cell (p:=⟨p,0,none⟩) h.lt).trans h.c0,(hb.cell (p:=⟨p,1,none⟩) h.lt).trans h.c1,(hb.cell (p:=⟨p,2,none⟩) h.lt).trans h.c2,fun j=>(hb.frozen (p:=⟨p,j,none⟩) h.lt).trans (h.fz j),Nat.lt_of_lt_of_le h.lt hb.size⟩
theorem CBx.other {w:World} {p q:Nat} {x y z a b c:Value} (h:CBx w p x y z) (hne:p≠q):CBx (((w.setCell ⟨q,0,none⟩ a).setCell ⟨q,1,none⟩ b).setCell ⟨q,2,none⟩ c) p x y z:=by
 have hp:(((w.setCell ⟨q,0,none⟩ a).setCell ⟨q,1,none⟩ b).setCell ⟨q,2,none⟩ c).heap[p]? =w.heap[p]? :=by
  rw[Below.heap_setCell _ _ _ p hne,Below.heap_setCell _ _ _ p hne,Below.heap_setCell _ _ _ p hne]
 exact⟨(World.cell?_of_block (w:=w) hp).trans h.c0,(World.cell?_of_block (w:=w) hp).trans h.c1,(World.cell?_of_block (w:=w) hp).trans h.c2,fun j=>(World.frozen?_of_block (w:=w) hp).trans (h.fz j),by simpa using h.lt⟩
theorem CBx.set {w:World} {p base':Nat} {x y z:Value} {A':Option Addr} {c':Nat} {m:GrD} (h:CBx w p x y z) (o:OwE w base' (.slice A' m.2.2.length c') m.2.2) (hn: ∀b,(Value.slice A' m.2.2.length c').ownBlock=some b→b≠p) (h1:I64 m.1) (h2:I64 m.2.1):
  GBx (((w.setCell ⟨p,0,none⟩ (.int .i64 m.1)).setCell ⟨p,1,none⟩ (.int .i64 m.2.1)).setCell ⟨p,2,none⟩ (.slice A' m.2.2.length c')) p base' A' c' m:=by
 obtain⟨e0,e1,e2⟩:=cells3F (.int .i64 m.1) (.int .i64 m.2.1) (.slice A' m.2.2.length c') h.c0 h.c1 h.c2
 refine⟨e0,e1,e2,fun j=>by rw[World.frozen?_setCell,World.frozen?_setCell,World.frozen?_setCell];exact h.fz j,?_,hn,h1,h2,by simpa using h.lt⟩
 refine o.keep fun b hb=> ?_
 have:=hn b hb
 rw[Below.heap_setCell _ _ _ b this,Below.heap_setCell _ _ _ b this,Below.heap_setCell _ _ _ b this]
theorem CBx.new {w W:World} {x y z:Value} {t:TypeId} (hW:W=w.alloc (.cells #[x,y,z] t)):CBx W w.heap.size x y z∧Below w.heap.size w W∧W.heap.size=w.heap.size+1:=by
 refine⟨⟨by rw[hW];simp[go_sem],by rw[hW];simp[go_sem],by rw[hW];simp[go_sem],fun j=>by rw[hW];simp[go_sem],by rw[hW];simp⟩,by rw[hW];exact(Below.refl _ _).alloc (Nat.le_refl _) _,by rw[hW];simp⟩
theorem GBx.cbx {w:World} {p base:Nat} {A:Option Addr} {c:Nat} {g:GrD} (h:GBx w p base A c g):CBx w p (.int .i64 g.1) (.int .i64 g.2.1) (.slice A g.2.2.length c):=⟨h.c0,h.c1,h.c2,h.fz,h.lt⟩
theorem set3_heap (w:World) (p:Nat) (x y z:Value) {b:Nat} (h:b≠p):(((w.setCell ⟨p,0,none⟩ x).setCell ⟨p,1,none⟩ y).setCell ⟨p,2,none⟩ z).heap[b]? =w.heap[b]? :=by
 rw[Below.heap_setCell _ _ _ b h,Below.heap_setCell _ _ _ b h,Below.heap_setCell _ _ _ b h]
theorem set3_below {w0 w:World} {n p:Nat} (x y z:Value) (h:Below n w0 w) (hp:n≤p):Below n w0 (((w.setCell ⟨p,0,none⟩ x).setCell ⟨p,1,none⟩ y).setCell ⟨p,2,none⟩ z):=((h.setCell hp _).setCell hp _).setCell hp _
theorem GBx.new {w W:World} {base:Nat} {A:Option Addr} {c:Nat} {m:GrD} {t:TypeId} (o:OwE w base (.slice A m.2.2.length c) m.2.2) (h1:I64 m.1) (h2:I64 m.2.1) (hW:W=w.alloc (.cells #[.int .i64 m.1, .int .i64 m.2.1, .slice A m.2.2.length c] t)):
  GBx W w.heap.size base A c m:=by
 have hb:Below w.heap.size w W:=by rw[hW];exact(Below.refl _ _).alloc (Nat.le_refl _) _
 exact⟨by rw[hW];simp[go_sem],by rw[hW];simp[go_sem],by rw[hW];simp[go_sem],fun j=>by rw[hW];simp[go_sem],o.below hb,fun b hb=>by have:=(o.1.lt b hb).2;omega,h1,h2,by rw[hW];simp⟩
theorem GBx.mono {w:World} {p base base':Nat} {A:Option Addr} {c:Nat} {g:GrD} (h:GBx w p base A c g) (hb:base'≤base):GBx w p base' A c g:=
 ⟨h.c0,h.c1,h.c2,h.fz,h.ow.mono hb,h.ne,h.i1,h.i2,h.lt⟩
end Go.Proofs.YtfadnkjlilhneaaGreat
