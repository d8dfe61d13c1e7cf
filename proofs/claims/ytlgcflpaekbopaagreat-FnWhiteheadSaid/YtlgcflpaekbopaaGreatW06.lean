/- Parts of the proof: FoldK, Mov, InsI, IdxI, Int, AddS, AddF, DrawG, DrawZ, DrawQ, AddI, LatD, DrawH, DrawI, DrawJ, DrawK, Who, SurI, WhtG, CmpM, FmtWh, InvWh. -/
import Derived.Test.YtlgcflpaekbopaaGreatW05
import Derived.Test.YtlgcflpaekbopaaGreatW04
import Derived.Test.YtlgcflpaekbopaaGreatW03
import Derived.Test.YtlgcflpaekbopaaGreatW02
import Derived.Test.YtlgcflpaekbopaaGreatW01
import Derived.Maps.OwnSet
import Derived.Maps.OwnOps
import Derived.WideKeyPair
namespace Go.Proofs.YtlgcflpaekbopaaGreat
set_option maxRecDepth 20000
set_option linter.unusedVariables false
set_option linter.unusedSimpArgs false
open Go.RowKit
def sLen:Value→Nat
 | .slice _ n _=>n
 | _=>0
set_option maxHeartbeats 1000000 in
theorem implFoldOnce_any (v:Value) (g:GrD) (w:World) (h:ArgG w v g) (hg:grB g=true):
  Calls Tryz.prog 151 #[v] w fun e w'=> ∃r,e= .returned (.tuple #[r, .agg #[.int .i64 (firF g).1.1, .int .i64 (firF g).1.2], .bool (firF g).2])∧OwG w' w.heap.size r (onceG g)∧Below w.heap.size w w':=by
 have HG:=hDD h
 have HGR:=hDD hg
 have HFK:=hDD fun f (hf:f∈foL g.2.2)=>foL_ok hg hf
 have h120:=(grB_parts hg).2.2.1
 obtain⟨s,rfl,hi1,hi2,ha⟩:=h
 obtain⟨A,cap,rfl⟩:=ha.form
 obtain⟨g1,N,es⟩:=g
 simp only at*
 clear ha hg
 go_enter Tryz.func151,Tryz.ntmps151
 have bx:Below w.heap.size w (((w.alloc (Obj.cells #[Value.int IntKind.i64 g1,Value.int IntKind.i64 N, .slice A es.length cap] 82)).alloc (Obj.cells #[Value.int IntKind.i64 0,Value.int IntKind.i64 0, .slice none 0 0] 82)).alloc (Obj.cells #[Value.int IntKind.i64 0,Value.int IntKind.i64 0] 145)):=(by repeat(first | exact Below.refl _ _ | (refine Below.setCell ?_ (by first | omega | (simp<;>omega)) _) | (refine bel_drewN ?_ _) | (refine Below.drew ?_) | (refine Below.alloc ?_ (by first | omega | (simp<;>omega)) _)))
 go_wp2_with fail
 obtain⟨W,hW⟩: ∃W,W=(((w.alloc (Obj.cells #[Value.int IntKind.i64 g1,Value.int IntKind.i64 N, .slice A es.length cap] 82)).alloc (Obj.cells #[Value.int IntKind.i64 0,Value.int IntKind.i64 0, .slice none 0 0] 82)).alloc (Obj.cells #[Value.int IntKind.i64 0,Value.int IntKind.i64 0] 145)):=⟨_,rfl⟩
 rw[←hW] at bx⊢
 have hsW:W.heap.size=w.heap.size+3:=by rw[hW];simp
 have L0:Hid (W.cell? ⟨w.heap.size,0,none⟩=some (.int .i64 g1)):=hDD (by rw[hW];simp[go_sem])
 have L1:Hid (W.cell? ⟨w.heap.size,1,none⟩=some (.int .i64 N)):=hDD (by rw[hW];simp[go_sem])
 have L2:Hid (W.cell? ⟨w.heap.size,2,none⟩=some (.slice A es.length cap)):=hDD (by rw[hW];simp[go_sem])
 have R0:Hid (W.cell? ⟨w.heap.size+1,0,none⟩=some (.int .i64 0)):=hDD (by rw[hW];simp[go_sem])
 have R1:Hid (W.cell? ⟨w.heap.size+1,1,none⟩=some (.int .i64 0)):=hDD (by rw[hW];simp[go_sem])
 have R2:Hid (W.cell? ⟨w.heap.size+1,2,none⟩=some (.slice none 0 0)):=hDD (by rw[hW];simp[go_sem])
 have S0:Hid (W.cell? ⟨w.heap.size+1+1,0,none⟩=some (.int .i64 0)):=hDD (by rw[hW];simp[go_sem])
 have S1:Hid (W.cell? ⟨w.heap.size+1+1,1,none⟩=some (.int .i64 0)):=hDD (by rw[hW];simp[go_sem])
 have RF:Hid (∀j,W.frozen? ⟨w.heap.size+1,j,none⟩=false):=hDD fun j=>by rw[hW];simp[go_sem]
 have SF:Hid (∀j,W.frozen? ⟨w.heap.size+1+1,j,none⟩=false):=hDD fun j=>by rw[hW];simp[go_sem]
 have BX:=hDD bx
 have HA:Hid (∀w',Below W.heap.size W w'→ArgG w' (.agg #[.int .i64 g1, .int .i64 N, .slice A es.length cap]) (g1,N,es)):=hDD fun w' hb=>HG.out.below (BX.out.trans (hb.mono BX.out.size))
 have HCL:Hid (∀w',Below W.heap.size W w'→w'.cell? ⟨w.heap.size,0,none⟩=some (.int .i64 g1)∧w'.cell? ⟨w.heap.size,1,none⟩=some (.int .i64 N)∧w'.cell? ⟨w.heap.size,2,none⟩=some (.slice A es.length cap)):=hDD fun w' hb=>
  ⟨(hb.cell (p:=⟨w.heap.size,0,none⟩) (by show w.heap.size<_;omega)).trans L0.out,(hb.cell (p:=⟨w.heap.size,1,none⟩) (by show w.heap.size<_;omega)).trans L1.out,(hb.cell (p:=⟨w.heap.size,2,none⟩) (by show w.heap.size<_;omega)).trans L2.out⟩
 have HCR:Hid (∀w',Below W.heap.size W w'→w'.cell? ⟨w.heap.size+1,0,none⟩=some (.int .i64 0)∧w'.cell? ⟨w.heap.size+1,1,none⟩=some (.int .i64 0)∧w'.cell? ⟨w.heap.size+1,2,none⟩=some (.slice none 0 0)∧w'.cell? ⟨w.heap.size+1+1,0,none⟩=some (.int .i64 0)∧w'.cell? ⟨w.heap.size+1+1,1,none⟩=some (.int .i64 0)∧(∀j,w'.frozen? ⟨w.heap.size+1,j,none⟩=false)∧(∀j,w'.frozen? ⟨w.heap.size+1+1,j,none⟩=false)):=hDD fun w' hb=>
  ⟨(hb.cell (p:=⟨w.heap.size+1,0,none⟩) (by show w.heap.size+1<_;omega)).trans R0.out,(hb.cell (p:=⟨w.heap.size+1,1,none⟩) (by show w.heap.size+1<_;omega)).trans R1.out,(hb.cell (p:=⟨w.heap.size+1,2,none⟩) (by show w.heap.size+1<_;omega)).trans R2.out,(hb.cell (p:=⟨w.heap.size+1+1,0,none⟩) (by show w.heap.size+1+1<_;omega)).trans S0.out,(hb.cell (p:=⟨w.heap.size+1+1,1,none⟩) (by show w.heap.size+1+1<_;omega)).trans S1.out,fun j=>(hb.frozen (p:=⟨w.heap.size+1,j,none⟩) (by show w.heap.size+1<_;omega)).trans (RF.out j),fun j=>(hb.frozen (p:=⟨w.heap.size+1+1,j,none⟩) (by show w.heap.size+1+1<_;omega)).trans (SF.out j)⟩
 clear hW bx L0 L1 L2 R0 R1 R2 S0 S1 RF SF
 refine(implFirstFold_any _ (g1,N,es) W (HA.out _ (Below.refl _ _))).mono ?_
 rintro e w1 ⟨rfl,b1⟩
 have B1:=hDD b1
 have hs1:=b1.size
 clear b1
 rcases ef:foL es with _ | ⟨f,l⟩
 ·have F:Hid (firF (g1,N,es)=((0,0),false)):=hDD (by unfold firF;rw[if_pos HGR.out];simp only[ef])
  have FO:Hid (onceG (g1,N,es)=(g1,N,es)):=hDD (by unfold onceG;simp only[ef])
  clear ef
  rw[F.out]
  simp only
  have bA:Below w1.heap.size w1 (w1.alloc (Obj.cells #[Value.int IntKind.i64 0,Value.int IntKind.i64 0] 145)):=(Below.refl _ _).alloc (Nat.le_refl _) _
  have BA:=hDD (B1.out.trans (bA.mono hs1))
  obtain⟨q0,q1,q2⟩:=HCL.out _ BA.out
  go_wp2_with fail
  refine(copyGraph_any _ (g1,N,es) _ (HA.out _ BA.out) (by simp only;omega)).mono ?_
  rintro e w2 ⟨r,rfl,o2,b2⟩
  have B2:=hDD (BA.out.trans (b2.mono BA.out.size))
  have O2:=hDD o2
  obtain⟨s2,rfl,_,_,oe2⟩:=o2
  obtain⟨A2,c2,rfl,_⟩:=oe2.form
  have OE2:=hDD oe2
  have hsA:=BA.out.size
  obtain⟨r0,r1,r2,s0,s1,rf,sf⟩:=HCR.out w2 B2.out
  have rf0:=rf 0
  have rf1:=rf 1
  have rf2:=rf 2
  have sf0:=sf 0
  have sf1:=sf 1
  have HBF:=hDD (BX.out.trans (B2.out.mono BX.out.size))
  clear b2 oe2 rf sf q0 q1 q2 bA
  go_wp2
  obtain⟨c0,c1,c2'⟩:=cells3F (.int .i64 g1) (.int .i64 N) (.slice A2 es.length c2) r0 r1 r2
  have hne1:w.heap.size+1≠w.heap.size+1+1:=by omega
  have hne2:w.heap.size+1+1≠w.heap.size+1:=by omega
  have d0:=setc_other (o':=1) (u:= .int .i64 0) hne1 (setc_other (o':=0) (u:= .int .i64 0) hne1 c0)
  have d1:=setc_other (o':=1) (u:= .int .i64 0) hne1 (setc_other (o':=0) (u:= .int .i64 0) hne1 c1)
  have d2:=setc_other (o':=1) (u:= .int .i64 0) hne1 (setc_other (o':=0) (u:= .int .i64 0) hne1 c2')
  obtain⟨e0,e1⟩:=cells2 (.int .i64 0) (.int .i64 0) (setc_other (o':=2) (u:= .slice A2 es.length c2) hne2 (setc_other (o':=1) (u:= .int .i64 N) hne2 (setc_other (o':=0) (u:= .int .i64 g1) hne2 s0))) (setc_other (o':=2) (u:= .slice A2 es.length c2) hne2 (setc_other (o':=1) (u:= .int .i64 N) hne2 (setc_other (o':=0) (u:= .int .i64 g1) hne2 s1)))
  have bw:Below w.heap.size w (((((w2.setCell ⟨w.heap.size+1,0,none⟩ (.int .i64 g1)).setCell ⟨w.heap.size+1,1,none⟩ (.int .i64 N)).setCell ⟨w.heap.size+1,2,none⟩ (.slice A2 es.length c2)).setCell ⟨w.heap.size+1+1,0,none⟩ (.int .i64 0)).setCell ⟨w.heap.size+1+1,1,none⟩ (.int .i64 0)):=(((((HBF.out.setCell (by simp<;>omega) _).setCell (by simp<;>omega) _).setCell (by simp<;>omega) _).setCell (by simp<;>omega) _).setCell (by simp<;>omega) _)
  have ow:OwE (((((w2.setCell ⟨w.heap.size+1,0,none⟩ (.int .i64 g1)).setCell ⟨w.heap.size+1,1,none⟩ (.int .i64 N)).setCell ⟨w.heap.size+1,2,none⟩ (.slice A2 es.length c2)).setCell ⟨w.heap.size+1+1,0,none⟩ (.int .i64 0)).setCell ⟨w.heap.size+1+1,1,none⟩ (.int .i64 0)) _ (.slice A2 es.length c2) es:=(((((OE2.out.far (by show w.heap.size+1<_;omega) _).far (by show w.heap.size+1<_;omega) _).far (by show w.heap.size+1<_;omega) _).far (by show w.heap.size+1+1<_;omega) _).far (by show w.heap.size+1+1<_;omega) _)
  generalize (((((w2.setCell ⟨w.heap.size+1,0,none⟩ (.int .i64 g1)).setCell ⟨w.heap.size+1,1,none⟩ (.int .i64 N)).setCell ⟨w.heap.size+1,2,none⟩ (.slice A2 es.length c2)).setCell ⟨w.heap.size+1+1,0,none⟩ (.int .i64 0)).setCell ⟨w.heap.size+1+1,1,none⟩ (.int .i64 0))=wf at*
  rw[FO.out,F.out]
  exact bodyPost_ret (v:= .tuple #[.agg #[.int .i64 g1, .int .i64 N, .slice A2 es.length c2], .agg #[.int .i64 0, .int .i64 0], .bool false]) (by simp[results,Tryz.results151,go_sem,d0,d1,d2,e0,e1]) rfl ⟨_,rfl,⟨.slice A2 es.length c2,rfl,hi1,hi2,ow.mono (by omega)⟩,bw⟩
 ·have F:Hid (firF (g1,N,es)=(f,true)):=hDD (by unfold firF;rw[if_pos HGR.out];simp only[ef])
  have FO:Hid (onceG (g1,N,es)=merG (g1,N,es) f):=hDD (by unfold onceG;simp only[ef])
  have hfk:=HFK.out f (by rw[ef];simp)
  clear ef
  rw[F.out]
  obtain⟨fa,fb⟩:=f
  simp only
  have bA:Below w1.heap.size w1 (w1.alloc (Obj.cells #[Value.int IntKind.i64 fa,Value.int IntKind.i64 fb] 145)):=(Below.refl _ _).alloc (Nat.le_refl _) _
  have BA:=hDD (B1.out.trans (bA.mono hs1))
  obtain⟨q0,q1,q2⟩:=HCL.out _ BA.out
  go_wp2_with fail
  obtain⟨WA,hWA⟩: ∃W,W=w1.alloc (Obj.cells #[Value.int IntKind.i64 fa,Value.int IntKind.i64 fb] 145):=⟨_,rfl⟩
  have k0:Hid (WA.cell? ⟨w1.heap.size,0,none⟩=some (.int .i64 fa)):=hDD (by rw[hWA];simp[go_sem])
  have k1:Hid (WA.cell? ⟨w1.heap.size,1,none⟩=some (.int .i64 fb)):=hDD (by rw[hWA];simp[go_sem])
  have hsA:WA.heap.size=w1.heap.size+1:=by rw[hWA];simp
  rw[←hWA] at BA q0 q1 q2⊢
  clear hWA bA
  refine(implMergeVertices_any _ (g1,N,es) (fa,fb) WA (HA.out _ BA.out) HGR.out hfk).mono ?_
  rintro e w2 ⟨r,rfl,o2,b2⟩
  have B2:=hDD (BA.out.trans (b2.mono BA.out.size))
  have hs2:=b2.size
  obtain⟨s2,rfl,hj1,hj2,oe2⟩:=o2
  obtain⟨A2,c2,rfl,_⟩:=oe2.form
  have OE2:=hDD oe2
  have l0:=(b2.cell (p:=⟨w1.heap.size,0,none⟩) (by show w1.heap.size<_;omega)).trans k0.out
  have l1:=(b2.cell (p:=⟨w1.heap.size,1,none⟩) (by show w1.heap.size<_;omega)).trans k1.out
  clear b2 oe2 q0 q1 q2
  generalize hmg:merG (g1,N,es) (fa,fb)=M at*
  obtain⟨m1,m2,ms⟩:=M
  simp only at hj1 hj2
  have HMG:=hDD hmg
  clear hmg
  go_wp2_with fail
  have bB:Below w2.heap.size w2 (w2.alloc (Obj.cells #[Value.int IntKind.i64 m1,Value.int IntKind.i64 m2, .slice A2 ms.length c2] 82)):=(Below.refl _ _).alloc (Nat.le_refl _) _
  obtain⟨WB,hWB⟩: ∃W,W=w2.alloc (Obj.cells #[Value.int IntKind.i64 m1,Value.int IntKind.i64 m2, .slice A2 ms.length c2] 82):=⟨_,rfl⟩
  have x0:WB.cell? ⟨w2.heap.size,0,none⟩=some (.int .i64 m1):=by rw[hWB];simp[go_sem]
  have x1:WB.cell? ⟨w2.heap.size,1,none⟩=some (.int .i64 m2):=by rw[hWB];simp[go_sem]
  have x2:WB.cell? ⟨w2.heap.size,2,none⟩=some (.slice A2 ms.length c2):=by rw[hWB];simp[go_sem]
  have hsB:WB.heap.size=w2.heap.size+1:=by rw[hWB];simp
  rw[←hWB] at bB⊢
  clear hWB
  have y0:=(bB.cell (p:=⟨w1.heap.size,0,none⟩) (by show w1.heap.size<_;omega)).trans l0
  have y1:=(bB.cell (p:=⟨w1.heap.size,1,none⟩) (by show w1.heap.size<_;omega)).trans l1
  have BB:=hDD (B2.out.trans (bB.mono B2.out.size))
  have OEB:=hDD (OE2.out.below bB)
  obtain⟨r0,r1,r2,s0,s1,rf,sf⟩:=HCR.out WB BB.out
  have rf0:=rf 0
  have rf1:=rf 1
  have rf2:=rf 2
  have sf0:=sf 0
  have sf1:=sf 1
  have hne1:w.heap.size+1≠w2.heap.size:=by omega
  have hne2:w.heap.size+1+1≠w2.heap.size:=by omega
  have hne3:w.heap.size+1≠w1.heap.size:=by omega
  have hne4:w.heap.size+1+1≠w1.heap.size:=by omega
  have HBF:=hDD (BX.out.trans (BB.out.mono BX.out.size))
  clear rf sf l0 l1 bB
  go_region_held3 (fun w'=>w'.cell? ⟨w2.heap.size,0,none⟩=some (.int .i64 m1)∧w'.cell? ⟨w2.heap.size,1,none⟩=some (.int .i64 m2)∧w'.cell? ⟨w2.heap.size,2,none⟩=some (.slice A2 ms.length c2)∧w'.cell? ⟨w1.heap.size,0,none⟩=some (.int .i64 fa)∧w'.cell? ⟨w1.heap.size,1,none⟩=some (.int .i64 fb))
   (first | go_keep | (simp[go_sem, *];done))
   (fail)
  go_wp2
  obtain⟨c0,c1,c2'⟩:=cells3F (.int .i64 m1) (.int .i64 m2) (.slice A2 ms.length c2) r0 r1 r2
  have hnf1:w.heap.size+1≠w.heap.size+1+1:=by omega
  have hnf2:w.heap.size+1+1≠w.heap.size+1:=by omega
  have d0:=setc_other (o':=1) (u:= .int .i64 fb) hnf1 (setc_other (o':=0) (u:= .int .i64 fa) hnf1 c0)
  have d1:=setc_other (o':=1) (u:= .int .i64 fb) hnf1 (setc_other (o':=0) (u:= .int .i64 fa) hnf1 c1)
  have d2:=setc_other (o':=1) (u:= .int .i64 fb) hnf1 (setc_other (o':=0) (u:= .int .i64 fa) hnf1 c2')
  obtain⟨e0,e1⟩:=cells2 (.int .i64 fa) (.int .i64 fb) (setc_other (o':=2) (u:= .slice A2 ms.length c2) hnf2 (setc_other (o':=1) (u:= .int .i64 m2) hnf2 (setc_other (o':=0) (u:= .int .i64 m1) hnf2 s0))) (setc_other (o':=2) (u:= .slice A2 ms.length c2) hnf2 (setc_other (o':=1) (u:= .int .i64 m2) hnf2 (setc_other (o':=0) (u:= .int .i64 m1) hnf2 s1)))
  have bw:Below w.heap.size w (((((WB.setCell ⟨w.heap.size+1,0,none⟩ (.int .i64 m1)).setCell ⟨w.heap.size+1,1,none⟩ (.int .i64 m2)).setCell ⟨w.heap.size+1,2,none⟩ (.slice A2 ms.length c2)).setCell ⟨w.heap.size+1+1,0,none⟩ (.int .i64 fa)).setCell ⟨w.heap.size+1+1,1,none⟩ (.int .i64 fb)).drew:=(((((HBF.out.setCell (by simp<;>omega) _).setCell (by simp<;>omega) _).setCell (by simp<;>omega) _).setCell (by simp<;>omega) _).setCell (by simp<;>omega) _).drew
  have ow:OwE (((((WB.setCell ⟨w.heap.size+1,0,none⟩ (.int .i64 m1)).setCell ⟨w.heap.size+1,1,none⟩ (.int .i64 m2)).setCell ⟨w.heap.size+1,2,none⟩ (.slice A2 ms.length c2)).setCell ⟨w.heap.size+1+1,0,none⟩ (.int .i64 fa)).setCell ⟨w.heap.size+1+1,1,none⟩ (.int .i64 fb)).drew _ (.slice A2 ms.length c2) ms:=(((((OEB.out.far (by show w.heap.size+1<_;omega) _).far (by show w.heap.size+1<_;omega) _).far (by show w.heap.size+1<_;omega) _).far (by show w.heap.size+1+1<_;omega) _).far (by show w.heap.size+1+1<_;omega) _).drew
  generalize (((((WB.setCell ⟨w.heap.size+1,0,none⟩ (.int .i64 m1)).setCell ⟨w.heap.size+1,1,none⟩ (.int .i64 m2)).setCell ⟨w.heap.size+1,2,none⟩ (.slice A2 ms.length c2)).setCell ⟨w.heap.size+1+1,0,none⟩ (.int .i64 fa)).setCell ⟨w.heap.size+1+1,1,none⟩ (.int .i64 fb))=wf at*
  have d0':wf.drew.cell? ⟨w.heap.size+1,0,none⟩=some (.int .i64 m1):=d0
  have d1':wf.drew.cell? ⟨w.heap.size+1,1,none⟩=some (.int .i64 m2):=d1
  have d2':wf.drew.cell? ⟨w.heap.size+1,2,none⟩=some (.slice A2 ms.length c2):=d2
  have e0':wf.drew.cell? ⟨w.heap.size+1+1,0,none⟩=some (.int .i64 fa):=e0
  have e1':wf.drew.cell? ⟨w.heap.size+1+1,1,none⟩=some (.int .i64 fb):=e1
  generalize wf.drew=wg at*
  rw[FO.out,F.out]
  exact bodyPost_ret (v:= .tuple #[.agg #[.int .i64 m1, .int .i64 m2, .slice A2 ms.length c2], .agg #[.int .i64 fa, .int .i64 fb], .bool true]) (by simp[results,Tryz.results151,go_sem,d0',d1',d2',e0',e1']) rfl ⟨_,rfl,⟨.slice A2 ms.length c2,rfl,hj1,hj2,ow.mono (by omega)⟩,bw⟩
set_option maxHeartbeats 4000000 in
theorem implFoldAll_any (v:Value) (g:GrD) (w:World) (h:ArgG w v g) (hg:grB g=true):
  Calls Tryz.prog 127 #[v] w fun e w'=> ∃r o,e= .returned (.tuple #[r,o])∧OwG w' w.heap.size r (folA g)∧Below w.heap.size w w':=by
 have HG:=hDD h
 have HGR:=hDD hg
 obtain⟨h13,h40,h120,_⟩:=grB_parts hg
 obtain⟨s,rfl,hi1,hi2,ha⟩:=h
 obtain⟨A,cap,rfl⟩:=ha.form
 obtain⟨g1,N,es⟩:=g
 simp only at*
 clear ha hg
 go_enter Tryz.func127,Tryz.ntmps127
 have bx:Below w.heap.size w ((w.alloc (Obj.cells #[Value.int IntKind.i64 g1,Value.int IntKind.i64 N, .slice A es.length cap] 82)).alloc (Obj.cells #[Value.int IntKind.i64 0,Value.int IntKind.i64 0, .slice none 0 0] 82)):=(by repeat(first | exact Below.refl _ _ | (refine Below.setCell ?_ (by first | omega | (simp<;>omega)) _) | (refine bel_drewN ?_ _) | (refine Below.drew ?_) | (refine Below.alloc ?_ (by first | omega | (simp<;>omega)) _)))
 go_wp2_with fail
 obtain⟨W,hW⟩: ∃W,W=((w.alloc (Obj.cells #[Value.int IntKind.i64 g1,Value.int IntKind.i64 N, .slice A es.length cap] 82)).alloc (Obj.cells #[Value.int IntKind.i64 0,Value.int IntKind.i64 0, .slice none 0 0] 82)):=⟨_,rfl⟩
 rw[←hW] at bx⊢
 have hsW:W.heap.size=w.heap.size+2:=by rw[hW];simp
 have R0:Hid (W.cell? ⟨w.heap.size+1,0,none⟩=some (.int .i64 0)):=hDD (by rw[hW];simp[go_sem])
 have R1:Hid (W.cell? ⟨w.heap.size+1,1,none⟩=some (.int .i64 0)):=hDD (by rw[hW];simp[go_sem])
 have R2:Hid (W.cell? ⟨w.heap.size+1,2,none⟩=some (.slice none 0 0)):=hDD (by rw[hW];simp[go_sem])
 have RF:Hid (∀j,W.frozen? ⟨w.heap.size+1,j,none⟩=false):=hDD fun j=>by rw[hW];simp[go_sem]
 have BX:=hDD bx
 clear hW bx
 refine(copyGraph_any _ (g1,N,es) W (HG.out.below BX.out) (by simp only;omega)).mono ?_
 rintro e w1 ⟨r,rfl,o1,b1⟩
 have B1:=hDD b1
 have hs1:=b1.size
 obtain⟨s1,rfl,_,_,oe1⟩:=o1
 obtain⟨A1,c1,rfl,_⟩:=oe1.form
 simp only at*
 have OE1:=hDD oe1
 clear b1 oe1
 have HOU:Hid (OwFo ((w1.alloc (Obj.cells #[Value.int IntKind.i64 g1,Value.int IntKind.i64 N, .slice A1 es.length c1] 82)).alloc (.cells #[] 145)) (w1.heap.size+1) (.slice (some ⟨w1.heap.size+1,0,none⟩) 0 0) []):=hDD (by
  have:=OwFo_lit (base:=w1.heap.size+1) (w1.alloc (Obj.cells #[Value.int IntKind.i64 g1,Value.int IntKind.i64 N, .slice A1 es.length c1] 82)) (by simp)
  simpa using this)
 have bX:Below w1.heap.size w1 ((w1.alloc (Obj.cells #[Value.int IntKind.i64 g1,Value.int IntKind.i64 N, .slice A1 es.length c1] 82)).alloc (.cells #[] 145)):=(by repeat(first | exact Below.refl _ _ | (refine Below.setCell ?_ (by first | omega | (simp<;>omega)) _) | (refine bel_drewN ?_ _) | (refine Below.drew ?_) | (refine Below.alloc ?_ (by first | omega | (simp<;>omega)) _)))
 go_wp2
 obtain⟨W2,hW2⟩: ∃W,W=(w1.alloc (Obj.cells #[Value.int IntKind.i64 g1,Value.int IntKind.i64 N, .slice A1 es.length c1] 82)).alloc (.cells #[] 145):=⟨_,rfl⟩
 rw[←hW2] at bX HOU⊢
 have hsW2:W2.heap.size=w1.heap.size+2:=by rw[hW2];simp
 have X0:Hid (W2.cell? ⟨w1.heap.size,0,none⟩=some (.int .i64 g1)):=hDD (by rw[hW2];simp[go_sem])
 have X1:Hid (W2.cell? ⟨w1.heap.size,1,none⟩=some (.int .i64 N)):=hDD (by rw[hW2];simp[go_sem])
 have X2:Hid (W2.cell? ⟨w1.heap.size,2,none⟩=some (.slice A1 es.length c1)):=hDD (by rw[hW2];simp[go_sem])
 have XF:Hid (∀j,W2.frozen? ⟨w1.heap.size,j,none⟩=false):=hDD fun j=>by rw[hW2];simp[go_sem]
 have BX2:=hDD bX
 have OEX:Hid (OwE W2 (w.heap.size+2) (.slice A1 es.length c1) es):=hDD ((OE1.out.below bX).mono (by omega))
 have HNX:Hid (∀b,(Value.slice A1 es.length c1).ownBlock=some b→b≠w1.heap.size):=hDD fun b hb=>by have:=(OE1.out.1.lt b hb).2;omega
 clear hW2 bX OE1
 go_loopw [5] (fun out wr=> ∃(k:Nat) (gk:GrD) (A2:Option Addr) (c2:Nat) (lo:List FoD),k≤40∧(∃Ao co,out= .slice Ao lo.length co)∧lo.length=k∧grB gk=true∧folA gk=folA (g1,N,es)∧gk.2.1+k≤N∧wr.cell? ⟨w1.heap.size,0,none⟩=some (.int .i64 gk.1)∧wr.cell? ⟨w1.heap.size,1,none⟩=some (.int .i64 gk.2.1)∧wr.cell? ⟨w1.heap.size,2,none⟩=some (.slice A2 gk.2.2.length c2)∧
   (∀j,wr.frozen? ⟨w1.heap.size,j,none⟩=false)∧OwE wr (w.heap.size+2) (.slice A2 gk.2.2.length c2) gk.2.2∧(∀b,(Value.slice A2 gk.2.2.length c2).ownBlock=some b→b≠w1.heap.size)∧OwFo wr (w1.heap.size+1) out lo∧Below w1.heap.size w1 wr∧w1.heap.size<wr.heap.size) (fun o _=>40-sLen o)
 case atStart=>exact⟨0,(g1,N,es),A1,c1,[],Nat.zero_le _,⟨_,_,rfl⟩,rfl,HGR.out,rfl,by simp,X0.out,X1.out,X2.out,XF.out,OEX.out,HNX.out,HOU.out,BX2.out,by omega⟩
 case round=>
  obtain⟨k,gk,A2,c2,lo,hk,⟨Ao,co,rfl⟩,hlo,hgk,hfa,hsz,hx0,hx1,hx2,hxf,hoe,hnx,hof,hbr,hxr⟩:=hrel
  obtain⟨k13,k40,k120,_⟩:=grB_parts hgk
  have HGK:=hDD hgk
  have HFA:=hDD hfa
  have HOE:=hDD hoe
  have HNX2:=hDD hnx
  have HOF:=hDD hof
  have HBR:=hDD hbr
  have B4:=hDD (B1.out.trans (hbr.mono hs1))
  have HAK:Hid (ArgG wr (.agg #[.int .i64 gk.1, .int .i64 gk.2.1, .slice A2 gk.2.2.length c2]) gk):=hDD ⟨_,rfl,(by unfold I64;omega),(by unfold I64;omega),hoe.arg⟩
  obtain⟨wk,rfl⟩: ∃wk:World,wk=wr:=⟨_,rfl⟩
  clear hgk hfa hoe hnx hof hbr
  have hk40:k<40:=by omega
  go_wp2_with fail
  refine(implFoldOnce_any _ gk wk HAK.out HGK.out).mono ?_
  rintro e w5 ⟨r,rfl,o5,b5⟩
  have hs5:=b5.size
  have B5:=hDD (HBR.out.trans (b5.mono (by omega)))
  have z0:=(b5.cell (p:=⟨w1.heap.size,0,none⟩) hxr).trans hx0
  have z1:=(b5.cell (p:=⟨w1.heap.size,1,none⟩) hxr).trans hx1
  have z2:=(b5.cell (p:=⟨w1.heap.size,2,none⟩) hxr).trans hx2
  have ZF:Hid (∀j,w5.frozen? ⟨w1.heap.size,j,none⟩=false):=hDD fun j=>(b5.frozen (p:=⟨w1.heap.size,j,none⟩) hxr).trans (hxf j)
  have HOE5:=hDD (HOE.out.below b5)
  have HOF5:=hDD (HOF.out.below b5)
  clear hx0 hx1 hx2 hxf b5
  rcases ef:foL gk.2.2 with _ | ⟨f,l⟩
  ·have F:Hid (firF gk=((0,0),false)):=hDD (by unfold firF;rw[if_pos HGK.out];simp only[ef])
   have FO:Hid (onceG gk=gk):=hDD (by unfold onceG;simp only[ef])
   have FAG:Hid (folA (g1,N,es)=gk):=hDD (by rw[←HFA.out];exact folA_nil ef)
   clear ef
   rw[FO.out] at o5
   rw[F.out]
   simp only
   obtain⟨s5,rfl,hj1,hj2,oe5⟩:=o5
   obtain⟨A5,c5,rfl,_⟩:=oe5.form
   have bY:Below w5.heap.size w5 ((w5.alloc (Obj.cells #[Value.int IntKind.i64 gk.1,Value.int IntKind.i64 gk.2.1, .slice A5 gk.2.2.length c5] 82)).alloc (Obj.cells #[Value.int IntKind.i64 0,Value.int IntKind.i64 0] 145)):=(by repeat(first | exact Below.refl _ _ | (refine Below.setCell ?_ (by first | omega | (simp<;>omega)) _) | (refine bel_drewN ?_ _) | (refine Below.drew ?_) | (refine Below.alloc ?_ (by first | omega | (simp<;>omega)) _)))
   obtain⟨WY,hWY⟩: ∃W,W=(w5.alloc (Obj.cells #[Value.int IntKind.i64 gk.1,Value.int IntKind.i64 gk.2.1, .slice A5 gk.2.2.length c5] 82)).alloc (Obj.cells #[Value.int IntKind.i64 0,Value.int IntKind.i64 0] 145):=⟨_,rfl⟩
   rw[←hWY] at bY
   have BY:=hDD (B5.out.trans (bY.mono (by omega)))
   have BYW:=hDD (B1.out.trans (BY.out.mono hs1))
   have y0:=(bY.cell (p:=⟨w1.heap.size,0,none⟩) (by show w1.heap.size<_;omega)).trans z0
   have y1:=(bY.cell (p:=⟨w1.heap.size,1,none⟩) (by show w1.heap.size<_;omega)).trans z1
   have y2:=(bY.cell (p:=⟨w1.heap.size,2,none⟩) (by show w1.heap.size<_;omega)).trans z2
   have r0:=(BYW.out.cell (p:=⟨w.heap.size+1,0,none⟩) (by show w.heap.size+1<_;omega)).trans R0.out
   have r1:=(BYW.out.cell (p:=⟨w.heap.size+1,1,none⟩) (by show w.heap.size+1<_;omega)).trans R1.out
   have r2:=(BYW.out.cell (p:=⟨w.heap.size+1,2,none⟩) (by show w.heap.size+1<_;omega)).trans R2.out
   have rf0:=(BYW.out.frozen (p:=⟨w.heap.size+1,0,none⟩) (by show w.heap.size+1<_;omega)).trans (RF.out 0)
   have rf1:=(BYW.out.frozen (p:=⟨w.heap.size+1,1,none⟩) (by show w.heap.size+1<_;omega)).trans (RF.out 1)
   have rf2:=(BYW.out.frozen (p:=⟨w.heap.size+1,2,none⟩) (by show w.heap.size+1<_;omega)).trans (RF.out 2)
   have hne1:w.heap.size+1≠w1.heap.size:=by omega
   have HBF:=hDD (BX.out.trans (BYW.out.mono BX.out.size))
   have OEY:=hDD (HOE5.out.below bY)
   rw[hWY] at y0 y1 y2 r0 r1 r2 rf0 rf1 rf2
   clear z0 z1 z2 oe5 bY
   go_wp2
   rw[←hWY] at y0 y1 y2 r0 r1 r2 rf0 rf1 rf2⊢
   obtain⟨e0,e1,e2⟩:=cells3F (.int .i64 gk.1) (.int .i64 gk.2.1) (.slice A2 gk.2.2.length c2) r0 r1 r2
   have bw:Below w.heap.size w (((WY.setCell ⟨w.heap.size+1,0,none⟩ (.int .i64 gk.1)).setCell ⟨w.heap.size+1,1,none⟩ (.int .i64 gk.2.1)).setCell ⟨w.heap.size+1,2,none⟩ (.slice A2 gk.2.2.length c2)):=(((HBF.out.setCell (by simp<;>omega) _).setCell (by simp<;>omega) _).setCell (by simp<;>omega) _)
   have ow:OwE (((WY.setCell ⟨w.heap.size+1,0,none⟩ (.int .i64 gk.1)).setCell ⟨w.heap.size+1,1,none⟩ (.int .i64 gk.2.1)).setCell ⟨w.heap.size+1,2,none⟩ (.slice A2 gk.2.2.length c2)) (w.heap.size+2) (.slice A2 gk.2.2.length c2) gk.2.2:=((OEY.out.far (by show w.heap.size+1<_;omega) _).far (by show w.heap.size+1<_;omega) _).far (by show w.heap.size+1<_;omega) _
   generalize (((WY.setCell ⟨w.heap.size+1,0,none⟩ (.int .i64 gk.1)).setCell ⟨w.heap.size+1,1,none⟩ (.int .i64 gk.2.1)).setCell ⟨w.heap.size+1,2,none⟩ (.slice A2 gk.2.2.length c2))=wf at*
   rw[FAG.out]
   exact bodyPost_ret (v:= .tuple #[.agg #[.int .i64 gk.1, .int .i64 gk.2.1, .slice A2 gk.2.2.length c2], .slice Ao lo.length co]) (by simp[results,Tryz.results127,go_sem,e0,e1,e2]) rfl ⟨_,_,rfl,⟨.slice A2 gk.2.2.length c2,rfl,hj1,hj2,ow.mono (by omega)⟩,bw⟩
  ·have F:Hid (firF gk=(f,true)):=hDD (by unfold firF;rw[if_pos HGK.out];simp only[ef])
   have FO:Hid (onceG gk=merG gk f):=hDD (by unfold onceG;simp only[ef])
   have hfk:=foL_ok HGK.out (f:=f) (by rw[ef];simp)
   have HGM:=hDD (grB_merG HGK.out hfk)
   have HFM:=hDD ((once_folA HGK.out ef).trans HFA.out)
   have hm2:(merG gk f).2.1=gk.2.1-1:=rfl
   clear ef
   rw[FO.out] at o5
   rw[F.out]
   obtain⟨fa,fb⟩:=f
   simp only
   generalize merG gk (fa,fb)=M at*
   obtain⟨m1,m2,ms⟩:=M
   simp only at hm2
   obtain⟨s5,rfl,hj1,hj2,oe5⟩:=o5
   obtain⟨A5,c5,rfl,_⟩:=oe5.form
   simp only at hj1 hj2 oe5
   have HM2:=hDD hm2
   clear hm2
   have bY:Below w5.heap.size w5 ((w5.alloc (Obj.cells #[Value.int IntKind.i64 m1,Value.int IntKind.i64 m2, .slice A5 ms.length c5] 82)).alloc (Obj.cells #[Value.int IntKind.i64 fa,Value.int IntKind.i64 fb] 145)):=(by repeat(first | exact Below.refl _ _ | (refine Below.setCell ?_ (by first | omega | (simp<;>omega)) _) | (refine bel_drewN ?_ _) | (refine Below.drew ?_) | (refine Below.alloc ?_ (by first | omega | (simp<;>omega)) _)))
   obtain⟨WY,hWY⟩: ∃W,W=(w5.alloc (Obj.cells #[Value.int IntKind.i64 m1,Value.int IntKind.i64 m2, .slice A5 ms.length c5] 82)).alloc (Obj.cells #[Value.int IntKind.i64 fa,Value.int IntKind.i64 fb] 145):=⟨_,rfl⟩
   have a0:WY.cell? ⟨w5.heap.size,0,none⟩=some (.int .i64 m1):=by rw[hWY];simp[go_sem]
   have a1:WY.cell? ⟨w5.heap.size,1,none⟩=some (.int .i64 m2):=by rw[hWY];simp[go_sem]
   have a2:WY.cell? ⟨w5.heap.size,2,none⟩=some (.slice A5 ms.length c5):=by rw[hWY];simp[go_sem]
   have a3:WY.cell? ⟨w5.heap.size+1,0,none⟩=some (.int .i64 fa):=by rw[hWY];simp[go_sem]
   have a4:WY.cell? ⟨w5.heap.size+1,1,none⟩=some (.int .i64 fb):=by rw[hWY];simp[go_sem]
   have hsY:WY.heap.size=w5.heap.size+2:=by rw[hWY];simp
   rw[←hWY] at bY
   have BY:=hDD (B5.out.trans (bY.mono (by omega)))
   have y0:=(bY.cell (p:=⟨w1.heap.size,0,none⟩) (by show w1.heap.size<_;omega)).trans z0
   have y1:=(bY.cell (p:=⟨w1.heap.size,1,none⟩) (by show w1.heap.size<_;omega)).trans z1
   have y2:=(bY.cell (p:=⟨w1.heap.size,2,none⟩) (by show w1.heap.size<_;omega)).trans z2
   have YF:Hid (∀j,WY.frozen? ⟨w1.heap.size,j,none⟩=false):=hDD fun j=>(bY.frozen (p:=⟨w1.heap.size,j,none⟩) (by show w1.heap.size<_;omega)).trans (ZF.out j)
   have yf0:=YF.out 0
   have yf1:=YF.out 1
   have yf2:=YF.out 2
   have OEM:=hDD (oe5.below bY)
   have OFY:=hDD (HOF5.out.below bY)
   obtain⟨e0,e1,e2⟩:=cells3F (.int .i64 m1) (.int .i64 m2) (.slice A5 ms.length c5) y0 y1 y2
   have e3:=setc_other (b':=w1.heap.size) (o':=2) (u:= .slice A5 ms.length c5) (show w5.heap.size+1≠w1.heap.size by omega) (setc_other (b':=w1.heap.size) (o':=1) (u:= .int .i64 m2) (show w5.heap.size+1≠w1.heap.size by omega) (setc_other (b':=w1.heap.size) (o':=0) (u:= .int .i64 m1) (show w5.heap.size+1≠w1.heap.size by omega) a3))
   have e4:=setc_other (b':=w1.heap.size) (o':=2) (u:= .slice A5 ms.length c5) (show w5.heap.size+1≠w1.heap.size by omega) (setc_other (b':=w1.heap.size) (o':=1) (u:= .int .i64 m2) (show w5.heap.size+1≠w1.heap.size by omega) (setc_other (b':=w1.heap.size) (o':=0) (u:= .int .i64 m1) (show w5.heap.size+1≠w1.heap.size by omega) a4))
   have BS:Hid (Below w1.heap.size w1 (((WY.setCell ⟨w1.heap.size,0,none⟩ (.int .i64 m1)).setCell ⟨w1.heap.size,1,none⟩ (.int .i64 m2)).setCell ⟨w1.heap.size,2,none⟩ (.slice A5 ms.length c5))):=hDD (((BY.out.setCell (Nat.le_refl _) _).setCell (Nat.le_refl _) _).setCell (Nat.le_refl _) _)
   have OES:Hid (OwE (((WY.setCell ⟨w1.heap.size,0,none⟩ (.int .i64 m1)).setCell ⟨w1.heap.size,1,none⟩ (.int .i64 m2)).setCell ⟨w1.heap.size,2,none⟩ (.slice A5 ms.length c5)) wk.heap.size (.slice A5 ms.length c5) ms):=hDD (((OEM.out.far (by show w1.heap.size<_;omega) _).far (by show w1.heap.size<_;omega) _).far (by show w1.heap.size<_;omega) _)
   have OFS:Hid (OwFo (((WY.setCell ⟨w1.heap.size,0,none⟩ (.int .i64 m1)).setCell ⟨w1.heap.size,1,none⟩ (.int .i64 m2)).setCell ⟨w1.heap.size,2,none⟩ (.slice A5 ms.length c5)) (w1.heap.size+1) (.slice Ao lo.length co) lo):=hDD (ownsRow_setCell_below (ownsRow_setCell_below (ownsRow_setCell_below OFY.out (by show w1.heap.size<_;omega) _) (by show w1.heap.size<_;omega) _) (by show w1.heap.size<_;omega) _)
   have ESF:Hid (∀j,((((WY.setCell ⟨w1.heap.size,0,none⟩ (.int .i64 m1)).setCell ⟨w1.heap.size,1,none⟩ (.int .i64 m2)).setCell ⟨w1.heap.size,2,none⟩ (.slice A5 ms.length c5))).frozen? ⟨w1.heap.size,j,none⟩=false):=hDD fun j=>by rw[World.frozen?_setCell,World.frozen?_setCell,World.frozen?_setCell];exact YF.out j
   have hsS:((((WY.setCell ⟨w1.heap.size,0,none⟩ (.int .i64 m1)).setCell ⟨w1.heap.size,1,none⟩ (.int .i64 m2)).setCell ⟨w1.heap.size,2,none⟩ (.slice A5 ms.length c5))).heap.size=WY.heap.size:=by simp
   clear z0 z1 z2 oe5 bY
   have E0:=hDD e0
   have E1:=hDD e1
   have E2:=hDD e2
   have E3:=hDD e3
   have E4:=hDD e4
   have HSS:=hDD hsS
   clear e0 e1 e2 a3 a4 hsS
   rw[hWY] at y0 y1 y2 yf0 yf1 yf2 a0 a1 a2 e3 e4
   have HWY:=hDD hWY
   clear hWY
   have hw5x:w1.heap.size≠w5.heap.size:=by omega
   have hw5y:w1.heap.size≠w5.heap.size+1:=by omega
   go_wp2_with (at_builtin;rw[←HWY.out];refine push_fold rfl (.tmp 23) (.tmp 25) rfl (w1.heap.size+1) _ lo (OFS.out.alloc _) rfl _ (fa,fb) rfl (fo_litN _ _ (by simp<;>omega) _ _ _) (by omega) (by simp<;>omega) ?_;intro v6 w6 o6 g6 p6;have O6:=hDD o6;have G6:=hDD g6;clear o6 g6 p6)
   have e0:=E0.out
   have e1:=E1.out
   have e2:=E2.out
   have bL:Below ((((WY.setCell ⟨w1.heap.size,0,none⟩ (.int .i64 m1)).setCell ⟨w1.heap.size,1,none⟩ (.int .i64 m2)).setCell ⟨w1.heap.size,2,none⟩ (.slice A5 ms.length c5))).heap.size (((WY.setCell ⟨w1.heap.size,0,none⟩ (.int .i64 m1)).setCell ⟨w1.heap.size,1,none⟩ (.int .i64 m2)).setCell ⟨w1.heap.size,2,none⟩ (.slice A5 ms.length c5)) ((((WY.setCell ⟨w1.heap.size,0,none⟩ (.int .i64 m1)).setCell ⟨w1.heap.size,1,none⟩ (.int .i64 m2)).setCell ⟨w1.heap.size,2,none⟩ (.slice A5 ms.length c5)).alloc (Obj.cells #[Value.int IntKind.i64 fa,Value.int IntKind.i64 fb] 145)):=(Below.refl _ _).alloc (Nat.le_refl _) _
   have hxL:w1.heap.size<((((WY.setCell ⟨w1.heap.size,0,none⟩ (.int .i64 m1)).setCell ⟨w1.heap.size,1,none⟩ (.int .i64 m2)).setCell ⟨w1.heap.size,2,none⟩ (.slice A5 ms.length c5))).heap.size:=by simp<;>omega
   have hxG:w1.heap.size<((((WY.setCell ⟨w1.heap.size,0,none⟩ (.int .i64 m1)).setCell ⟨w1.heap.size,1,none⟩ (.int .i64 m2)).setCell ⟨w1.heap.size,2,none⟩ (.slice A5 ms.length c5)).alloc (Obj.cells #[Value.int IntKind.i64 fa,Value.int IntKind.i64 fb] 145)).heap.size:=by simp<;>omega
   have hGO: ∀c,(Value.slice Ao lo.length co).ownBlock=some c→w1.heap.size+1≤c∧c<wk.heap.size:=fun c hc=>HOF.out.lt c hc
   have n0:=(grown_cellF (o:=0) G6.out hxG (fun c hc=>by have:=(hGO c hc).1;omega)).trans ((bL.cell (p:=⟨w1.heap.size,0,none⟩) hxL).trans e0)
   have n1:=(grown_cellF (o:=1) G6.out hxG (fun c hc=>by have:=(hGO c hc).1;omega)).trans ((bL.cell (p:=⟨w1.heap.size,1,none⟩) hxL).trans e1)
   have n2:=(grown_cellF (o:=2) G6.out hxG (fun c hc=>by have:=(hGO c hc).1;omega)).trans ((bL.cell (p:=⟨w1.heap.size,2,none⟩) hxL).trans e2)
   have nf: ∀j,w6.frozen? ⟨w1.heap.size,j,none⟩=false:=fun j=>(World.frozen?_of_block (G6.out.block w1.heap.size hxG fun e=>by have:=(hGO w1.heap.size e.symm).1;omega)).trans ((bL.frozen (p:=⟨w1.heap.size,j,none⟩) hxL).trans (ESF.out j))
   have NE:Hid (OwE w6 (w.heap.size+2) (.slice A5 ms.length c5) ms):=hDD (OwE.mono (OwE.keep OES.out fun b hb=>by
    have hb2:=OES.out.1.lt b hb
    exact(G6.out.block b (by have:=bL.size;omega) fun e=>by have:=(hGO b e.symm).2;omega).trans (bL.block b hb2.2)) (by omega))
   have NX:Hid (∀b,(Value.slice A5 ms.length c5).ownBlock=some b→b≠w1.heap.size):=hDD fun b hb=>by have:=(OES.out.1.lt b hb).1;omega
   have NB:Hid (Below w1.heap.size w1 w6):=hDD ((BS.out.trans (bL.mono (by omega))).grown G6.out (by omega) (fun c hc=>by have:=(hGO c hc).1;omega))
   have hs6:=G6.out.size
   have O6F:Hid (∃Ao co,v6= .slice Ao (lo++ [(fa,fb)]).length co):=hDD (by obtain⟨Ao',co',h,_⟩:=O6.out.form;exact⟨Ao',co',h⟩)
   go_roundw
   case rel=>exact⟨k+1,(m1,m2,ms),A5,c5,lo++ [(fa,fb)],by omega,O6F.out,by rw[List.length_append];simp only[List.length_singleton];omega,HGM.out,HFM.out,by have:=HM2.out;simp only;omega,n0,n1,n2,nf,NE.out,NX.out,O6.out,NB.out,by omega⟩
   case measure=>
    obtain⟨Ao',co',h⟩:=O6F.out
    rw[h]
    show 40-(lo++ [(fa,fb)]).length<40-lo.length
    rw[List.length_append]
    simp only[List.length_singleton]
    omega
set_option maxHeartbeats 1000000 in
theorem implCoreGraph_any (v:Value) (g:GrD) (w:World) (h:ArgG w v g) (hg:grB g=true):
  Calls Tryz.prog 105 #[v] w fun e w'=> ∃r,e= .returned r∧OwG w' w.heap.size r (coreG g)∧Below w.heap.size w w':=by
 have HG:=hDD h
 have HFA:=hDD (folA_ok hg)
 have HFB:=hDD (foldB_parts HFA.out).1
 have HTB:=hDD (trimG_fold HFA.out)
 have HCG:Hid (coreG g=canG (trimG (folA g)).1):=hDD rfl
 have HFO:=hDD (fun W h=>implFoldAll_any v g W h hg)
 have HTR:=hDD (fun u W h=>(trimGraph_any u (folA g) W h HFB.out).mono (R':=fun e w'=> ∃r o,e= .returned (.tuple #[r,o])∧OwG w' W.heap.size r (trimG (folA g)).1∧Below W.heap.size W w') fun e w' ⟨r,l,h1,h2,_,h4⟩=>⟨r,l,h1,h2,h4⟩)
 have HCA:=hDD (fun u W h=>canonicalGraph_any u (trimG (folA g)).1 W h HTB.out)
 generalize canG (trimG (folA g)).1=CG at*
 generalize (trimG (folA g)).1=TG at*
 generalize folA g=FG at*
 obtain⟨s,rfl,hi1,hi2,ha⟩:=h
 obtain⟨A,cap,rfl⟩:=ha.form
 obtain⟨g1,N,es⟩:=g
 simp only at*
 clear ha hg
 go_enter Tryz.func105,Tryz.ntmps105
 have bx:Below w.heap.size w ((w.alloc (Obj.cells #[Value.int IntKind.i64 g1,Value.int IntKind.i64 N, .slice A es.length cap] 82)).alloc (Obj.cells #[Value.int IntKind.i64 0,Value.int IntKind.i64 0, .slice none 0 0] 82)):=(by repeat(first | exact Below.refl _ _ | (refine Below.setCell ?_ (by first | omega | (simp<;>omega)) _) | (refine bel_drewN ?_ _) | (refine Below.drew ?_) | (refine Below.alloc ?_ (by first | omega | (simp<;>omega)) _)))
 go_wp2_with fail
 obtain⟨W,hW⟩: ∃W,W=((w.alloc (Obj.cells #[Value.int IntKind.i64 g1,Value.int IntKind.i64 N, .slice A es.length cap] 82)).alloc (Obj.cells #[Value.int IntKind.i64 0,Value.int IntKind.i64 0, .slice none 0 0] 82)):=⟨_,rfl⟩
 rw[←hW] at bx⊢
 have hsW:W.heap.size=w.heap.size+2:=by rw[hW];simp
 have R0:Hid (W.cell? ⟨w.heap.size+1,0,none⟩=some (.int .i64 0)):=hDD (by rw[hW];simp[go_sem])
 have R1:Hid (W.cell? ⟨w.heap.size+1,1,none⟩=some (.int .i64 0)):=hDD (by rw[hW];simp[go_sem])
 have R2:Hid (W.cell? ⟨w.heap.size+1,2,none⟩=some (.slice none 0 0)):=hDD (by rw[hW];simp[go_sem])
 have RF:Hid (∀j,W.frozen? ⟨w.heap.size+1,j,none⟩=false):=hDD fun j=>by rw[hW];simp[go_sem]
 have BX:=hDD bx
 clear hW bx
 refine(HFO.out W (HG.out.below BX.out)).mono ?_
 rintro e w1 ⟨r,o,rfl,o1,b1⟩
 have B1:=hDD b1
 have hs1:=b1.size
 have O1:=hDD o1
 obtain⟨f1,f2,fs⟩:=FG
 obtain⟨s1,rfl,_,_,oe1⟩:=o1
 obtain⟨A1,c1,rfl,_⟩:=oe1.form
 simp only at*
 clear b1 oe1
 have bf:Below w1.heap.size w1 (w1.alloc (Obj.cells #[Value.int IntKind.i64 f1,Value.int IntKind.i64 f2, .slice A1 fs.length c1] 82)):=(Below.refl _ _).alloc (Nat.le_refl _) _
 go_wp2_with fail
 refine(HTR.out _ _ (O1.out.arg.below bf)).mono ?_
 rintro e w3 ⟨r3,o3,rfl,o3',b3⟩
 have hsf:=bf.size
 have B3:=hDD (B1.out.trans ((bf.trans (b3.mono hsf)).mono hs1))
 have hs3:=b3.size
 have O3:=hDD o3'
 obtain⟨t1,t2,ts⟩:=TG
 obtain⟨s3,rfl,_,_,oe3⟩:=o3'
 obtain⟨A3,c3,rfl,_⟩:=oe3.form
 simp only at*
 clear b3 oe3 bf
 have bt:Below w3.heap.size w3 (w3.alloc (Obj.cells #[Value.int IntKind.i64 t1,Value.int IntKind.i64 t2, .slice A3 ts.length c3] 82)):=(Below.refl _ _).alloc (Nat.le_refl _) _
 go_wp2_with fail
 refine(HCA.out _ _ (O3.out.arg.below bt)).mono ?_
 rintro e w5 ⟨r5,rfl,o5,b5⟩
 have hst:=bt.size
 have hs33:=B3.out.size
 have B5:=hDD (B3.out.trans ((bt.trans (b5.mono hst)).mono hs33))
 have hs5:=B5.out.size
 have hb5:=b5.size
 obtain⟨c1',c2',cs⟩:=CG
 obtain⟨s5,rfl,hj1,hj2,oe5⟩:=o5
 obtain⟨A5,k5,rfl,_⟩:=oe5.form
 simp only at*
 have OE5:=hDD oe5
 have r0:=(B5.out.cell (p:=⟨w.heap.size+1,0,none⟩) (by show w.heap.size+1<_;omega)).trans R0.out
 have r1:=(B5.out.cell (p:=⟨w.heap.size+1,1,none⟩) (by show w.heap.size+1<_;omega)).trans R1.out
 have r2:=(B5.out.cell (p:=⟨w.heap.size+1,2,none⟩) (by show w.heap.size+1<_;omega)).trans R2.out
 have rf0:=(B5.out.frozen (p:=⟨w.heap.size+1,0,none⟩) (by show w.heap.size+1<_;omega)).trans (RF.out 0)
 have rf1:=(B5.out.frozen (p:=⟨w.heap.size+1,1,none⟩) (by show w.heap.size+1<_;omega)).trans (RF.out 1)
 have rf2:=(B5.out.frozen (p:=⟨w.heap.size+1,2,none⟩) (by show w.heap.size+1<_;omega)).trans (RF.out 2)
 have HBF:=hDD (BX.out.trans (B5.out.mono BX.out.size))
 clear b5 oe5 bt
 go_wp2
 obtain⟨e0,e1,e2⟩:=cells3F (.int .i64 c1') (.int .i64 c2') (.slice A5 cs.length k5) r0 r1 r2
 have bw:Below w.heap.size w (((w5.setCell ⟨w.heap.size+1,0,none⟩ (.int .i64 c1')).setCell ⟨w.heap.size+1,1,none⟩ (.int .i64 c2')).setCell ⟨w.heap.size+1,2,none⟩ (.slice A5 cs.length k5)):=(((HBF.out.setCell (by simp<;>omega) _).setCell (by simp<;>omega) _).setCell (by simp<;>omega) _)
 have ow:OwE (((w5.setCell ⟨w.heap.size+1,0,none⟩ (.int .i64 c1')).setCell ⟨w.heap.size+1,1,none⟩ (.int .i64 c2')).setCell ⟨w.heap.size+1,2,none⟩ (.slice A5 cs.length k5)) w.heap.size (.slice A5 cs.length k5) cs:=OwE.mono (((OE5.out.far (by show w.heap.size+1<_;omega) _).far (by show w.heap.size+1<_;omega) _).far (by show w.heap.size+1<_;omega) _) (by omega)
 generalize (((w5.setCell ⟨w.heap.size+1,0,none⟩ (.int .i64 c1')).setCell ⟨w.heap.size+1,1,none⟩ (.int .i64 c2')).setCell ⟨w.heap.size+1,2,none⟩ (.slice A5 cs.length k5))=wf at*
 rw[HCG.out]
 exact bodyPost_ret (v:= .agg #[.int .i64 c1', .int .i64 c2', .slice A5 cs.length k5]) (by simp[results,Tryz.results105,go_sem,e0,e1,e2]) rfl ⟨_,rfl,⟨.slice A5 cs.length k5,rfl,hj1,hj2,ow⟩,bw⟩
end Go.Proofs.YtlgcflpaekbopaaGreat
namespace Go.Proofs.YtlgcflpaekbopaaGreat
set_option maxRecDepth 20000
set_option linter.unusedVariables false
set_option linter.unusedSimpArgs false
open Go.RowKit
end Go.Proofs.YtlgcflpaekbopaaGreat
namespace Go.Proofs.YtlgcflpaekbopaaGreat
set_option maxRecDepth 20000
set_option linter.unusedVariables false
set_option linter.unusedSimpArgs false
open Go.RowKit
structure IsI (a b:GrD) (ls:List Int) (N P bl capl:Nat) (W wr:World) (out:Value) (o im:List Int):Prop where
 ok:OrdOk (N:Int) o
 len:im.length=N
 img: ∀y:Nat,y<N→(y:Int)∈o→im[y]? =some (imgW a b y)∧0≤imgW a b y
 fnd:OwI wr (P+1) out o
 row:OwI wr P (.slice (some ⟨P,0,none⟩) N N) im
 lets:RdI wr (.slice (some ⟨bl,0,none⟩) ls.length capl) ls
 ne:out.ownBlock≠some bl
 blt:bl<wr.heap.size
 blP:P<bl
 bel:Below P W wr
section
variable {a b:GrD} {ls:List Int} {N P bl capl:Nat} {W wr w':World} {out:Value} {o im:List Int}
end
structure TreeX (f:Int→List Int) (bb P N:Nat) (w:World) (ord:Value) (o:List Int):Prop where
 ex: ∃vs:List Value,vs.length=N∧w.ownsRow bb 24 1 (.slice (some ⟨P,0,none⟩) N N) N vs∧ ∀(j:Nat) (hj:j<vs.length),
  ((j:Int)∉o∧vs[j]= .slice none 0 0)∨((j:Int)∈o∧ ∃(b cap:Nat),vs[j]= .slice (some ⟨b,0,none⟩) (f j).length cap∧(f j).length≤o.length∧OwI w P vs[j] (f j)∧P<b∧ord.ownBlock≠some b∧b<w.heap.size)
 ne:ord.ownBlock≠some P
section
variable {f:Int→List Int} {bb P N:Nat} {w w':World} {ord:Value} {o:List Int}
end
theorem gboxE {w W:World} {a b c:Value} {t:TypeId} (hW:W=w.alloc (.cells #[a,b,c] t)):W.heap.size=w.heap.size+1∧Below w.heap.size w W∧
  (∀w',Below (w.heap.size+1) W w'→w'.cell? ⟨w.heap.size,0,none⟩=some a∧w'.cell? ⟨w.heap.size,1,none⟩=some b∧w'.cell? ⟨w.heap.size,2,none⟩=some c):=by
 have hs:W.heap.size=w.heap.size+1:=by rw[hW];simp
 have h0:W.cell? ⟨w.heap.size,0,none⟩=some a:=by rw[hW];simp[go_sem]
 have h1:W.cell? ⟨w.heap.size,1,none⟩=some b:=by rw[hW];simp[go_sem]
 have h2:W.cell? ⟨w.heap.size,2,none⟩=some c:=by rw[hW];simp[go_sem]
 exact⟨hs,by rw[hW];exact(Below.refl _ _).alloc (Nat.le_refl _) _,fun w' hb=>⟨(hb.cell (p:=⟨w.heap.size,0,none⟩) (Nat.lt_succ_self _)).trans h0,(hb.cell (p:=⟨w.heap.size,1,none⟩) (Nat.lt_succ_self _)).trans h1,(hb.cell (p:=⟨w.heap.size,2,none⟩) (Nat.lt_succ_self _)).trans h2⟩⟩
def stE (u x v:Int):EdD:=if x<0 then(v,-x,u) else(u,x,v)
set_option maxHeartbeats 400000 in
theorem step_any (u x v:Int) (w:World) (hx: -3≤x∧x≤3):
  Calls Tryz.prog 171 #[.int .i64 u, .int .i64 x, .int .i64 v] w fun e w'=>e= .returned (edV (stE u x v))∧Below w.heap.size w w':=by
 have hn:IntKind.i64.wrap (-x)= -x:=by rw[IntKind.wrap_i64];omega
 by_cases h:x<0
 ·have F:Hid (stE u x v=(v,-x,u)):=hDD (by unfold stE;rw[if_pos h])
  go_enter Tryz.func171,Tryz.ntmps171
  go_wp2
  refine bodyPost_ret (v:= .agg #[.int .i64 v, .int .i64 (-x), .int .i64 u]) (by simp[results,Tryz.results171,go_sem]) rfl ⟨by rw[F.out];rfl,(by repeat(first | exact Below.refl _ _ | (refine Below.setCell ?_ (by first | omega | (simp<;>omega)) _) | (refine bel_drewN ?_ _) | (refine Below.drew ?_) | (refine Below.alloc ?_ (by first | omega | (simp<;>omega)) _)))⟩
 ·have F:Hid (stE u x v=(u,x,v)):=hDD (by unfold stE;rw[if_neg h])
  go_enter Tryz.func171,Tryz.ntmps171
  go_wp2
  refine bodyPost_ret (v:= .agg #[.int .i64 u, .int .i64 x, .int .i64 v]) (by simp[results,Tryz.results171,go_sem]) rfl ⟨by rw[F.out];rfl,(by repeat(first | exact Below.refl _ _ | (refine Below.setCell ?_ (by first | omega | (simp<;>omega)) _) | (refine bel_drewN ?_ _) | (refine Below.drew ?_) | (refine Below.alloc ?_ (by first | omega | (simp<;>omega)) _)))⟩
end Go.Proofs.YtlgcflpaekbopaaGreat
namespace Go.Proofs.YtlgcflpaekbopaaGreat
set_option maxRecDepth 20000
set_option linter.unusedVariables false
set_option linter.unusedSimpArgs false
open Go.RowKit
structure Sub (x g:GrD) (s:Int→Int):Prop where
 rk:x.1=g.1
 rng: ∀i,0≤i→i<x.2.1→0≤s i∧s i<g.2.1
 cn:Conn g.2.2 0 (s 0)
 fw: ∀i l,0≤i→i<x.2.1→ -3≤l∧l≤3→0≤nextV x.2.2 i l→nextV g.2.2 (s i) l=s (nextV x.2.2 i l)
 lp: ∀i w,0≤i→i<x.2.1→Conn x.2.2 0 i→(∀l∈w,-3≤l∧l≤3)→NoB w→walkF g.2.2 (s i) w=s i→walkF x.2.2 i w=i
structure GBx (w:World) (p base:Nat) (A:Option Addr) (c:Nat) (g:GrD):Prop where
 c0:w.cell? ⟨p,0,none⟩=some (.int .i64 g.1)
 c1:w.cell? ⟨p,1,none⟩=some (.int .i64 g.2.1)
 c2:w.cell? ⟨p,2,none⟩=some (.slice A g.2.2.length c)
 fz: ∀j,w.frozen? ⟨p,j,none⟩=false
 ow:OwE w base (.slice A g.2.2.length c) g.2.2
 ne: ∀b,(Value.slice A g.2.2.length c).ownBlock=some b→b≠p
 i1:I64 g.1
 i2:I64 g.2.1
 lt:p<w.heap.size
theorem GBx.below {w w':World} {p base:Nat} {A:Option Addr} {c:Nat} {g:GrD} (h:GBx w p base A c g) (hb:Below w.heap.size w w'):GBx w' p base A c g:=
 ⟨(hb.cell (p:=⟨p,0,none⟩) h.lt).trans h.c0,(hb.cell (p:=⟨p,1,none⟩) h.lt).trans h.c1,(hb.cell (p:=⟨p,2,none⟩) h.lt).trans h.c2,fun j=>(hb.frozen (p:=⟨p,j,none⟩) h.lt).trans (h.fz j),h.ow.below hb,h.ne,h.i1,h.i2,Nat.lt_of_lt_of_le h.lt hb.size⟩
theorem GBx.arg {w:World} {p base:Nat} {A:Option Addr} {c:Nat} {g:GrD} (h:GBx w p base A c g):ArgG w (.agg #[.int .i64 g.1, .int .i64 g.2.1, .slice A g.2.2.length c]) g:=⟨_,rfl,h.i1,h.i2,h.ow.arg⟩
theorem OwI.keepB {w w':World} {base:Nat} {s:Value} {xs:List Int} (h:OwI w base s xs) (hb: ∀b,s.ownBlock=some b→w'.heap[b]? =w.heap[b]?):OwI w' base s xs:=by
 refine⟨⟨h.1.1,?_⟩,h.2⟩
 rcases h.1.2 with h0 | ⟨g,cap,cur,hv,hg,hh,r⟩
 ·exact .inl h0
 ·exact .inr ⟨g,cap,cur,hv,hg,by rw[hb g (by rw[hv];rfl)];exact hh,r⟩
theorem GBx.set {w:World} {p base base':Nat} {A A':Option Addr} {c c':Nat} {g m:GrD} (h:GBx w p base A c g) (o:OwE w base' (.slice A' m.2.2.length c') m.2.2) (hn: ∀b,(Value.slice A' m.2.2.length c').ownBlock=some b→b≠p) (h1:I64 m.1) (h2:I64 m.2.1):
  GBx (((w.setCell ⟨p,0,none⟩ (.int .i64 m.1)).setCell ⟨p,1,none⟩ (.int .i64 m.2.1)).setCell ⟨p,2,none⟩ (.slice A' m.2.2.length c')) p base' A' c' m:=by
 obtain⟨e0,e1,e2⟩:=cells3F (.int .i64 m.1) (.int .i64 m.2.1) (.slice A' m.2.2.length c') h.c0 h.c1 h.c2
 refine⟨e0,e1,e2,fun j=>by rw[World.frozen?_setCell,World.frozen?_setCell,World.frozen?_setCell];exact h.fz j,?_,hn,h1,h2,by simpa using h.lt⟩
 refine o.keep fun b hb=> ?_
 have:=hn b hb
 rw[Below.heap_setCell _ _ _ b this,Below.heap_setCell _ _ _ b this,Below.heap_setCell _ _ _ b this]
structure CBx (w:World) (p:Nat) (x y z:Value):Prop where
 c0:w.cell? ⟨p,0,none⟩=some x
 c1:w.cell? ⟨p,1,none⟩=some y
 c2:w.cell? ⟨p,2,none⟩=some z
 fz: ∀j,w.frozen? ⟨p,j,none⟩=false
 lt:p<w.heap.size
theorem CBx.below {w w':World} {p:Nat} {x y z:Value} (h:CBx w p x y z) (hb:Below w.heap.size w w'):CBx w' p x y z:=
 ⟨(hb.cell (p:=⟨p,0,none⟩) h.lt).trans h.c0,(hb.cell (p:=⟨p,1,none⟩) h.lt).trans h.c1,(hb.cell (p:=⟨p,2,none⟩) h.lt).trans h.c2,fun j=>(hb.frozen (p:=⟨p,j,none⟩) h.lt).trans (h.fz j),Nat.lt_of_lt_of_le h.lt hb.size⟩
theorem CBx.belowAt {w w':World} {p n:Nat} {x y z:Value} (h:CBx w p x y z) (hb:Below n w w') (hn:p<n):CBx w' p x y z:=
 ⟨(hb.cell (p:=⟨p,0,none⟩) hn).trans h.c0,(hb.cell (p:=⟨p,1,none⟩) hn).trans h.c1,(hb.cell (p:=⟨p,2,none⟩) hn).trans h.c2,fun j=>(hb.frozen (p:=⟨p,j,none⟩) hn).trans (h.fz j),Nat.lt_of_lt_of_le h.lt hb.size⟩
theorem CBx.new {w W:World} {x y z:Value} {t:TypeId} (hW:W=w.alloc (.cells #[x,y,z] t)):CBx W w.heap.size x y z∧Below w.heap.size w W∧W.heap.size=w.heap.size+1:=by
 refine⟨⟨by rw[hW];simp[go_sem],by rw[hW];simp[go_sem],by rw[hW];simp[go_sem],fun j=>by rw[hW];simp[go_sem],by rw[hW];simp⟩,by rw[hW];exact(Below.refl _ _).alloc (Nat.le_refl _) _,by rw[hW];simp⟩
theorem set3_heap (w:World) (p:Nat) (x y z:Value) {b:Nat} (h:b≠p):(((w.setCell ⟨p,0,none⟩ x).setCell ⟨p,1,none⟩ y).setCell ⟨p,2,none⟩ z).heap[b]? =w.heap[b]? :=by
 rw[Below.heap_setCell _ _ _ b h,Below.heap_setCell _ _ _ b h,Below.heap_setCell _ _ _ b h]
theorem set3_below {w0 w:World} {n p:Nat} (x y z:Value) (h:Below n w0 w) (hp:n≤p):Below n w0 (((w.setCell ⟨p,0,none⟩ x).setCell ⟨p,1,none⟩ y).setCell ⟨p,2,none⟩ z):=((h.setCell hp _).setCell hp _).setCell hp _
theorem GBx.new {w W:World} {base:Nat} {A:Option Addr} {c:Nat} {m:GrD} {t:TypeId} (o:OwE w base (.slice A m.2.2.length c) m.2.2) (h1:I64 m.1) (h2:I64 m.2.1) (hW:W=w.alloc (.cells #[.int .i64 m.1, .int .i64 m.2.1, .slice A m.2.2.length c] t)):
  GBx W w.heap.size base A c m:=by
 have hb:Below w.heap.size w W:=by rw[hW];exact(Below.refl _ _).alloc (Nat.le_refl _) _
 exact⟨by rw[hW];simp[go_sem],by rw[hW];simp[go_sem],by rw[hW];simp[go_sem],fun j=>by rw[hW];simp[go_sem],o.below hb,fun b hb=>by have:=(o.1.lt b hb).2;omega,h1,h2,by rw[hW];simp⟩
theorem GBx.mono {w:World} {p base base':Nat} {A:Option Addr} {c:Nat} {g:GrD} (h:GBx w p base A c g) (hb:base'≤base):GBx w p base' A c g:=
 ⟨h.c0,h.c1,h.c2,h.fz,h.ow.mono hb,h.ne,h.i1,h.i2,h.lt⟩
end Go.Proofs.YtlgcflpaekbopaaGreat
namespace Go.Proofs.YtlgcflpaekbopaaGreat
set_option maxRecDepth 20000
set_option linter.unusedVariables false
set_option linter.unusedSimpArgs false
open Go.RowKit
structure Two (a b:GrD) (A B:Nat):Prop where
 ga:grB a=true
 gb:grB b=true
 fa:Fol a.2.2
 fb:Fol b.2.2
 sa:a.2.1=(A:Int)
 sb:b.2.1=(B:Int)
section
variable {a b:GrD} {A B:Nat} {p q:Nat} {x:Int} {o:List Nat} {ls:List Int}
end
section
variable {a b:GrD} {u v:Nat}
end
theorem GBx.put {w:World} {p base base':Nat} {A A':Option Addr} {c c':Nat} {g:GrD} {ms:List EdD} (h:GBx w p base A c g) (o:OwE w base' (.slice A' ms.length c') ms) (hn: ∀b,(Value.slice A' ms.length c').ownBlock=some b→b≠p):
  GBx (w.setCell ⟨p,2,none⟩ (.slice A' ms.length c')) p base' A' c' (g.1,g.2.1,ms):=by
 refine⟨(World.cell?_setCell_other _ _ _ _ (by simp)).trans h.c0,(World.cell?_setCell_other _ _ _ _ (by simp)).trans h.c1,World.cell?_setCell_same _ _ _ h.c2,fun j=>by rw[World.frozen?_setCell];exact h.fz j,?_,hn,h.i1,h.i2,by simpa using h.lt⟩
 exact o.keep fun b hb=>Below.heap_setCell _ _ _ b (hn b hb)
structure MatI (X bb P A B:Nat) (w:World) (Q:Nat→Nat) (f:Nat→Nat→Int):Prop where
 outer:w.ownsRow bb 24 1 (.slice (some ⟨P,0,none⟩) A A) A ((List.range A).map fun i=> .slice (some ⟨Q i,0,none⟩) B B)
 rows: ∀i,i<A→OwI w bb (.slice (some ⟨Q i,0,none⟩) B B) ((List.range B).map (f i))
 inj: ∀i j,i<A→j<A→Q i=Q j→i=j
 neP: ∀i,i<A→Q i≠P
 ltP:P<X
 ltQ: ∀i,i<A→Q i<X
section
variable {X bb P A B:Nat} {w w':World} {Q:Nat→Nat} {f:Nat→Nat→Int}
end
theorem CBx.put {w:World} {p base':Nat} {z:Value} {A':Option Addr} {c':Nat} {r n:Int} {ms:List EdD} (h:CBx w p (.int .i64 r) (.int .i64 n) z) (o:OwE w base' (.slice A' ms.length c') ms) (hn: ∀b,(Value.slice A' ms.length c').ownBlock=some b→b≠p) (h1:I64 r) (h2:I64 n):
  GBx (w.setCell ⟨p,2,none⟩ (.slice A' ms.length c')) p base' A' c' (r,n,ms):=
 ⟨(World.cell?_setCell_other _ _ _ _ (by simp)).trans h.c0,(World.cell?_setCell_other _ _ _ _ (by simp)).trans h.c1,World.cell?_setCell_same _ _ _ h.c2,fun j=>by rw[World.frozen?_setCell];exact h.fz j,o.keep fun b hb=>Below.heap_setCell _ _ _ b (hn b hb),hn,h1,h2,by simpa using h.lt⟩
end Go.Proofs.YtlgcflpaekbopaaGreat
namespace Go.Proofs.YtlgcflpaekbopaaGreat
set_option maxRecDepth 20000
set_option linter.unusedVariables false
set_option linter.unusedSimpArgs false
open Go.RowKit
theorem GBx.sz {w:World} {p base:Nat} {A:Option Addr} {c:Nat} {g:GrD} (h:GBx w p base A c g) {z:Int} (hz:I64 z):GBx (w.setCell ⟨p,1,none⟩ (.int .i64 z)) p base A c (g.1,z,g.2.2):=
 ⟨(World.cell?_setCell_other _ _ _ _ (by simp)).trans h.c0,World.cell?_setCell_same _ _ _ h.c1,(World.cell?_setCell_other _ _ _ _ (by simp)).trans h.c2,fun j=>by rw[World.frozen?_setCell];exact h.fz j,h.ow.keep fun b hb=>Below.heap_setCell _ _ _ b (h.ne b hb),h.ne,h.i1,hz,by simpa using h.lt⟩
end Go.Proofs.YtlgcflpaekbopaaGreat
namespace Go.Proofs.YtlgcflpaekbopaaGreat
set_option maxRecDepth 20000
set_option linter.unusedVariables false
set_option linter.unusedSimpArgs false
open Go.RowKit
def hE (e:EdD) (p x:Int):Prop:=(e.1=p∧e.2.1=x)∨(e.2.2=p∧e.2.1= -x)
section
variable {g:GrD} {u v:Int} {t:List Int}
theorem pth_mem {N:Nat} {e:EdD}:e∈pthL N u v t t.length↔ ∃j,j<t.length∧e=pthE N u v t j:=by
 unfold pthL
 rw[List.mem_map]
 exact⟨fun ⟨j,h1,h2⟩=>⟨j,List.mem_range.1 h1,h2.symm⟩,fun ⟨j,h1,h2⟩=>⟨j,List.mem_range.2 h1,h2.symm⟩⟩
theorem addOk_parts (h:addOk g t=true):g.2.1+t.length-1≤40∧(g.2.2.length:Int)+t.length≤120:=by
 unfold addOk at h
 exact of_decide_eq_true h
theorem pth_range (hg:grB g=true) (hu:0≤u∧u<g.2.1) (hv:0≤v∧v<g.2.1) (hw:wordB g.1 t=true) (h0:t.length≠0) {e:EdD} (he:e∈pthL g.2.1.toNat u v t t.length):
  (0≤e.1∧e.1<g.2.1+t.length-1)∧(1≤e.2.1∧e.2.1≤g.1)∧(0≤e.2.2∧e.2.2<g.2.1+t.length-1):=by
 obtain⟨j,hj,rfl⟩:=pth_mem.1 he
 have hN:=(grB_parts hg).2.1
 have hx:=wordB_get hw j hj
 have ha:0≤atP g.2.1.toNat t.length u v j∧atP g.2.1.toNat t.length u v j<g.2.1+t.length-1:=by
  cases j with
  | zero=>show 0≤u∧u<_;omega
  | succ j=>rw[atP_succ];unfold nxP;split<;>omega
 have hn:0≤nxP g.2.1.toNat t.length v j∧nxP g.2.1.toNat t.length v j<g.2.1+t.length-1:=by
  unfold nxP;split<;>omega
 unfold pthE stpE
 rw[getD_at hj]
 split<;>(simp only;omega)
theorem addG_gr (hg:grB g=true) (hu:0≤u∧u<g.2.1) (hv:0≤v∧v<g.2.1) (hw:wordB g.1 t=true) (h0:t.length≠0) (hok:addOk g t=true):grB (addG g u v t)=true:=by
 obtain⟨k1,k2⟩:=addOk_parts hok
 obtain⟨h1,h2,h3,_⟩:=grB_parts hg
 have hsp:=srt_spec cmpE_ord (g.2.2++pthL g.2.1.toNat u v t t.length)
 have hs:(addG g u v t).2.1=g.2.1+t.length-1:=by unfold addG;simp only;omega
 refine grB_of h1 (by rw[hs];omega) ?_ hsp.1 fun e he=> ?_
 ·have:=srt_len (c:=cmpE) (g.2.2++pthL g.2.1.toNat u v t t.length)
  rw[List.length_append,pthL_len] at this
  show(srt cmpE (g.2.2++pthL g.2.1.toNat u v t t.length)).length≤120
  omega
 ·rw[hs]
  rcases List.mem_append.1 ((hsp.2 e).1 he) with q | q
  ·have:=edge_of_gr hg q
   exact⟨by omega,this.2.1,by omega⟩
  ·exact pth_range hg hu hv hw h0 q
end
end Go.Proofs.YtlgcflpaekbopaaGreat
namespace Go.Proofs.YtlgcflpaekbopaaGreat
set_option maxRecDepth 20000
set_option linter.unusedVariables false
set_option linter.unusedSimpArgs false
open Go.RowKit
structure DrI (p:Nat) (A:Option Addr) (cap:Nat) (cs:List Int) (w0 W:World):Prop where
 tr:Tr p (p+1) w0 W
 cur:Cur p A cap cs W
section
variable {p cap:Nat} {A:Option Addr} {cs:List Int} {w0 W W':World}
theorem DrI.refl (h:Cur p A cap cs w0):DrI p A cap cs w0 w0:=⟨⟨rfl,rfl,rfl,Nat.le_refl _,fun _ _ _=>rfl⟩,h⟩
theorem DrI.to (h:DrI p A cap cs w0 W) (ht:Tr p (p+1) W W') (hc:Cur p A cap cs W'):DrI p A cap cs w0 W':=⟨h.tr.trans ht,hc⟩
theorem DrI.bel (h:DrI p A cap cs w0 W) (hb:Below W.heap.size W W'):DrI p A cap cs w0 W':=⟨h.tr.bel2 hb,h.cur.below hb⟩
theorem DrI.hi (h:DrI p A cap cs w0 W) (h0:Cur p A cap cs w0) {B:Nat} (hB:w0.heap.size≤B) (hb:Below B W W'):DrI p A cap cs w0 W':=by
 refine⟨⟨hb.os.trans h.tr.os,hb.tape.trans h.tr.tape,hb.output.trans h.tr.output,Nat.le_trans h.tr.size hb.size,fun k hk hn=>(hb.block k (by omega)).trans (h.tr.block k hk hn)⟩,?_⟩
 refine h.cur.tr (lo:=B) (hi:=W.heap.size) ⟨hb.os,hb.tape,hb.output,hb.size,fun k hk hn=>hb.block k (by omega)⟩ (by have:=h0.lt;omega) fun hl b off e=> ?_
 obtain⟨b',off',e',_,hlt,_⟩:=h0.at_ hl
 rw[e] at e'
 injection e' with e'
 injection e' with e1
 omega
end
theorem DrI.grow {p cap:Nat} {A:Option Addr} {cs:List Int} {w0 W W':World} {row:Option Nat} (h:DrI p A cap cs w0 W) (h0:Cur p A cap cs w0) (hg:W.grownBy W' row) (hr: ∀b,row=some b→w0.heap.size≤b):DrI p A cap cs w0 W':=⟨h.tr.grow2 hg hr,h.cur.new h0 hg hr⟩
end Go.Proofs.YtlgcflpaekbopaaGreat
namespace Go.Proofs.YtlgcflpaekbopaaGreat
set_option maxRecDepth 20000
set_option linter.unusedVariables false
set_option linter.unusedSimpArgs false
open Go.RowKit
theorem cells2w {w:World} {p:Nat} {a b:Value} (x y:Value) (h0:w.cell? ⟨p,0,none⟩=some a) (h1:w.cell? ⟨p,1,none⟩=some b):
  ((w.setCell ⟨p,0,none⟩ x).setCell ⟨p,1,none⟩ y).cell? ⟨p,0,none⟩=some x∧((w.setCell ⟨p,0,none⟩ x).setCell ⟨p,1,none⟩ y).cell? ⟨p,1,none⟩=some y:=by
 constructor<;>simp[go_sem,h0,h1]
theorem MBx.setv {w:World} {p:Nat} {x y:Value} (h:MBx w p x y) (a b:Value):MBx ((w.setCell ⟨p,0,none⟩ a).setCell ⟨p,1,none⟩ b) p a b:=by
 obtain⟨e0,e1⟩:=cells2w a b h.c0 h.c1
 exact⟨e0,e1,fun j=>by rw[World.frozen?_setCell,World.frozen?_setCell];exact h.fz j,by simpa using h.lt⟩
theorem MBx.trP {p q:Nat} {x y:Value} {w w':World} (h:MBx w q x y) (ht:Tr p (p+1) w w') (hq:p≠q):MBx w' q x y:=by
 have hk:w'.heap[q]? =w.heap[q]? :=ht.block q h.lt (by omega)
 exact⟨(World.cell?_of_block (w:=w) hk).trans h.c0,(World.cell?_of_block (w:=w) hk).trans h.c1,fun j=>(World.frozen?_of_block (w:=w) hk).trans (h.fz j),Nat.lt_of_lt_of_le h.lt ht.size⟩
theorem set2_heap (w:World) (p:Nat) (x y:Value) {b:Nat} (h:b≠p):((w.setCell ⟨p,0,none⟩ x).setCell ⟨p,1,none⟩ y).heap[b]? =w.heap[b]? :=by
 rw[Below.heap_setCell _ _ _ b h,Below.heap_setCell _ _ _ b h]
theorem set2_below {w0 w:World} {n p:Nat} (x y:Value) (h:Below n w0 w) (hp:n≤p):Below n w0 ((w.setCell ⟨p,0,none⟩ x).setCell ⟨p,1,none⟩ y):=(h.setCell hp _).setCell hp _
theorem wh_row {lo hi:Nat} {w:World} {A:Option Addr} {m c:Nat} {L:List WhD} (h:OWhS lo hi (.slice A m c) L w) {k:Nat} (hk:k<L.length):
  ∃g s,A=some ⟨g,0,none⟩∧g<w.heap.size∧w.cell? ⟨g,k*2,none⟩=some (.int .i64 L[k].1)∧w.cell? ⟨g,k*2+1,none⟩=some s∧I64 L[k].1∧OwI w lo s L[k].2:=by
 obtain⟨g,cs,Fe,hA,hg,_,hE,hcw,hF,_,hc,_,hgw,_⟩:=h.focus EWh.stable hk
 obtain⟨s,rfl,hi,ho,rfl⟩:=hE
 have c0:=hc 0 (by simp)
 have c1:=hc 1 (by simp)
 simp only[List.getElem_cons_zero,List.getElem_cons_succ,Nat.add_zero] at c0 c1
 exact⟨g,s,hA,hgw,c0,c1,hi,OwI.alone ho fun b hb=>(hF b (by rw[hb];simp)).1⟩
theorem OWhS.len {lo hi:Nat} {w:World} {v:Value} {L:List WhD} (h:OWhS lo hi v L w): ∃A c,v= .slice A L.length c∧L.length≤c∧c≤maxLen:=by
 obtain⟨A,c,e,h1,h2,_⟩:=OwnL.len h
 exact⟨A,c,e,h1,h2⟩
theorem allWh_pos {r:Int} (h:1≤r∧r≤3):0<(allWh r).length∧(allWh r).length≤96:=by
 have:r=1∨r=2∨r=3:=by omega
 rcases this with rfl | rfl | rfl<;>decide
set_option maxRecDepth 100000 in
set_option maxHeartbeats 4000000 in
theorem l21White_any (p:Nat) (A:Option Addr) (cap:Nat) (cs:List Int) (w:World) (h:Cur p A cap cs w):
  Calls Tryz.prog 98 #[.pointer (some ⟨p,0,none⟩)] w fun e w'=> ∃(r:Int) (s:Value) (d:WhD),e= .returned (.tuple #[.int .i64 r, .agg #[.int .i64 d.1,s]])∧(1≤r∧r≤3)∧d∈allWh r∧I64 d.1∧OwI w' w.heap.size s d.2∧Cur p A cap cs w'∧Tr p (p+1) w w':=by
 have H:=hDD h
 have hp:=h.lt
 clear h
 obtain⟨W0,hW0⟩: ∃W,W=w.alloc (Obj.cells #[Value.int IntKind.i64 0, .slice none 0 0] 26):=⟨_,rfl⟩
 obtain⟨xb,b0,s0⟩:=MBx.new hW0
 have XB:=hDD xb
 have I0:Hid (DrI p A cap cs w W0):=hDD ((DrI.refl H.out).bel b0)
 clear xb b0
 have RA:Hid (RdI (W0.alloc (Obj.cells #[.int .i64 1, .int .i64 2, .int .i64 2, .int .i64 2, .int .i64 3] 3)) (.slice (some ⟨W0.heap.size,0,none⟩) 5 5) [1,2,2,2,3]):=hDD (OwI_lit W0 [1,2,2,2,3] (by intro y hy;simp at hy;rcases hy with rfl | rfl | rfl<;>(unfold I64;omega)) (by simp) (Nat.le_refl _)).rd
 have IA:=hDD (I0.out.bel ((Below.refl _ _).alloc (Nat.le_refl _) (Obj.cells #[.int .i64 1, .int .i64 2, .int .i64 2, .int .i64 2, .int .i64 3] 3)))
 have XA:=hDD (XB.out.below ((Below.refl _ _).alloc (Nat.le_refl _) (Obj.cells #[.int .i64 1, .int .i64 2, .int .i64 2, .int .i64 2, .int .i64 3] 3)))
 have hneA:(Value.slice (some ⟨W0.heap.size,0,none⟩) 5 5).ownBlock≠some p:=fun e=>by simp[Value.ownBlock] at e;omega
 go_enter Tryz.func98,Tryz.ntmps98
 go_wp2_with fail
 rw[←hW0,←s0]
 clear hW0
 (with_reducible refine(l1PickInt_any p A cap cs _ [1,2,2,2,3] _ IA.out.cur RA.out hneA (by simp) (by simp)).mono ?_)
 rintro e w1 ⟨r,rfl,hr,c1,t1⟩
 have I1:=hDD (IA.out.to t1 c1)
 have X1:=hDD (XA.out.trP t1 (by omega))
 have hr1:1≤r:=by simp at hr;omega
 have hr3:r≤3:=by simp at hr;omega
 clear c1 t1 IA RA hr hneA XA I0 XB s0
 go_wp2_with fail
 refine(specAllWhitehead_any r _).mono ?_
 rintro e w2 ⟨lv,rfl,ol,b2⟩
 obtain⟨Al,cl,rfl,hcl,hml⟩:=ol.len
 have hlp:=allWh_pos ⟨hr1,hr3⟩
 have I2:=hDD (I1.out.bel b2)
 have X2:=hDD (X1.out.below b2)
 have hz1:=I1.out.tr.size
 have hx1:=X1.out.lt
 have hs2:=b2.size
 have OL:=hDD ol
 clear b2 ol I1 X1
 unfold maxLen at hml
 generalize hL:allWh r=L at*
 have HAL:=hDD hL
 clear hL
 obtain⟨g,_,rfl,_⟩:=wh_row OL.out hlp.1
 have hlI:(0:Int)<(L.length:Int):=by omega
 have hlz: ¬(L.length:Int)≤0:=by omega
 go_wp2_with fail
 refine wp_region_genG2 [] [.val (.int .i64 r), .val (.slice (some ⟨g,0,none⟩) L.length cl), .val (.pointer (some ⟨p,0,none⟩)), .val (.slice (some ⟨g,0,none⟩) L.length cl), .val (.int .i64 L.length), .pur (fun _ v=> ∃k:Nat,k<L.length∧v= .int .i64 k), .pur (fun _ v=> ∃k:Nat,k<L.length∧v= .pointer (some ⟨g,k*2,none⟩)), .mem (fun _ W v=>(∃(d:WhD) (s:Value),d∈L∧v= .agg #[.int .i64 d.1,s]∧I64 d.1∧OwI W w1.heap.size s d.2)), .val (.int .i64 r), .mem (fun us W _=> ∃(d:WhD) (s:Value),d∈L∧us 7= .agg #[.int .i64 d.1,s]∧I64 d.1∧OwI W w1.heap.size s d.2∧MBx W w.heap.size (.int .i64 d.1) s)]
  [none,none,none,none,none,some (fun W W'=>Tr p (p+1) W W'∧Cur p A cap cs W'),none,none,none,some (fun W W'=> ∃x y,W'=(W.setCell ⟨w.heap.size,0,none⟩ x).setCell ⟨w.heap.size,1,none⟩ y)]
  (fun W=>DrI p A cap cs w W∧OWhS w1.heap.size w2.heap.size (.slice (some ⟨g,0,none⟩) L.length cl) L W∧w2.heap.size≤W.heap.size∧ ∃x y,MBx W w.heap.size x y) (fun _=>True) [] [(7,9)] (by kernel_rfl) (by kernel_rfl) (by kernel_rfl)
  trivial (by rfl) (by rfl) ⟨I2.out.bel (Below.refl _ _).drew,OwnL.keep OL.out EWh.stable fun b _ _=>rfl,Nat.le_refl _,_,_,X2.out.below (Below.refl _ _).drew⟩ trivial
  ⟨fun _ _ h t=>⟨h.1.to t.1 t.2,OwnL.keep h.2.1 EWh.stable fun b hb hb'=>t.1.block b (by have:=h.2.2.1;omega) (by omega),Nat.le_trans h.2.2.1 t.1.size,by obtain⟨x,y,hx⟩:=h.2.2.2;exact⟨x,y,hx.trP t.1 (by omega)⟩⟩,fun W _ h t=>by obtain⟨x,y,rfl⟩:=t;exact⟨h.1.hi H.out (Nat.le_refl _) (set2_below _ _ (Below.refl _ _) (Nat.le_refl _)),OwnL.keep h.2.1 EWh.stable fun b hb hb'=>set2_heap _ _ _ _ (by omega),by have:=h.2.2.1;simpa using this,by obtain⟨a,b,hx⟩:=h.2.2.2;exact⟨_,_,hx.setv _ _⟩⟩,trivial⟩ (itD_nil _ 0)
  ⟨fun _ _ _ _ _ _ t h=>by obtain⟨x,y,rfl⟩:=t;obtain⟨d,s,hd,e,hi,o⟩:=h;exact⟨d,s,hd,e,hi,o.keepB fun b hb=>set2_heap _ _ _ _ (by have:=(o.1.lt b hb).1;omega)⟩,
   trivial⟩ (fun vs=> ?_)
 refine⟨fun W' K' Q0 hI hD hK=> ?_,?_⟩
 ·skip
  go_simp
  exact hK.out _ _ rfl rfl
 simp only[Act.put,List.setIfInBounds_toArray,List.set_cons_zero,List.set_cons_succ,Sg.pick,Nat.reduceAdd]
 refine⟨fun W' K' Q0 hI hD hK=> ?_,?_⟩
 ·skip
  go_simp
  exact hK.out _ _ rfl rfl
 simp only[Act.put,List.setIfInBounds_toArray,List.set_cons_zero,List.set_cons_succ,Sg.pick,Nat.reduceAdd]
 refine⟨fun W' K' Q0 hI hD hK=> ?_,?_⟩
 ·skip
  go_simp
  exact hK.out _ _ rfl rfl
 simp only[Act.put,List.setIfInBounds_toArray,List.set_cons_zero,List.set_cons_succ,Sg.pick,Nat.reduceAdd]
 refine⟨fun W' K' Q0 hI hD hK=> ?_,?_⟩
 ·skip
  go_simp
  exact hK.out _ _ rfl rfl
 simp only[Act.put,List.setIfInBounds_toArray,List.set_cons_zero,List.set_cons_succ,Sg.pick,Nat.reduceAdd]
 refine⟨fun W' K' Q0 hI hD hK=> ?_,?_⟩
 ·skip
  go_simp
  exact hK.out _ _ rfl rfl
 simp only[Act.put,List.setIfInBounds_toArray,List.set_cons_zero,List.set_cons_succ,Sg.pick,Nat.reduceAdd]
 refine⟨fun W' K' Q0 hI hD hK=> ?_,?_⟩
 ·skip
  go_simp
  refine(l1Below_any p A cap cs L.length _ hI.out.1.1.cur (by omega) (by omega)).mono ?_;rintro e w' ⟨y,rfl,⟨y0,y1⟩,c5,t5⟩;exact hK.out _ _ ⟨t5,c5⟩ ⟨y.toNat,by omega,by rw[Int.toNat_of_nonneg y0]⟩
 simp only[Act.put,List.setIfInBounds_toArray,List.set_cons_zero,List.set_cons_succ,Sg.pick,Nat.reduceAdd]
 refine⟨fun W' K' Q0 hI hD hK=> ?_,?_⟩
 ·obtain⟨k,hk,e5⟩:=(show ∃k:Nat,k<L.length∧vs 5= .int .i64 k from hD.out 5 (by kernel_rfl))
  rw[e5] at hK⊢
  have hkI:(k:Int)<(L.length:Int):=by omega
  go_simp
  exact hK.out _ _ rfl ⟨k,hk,rfl⟩
 simp only[Act.put,List.setIfInBounds_toArray,List.set_cons_zero,List.set_cons_succ,Sg.pick,Nat.reduceAdd]
 refine⟨fun W' K' Q0 hI hD hK=> ?_,?_⟩
 ·obtain⟨k,hk,e6⟩:=(show ∃k:Nat,k<L.length∧vs 6= .pointer (some ⟨g,k*2,none⟩) from hD.out 6 (by kernel_rfl))
  rw[e6] at hK⊢
  obtain⟨g',s,hg',hgl,y0,y1,hi,ho⟩:=wh_row hI.out.1.2.1 hk
  injection hg' with hg'
  injection hg' with hg'
  subst hg'
  have HM:=hDD (List.getElem_mem hk)
  generalize L[k]=d at*
  go_simp
  exact hK.out _ _ rfl ⟨d,s,HM.out,rfl,hi,ho⟩
 simp only[Act.put,List.setIfInBounds_toArray,List.set_cons_zero,List.set_cons_succ,Sg.pick,Nat.reduceAdd]
 refine⟨fun W' K' Q0 hI hD hK=> ?_,?_⟩
 ·skip
  go_simp
  exact hK.out _ _ rfl rfl
 simp only[Act.put,List.setIfInBounds_toArray,List.set_cons_zero,List.set_cons_succ,Sg.pick,Nat.reduceAdd]
 refine⟨fun W' K' Q0 hI hD hK=> ?_,?_⟩
 ·obtain⟨d,s,hd,e7,hi,ho⟩:=(show(∃(d:WhD) (s:Value),d∈L∧vs 7= .agg #[.int .i64 d.1,s]∧I64 d.1∧OwI W' w1.heap.size s d.2) from hD.out 7 (by kernel_rfl))
  obtain⟨As,cs2,rfl,-⟩:=ho.form
  rw[e7] at hK⊢
  obtain⟨_,_,_,a,b,hbx⟩:=id hI.out.1
  have z0:=hbx.c0
  have z1:=hbx.c1
  have u0:=hbx.fz 0
  have u1:=hbx.fz 1
  go_simp
  exact hK.out undef _ ⟨_,_,rfl⟩ ⟨d,_,hd,(mask_at (by kernel_rfl)).trans e7,hi,ho.keepB fun b hb=>set2_heap _ _ _ _ (by have:=(ho.1.lt b hb).1;omega),hbx.setv _ _⟩
 simp only[Act.put,List.setIfInBounds_toArray,List.set_cons_zero,List.set_cons_succ,Sg.pick,Nat.reduceAdd]
 intro W9 hI9 hD9
 have I9:=hDD hI9.out.1
 obtain⟨d,s,hd,e7,hi,ho,hbx⟩:=(show ∃(d:WhD) (s:Value),d∈L∧maskV _ 9 vs 7= .agg #[.int .i64 d.1,s]∧I64 d.1∧OwI W9 w1.heap.size s d.2∧MBx W9 w.heap.size (.int .i64 d.1) s from hD9.out 9 (by decide))
 have IJ:=hDD I9.out.1
 have O9:=hDD ho
 have HD:=hDD hd
 have q0:=hbx.c0
 have q1:=hbx.c1
 have qf:=hbx.fz
 have ql:=hbx.lt
 obtain⟨As,cs',rfl,_⟩:=ho.form
 clear hI9 hD9 hd ho hbx e7 I9
 go_wp2
 exact bodyPost_ret (v:= .tuple #[.int .i64 r, .agg #[.int .i64 d.1, .slice As d.2.length cs']]) (by simp[results,Tryz.results98,go_sem,q0,q1,ql]) rfl ⟨r,_,d,rfl,⟨hr1,hr3⟩,by rw[HAL.out];exact HD.out,hi,O9.out.mono (by omega),IJ.out.cur,IJ.out.tr⟩
theorem MBx.set0 {w:World} {p:Nat} {x y:Value} (h:MBx w p x y) (a:Value):MBx (w.setCell ⟨p,0,none⟩ a) p a y:=
 ⟨World.cell?_setCell_same _ _ _ h.c0,(World.cell?_setCell_other _ _ _ _ (by simp)).trans h.c1,fun j=>by rw[World.frozen?_setCell];exact h.fz j,by simpa using h.lt⟩
theorem MBx.set1 {w:World} {p:Nat} {x y:Value} (h:MBx w p x y) (a:Value):MBx (w.setCell ⟨p,1,none⟩ a) p x a:=
 ⟨(World.cell?_setCell_other _ _ _ _ (by simp)).trans h.c0,World.cell?_setCell_same _ _ _ h.c1,fun j=>by rw[World.frozen?_setCell];exact h.fz j,by simpa using h.lt⟩
theorem MBx.one {w:World} {p q j:Nat} {x y v:Value} (h:MBx w p x y) (hne:p≠q):MBx (w.setCell ⟨q,j,none⟩ v) p x y:=by
 have hp:(w.setCell ⟨q,j,none⟩ v).heap[p]? =w.heap[p]? :=Below.heap_setCell _ _ _ p hne
 exact⟨(World.cell?_of_block (w:=w) hp).trans h.c0,(World.cell?_of_block (w:=w) hp).trans h.c1,fun j=>(World.frozen?_of_block (w:=w) hp).trans (h.fz j),by simpa using h.lt⟩
theorem MBx.grown {w w':World} {p:Nat} {x y:Value} {row:Option Nat} (h:MBx w p x y) (hg:w.grownBy w' row) (hr: ∀b,row=some b→b≠p):MBx w' p x y:=by
 have hp:=hg.block p h.lt fun e=>hr p e.symm rfl
 exact⟨(World.cell?_of_block (w:=w) hp).trans h.c0,(World.cell?_of_block (w:=w) hp).trans h.c1,fun j=>(World.frozen?_of_block (w:=w) hp).trans (h.fz j),Nat.lt_of_lt_of_le h.lt hg.size⟩
theorem allWh_small:(List.range 4).all (fun n=>(allWh n).all fun d=>decide (d.2.length≤4))=true:=by decide
set_option maxRecDepth 100000 in
set_option maxHeartbeats 4000000 in
theorem l21Any_any (p:Nat) (A:Option Addr) (cap:Nat) (cs:List Int) (w:World) (h:Cur p A cap cs w):
  Calls Tryz.prog 50 #[.pointer (some ⟨p,0,none⟩)] w fun e w'=> ∃(r:Int) (s:Value) (d:WhD),e= .returned (.tuple #[.int .i64 r, .agg #[.int .i64 d.1,s]])∧(-1≤r∧r≤5)∧(I64 d.1∧d.2.length≤5)∧OwI w' w.heap.size s d.2∧Cur p A cap cs w'∧Tr p (p+1) w w':=by
 have H:=hDD h
 have hp:=h.lt
 clear h
 obtain⟨W0,hW0⟩: ∃W,W=w.alloc (Obj.cells #[Value.int IntKind.i64 0, .slice none 0 0] 26):=⟨_,rfl⟩
 obtain⟨xb,b0,s0⟩:=MBx.new hW0
 have XB:=hDD xb
 have I0:Hid (DrI p A cap cs w W0):=hDD ((DrI.refl H.out).bel b0)
 clear xb b0
 go_enter Tryz.func50,Tryz.ntmps50
 go_wp2_with fail
 rw[←hW0]
 clear hW0
 refine(l21White_any p A cap cs _ I0.out.cur).mono ?_
 rintro e w1 ⟨r,sv,⟨d1,ds⟩,rfl,⟨hr1,hr3⟩,hd,hi,ho,c1,t1⟩
 have hd4:ds.length≤4:=by
  have h1:=List.all_eq_true.1 allWh_small r.toNat (List.mem_range.2 (by omega))
  have h2:=List.all_eq_true.1 h1 (d1,ds) (by rw[Int.toNat_of_nonneg (by omega)];exact hd)
  exact of_decide_eq_true h2
 simp only at hi ho
 obtain⟨As,cs',rfl,_⟩:=ho.form
 have ht1:=t1.size
 obtain⟨W2,hW2⟩: ∃W,W=w1.alloc (Obj.cells #[Value.int IntKind.i64 d1, .slice As ds.length cs'] 26):=⟨_,rfl⟩
 obtain⟨yb,b2,s2⟩:=MBx.new hW2
 have I2:Hid (DrI p A cap cs w W2):=hDD ((I0.out.to t1 c1).bel b2)
 have X2:=hDD ((XB.out.trP t1 (by omega)).below b2)
 have Y2:=hDD yb
 have HB:Hid (∀b,(Value.slice As ds.length cs').ownBlock=some b→w.heap.size<b∧b<w1.heap.size):=hDD fun b hb=>by
  have:=ho.1.lt b hb
  omega
 have O2:=hDD ((ho.mono (show w.heap.size+1≤W0.heap.size by omega)).below b2)
 have hq:w.heap.size<w1.heap.size:=by omega
 have hq2:w1.heap.size<W2.heap.size:=by omega
 clear XB I0 c1 t1 hd ho yb b2 s2 s0 ht1
 go_wp2_with fail
 rw[←hW2]
 clear hW2
 generalize w1.heap.size=q at*
 refine(l1Below_any p A cap cs 10 _ I2.out.cur (by omega) (by omega)).mono ?_
 rintro e w3 ⟨y,rfl,⟨y0,y9⟩,c3,t3⟩
 have I3:=hDD (I2.out.to t3 c3)
 have X3:=hDD (X2.out.trP t3 (by omega))
 have Y3:=hDD (Y2.out.trP t3 (by omega))
 have O3:=hDD (O2.out.trP t3 (by omega))
 have hq3:q<w3.heap.size:=Nat.lt_of_lt_of_le hq2 t3.size
 clear c3 t3 I2 X2 Y2 O2 hq2
 have hyc:y=0∨y=1∨y=2∨(¬y=0∧ ¬y=1∧ ¬y=2):=by omega
 rcases hyc with rfl | rfl | rfl | ⟨h0,h1,h2⟩
 ·go_wp2_with fail
  refine(l1Below_any p A cap cs 6 _ I3.out.cur (by omega) (by omega)).mono ?_
  rintro e w4 ⟨x,rfl,⟨x0,x1⟩,c4,t4⟩
  have I4:=hDD (I3.out.to t4 c4)
  have X4:=hDD (X3.out.trP t4 (by omega))
  have Y4:=hDD (Y3.out.trP t4 (by omega))
  have O4:=hDD (O3.out.trP t4 (by omega))
  have hwx:IntKind.i64.wrap (x-1)=x-1:=by rw[IntKind.wrap_i64];omega
  clear c4 t4 I3 X3 Y3 O3
  go_wp2_with fail
  refine wp_region_genG2 [] [.val (.int .i64 (x-1)), .val (.agg #[.int .i64 d1, .slice As ds.length cs']), .val (.int .i64 (x-1)), .mem (fun _ W _=>MBx W w.heap.size (.int .i64 d1) (.slice As ds.length cs'))]
   [none,none,none,some (fun W W'=> ∃x y,W'=(W.setCell ⟨w.heap.size,0,none⟩ x).setCell ⟨w.heap.size,1,none⟩ y)]
   (fun W=>DrI p A cap cs w W∧MBx W q (.int .i64 d1) (.slice As ds.length cs')∧OwI W (w.heap.size+1) (.slice As ds.length cs') (ds)∧ ∃x y,MBx W w.heap.size x y) (fun _=>True) [] [] (by kernel_rfl) (by kernel_rfl) (by kernel_rfl)
   trivial (by rfl) (by rfl) ⟨I4.out.bel (Below.refl _ _).drew,Y4.out.below (Below.refl _ _).drew,O4.out.below (Below.refl _ _).drew,_,_,X4.out.below (Below.refl _ _).drew⟩ trivial
   ⟨fun W _ h t=>by obtain⟨x,y,rfl⟩:=t;exact⟨h.1.hi H.out (Nat.le_refl _) (set2_below _ _ (Below.refl _ _) (Nat.le_refl _)),(h.2.1.one (by omega)).one (by omega),h.2.2.1.keepB fun b hb=>set2_heap _ _ _ _ (by have:=(h.2.2.1.1.lt b hb).1;omega),by obtain⟨a,b,hx⟩:=h.2.2.2;exact⟨_,_,hx.setv _ _⟩⟩,trivial⟩ (itD_nil _ 0)
   trivial (fun vs=> ?_)
  refine⟨fun W' K' Q0 hI hD hK=> ?_,?_⟩
  ·skip
   go_simp
   exact hK.out _ _ rfl rfl
  simp only[Act.put,List.setIfInBounds_toArray,List.set_cons_zero,List.set_cons_succ,Sg.pick,Nat.reduceAdd]
  refine⟨fun W' K' Q0 hI hD hK=> ?_,?_⟩
  ·have z0:=hI.out.1.2.1.c0
   have z1:=hI.out.1.2.1.c1
   go_simp
   exact hK.out _ _ rfl rfl
  simp only[Act.put,List.setIfInBounds_toArray,List.set_cons_zero,List.set_cons_succ,Sg.pick,Nat.reduceAdd]
  refine⟨fun W' K' Q0 hI hD hK=> ?_,?_⟩
  ·skip
   go_simp
   exact hK.out _ _ rfl rfl
  simp only[Act.put,List.setIfInBounds_toArray,List.set_cons_zero,List.set_cons_succ,Sg.pick,Nat.reduceAdd]
  refine⟨fun W' K' Q0 hI hD hK=> ?_,?_⟩
  ·obtain⟨_,_,_,a,b,hbx⟩:=id hI.out.1
   have z0:=hbx.c0
   have z1:=hbx.c1
   have u0:=hbx.fz 0
   have u1:=hbx.fz 1
   go_simp
   exact hK.out undef _ ⟨_,_,rfl⟩ (hbx.setv _ _)
  simp only[Act.put,List.setIfInBounds_toArray,List.set_cons_zero,List.set_cons_succ,Sg.pick,Nat.reduceAdd]
  intro W9 hI9 hD9
  have I9:=hDD hI9.out.1
  have hbx:=(show MBx W9 w.heap.size (.int .i64 d1) (.slice As ds.length cs') from hD9.out 3 (by decide))
  have IJ:=hDD I9.out.1
  have O9:=hDD I9.out.2.2.1
  have q0:=hbx.c0
  have q1:=hbx.c1
  have ql:=hbx.lt
  clear hI9 hD9 hbx I9
  go_wp2
  exact bodyPost_ret (v:= .tuple #[.int .i64 ((x-1)), .agg #[.int .i64 d1, .slice As ds.length cs']]) (by simp[results,Tryz.results50,go_sem,q0,q1,ql]) rfl ⟨(x-1),_,(d1,ds),rfl,⟨by omega,by omega⟩,⟨hi,by simp;omega⟩,O9.out.mono (by omega),IJ.out.cur,IJ.out.tr⟩
 ·go_wp2_with fail
  refine(l1Below_any p A cap cs 9 _ I3.out.cur (by omega) (by omega)).mono ?_
  rintro e w4 ⟨x,rfl,⟨x0,x1⟩,c4,t4⟩
  have I4:=hDD (I3.out.to t4 c4)
  have X4:=hDD (X3.out.trP t4 (by omega))
  have Y4:=hDD (Y3.out.trP t4 (by omega))
  have O4:=hDD (O3.out.trP t4 (by omega))
  have hwx:IntKind.i64.wrap (x-4)=x-4:=by rw[IntKind.wrap_i64];omega
  clear c4 t4 I3 X3 Y3 O3
  have z0:=Y4.out.c0
  have z1:=Y4.out.c1
  have zf:=Y4.out.fz
  go_wp2_with fail
  have Y5:=hDD (Y4.out.set0 (.int .i64 (x-4)))
  have X5:=hDD (X4.out.one (q:=q) (j:=0) (v:= .int .i64 (x-4)) (by omega))
  have I5:=hDD (I4.out.hi H.out (Nat.le_refl _) (show Below w.heap.size w4 (w4.setCell ⟨q,0,none⟩ (.int .i64 (x-4))) from(Below.refl w.heap.size w4).setCell (by show w.heap.size≤q;omega) _))
  have O5:=hDD (O4.out.keepB (w':=w4.setCell ⟨q,0,none⟩ (.int .i64 (x-4))) fun b hb=>Below.heap_setCell _ _ _ b (by show b≠q;have:=HB.out b hb;omega))
  generalize w4.setCell ⟨q,0,none⟩ (.int .i64 (x-4))=w5 at*
  clear z0 z1 zf Y4 X4 I4 O4
  refine wp_region_genG2 [] [.val (.int .i64 r), .val (.agg #[.int .i64 (x-4), .slice As ds.length cs']), .val (.int .i64 r), .mem (fun _ W _=>MBx W w.heap.size (.int .i64 (x-4)) (.slice As ds.length cs'))]
   [none,none,none,some (fun W W'=> ∃x y,W'=(W.setCell ⟨w.heap.size,0,none⟩ x).setCell ⟨w.heap.size,1,none⟩ y)]
   (fun W=>DrI p A cap cs w W∧MBx W q (.int .i64 (x-4)) (.slice As ds.length cs')∧OwI W (w.heap.size+1) (.slice As ds.length cs') (ds)∧ ∃x y,MBx W w.heap.size x y) (fun _=>True) [] [] (by kernel_rfl) (by kernel_rfl) (by kernel_rfl)
   trivial (by rfl) (by rfl) ⟨I5.out.bel (Below.refl _ _).drew,Y5.out.below (Below.refl _ _).drew,O5.out.below (Below.refl _ _).drew,_,_,X5.out.below (Below.refl _ _).drew⟩ trivial
   ⟨fun W _ h t=>by obtain⟨x,y,rfl⟩:=t;exact⟨h.1.hi H.out (Nat.le_refl _) (set2_below _ _ (Below.refl _ _) (Nat.le_refl _)),(h.2.1.one (by omega)).one (by omega),h.2.2.1.keepB fun b hb=>set2_heap _ _ _ _ (by have:=(h.2.2.1.1.lt b hb).1;omega),by obtain⟨a,b,hx⟩:=h.2.2.2;exact⟨_,_,hx.setv _ _⟩⟩,trivial⟩ (itD_nil _ 0)
   trivial (fun vs=> ?_)
  refine⟨fun W' K' Q0 hI hD hK=> ?_,?_⟩
  ·skip
   go_simp
   exact hK.out _ _ rfl rfl
  simp only[Act.put,List.setIfInBounds_toArray,List.set_cons_zero,List.set_cons_succ,Sg.pick,Nat.reduceAdd]
  refine⟨fun W' K' Q0 hI hD hK=> ?_,?_⟩
  ·have z0:=hI.out.1.2.1.c0
   have z1:=hI.out.1.2.1.c1
   go_simp
   exact hK.out _ _ rfl rfl
  simp only[Act.put,List.setIfInBounds_toArray,List.set_cons_zero,List.set_cons_succ,Sg.pick,Nat.reduceAdd]
  refine⟨fun W' K' Q0 hI hD hK=> ?_,?_⟩
  ·skip
   go_simp
   exact hK.out _ _ rfl rfl
  simp only[Act.put,List.setIfInBounds_toArray,List.set_cons_zero,List.set_cons_succ,Sg.pick,Nat.reduceAdd]
  refine⟨fun W' K' Q0 hI hD hK=> ?_,?_⟩
  ·obtain⟨_,_,_,a,b,hbx⟩:=id hI.out.1
   have z0:=hbx.c0
   have z1:=hbx.c1
   have u0:=hbx.fz 0
   have u1:=hbx.fz 1
   go_simp
   exact hK.out undef _ ⟨_,_,rfl⟩ (hbx.setv _ _)
  simp only[Act.put,List.setIfInBounds_toArray,List.set_cons_zero,List.set_cons_succ,Sg.pick,Nat.reduceAdd]
  intro W9 hI9 hD9
  have I9:=hDD hI9.out.1
  have hbx:=(show MBx W9 w.heap.size (.int .i64 (x-4)) (.slice As ds.length cs') from hD9.out 3 (by decide))
  have IJ:=hDD I9.out.1
  have O9:=hDD I9.out.2.2.1
  have q0:=hbx.c0
  have q1:=hbx.c1
  have ql:=hbx.lt
  clear hI9 hD9 hbx I9
  go_wp2
  exact bodyPost_ret (v:= .tuple #[.int .i64 (r), .agg #[.int .i64 (x-4), .slice As ds.length cs']]) (by simp[results,Tryz.results50,go_sem,q0,q1,ql]) rfl ⟨r,_,((x-4),ds),rfl,⟨by omega,by omega⟩,⟨⟨by omega,by omega⟩,by simp;omega⟩,O9.out.mono (by omega),IJ.out.cur,IJ.out.tr⟩
 ·have z0:=Y3.out.c0
  have z1:=Y3.out.c1
  have zf:=Y3.out.fz
  have HO:=hDD (OwI_lit w3 [] I64s_nil (by simp) (Nat.le_refl _))
  go_wp2_with (first
   | (at_builtin;refine append_ints rfl (.tmp 26) (.tmp 28) rfl w3.heap.size _ [] HO.out rfl _ ds (O3.out.rd.alloc _) rfl (by(try simp);omega) (by simp) ?_;intro v6 w6 o6 g6 p6;have O6:Hid (OwI w6 w3.heap.size v6 ds):=hDD (by simpa using o6);have B6:=hDD (((Below.refl w3.heap.size w3).alloc (Nat.le_refl _) _).grown g6 (by simp) (fun k hk=>by simp[Value.ownBlock] at hk;omega));have s6:=B6.out.size;obtain⟨A6,m6,c6,rfl⟩:=o6.any2;have I6:=hDD (I3.out.bel B6.out);have X6:=hDD (X3.out.below B6.out);have Y6:=hDD (Y3.out.below B6.out);clear o6 g6 p6)
   | (go_at_call 80;(with_reducible refine(l1Below_any p A cap cs 9 _ I6.out.cur (by omega) (by omega)).mono ?_);rintro e w4 ⟨x,rfl,⟨x0,x1⟩,c4,t4⟩;have I4:=hDD (I6.out.to t4 c4);have X4:=hDD (X6.out.trP t4 (by omega));have Y4:=hDD (Y6.out.trP t4 (by omega));have O4:=hDD (O6.out.trP t4 (by omega));have hwx:IntKind.i64.wrap (x-4)=x-4:=(by rw[IntKind.wrap_i64];omega);have HX:Hid (I64 (x-4)):=hDD ⟨by omega,by omega⟩;clear z0 z1 zf;have z0:=Y4.out.c0;have z1:=Y4.out.c1;have zf:=Y4.out.fz;have s4:=t4.size;clear c4 t4)
   | ((at_builtin;refine push_int rfl (.tmp 29) (.tmp 33) rfl _ _ _ (OwI.alloc O4.out _) rfl _ _ rfl (cell_new1 _ _ _) HX.out (by first | omega | (simp<;>omega)) (by first | omega | (simp<;>omega)) ?_;intro v7 wv7 o7 g7 p7);have O7:=hDD o7;have hn7:(ds++ [x-4]).length≤5:=(by simp;omega);have X7:=hDD ((X4.out.below ((Below.refl _ _).alloc (Nat.le_refl _) _)).grown g7 (fun b hb=>by have:=(O4.out.1.lt b hb).1;omega));have Y7:=hDD ((Y4.out.below ((Below.refl _ _).alloc (Nat.le_refl _) _)).grown g7 (fun b hb=>by have:=(O4.out.1.lt b hb).1;omega));have I7:=hDD ((I4.out.bel ((Below.refl _ _).alloc (Nat.le_refl _) _)).grow H.out g7 (fun b hb=>by have:=(O4.out.1.lt b hb).1;omega));obtain⟨A7,m7,c7,rfl⟩:=o7.any2;clear z0 z1 zf o7 g7 p7;have z0:=Y7.out.c0;have z1:=Y7.out.c1;have zf:=Y7.out.fz))
  generalize ds++ [x-4]=dx at*
  have Y8:=hDD (Y7.out.set1 (.slice A7 m7 c7))
  have X8:=hDD (X7.out.one (q:=q) (j:=1) (v:= .slice A7 m7 c7) (by omega))
  have I8:=hDD (I7.out.hi H.out (Nat.le_refl _) (show Below w.heap.size wv7 (wv7.setCell ⟨q,1,none⟩ (.slice A7 m7 c7)) from(Below.refl w.heap.size wv7).setCell (by show w.heap.size≤q;omega) _))
  have O8:=hDD ((O7.out.mono (show w.heap.size+1≤w3.heap.size by omega)).keepB (w':=wv7.setCell ⟨q,1,none⟩ (.slice A7 m7 c7)) fun b hb=>Below.heap_setCell _ _ _ b (by show b≠q;have:=(O7.out.1.lt b hb).1;omega))
  generalize wv7.setCell ⟨q,1,none⟩ (.slice A7 m7 c7)=w8 at*
  clear z0 z1 zf Y7 X7 I7 O7 Y4 X4 I4 O4 X6 Y6 I6 O6 X3 Y3 I3 O3 HO
  refine wp_region_genG2 [] [.val (.int .i64 r), .val (.agg #[.int .i64 d1, .slice A7 m7 c7]), .val (.int .i64 r), .mem (fun _ W _=>MBx W w.heap.size (.int .i64 d1) (.slice A7 m7 c7))]
   [none,none,none,some (fun W W'=> ∃x y,W'=(W.setCell ⟨w.heap.size,0,none⟩ x).setCell ⟨w.heap.size,1,none⟩ y)]
   (fun W=>DrI p A cap cs w W∧MBx W q (.int .i64 d1) (.slice A7 m7 c7)∧OwI W (w.heap.size+1) (.slice A7 m7 c7) (dx)∧ ∃x y,MBx W w.heap.size x y) (fun _=>True) [] [] (by kernel_rfl) (by kernel_rfl) (by kernel_rfl)
   trivial (by rfl) (by rfl) ⟨I8.out.bel (Below.refl _ _).drew,Y8.out.below (Below.refl _ _).drew,O8.out.below (Below.refl _ _).drew,_,_,X8.out.below (Below.refl _ _).drew⟩ trivial
   ⟨fun W _ h t=>by obtain⟨x,y,rfl⟩:=t;exact⟨h.1.hi H.out (Nat.le_refl _) (set2_below _ _ (Below.refl _ _) (Nat.le_refl _)),(h.2.1.one (by omega)).one (by omega),h.2.2.1.keepB fun b hb=>set2_heap _ _ _ _ (by have:=(h.2.2.1.1.lt b hb).1;omega),by obtain⟨a,b,hx⟩:=h.2.2.2;exact⟨_,_,hx.setv _ _⟩⟩,trivial⟩ (itD_nil _ 0)
   trivial (fun vs=> ?_)
  refine⟨fun W' K' Q0 hI hD hK=> ?_,?_⟩
  ·skip
   go_simp
   exact hK.out _ _ rfl rfl
  simp only[Act.put,List.setIfInBounds_toArray,List.set_cons_zero,List.set_cons_succ,Sg.pick,Nat.reduceAdd]
  refine⟨fun W' K' Q0 hI hD hK=> ?_,?_⟩
  ·have z0:=hI.out.1.2.1.c0
   have z1:=hI.out.1.2.1.c1
   go_simp
   exact hK.out _ _ rfl rfl
  simp only[Act.put,List.setIfInBounds_toArray,List.set_cons_zero,List.set_cons_succ,Sg.pick,Nat.reduceAdd]
  refine⟨fun W' K' Q0 hI hD hK=> ?_,?_⟩
  ·skip
   go_simp
   exact hK.out _ _ rfl rfl
  simp only[Act.put,List.setIfInBounds_toArray,List.set_cons_zero,List.set_cons_succ,Sg.pick,Nat.reduceAdd]
  refine⟨fun W' K' Q0 hI hD hK=> ?_,?_⟩
  ·obtain⟨_,_,_,a,b,hbx⟩:=id hI.out.1
   have z0:=hbx.c0
   have z1:=hbx.c1
   have u0:=hbx.fz 0
   have u1:=hbx.fz 1
   go_simp
   exact hK.out undef _ ⟨_,_,rfl⟩ (hbx.setv _ _)
  simp only[Act.put,List.setIfInBounds_toArray,List.set_cons_zero,List.set_cons_succ,Sg.pick,Nat.reduceAdd]
  intro W9 hI9 hD9
  have I9:=hDD hI9.out.1
  have hbx:=(show MBx W9 w.heap.size (.int .i64 d1) (.slice A7 m7 c7) from hD9.out 3 (by decide))
  have IJ:=hDD I9.out.1
  have O9:=hDD I9.out.2.2.1
  have q0:=hbx.c0
  have q1:=hbx.c1
  have ql:=hbx.lt
  clear hI9 hD9 hbx I9
  go_wp2
  exact bodyPost_ret (v:= .tuple #[.int .i64 (r), .agg #[.int .i64 d1, .slice A7 m7 c7]]) (by simp[results,Tryz.results50,go_sem,q0,q1,ql]) rfl ⟨r,_,(d1,dx),rfl,⟨by omega,by omega⟩,⟨hi,by simp;omega⟩,O9.out.mono (by omega),IJ.out.cur,IJ.out.tr⟩
 ·have e0:(y==0)=false:=by simpa using h0
  have e1:(y==1)=false:=by simpa using h1
  have e2:(y==2)=false:=by simpa using h2
  clear h0 h1 h2
  go_wp2_with fail
  refine wp_region_genG2 [] [.val (.int .i64 r), .val (.agg #[.int .i64 d1, .slice As ds.length cs']), .val (.int .i64 r), .mem (fun _ W _=>MBx W w.heap.size (.int .i64 d1) (.slice As ds.length cs'))]
   [none,none,none,some (fun W W'=> ∃x y,W'=(W.setCell ⟨w.heap.size,0,none⟩ x).setCell ⟨w.heap.size,1,none⟩ y)]
   (fun W=>DrI p A cap cs w W∧MBx W q (.int .i64 d1) (.slice As ds.length cs')∧OwI W (w.heap.size+1) (.slice As ds.length cs') (ds)∧ ∃x y,MBx W w.heap.size x y) (fun _=>True) [] [] (by kernel_rfl) (by kernel_rfl) (by kernel_rfl)
   trivial (by rfl) (by rfl) ⟨I3.out.bel (Below.refl _ _).drew,Y3.out.below (Below.refl _ _).drew,O3.out.below (Below.refl _ _).drew,_,_,X3.out.below (Below.refl _ _).drew⟩ trivial
   ⟨fun W _ h t=>by obtain⟨x,y,rfl⟩:=t;exact⟨h.1.hi H.out (Nat.le_refl _) (set2_below _ _ (Below.refl _ _) (Nat.le_refl _)),(h.2.1.one (by omega)).one (by omega),h.2.2.1.keepB fun b hb=>set2_heap _ _ _ _ (by have:=(h.2.2.1.1.lt b hb).1;omega),by obtain⟨a,b,hx⟩:=h.2.2.2;exact⟨_,_,hx.setv _ _⟩⟩,trivial⟩ (itD_nil _ 0)
   trivial (fun vs=> ?_)
  refine⟨fun W' K' Q0 hI hD hK=> ?_,?_⟩
  ·skip
   go_simp
   exact hK.out _ _ rfl rfl
  simp only[Act.put,List.setIfInBounds_toArray,List.set_cons_zero,List.set_cons_succ,Sg.pick,Nat.reduceAdd]
  refine⟨fun W' K' Q0 hI hD hK=> ?_,?_⟩
  ·have z0:=hI.out.1.2.1.c0
   have z1:=hI.out.1.2.1.c1
   go_simp
   exact hK.out _ _ rfl rfl
  simp only[Act.put,List.setIfInBounds_toArray,List.set_cons_zero,List.set_cons_succ,Sg.pick,Nat.reduceAdd]
  refine⟨fun W' K' Q0 hI hD hK=> ?_,?_⟩
  ·skip
   go_simp
   exact hK.out _ _ rfl rfl
  simp only[Act.put,List.setIfInBounds_toArray,List.set_cons_zero,List.set_cons_succ,Sg.pick,Nat.reduceAdd]
  refine⟨fun W' K' Q0 hI hD hK=> ?_,?_⟩
  ·obtain⟨_,_,_,a,b,hbx⟩:=id hI.out.1
   have z0:=hbx.c0
   have z1:=hbx.c1
   have u0:=hbx.fz 0
   have u1:=hbx.fz 1
   go_simp
   exact hK.out undef _ ⟨_,_,rfl⟩ (hbx.setv _ _)
  simp only[Act.put,List.setIfInBounds_toArray,List.set_cons_zero,List.set_cons_succ,Sg.pick,Nat.reduceAdd]
  intro W9 hI9 hD9
  have I9:=hDD hI9.out.1
  have hbx:=(show MBx W9 w.heap.size (.int .i64 d1) (.slice As ds.length cs') from hD9.out 3 (by decide))
  have IJ:=hDD I9.out.1
  have O9:=hDD I9.out.2.2.1
  have q0:=hbx.c0
  have q1:=hbx.c1
  have ql:=hbx.lt
  clear hI9 hD9 hbx I9
  go_wp2
  exact bodyPost_ret (v:= .tuple #[.int .i64 (r), .agg #[.int .i64 d1, .slice As ds.length cs']]) (by simp[results,Tryz.results50,go_sem,q0,q1,ql]) rfl ⟨r,_,(d1,ds),rfl,⟨by omega,by omega⟩,⟨hi,by simp;omega⟩,O9.out.mono (by omega),IJ.out.cur,IJ.out.tr⟩
end Go.Proofs.YtlgcflpaekbopaaGreat
namespace Go.Proofs.YtlgcflpaekbopaaGreat
set_option maxRecDepth 20000
set_option linter.unusedVariables false
set_option linter.unusedSimpArgs false
open Go.RowKit
theorem Tr.bwP {p:Nat} {w w1 w':World} (h:Below w.heap.size w w1) (ht:Tr p (p+1) w1 w') (hp:w.heap.size≤p):Below w.heap.size w w':=
 h.trans ⟨ht.os,ht.tape,ht.output,ht.size,fun b hb=>ht.block b (by have:=h.size;omega) (by omega)⟩
theorem argC_bel {w W:World} {v:Value} {cs:List Int} (h:ArgC w v cs) (hb:Below w.heap.size w W):ArgC W v cs:=by
 obtain⟨A,cap,e,h1,h2,h3,h4⟩:=h
 exact⟨A,cap,e,h1,h2,h3,fun h0=>by
  obtain⟨b,off,hA,hc⟩:=h4 h0
  exact⟨b,off,hA,fun i hi=>(hb.cell (p:=⟨b,off+i,none⟩) (lt_cell (hc 0 h0))).trans (hc i hi)⟩⟩
set_option maxRecDepth 100000 in
set_option maxHeartbeats 4000000 in
theorem l21Word_any (p:Nat) (A:Option Addr) (cap:Nat) (cs:List Int) (w:World) (h:Cur p A cap cs w):
  Calls Tryz.prog 109 #[.pointer (some ⟨p,0,none⟩)] w fun e w'=> ∃(r:Int) (v:Value) (xs:List Int),e= .returned (.tuple #[.int .i64 r,v])∧(1≤r∧r≤3)∧OwI w' w.heap.size v xs∧xs.length≤12∧Cur p A cap cs w'∧Tr p (p+1) w w':=by
 have H:=hDD h
 have hp:=h.lt
 clear h
 have RA:Hid (RdI (w.alloc (Obj.cells #[.int .i64 1, .int .i64 2, .int .i64 2, .int .i64 2, .int .i64 3] 3)) (.slice (some ⟨w.heap.size,0,none⟩) 5 5) [1,2,2,2,3]):=hDD (OwI_lit w [1,2,2,2,3] (by intro y hy;simp at hy;rcases hy with rfl | rfl | rfl<;>(unfold I64;omega)) (by simp) (Nat.le_refl _)).rd
 have IA:Hid (DrI p A cap cs w (w.alloc (Obj.cells #[.int .i64 1, .int .i64 2, .int .i64 2, .int .i64 2, .int .i64 3] 3))):=hDD ((DrI.refl H.out).bel ((Below.refl _ _).alloc (Nat.le_refl _) _))
 have hneA:(Value.slice (some ⟨w.heap.size,0,none⟩) 5 5).ownBlock≠some p:=fun e=>by simp[Value.ownBlock] at e;omega
 go_enter Tryz.func109,Tryz.ntmps109
 go_wp2_with fail
 (with_reducible refine(l1PickInt_any p A cap cs _ [1,2,2,2,3] _ IA.out.cur RA.out hneA (by simp) (by simp)).mono ?_)
 rintro e w1 ⟨r,rfl,hr,c1,t1⟩
 have I1:=hDD (IA.out.to t1 c1)
 have hr1:1≤r:=by simp at hr;omega
 have hr3:r≤3:=by simp at hr;omega
 clear c1 t1 IA RA hr hneA
 have z1:=I1.out.tr.size
 go_wp2_with fail
 refine(l2Of_any p A cap cs r 4 _ I1.out.cur hr1 hr3 (by omega) (by omega)).mono ?_
 rintro e w2 ⟨xv,xs0,rfl,ox,⟨hxl,-,-⟩,c2,t2⟩
 have I2:=hDD (I1.out.to t2 c2)
 have O2:=hDD (ox.mono z1)
 obtain⟨Ax,mx,cx,rfl⟩:=ox.any2
 have hx4:xs0.length≤12:=by omega
 clear c2 t2 ox hxl I1
 go_wp2_with fail
 refine(l1Below_any p A cap cs 3 _ I2.out.cur (by omega) (by omega)).mono ?_
 rintro e w3 ⟨n0,rfl,⟨n1,n2⟩,c3,t3⟩
 have I3:=hDD (I2.out.to t3 c3)
 have O3:=hDD (O2.out.trP t3 hp)
 clear c3 t3 I2 O2
 go_wp2_with fail
 go_loopw [5,6] (fun wv nv wr=> ∃(k:Int) (xs:List Int),nv= .int .i64 k∧0≤k∧k≤2∧xs.length≤12∧OwI wr w.heap.size wv xs∧DrI p A cap cs w wr) (fun _ nv _=>(intOf nv).toNat)
 case atStart=>exact⟨n0,xs0,rfl,n1,by omega,hx4,O3.out,I3.out⟩
 case round=>
  obtain⟨k,xs,rfl,hk0,hk2,hl12,hO,hI⟩:=hrel
  have HO:=hDD hO
  have HI:=hDD hI
  have hsz:=hI.tr.size
  obtain⟨Aw,cw,rfl,_⟩:=hO.form
  clear hO hI I3 O3
  by_cases hlt:0<k
  ·have hwk:IntKind.i64.wrap (k-1)=k-1:=by rw[IntKind.wrap_i64];omega
   have hlp:=allWh_pos ⟨hr1,hr3⟩
   go_wp2_with fail
   refine(specAllWhitehead_any r _).mono ?_
   rintro e w4 ⟨lv,rfl,ol,b4⟩
   obtain⟨Al,cl,rfl,hcl,hml⟩:=ol.len
   have I4:=hDD (HI.out.bel b4)
   have O4:=hDD (HO.out.below b4)
   have hs4:=b4.size
   have OL:=hDD ol
   clear b4 ol
   unfold maxLen at hml
   have HAL:Hid (∀d∈allWh r,d.2.length≤4):=hDD fun d hd=>by
    have h1:=List.all_eq_true.1 allWh_small r.toNat (List.mem_range.2 (by omega))
    have h2:=List.all_eq_true.1 h1 d (by rw[Int.toNat_of_nonneg (by omega)];exact hd)
    exact of_decide_eq_true h2
   generalize allWh r=L at*
   go_wp2_with fail
   refine(l1Below_any p A cap cs L.length _ I4.out.cur (by omega) (by omega)).mono ?_
   rintro e w5 ⟨y,rfl,⟨y0,y1⟩,c5,t5⟩
   obtain⟨j,rfl⟩: ∃j:Nat,y=j:=⟨y.toNat,by omega⟩
   have hj:j<L.length:=by omega
   have I5:=hDD (I4.out.to t5 c5)
   have O5:=hDD (O4.out.trP t5 hp)
   obtain⟨g,s,rfl,hg,q0,q1,hi,ho⟩:=wh_row (OwnL.keep OL.out EWh.stable fun b hb hb'=>t5.block b (by omega) (by omega)) hj
   have hd4:=HAL.out _ (List.getElem_mem hj)
   obtain⟨As,cs',rfl,_⟩:=ho.form
   have HAW:Hid (ArgWh w5 (.agg #[.int .i64 L[j].1, .slice As L[j].2.length cs']) L[j]):=hDD ⟨_,rfl,hi,ho.arg⟩
   clear c5 t5 I4 O4 OL HAL ho hi
   have z5:=I5.out.tr.size
   generalize L[j]=d at*
   go_wp2_with fail
   refine(specWhiteheadMorphism_any r _ d _ ⟨by omega,by omega⟩ HAW.out (by omega)).mono ?_
   rintro e w6 ⟨s6,rfl,o6,b6⟩
   have I6:=hDD (I5.out.bel b6)
   have O6:=hDD (O5.out.below b6)
   obtain⟨A6,c6,rfl,_⟩:=o6.len
   have hM:=whM_imgs r d
   obtain⟨W7,hW7⟩: ∃W,W=w6.alloc (Obj.cells #[Value.int IntKind.i64 (whM r d).1, .slice A6 (whM r d).2.length c6] 31):=⟨_,rfl⟩
   obtain⟨x7,b7,s7⟩:=MBx.new hW7
   have I7:=hDD (I6.out.bel b7)
   have O7:=hDD (O6.out.below b7)
   have R7:=hDD (o6.rd.below b7)
   have e0:=x7.c0
   have e1:=x7.c1
   clear o6 b6 b7 s7 x7 q0 q1 HAW I5 O5 I6 O6
   generalize (whM r d).1=m1 at*
   generalize (whM r d).2=B at*
   go_wp2_with fail
   rw[←hW7]
   clear hW7
   refine(specExpandBy_any _ _ B xs _ R7.out O7.out.rd (by omega) (fun b hb=>by have:=hM.2 b hb;omega) (by omega)).mono ?_
   rintro e w8 ⟨x8,rfl,o8,b8⟩
   have I8:=hDD (I7.out.bel b8)
   have O8:=hDD (O7.out.below b8)
   have P8:=hDD (o8.mono I7.out.tr.size)
   obtain⟨A8,c8,rfl,_⟩:=o8.form
   clear o8 b8 I7 O7 R7 e0 e1
   generalize expL B xs=xe at*
   by_cases h12:xe.length≤12
   ·have h12I:(xe.length:Int)≤12:=by omega
    go_wp2
    go_roundw
    case rel=>exact⟨k-1,xe,by go_num,by omega,by omega,h12,P8.out,I8.out⟩
    case measure=>(simp[intOf];omega)
   ·have h12I: ¬(xe.length:Int)≤12:=by omega
    go_wp2
    go_roundw
    case rel=>exact⟨k-1,xs,by go_num,by omega,by omega,hl12,O8.out,I8.out⟩
    case measure=>(simp[intOf];omega)
  ·go_wp2
   exact bodyPost_ret (v:= .tuple #[.int .i64 r, .slice Aw xs.length cw]) (by simp[results,Tryz.results109,go_sem]) rfl (by first | exact⟨r,_,xs,rfl,⟨hr1,hr3⟩,HO.out,hl12,HI.out.cur,HI.out.tr⟩ | exact⟨r,_,rfl,⟨hr1,hr3⟩,xs,HO.out,hl12,HI.out.cur,HI.out.tr⟩)
set_option maxRecDepth 100000 in
set_option maxHeartbeats 4000000 in
theorem l21Both_any (v:Value) (cs:List Int) (w:World) (h:ArgC w v cs) (hl:cs.length≤1048576):
  Calls Tryz.prog 71 #[v] w fun e w'=> ∃(r:Int) (u:Value) (xs:List Int),e= .returned (.tuple #[.int .i64 r,u])∧(1≤r∧r≤3)∧OwI w' w.heap.size u xs∧xs.length≤13∧Below w.heap.size w w':=by
 have HN:=hDD (l1New_any v cs w h hl)
 clear h
 go_enter Tryz.func71,Tryz.ntmps71
 go_wp2_with fail
 refine HN.out.mono ?_
 rintro e w1 ⟨p,A,cap,rfl,c1,hp,b1⟩
 have C1:=hDD c1
 have B1:=hDD b1
 have s1:=b1.size
 clear c1 b1 HN
 go_wp2_with fail
 refine(l21Word_any p A cap cs _ C1.out).mono ?_
 rintro e w2 ⟨r,xv,xs,rfl,hr,ox,hxl,c2,t2⟩
 have C2:=hDD c2
 have B2:=hDD (Tr.bwP B1.out t2 hp)
 have O2:=hDD ox
 have s2:=B2.out.size
 have hpl:=C1.out.lt
 have z2:=t2.size
 obtain⟨Ax,mx,cx,rfl⟩:=ox.any2
 clear c2 t2 ox
 go_wp2_with fail
 refine(l1Once_any p A cap cs 12 _ C2.out (by omega) (by omega)).mono ?_
 rintro e w3 ⟨bb,rfl,c3,t3⟩
 have C3:=hDD c3
 have B3:=hDD (Tr.bwP B2.out t3 hp)
 have O3:=hDD (O2.out.trP t3 hpl)
 have s3:=B3.out.size
 have z3:=t3.size
 clear c3 t3 C2 O2 B2
 cases bb
 ·go_wp2
  exact bodyPost_ret (v:= .tuple #[.int .i64 r, .slice Ax mx cx]) (by simp[results,Tryz.results71,go_sem]) rfl ⟨r,_,xs,rfl,hr,O3.out.mono s1,by omega,B3.out⟩
 ·have RA:Hid (RdI (w3.alloc (Obj.cells #[.int .i64 0, .int .i64 4] 3)) (.slice (some ⟨w3.heap.size,0,none⟩) 2 2) [0,4]):=hDD (OwI_lit w3 [0,4] (by intro y hy;simp at hy;rcases hy with rfl | rfl<;>(unfold I64;omega)) (by simp) (Nat.le_refl _)).rd
  have CA:=hDD (C3.out.below ((Below.refl _ _).alloc (Nat.le_refl _) (Obj.cells #[.int .i64 0, .int .i64 4] 3)))
  have hne:(Value.slice (some ⟨w3.heap.size,0,none⟩) 2 2).ownBlock≠some p:=fun e=>by have:=C3.out.lt;simp[Value.ownBlock] at e;omega
  have OA:=hDD (O3.out.alloc (Obj.cells #[.int .i64 0, .int .i64 4] 3))
  have BA:=hDD (B3.out.alloc s3 (Obj.cells #[.int .i64 0, .int .i64 4] 3))
  go_wp2_with fail
  (with_reducible refine(l1PickInt_any p A cap cs _ [0,4] _ CA.out RA.out hne (by simp) (by simp)).mono ?_)
  rintro e w4 ⟨z,rfl,hz,c4,t4⟩
  have O4:=hDD (OA.out.trP t4 hpl)
  have B4:=hDD (Tr.bwP BA.out t4 hp)
  have s4:=B4.out.size
  have z4:w3.heap.size≤w4.heap.size:=by have:=t4.size;simp at this;omega
  have HZ:Hid (I64 z):=hDD (by simp at hz;rcases hz with rfl | rfl<;>(unfold I64;omega))
  clear c4 t4 hz CA RA hne OA BA
  go_wp2_with ((at_builtin;refine push_int rfl (.tmp 16) (.tmp 20) rfl _ _ _ (OwI.alloc O4.out _) rfl _ _ rfl (cell_new1 _ _ _) HZ.out (by first | omega | (simp<;>omega)) (by first | omega | (simp<;>omega)) ?_;intro v7 wv7 o7 g7 p7);have O7:=hDD o7;have B7:=hDD ((B4.out.alloc s4 _).grown g7 (by simp;omega) (fun b hb=>by have:=(O4.out.1.lt b hb).1;omega));obtain⟨A7,m7,c7,rfl⟩:=o7.any2;clear o7 g7 p7)
  exact bodyPost_ret (v:= .tuple #[.int .i64 r, .slice A7 m7 c7]) (by simp[results,Tryz.results71,go_sem]) rfl ⟨r,_,_,rfl,hr,O7.out.mono s1,by simp;omega,B7.out⟩
set_option maxHeartbeats 1000000 in
theorem drawRed_any (v:Value) (cs:List Int) (w:World) (h:ArgC w v cs) (hl:cs.length≤1048576):
  Calls Tryz.prog 20 #[v] w fun e w'=> ∃(r:Int) (u:Value) (xs:List Int),e= .returned (.tuple #[.int .i64 r,u])∧(1≤r∧r≤3)∧OwI w' w.heap.size u xs∧xs.length≤13∧Below w.heap.size w w':=by
 have HN:=hDD (l21Both_any v cs w h hl)
 clear h
 go_enter Tryz.func20,Tryz.ntmps20
 go_wp2_with fail
 refine HN.out.mono ?_
 rintro e w1 ⟨r,u,xs,rfl,hr,o1,hxl,b1⟩
 have O1:=hDD o1
 have B1:=hDD b1
 obtain⟨A1,m1,c1,rfl⟩:=o1.any2
 clear o1 b1
 go_wp2
 exact bodyPost_ret (v:= .tuple #[.int .i64 r, .slice A1 m1 c1]) (by simp[results,Tryz.results20,go_sem]) rfl ⟨r,_,xs,rfl,hr,O1.out,hxl,B1.out⟩
set_option maxHeartbeats 1000000 in
theorem drawSho_any (v:Value) (cs:List Int) (w:World) (h:ArgC w v cs) (hl:cs.length≤1048576):
  Calls Tryz.prog 34 #[v] w fun e w'=> ∃(r:Int) (u:Value) (xs:List Int),e= .returned (.tuple #[.int .i64 r,u])∧(1≤r∧r≤3)∧OwI w' w.heap.size u xs∧xs.length≤13∧Below w.heap.size w w':=by
 have HN:=hDD (l21Both_any v cs w h hl)
 clear h
 go_enter Tryz.func34,Tryz.ntmps34
 go_wp2_with fail
 refine HN.out.mono ?_
 rintro e w1 ⟨r,u,xs,rfl,hr,o1,hxl,b1⟩
 have O1:=hDD o1
 have B1:=hDD b1
 obtain⟨A1,m1,c1,rfl⟩:=o1.any2
 clear o1 b1
 go_wp2
 exact bodyPost_ret (v:= .tuple #[.int .i64 r, .slice A1 m1 c1]) (by simp[results,Tryz.results34,go_sem]) rfl ⟨r,_,xs,rfl,hr,O1.out,hxl,B1.out⟩
set_option maxHeartbeats 1000000 in
theorem drawAll_any (v:Value) (cs:List Int) (w:World) (h:ArgC w v cs) (hl:cs.length≤1048576):
  Calls Tryz.prog 31 #[v] w fun e w'=> ∃(r:Int),e= .returned (.int .i64 r)∧(-1≤r∧r≤5)∧Below w.heap.size w w':=by
 have HN:=hDD (l1New_any v cs w h hl)
 clear h
 go_enter Tryz.func31,Tryz.ntmps31
 go_wp2_with fail
 refine HN.out.mono ?_
 rintro e w1 ⟨p,A,cap,rfl,c1,hp,b1⟩
 have C1:=hDD c1
 have B1:=hDD b1
 clear c1 b1 HN
 go_wp2_with fail
 refine(l1Below_any p A cap cs 6 _ C1.out (by omega) (by omega)).mono ?_
 rintro e w2 ⟨x,rfl,⟨x0,x6⟩,c2,t2⟩
 have B2:=hDD (Tr.bwP B1.out t2 hp)
 have hwx:IntKind.i64.wrap (x-1)=x-1:=by rw[IntKind.wrap_i64];omega
 clear c2 t2
 go_wp2
 exact bodyPost_ret (v:= .int .i64 (x-1)) (by simp[results,Tryz.results31,go_sem]) rfl ⟨x-1,rfl,⟨by omega,by omega⟩,B2.out⟩
set_option maxRecDepth 100000 in
set_option maxHeartbeats 4000000 in
theorem drawWhM_any (v:Value) (cs:List Int) (w:World) (h:ArgC w v cs) (hl:cs.length≤1048576):
  Calls Tryz.prog 6 #[v] w fun e w'=> ∃(r:Int) (s:Value) (d:WhD),e= .returned (.tuple #[.int .i64 r, .agg #[.int .i64 d.1,s]])∧(-1≤r∧r≤5)∧(I64 d.1∧d.2.length≤5)∧OwI w' w.heap.size s d.2∧Below w.heap.size w w':=by
 obtain⟨W0,hW0⟩: ∃W,W=w.alloc (Obj.cells #[Value.int IntKind.i64 0, .slice none 0 0] 26):=⟨_,rfl⟩
 obtain⟨xb,b0,s0⟩:=MBx.new hW0
 have XB:=hDD xb
 have B0:=hDD b0
 have HN:=hDD (l1New_any v cs W0 (argC_bel h b0) hl)
 clear xb b0 h
 go_enter Tryz.func6,Tryz.ntmps6
 go_wp2_with fail
 rw[←hW0]
 clear hW0
 refine HN.out.mono ?_
 rintro e w1 ⟨p,A,cap,rfl,c1,hp,b1⟩
 have C1:=hDD c1
 have X1:=hDD (XB.out.below b1)
 have B1:=hDD (B0.out.trans (b1.mono B0.out.size))
 have s1:=b1.size
 clear c1 b1 HN XB B0
 go_wp2_with fail
 refine(l21Any_any p A cap cs _ C1.out).mono ?_
 rintro e w2 ⟨r,sv,⟨d1,ds⟩,rfl,hr,⟨hi,hd5⟩,ho,c2,t2⟩
 simp only at hi ho hd5
 have B2:=hDD (Tr.bwP B1.out t2 (by omega))
 have X2:=hDD (X1.out.trP t2 (by omega))
 have O2:=hDD ho
 obtain⟨As,cs',rfl,_⟩:=ho.form
 have s2:=B2.out.size
 have t2z:=t2.size
 obtain⟨W3,hW3⟩: ∃W,W=w2.alloc (Obj.cells #[Value.int IntKind.i64 d1, .slice As ds.length cs'] 26):=⟨_,rfl⟩
 obtain⟨y3,b3,s3⟩:=MBx.new hW3
 have B3:=hDD (B2.out.trans (b3.mono s2))
 have X3:=hDD (X2.out.below b3)
 have Y3:=hDD y3
 have O3:=hDD ((O2.out.mono (show w.heap.size+1≤w1.heap.size by omega)).below b3)
 have hq:w.heap.size<w2.heap.size:=by omega
 clear c2 t2 ho y3 b3 s3 B1 B2 X1 X2 O2 C1
 go_wp2_with fail
 rw[←hW3]
 clear hW3
 generalize w2.heap.size=q at*
 refine wp_region_genG2 [] [.val (.int .i64 r), .val (.agg #[.int .i64 d1, .slice As ds.length cs']), .val (.int .i64 r), .mem (fun _ W _=>MBx W w.heap.size (.int .i64 d1) (.slice As ds.length cs'))]
  [none,none,none,some (fun W W'=> ∃x y,W'=(W.setCell ⟨w.heap.size,0,none⟩ x).setCell ⟨w.heap.size,1,none⟩ y)]
  (fun W=>Below w.heap.size w W∧MBx W q (.int .i64 d1) (.slice As ds.length cs')∧OwI W (w.heap.size+1) (.slice As ds.length cs') ds∧ ∃x y,MBx W w.heap.size x y) (fun _=>True) [] [] (by kernel_rfl) (by kernel_rfl) (by kernel_rfl)
  trivial (by rfl) (by rfl) ⟨B3.out.drew,Y3.out.below (Below.refl _ _).drew,O3.out.below (Below.refl _ _).drew,_,_,X3.out.below (Below.refl _ _).drew⟩ trivial
  ⟨fun W _ h t=>by obtain⟨x,y,rfl⟩:=t;exact⟨set2_below _ _ h.1 (Nat.le_refl _),(h.2.1.one (by omega)).one (by omega),h.2.2.1.keepB fun b hb=>set2_heap _ _ _ _ (by have:=(h.2.2.1.1.lt b hb).1;omega),by obtain⟨a,b,hx⟩:=h.2.2.2;exact⟨_,_,hx.setv _ _⟩⟩,trivial⟩ (itD_nil _ 0)
  trivial (fun vs=> ?_)
 refine⟨fun W' K' Q0 hI hD hK=> ?_,?_⟩
 ·skip
  go_simp
  exact hK.out _ _ rfl rfl
 simp only[Act.put,List.setIfInBounds_toArray,List.set_cons_zero,List.set_cons_succ,Sg.pick,Nat.reduceAdd]
 refine⟨fun W' K' Q0 hI hD hK=> ?_,?_⟩
 ·have z0:=hI.out.1.2.1.c0
  have z1:=hI.out.1.2.1.c1
  go_simp
  exact hK.out _ _ rfl rfl
 simp only[Act.put,List.setIfInBounds_toArray,List.set_cons_zero,List.set_cons_succ,Sg.pick,Nat.reduceAdd]
 refine⟨fun W' K' Q0 hI hD hK=> ?_,?_⟩
 ·skip
  go_simp
  exact hK.out _ _ rfl rfl
 simp only[Act.put,List.setIfInBounds_toArray,List.set_cons_zero,List.set_cons_succ,Sg.pick,Nat.reduceAdd]
 refine⟨fun W' K' Q0 hI hD hK=> ?_,?_⟩
 ·obtain⟨_,_,_,a,b,hbx⟩:=id hI.out.1
  have z0:=hbx.c0
  have z1:=hbx.c1
  have u0:=hbx.fz 0
  have u1:=hbx.fz 1
  go_simp
  exact hK.out undef _ ⟨_,_,rfl⟩ (hbx.setv _ _)
 simp only[Act.put,List.setIfInBounds_toArray,List.set_cons_zero,List.set_cons_succ,Sg.pick,Nat.reduceAdd]
 intro W9 hI9 hD9
 have hbx:=(show MBx W9 w.heap.size (.int .i64 d1) (.slice As ds.length cs') from hD9.out 3 (by decide))
 have BJ:=hDD hI9.out.1.1
 have O9:=hDD hI9.out.1.2.2.1
 have q0:=hbx.c0
 have q1:=hbx.c1
 have ql:=hbx.lt
 clear hI9 hD9 hbx
 go_wp2
 exact bodyPost_ret (v:= .tuple #[.int .i64 r, .agg #[.int .i64 d1, .slice As ds.length cs']]) (by simp[results,Tryz.results6,go_sem,q0,q1,ql]) rfl ⟨r,_,(d1,ds),rfl,hr,⟨hi,hd5⟩,O9.out.mono (by omega),BJ.out⟩
end Go.Proofs.YtlgcflpaekbopaaGreat
namespace Go.Proofs.YtlgcflpaekbopaaGreat
set_option maxRecDepth 20000
set_option linter.unusedVariables false
set_option linter.unusedSimpArgs false
open Go.RowKit
set_option maxHeartbeats 4000000 in
theorem implAddPath_any (v y:Value) (g:GrD) (a b:Int) (t:List Int) (w:World) (h:ArgG w v g) (ht:RdI w y t) (hg:grB g=true) (ha:0≤a∧a<g.2.1) (hb:0≤b∧b<g.2.1) (hw:wordB g.1 t=true) (h0:t.length≠0) (hl:t.length≤1073741824):
  Calls Tryz.prog 149 #[v, .int .i64 a,y, .int .i64 b] w fun x w'=> ∃r,x= .returned (.tuple #[r, .bool (addOk g t)])∧OwG w' w.heap.size r (if addOk g t=true then addG g a b t else g)∧Below w.heap.size w w':=by
 have HG:=hDD h
 have HY:=hDD ht
 have HGR:=hDD hg
 have HW:=hDD hw
 have HA:=hDD ha
 have HBV:=hDD hb
 obtain⟨h13,h40,h120,_⟩:=grB_parts hg
 obtain⟨s,rfl,hi1,hi2,hga⟩:=h
 obtain⟨A,cap,rfl⟩:=hga.form
 obtain⟨T,tc,rfl,_⟩:=ht.arg
 obtain⟨g1,N,es⟩:=g
 simp only at*
 clear hga hg hw ha hb
 obtain⟨OK,hOK⟩: ∃o,o=addOk (g1,N,es) t:=⟨_,rfl⟩
 rw[←hOK]
 obtain⟨RES,hRES⟩: ∃R,R=(if OK=true then addG (g1,N,es) a b t else(g1,N,es)):=⟨_,rfl⟩
 rw[←hRES]
 have HOK:=hDD hOK
 have HRES:=hDD hRES
 clear hRES hOK
 go_enter Tryz.func149,Tryz.ntmps149
 go_wp2_with fail
 obtain⟨W1,hW1⟩: ∃W,W=w.alloc (Obj.cells #[Value.int IntKind.i64 g1,Value.int IntKind.i64 N, .slice A es.length cap] 82):=⟨_,rfl⟩
 rw[←hW1]
 obtain⟨hs1,b1,hc1,_⟩:=gbox hW1
 obtain⟨W,hW⟩: ∃W,W=W1.alloc (Obj.cells #[Value.int IntKind.i64 0,Value.int IntKind.i64 0, .slice none 0 0] 82):=⟨_,rfl⟩
 rw[←hW]
 obtain⟨hs2,b2,hc2,hf2⟩:=gbox hW
 have hsW:W.heap.size=w.heap.size+2:=by omega
 have HC1:=hDD hc1
 have HC2:=hDD hc2
 have HF2:=hDD hf2
 have BX1:=hDD b1
 have BX2:=hDD b2
 have BX:Hid (Below w.heap.size w W):=hDD (b1.trans (b2.mono (by omega)))
 have HCL:Hid (∀w',Below (w.heap.size+2) W w'→w'.cell? ⟨w.heap.size,0,none⟩=some (.int .i64 g1)∧w'.cell? ⟨w.heap.size,1,none⟩=some (.int .i64 N)∧w'.cell? ⟨w.heap.size,2,none⟩=some (.slice A es.length cap)):=hDD fun w' hb=>HC1.out w' ((BX2.out.mono (by omega)).trans (hb.mono (by omega)))
 have HRC:Hid (∀w',Below (w.heap.size+2) W w'→(w'.cell? ⟨w.heap.size+1,0,none⟩=some (.int .i64 0)∧w'.cell? ⟨w.heap.size+1,1,none⟩=some (.int .i64 0)∧w'.cell? ⟨w.heap.size+1,2,none⟩=some (.slice none 0 0))∧ ∀j,w'.frozen? ⟨w.heap.size+1,j,none⟩=false):=hDD fun w' hb=>by
  have e:Below (W1.heap.size+1) W w':=hb.mono (by omega)
  have h1:=HC2.out w' e
  have h2:=fun j=>HF2.out j w' e
  rw[hs1] at h1 h2
  exact⟨h1,h2⟩
 have HAG:Hid (∀w',Below (w.heap.size+2) W w'→ArgG w' (.agg #[.int .i64 g1, .int .i64 N, .slice A es.length cap]) (g1,N,es)):=hDD fun w' hb=>HG.out.below (BX.out.trans (hb.mono (by omega)))
 have HAT:Hid (∀w',Below (w.heap.size+2) W w'→RdI w' (.slice T t.length tc) t):=hDD fun w' hb=>HY.out.below (BX.out.trans (hb.mono (by omega)))
 clear hW1 hW hc1 hc2 hf2 b1 b2 HC1 HC2 HF2 BX1 BX2 hs1 hs2
 obtain⟨q0,q1,q2⟩:=HCL.out W ((Below.refl W.heap.size W).mono (by omega))
 refine(copyGraph_any _ (g1,N,es) W (HAG.out W ((Below.refl W.heap.size W).mono (by omega))) (by simp only;omega)).mono ?_
 clear q0 q1 q2
 rintro e w5 ⟨r,rfl,o5,b5⟩
 have hs5:=b5.size
 have B5:Hid (Below (w.heap.size+2) W w5):=hDD (b5.mono (by omega))
 obtain⟨s1,rfl,_,_,oe5⟩:=o5
 obtain⟨A1,c1,rfl,_⟩:=oe5.form
 simp only at*
 clear b5
 have b6':Below w5.heap.size w5 (w5.alloc (Obj.cells #[Value.int IntKind.i64 g1,Value.int IntKind.i64 N, .slice A1 es.length c1] 82)):=(Below.refl _ _).alloc (Nat.le_refl _) _
 obtain⟨q0,q1,q2⟩:=HCL.out _ (B5.out.trans (b6'.mono (by omega)))
 clear b6'
 go_wp2_with fail
 clear q0 q1 q2
 obtain⟨W6,hW6⟩: ∃W,W=w5.alloc (Obj.cells #[Value.int IntKind.i64 g1,Value.int IntKind.i64 N, .slice A1 es.length c1] 82):=⟨_,rfl⟩
 have GB6:=hDD (GBx.new (m:=(g1,N,es)) oe5 hi1 hi2 hW6)
 obtain⟨hs6,b6,_,_⟩:=gbox hW6
 rw[←hW6]
 have B6:Hid (Below (w.heap.size+2) W W6):=hDD (B5.out.trans (b6.mono (by omega)))
 clear hW6 b6 oe5
 obtain⟨p,hp⟩: ∃p,p=w5.heap.size:=⟨_,rfl⟩
 rw[←hp] at GB6⊢
 have hpw:w.heap.size+2≤p:=by omega
 have hp6:p<W6.heap.size:=by omega
 clear hp hs6 hs5
 have HIG:=hDD (implIsGraph_any _ (g1,N,es) W6 (HAG.out W6 B6.out))
 rw[HGR.out] at HIG
 refine HIG.out.mono ?_
 clear HIG
 rintro e w7 ⟨rfl,b7⟩
 have B7:=hDD (B6.out.trans (b7.mono (by have:=B6.out.size;omega)))
 have GB7:=hDD (GB6.out.below b7)
 clear b7
 have E1:inB a 0 (wrap64 (N-1))=true:=by rw[IntWalk.wrap64_in _ ⟨by omega,by omega⟩];unfold inB;simp;have:=HA.out;omega
 have E2:inB b 0 (wrap64 (N-1))=true:=by rw[IntWalk.wrap64_in _ ⟨by omega,by omega⟩];unfold inB;simp;have:=HBV.out;omega
 have HE1:=hDD E1
 have HE2:=hDD E2
 clear E1 E2
 obtain⟨q0,q1,q2⟩:=HCL.out w7 B7.out
 go_wp2_with fail
 clear q0 q1 q2
 refine(grHas_any g1 N A es.length cap a w7).mono ?_
 rintro e wa ⟨rfl,ba⟩
 rw[HE1.out]
 have B7a:=hDD (B7.out.trans (ba.mono (by have:=B7.out.size;omega)))
 have GB7a:=hDD (GB7.out.below ba)
 clear ba
 obtain⟨q0,q1,q2⟩:=HCL.out wa B7a.out
 go_wp2_with fail
 clear q0 q1 q2
 refine(grHas_any g1 N A es.length cap b wa).mono ?_
 rintro e wb ⟨rfl,bb⟩
 rw[HE2.out]
 have B7b:=hDD (B7a.out.trans (bb.mono (by have:=B7a.out.size;omega)))
 have GB7b:=hDD (GB7a.out.below bb)
 clear bb
 obtain⟨q0,q1,q2⟩:=HCL.out wb B7b.out
 have h0B:((t.length:Int)==0)=false:=beq_eq_false_iff_ne.2 (by omega)
 have h0N: ¬t= []:=fun q=>h0 (by rw[q];rfl)
 have h0I: ¬(t.length:Int)=0:=by omega
 have EW:=hDD (implIsWord_any g1 _ t wb (HAT.out wb B7b.out).arg (by omega))
 rw[HW.out] at EW
 go_wp2_with fail
 refine EW.out.mono ?_
 clear EW q0 q1 q2 h0B h0N h0I
 rintro e w8 ⟨rfl,hw8⟩
 obtain⟨B8,GB8⟩:Hid (Below (w.heap.size+2) W w8)∧Hid (GBx w8 p W.heap.size A1 c1 (g1,N,es)):=by subst hw8;exact⟨B7b,GB7b⟩
 clear hw8 B7b GB7b B7a GB7a B7 GB7
 obtain⟨q0,q1,q2⟩:=HCL.out w8 B8.out
 have z0:=GB8.out.c0
 have z1:=GB8.out.c1
 have z2:=GB8.out.c2
 simp only at z0 z1 z2
 obtain⟨⟨r0,r1,r2⟩,hrf⟩:=HRC.out w8 B8.out
 have rf0:=hrf 0
 have rf1:=hrf 1
 have rf2:=hrf 2
 have h0I: ¬(t.length:Int)=0:=by omega
 have h0N: ¬t= []:=fun q=>h0 (by rw[q];rfl)
 clear hrf
 by_cases hA:N+t.length-1≤40
 ·by_cases hE:(es.length:Int)+t.length≤120
  ·have hok:addOk (g1,N,es) t=true:=decide_eq_true ⟨hA,hE⟩
   have HK:Hid (OK=true∧RES=addG (g1,N,es) a b t):=hDD (by have:=HOK.out.trans hok;exact⟨this,by rw[HRES.out,this];rfl⟩)
   clear hok
   obtain⟨n,rfl⟩: ∃n:Nat,N=(n:Int):=⟨N.toNat,by omega⟩
   have hes0:srt cmpE es=es:=srt_self (gr_srt HGR.out)
   have HS0:=hDD hes0
   clear hes0
   have h0B:((t.length:Int)==0)=false:=beq_eq_false_iff_ne.2 h0I
   have hA': ¬40<(n:Int)+t.length-1:=by omega
   have hE': ¬120<(es.length:Int)+t.length:=by omega
   go_wp2_with fail
   clear q0 q1 q2 r0 r1 r2 rf0 rf1 rf2 z0 z1 z2 h0I h0N h0B hA' hE'
   go_loopw [11,66] (fun q i wr=> ∃(k:Nat) (L:List EdD) (A2:Option Addr) (c2:Nat),k≤t.length∧i= .int .i64 k∧q= .int .i64 (atP n t.length a b k)∧Hid (L=es++pthL n a b t k)∧L.length=es.length+k∧GBx wr p (w.heap.size+2) A2 c2 (g1,((szP n t.length k:Nat):Int),L)∧Below (w.heap.size+2) W wr) (fun _ i _=>t.length-(intOf i).toNat)
   case atStart=>
    refine⟨0,es,A1,c1,Nat.zero_le _,rfl,rfl,hDD ?_,rfl,?_,B8.out⟩
    ·show es=es++ []
     rw[List.append_nil]
    ·exact GB8.out.mono (by omega)
   case round=>
    obtain⟨k,L,A2,c2,hk,rfl,rfl,hL,hLl,hgb,hbr⟩:=hrel
    obtain⟨wk,rfl⟩: ∃wk:World,wk=wr:=⟨_,rfl⟩
    have HGB:=hDD hgb
    have HBR:=hDD hbr
    have hwk:=hgb.lt
    have z0:=hgb.c0
    have z1:=hgb.c1
    have z2:=hgb.c2
    have zf1:=hgb.fz 1
    have zf2:=hgb.fz 2
    simp only at z0 z1 z2
    clear hgb hbr
    rcases Nat.lt_or_ge k t.length with hlt | hge
    ·have hzz:=wordB_get HW.out k hlt
     obtain⟨bt,off,rfl,hbt,hct⟩:=HY.out.at (by omega)
     have HTC:Hid (∀W',Below (w.heap.size+2) W W'→W'.cell? ⟨bt,off+k,none⟩=some (.int .i64 t[k])):=hDD fun W' hb=>((BX.out.trans (hb.mono (by omega))).cell (p:=⟨bt,off+k,none⟩) hbt).trans (hct k hlt)
     have cz:=HTC.out wk HBR.out
     have HPS:Hid (pthL n a b t (k+1)=pthL n a b t k++ [stpE (atP n t.length a b k) t[k] (nxP n t.length b k)]):=hDD (by rw[pthL_succ];unfold pthE;rw[getD_at hlt])
     have har:=atP_range (N:=n) (len:=t.length) (j:=k) HA.out HBV.out
     have hnr:=nxP_range (N:=n) (len:=t.length) (j:=k) HBV.out
     have HSZ:=hDD (szP_succ (N:=n) hlt)
     have HSK:=hDD (fun q=>szP_at (N:=n) (len:=t.length) (j:=k) q)
     have HNX:Hid (nxP n t.length b k=if k+1<t.length then((n+k:Nat):Int) else b):=hDD rfl
     have HAT1:Hid (atP n t.length a b (k+1)=nxP n t.length b k):=hDD rfl
     generalize t[k]=z at*
     generalize atP n t.length a b k=q at*
     generalize nxP n t.length b k=m at*
     have hz3: -3≤z∧z≤3:=by omega
     obtain⟨e1,e2,e3,hse⟩: ∃e1 e2 e3,stE q z m=(e1,e2,e3):=⟨_,_,_,rfl⟩
     have HSE:Hid (stpE q z m=(e1,e2,e3)):=hDD (by rw[←hse];unfold stpE stE;by_cases hh:0<z;rw[if_pos hh,if_neg (by omega)];rw[if_neg hh,if_pos (by omega)])
     have HE64:Hid (E64 (e1,e2,e3)):=hDD (by rw[←HSE.out];unfold stpE;split<;>exact⟨⟨by simp only;omega,by simp only;omega⟩,⟨by simp only;omega,by simp only;omega⟩,⟨by simp only;omega,by simp only;omega⟩⟩)
     have HSX:Hid (∀m',m'=m→edV (stE q z m')= .agg #[.int .i64 e1, .int .i64 e2, .int .i64 e3]):=hDD fun m' e=>by rw[e,hse];rfl
     have HL:Hid (L++ [(e1,e2,e3)]=es++pthL n a b t (k+1)):=hDD (by rw[HPS.out,←List.append_assoc,HSE.out,hL.out])
     clear hct HPS hse
     generalize hs1:szP n t.length k=S1 at*
     have hSb:S1≤n+24:=by rw[←hs1];unfold szP;have:=wordB_len HW.out;omega
     clear hs1
     have hk24:=wordB_len HW.out
     obtain⟨S2,hS2⟩: ∃S,S=szP n t.length (k+1):=⟨_,rfl⟩
     rw[←hS2] at HSZ
     have HS2:=hDD hS2
     clear hS2
     have hinc:IntKind.i64.wrap ((S1:Int)+1)=(S1:Int)+1:=by rw[IntKind.wrap_i64];omega
     have hdec:IntKind.i64.wrap ((t.length:Int)-1)=(t.length:Int)-1:=by rw[IntKind.wrap_i64];omega
     have hLb:L.length≤1073741824:=by omega
     have HLN:=hDD hLl
     have HKL:=hDD hk
     have HZ3:=hDD hz3
     have hI2:I64 ((S2:Nat):Int):=by
      have:S2≤S1+1:=by rw[HSZ.out];split<;>omega
      exact⟨by omega,by omega⟩
     have HI2:=hDD hI2
     clear hL hLl hzz har hnr hI2 hz3
     have HNX2:Hid ((k+1<t.length→(k:Int)<(t.length:Int)-1)∧(¬k+1<t.length→ ¬(k:Int)<(t.length:Int)-1)):=hDD ⟨fun _=>by omega,fun _=>by omega⟩
     by_cases h1:k+1<t.length
     all_goals
      have HHH:=hDD h1
      first | (have h1n:=HNX2.out.1 h1) | (have h1n:=HNX2.out.2 h1)
      go_wp2_with fail
      have hk0:=HKL.out
      first
       | (have h1':k+1<t.length:=HHH.out
          obtain⟨wn,hwn⟩: ∃W,W=wk.setCell ⟨p,1,none⟩ (.int .i64 ((S1:Int)+1)):=⟨_,rfl⟩
          rw[←hwn]
          have HM:Hid (m=(S1:Int)):=hDD (by rw[HNX.out,if_pos h1'];have:=HSK.out h1';omega)
          have GBN:Hid (GBx wn p (w.heap.size+2) A2 c2 (g1,((S2:Nat):Int),L)):=hDD (by
           have e:(S2:Int)=(S1:Int)+1:=by rw[HSZ.out,if_pos h1'];rfl
           have hi:=HI2.out
           rw[e] at hi
           rw[hwn,e]
           exact HGB.out.sz hi)
          have BN:Hid (Below (w.heap.size+2) W wn):=hDD (by rw[hwn];exact HBR.out.setCell hpw _)
          clear hwn)
       | (have h1': ¬k+1<t.length:=HHH.out
          obtain⟨wn,rfl⟩: ∃W,W=wk:=⟨_,rfl⟩
          have HM:Hid (m=b):=hDD (by rw[HNX.out,if_neg h1'])
          have GBN:Hid (GBx wn p (w.heap.size+2) A2 c2 (g1,((S2:Nat):Int),L)):=hDD (by rw[show S2=S1 by rw[HSZ.out,if_neg h1']];exact HGB.out)
          have BN:Hid (Below (w.heap.size+2) W wn):=hDD HBR.out)
      clear h1 hk0 z0 z1 z2 cz zf1 zf2 hwk h1n
      have z2:=GBN.out.c2
      simp only at z2
      have hpn:=GBN.out.lt
      refine wp_region_T' (n:=9) (S:=fun w'=>w'.cell? ⟨p,2,none⟩=some (.slice A2 L.length c2)) (by kernel_rfl) (by rfl) z2 (fun hHeld=> ?_)
      (refine wpAnyT_take (n:=9) (i:=0) (v:= ?_) rfl (by kernel_rfl) rfl (by decide) (by kernel_rfl) (by kernel_rfl) (by kernel_rfl) (by kernel_rfl) (fun _ _ _ h=>h) (Or.inl ⟨by rfl,?_⟩) (by assumption) ?_;rotate_left;focus (intro ww hSw;(try dsimp only at hSw);go_simp;try with_reducible rfl);(try simp only[Act.put,List.setIfInBounds_toArray,List.set_cons_zero,List.set_cons_succ]));(refine wpAnyT_take (n:=9) (i:=1) (v:= ?_) rfl (by kernel_rfl) rfl (by decide) (by kernel_rfl) (by kernel_rfl) (by kernel_rfl) (by kernel_rfl) (fun _ _ _ h=>h) (Or.inl ⟨by rfl,?_⟩) (by assumption) ?_;rotate_left;focus (intro ww hSw;(try dsimp only at hSw);go_simp;try with_reducible rfl);(try simp only[Act.put,List.setIfInBounds_toArray,List.set_cons_zero,List.set_cons_succ]));(refine wpAnyT_take (n:=9) (i:=2) (v:= ?_) rfl (by kernel_rfl) rfl (by decide) (by kernel_rfl) (by kernel_rfl) (by kernel_rfl) (by kernel_rfl) (fun _ _ _ h=>h) (Or.inl ⟨by rfl,?_⟩) (by assumption) ?_;rotate_left;focus (intro ww hSw;(try dsimp only at hSw);go_simp;try with_reducible rfl);(try simp only[Act.put,List.setIfInBounds_toArray,List.set_cons_zero,List.set_cons_succ]));(refine wpAnyT_take (n:=9) (i:=3) (v:= ?_) rfl (by kernel_rfl) rfl (by decide) (by kernel_rfl) (by kernel_rfl) (by kernel_rfl) (by kernel_rfl) (fun _ _ _ h=>h) (Or.inl ⟨by rfl,?_⟩) (by assumption) ?_;rotate_left;focus (intro ww hSw;(try dsimp only at hSw);go_simp;try with_reducible rfl);(try simp only[Act.put,List.setIfInBounds_toArray,List.set_cons_zero,List.set_cons_succ]));(refine wpAnyT_take (n:=9) (i:=4) (v:= ?_) rfl (by kernel_rfl) rfl (by decide) (by kernel_rfl) (by kernel_rfl) (by kernel_rfl) (by kernel_rfl) (fun _ _ _ h=>h) (Or.inl ⟨by rfl,?_⟩) (by assumption) ?_;rotate_left;focus (intro ww hSw;(try dsimp only at hSw);go_simp;try with_reducible rfl);(try simp only[Act.put,List.setIfInBounds_toArray,List.set_cons_zero,List.set_cons_succ]))
      refine wpAnyT_step (i:=5) (by kernel_rfl) rfl fun K' hK=> ?_
      go_simp
      refine(step_any _ _ _ _ HZ3.out).mono ?_
      rintro e w10 ⟨rfl,b10⟩
      rw[HSX.out _ HM.out.symm]
      have hw10:wn.heap.size≤w10.heap.size:=b10.size
      have b10':Below wn.heap.size wn w10:=(Below.refl _ _).drew.trans b10
      clear b10
      have z10:w10.cell? ⟨p,2,none⟩=some (.slice A2 L.length c2):=(b10'.cell (p:=⟨p,2,none⟩) hpn).trans z2
      refine hK.out _ _ z10 (fun _=> ?_)
      clear hK hHeld
      refine wpAnyT_step (i:=6) (by kernel_rfl) rfl fun K' hK=> ?_
      go_simp
      have b11:Below w10.heap.size w10 (w10.alloc (Obj.cells #[Value.int IntKind.i64 e1,Value.int IntKind.i64 e2,Value.int IntKind.i64 e3] 154)):=(Below.refl _ _).alloc (Nat.le_refl _) _
      have nE: ∀j u,(edC (e1,e2,e3))[j]? =some u→(w10.alloc (Obj.cells #[Value.int IntKind.i64 e1,Value.int IntKind.i64 e2,Value.int IntKind.i64 e3] 154)).cell? ⟨w10.heap.size,j,none⟩=some u:=fun j u hj=>by
       rcases j with _ | _ | _ | j<;>simp[edC] at hj<;>subst hj<;>simp[go_sem]
      have sV:(w10.alloc (Obj.cells #[Value.int IntKind.i64 e1,Value.int IntKind.i64 e2,Value.int IntKind.i64 e3] 154)).heap.size=w10.heap.size+1:=by simp
      have z11:(w10.alloc (Obj.cells #[Value.int IntKind.i64 e1,Value.int IntKind.i64 e2,Value.int IntKind.i64 e3] 154)).cell? ⟨p,2,none⟩=some (.slice A2 L.length c2):=(b11.cell (p:=⟨p,2,none⟩) (by show p<_;omega)).trans z10
      refine hK.out _ _ z11 (fun _=> ?_)
      clear hK
      generalize w10.alloc (Obj.cells #[Value.int IntKind.i64 e1,Value.int IntKind.i64 e2,Value.int IntKind.i64 e3] 154)=V at b11 nE sV z11⊢
      have bXV:Below wn.heap.size wn V:=b10'.trans (b11.mono hw10)
      have HGV:=hDD (GBN.out.below bXV)
      refine wpAnyT_step (i:=7) (by kernel_rfl) rfl fun K' hK=> ?_
      rw[if_pos (by rfl)]
      refine wp_push_edge (.tmp 84) (.tmp 89) rfl (w.heap.size+2) _ L HGV.out.ow rfl w10.heap.size (e1,e2,e3) rfl nE HE64.out hLb (by omega) ?_
      intro v' w' o' g' p'
      obtain⟨A9',c9',rfl,_⟩:=OwE.form o'
      have O9':=hDD o'
      have hgs:=g'.size
      clear o'
      have hrow: ∀y,(Value.slice A2 L.length c2).ownBlock=some y→y≠p∧w.heap.size+2≤y:=fun y hy=>⟨GBN.out.ne y hy,(GBN.out.ow.1.lt y hy).1⟩
      have z12:w'.cell? ⟨p,2,none⟩=some (.slice A2 L.length c2):=(World.cell?_of_block (w:=V) (g'.block p (by omega) (fun e=>(hrow p e.symm).1 rfl))).trans z11
      refine hK.out _ _ z12 (fun _=> ?_)
      clear hK
      simp only[Act.put,List.setIfInBounds_toArray,List.set_cons_zero,List.set_cons_succ]
      (refine wpAnyT_take (n:=9) (i:=8) (v:= ?_) rfl (by kernel_rfl) rfl (by decide) (by kernel_rfl) (by kernel_rfl) (by kernel_rfl) (by kernel_rfl) (fun _ _ _ h=>h) (Or.inl ⟨by rfl,?_⟩) (by assumption) ?_;rotate_left;focus (intro ww hSw;(try dsimp only at hSw);go_simp;try with_reducible rfl);(try simp only[Act.put,List.setIfInBounds_toArray,List.set_cons_zero,List.set_cons_succ]))
      have HG12c:=hDD (fun j=>((World.frozen?_of_block (w:=V) (g'.block p (by omega) (fun e=>(hrow p e.symm).1 rfl))).trans (HGV.out.fz j):w'.frozen? ⟨p,j,none⟩=false))
      have qf:=HG12c.out 2
      refine wpAnyT_last (n:=9) (by kernel_rfl) rfl (by kernel_rfl) fun K' hK=> ?_
      go_simp
      refine hK.out _ _ ?_
      clear hK
      go_wp2
      have hpV:p<V.heap.size:=by have:=bXV.size;omega
      have hC:CBx w' p (.int .i64 g1) (.int .i64 ((S2:Nat):Int)) (.slice A2 L.length c2):=by
       have hb:=g'.block p hpV (fun e=>(hrow p e.symm).1 rfl)
       exact⟨(World.cell?_of_block (w:=V) hb).trans HGV.out.c0,(World.cell?_of_block (w:=V) hb).trans HGV.out.c1,(World.cell?_of_block (w:=V) hb).trans HGV.out.c2,fun j=>(World.frozen?_of_block (w:=V) hb).trans (HGV.out.fz j),by omega⟩
      have HNE:Hid (∀y,(Value.slice A9' (L++ [(e1,e2,e3)]).length c9').ownBlock=some y→y≠p):=hDD fun y hy e=>by
       rcases p' with p' | p'
       ·exact(hrow y (p'.symm.trans hy)).1 e
       ·rw[hy] at p';injection p' with p';omega
      go_roundw
      case rel=>
       exact⟨k+1,L++ [(e1,e2,e3)],A9',c9',by have:=HKL.out;omega,by go_num,by rw[HAT1.out,HM.out],hDD HL.out,by rw[List.length_append,HLN.out];rfl,by rw[←HS2.out,show(Value.slice A9' (L.length+1) c9')= .slice A9' (L++ [(e1,e2,e3)]).length c9' by rw[List.length_append];rfl];exact hC.put O9'.out HNE.out HGB.out.i1 HI2.out,((BN.out.trans (bXV.mono (by omega))).grown g' (by omega) fun y hy=>(hrow y hy).2).setCell hpw _⟩
      case measure=>simp[intOf];omega
    ·have hkt:k=t.length:=by omega
     subst hkt
     clear zf1
     have HLN:Hid (L.length≤1073741824):=hDD (by omega)
     clear hLl
     go_wp2_with fail
     refine(sortedD_any _ _ _ HGB.out.ow.arg HLN.out).mono ?_
     rintro e' w9 ⟨r9,rfl,o9,b9⟩
     have HG9:=hDD (HGB.out.below b9)
     have B9:=hDD (HBR.out.trans (b9.mono (by omega)))
     have hs9:=b9.size
     obtain⟨A9,c9,rfl,_⟩:=o9.form
     have O9:=hDD o9
     clear o9 b9 z0 z1 z2 zf2
     have HRS:Hid (RES=(g1,((szP n t.length t.length:Nat):Int),srt cmpE L)):=hDD (by
      rw[HK.out.2,hL.out]
      show(g1,(((n:Int).toNat+(t.length-1):Nat):Int),srt cmpE (es++pthL (n:Int).toNat a b t t.length))=_
      rw[Int.toNat_natCast,show szP n t.length t.length=n+(t.length-1) by unfold szP;omega])
     generalize srt cmpE L=M at O9 HRS⊢
     generalize szP n t.length t.length=S1 at*
     have HGP:=hDD (HG9.out.put O9.out fun y hy=>by have:=(O9.out.1.lt y hy).1;omega)
     have BP:Hid (Below (w.heap.size+2) W (w9.setCell ⟨p,2,none⟩ (.slice A9 M.length c9))):=hDD (B9.out.setCell hpw _)
     obtain⟨⟨r0,r1,r2⟩,hrf⟩:=HRC.out w9 B9.out
     have rf0:=hrf 0
     have rf1:=hrf 1
     have rf2:=hrf 2
     have z0:=HG9.out.c0
     have z1:=HG9.out.c1
     have z2:=HG9.out.c2
     have zf2:=HG9.out.fz 2
     simp only at z0 z1 z2
     have hpne:w.heap.size+1≠p:=by omega
     clear hrf
     go_wp2
     clear r0 r1 r2 rf0 rf1 rf2 z0 z1 z2 zf2
     generalize w9.setCell ⟨p,2,none⟩ (.slice A9 M.length c9)=wz at HGP BP⊢
     obtain⟨⟨r0,r1,r2⟩,_⟩:=HRC.out wz BP.out
     obtain⟨e0,e1,e2⟩:=cells3F (.int .i64 g1) (.int .i64 (S1:Int)) (.slice A9 M.length c9) r0 r1 r2
     have bw:=set3_below (.int .i64 g1) (.int .i64 (S1:Int)) (.slice A9 M.length c9) (BX.out.trans (BP.out.mono (by omega))) (show w.heap.size≤w.heap.size+1 by omega)
     have ow:=HGP.out.ow.keep (w':=((wz.setCell ⟨w.heap.size+1,0,none⟩ (.int .i64 g1)).setCell ⟨w.heap.size+1,1,none⟩ (.int .i64 (S1:Int))).setCell ⟨w.heap.size+1,2,none⟩ (.slice A9 M.length c9)) fun y hy=>set3_heap _ _ _ _ _ (by have h1:=(HGP.out.ow.1.lt y hy).1;omega)
     exact bodyPost_ret (v:= .tuple #[.agg #[.int .i64 g1, .int .i64 (S1:Int), .slice A9 M.length c9], .bool true]) (by simp[results,Tryz.results149,go_sem,e0,e1,e2]) rfl ⟨_,by rw[HK.out.1],by rw[HRS.out];exact⟨.slice A9 M.length c9,rfl,hi1,HG9.out.i2,ow.mono (by omega)⟩,bw⟩
  ·have hok:addOk (g1,N,es) t=false:=decide_eq_false fun q=>hE q.2
   have HK:Hid (OK=false∧RES=(g1,N,es)):=hDD (by have:=HOK.out.trans hok;exact⟨this,by rw[HRES.out,this];rfl⟩)
   clear hok
   go_wp2
   obtain⟨e0,e1,e2⟩:=cells3F (.int .i64 g1) (.int .i64 N) (.slice A1 es.length c1) r0 r1 r2
   have bw:Below w.heap.size w (((w8.setCell ⟨w.heap.size+1,0,none⟩ (.int .i64 g1)).setCell ⟨w.heap.size+1,1,none⟩ (.int .i64 N)).setCell ⟨w.heap.size+1,2,none⟩ (.slice A1 es.length c1)):=set3_below _ _ _ (BX.out.trans (B8.out.mono (by omega))) (by omega)
   have ow:OwE (((w8.setCell ⟨w.heap.size+1,0,none⟩ (.int .i64 g1)).setCell ⟨w.heap.size+1,1,none⟩ (.int .i64 N)).setCell ⟨w.heap.size+1,2,none⟩ (.slice A1 es.length c1)) W.heap.size (.slice A1 es.length c1) es:=GB8.out.ow.keep fun b hb=>set3_heap _ _ _ _ _ (by have:=(GB8.out.ow.1.lt b hb).1;omega)
   exact bodyPost_ret (v:= .tuple #[.agg #[.int .i64 g1, .int .i64 N, .slice A1 es.length c1], .bool false]) (by simp[results,Tryz.results149,go_sem,e0,e1,e2]) rfl ⟨_,by rw[HK.out.1],by rw[HK.out.2];exact⟨.slice A1 es.length c1,rfl,hi1,hi2,ow.mono (by omega)⟩,bw⟩
 ·have hok:addOk (g1,N,es) t=false:=decide_eq_false fun q=>hA q.1
  have HK:Hid (OK=false∧RES=(g1,N,es)):=hDD (by have:=HOK.out.trans hok;exact⟨this,by rw[HRES.out,this];rfl⟩)
  clear hok
  go_wp2
  obtain⟨e0,e1,e2⟩:=cells3F (.int .i64 g1) (.int .i64 N) (.slice A1 es.length c1) r0 r1 r2
  have bw:Below w.heap.size w (((w8.setCell ⟨w.heap.size+1,0,none⟩ (.int .i64 g1)).setCell ⟨w.heap.size+1,1,none⟩ (.int .i64 N)).setCell ⟨w.heap.size+1,2,none⟩ (.slice A1 es.length c1)):=set3_below _ _ _ (BX.out.trans (B8.out.mono (by omega))) (by omega)
  have ow:OwE (((w8.setCell ⟨w.heap.size+1,0,none⟩ (.int .i64 g1)).setCell ⟨w.heap.size+1,1,none⟩ (.int .i64 N)).setCell ⟨w.heap.size+1,2,none⟩ (.slice A1 es.length c1)) W.heap.size (.slice A1 es.length c1) es:=GB8.out.ow.keep fun b hb=>set3_heap _ _ _ _ _ (by have:=(GB8.out.ow.1.lt b hb).1;omega)
  exact bodyPost_ret (v:= .tuple #[.agg #[.int .i64 g1, .int .i64 N, .slice A1 es.length c1], .bool false]) (by simp[results,Tryz.results149,go_sem,e0,e1,e2]) rfl ⟨_,by rw[HK.out.1],by rw[HK.out.2];exact⟨.slice A1 es.length c1,rfl,hi1,hi2,ow.mono (by omega)⟩,bw⟩
end Go.Proofs.YtlgcflpaekbopaaGreat
namespace Go.Proofs.YtlgcflpaekbopaaGreat
set_option maxRecDepth 20000
set_option linter.unusedVariables false
set_option linter.unusedSimpArgs false
open Go.RowKit
end Go.Proofs.YtlgcflpaekbopaaGreat
namespace Go.Proofs.YtlgcflpaekbopaaGreat
set_option maxRecDepth 20000
set_option linter.unusedVariables false
set_option linter.unusedSimpArgs false
open Go.RowKit
theorem lenLL_succ (L:List (List Int)) (k:Nat) (h:k<L.length):lenLL (L.take (k+1))=lenLL (L.take k)+L[k].length:=by
 unfold lenLL
 rw[List.take_succ_eq_append_getElem h,List.map_append,List.sum_append]
 simp only[List.map_cons,List.map_nil,List.sum_cons,List.sum_nil,Nat.add_zero]
theorem lenLL_takeA (L:List (List Int)) (k:Nat):lenLL (L.take k)≤lenLL L:=by
 unfold lenLL
 conv=>rhs;rw[←List.take_append_drop k L,List.map_append,List.sum_append]
 omega
def areW (r:Int) (L:List (List Int)):Bool:=L.all (wordB r)&&(inB r 1 3&&(decide (L.length≤6)&&decide (lenLL L<40)))
end Go.Proofs.YtlgcflpaekbopaaGreat
namespace Go.Proofs.YtlgcflpaekbopaaGreat
set_option maxRecDepth 20000
set_option linter.unusedVariables false
set_option linter.unusedSimpArgs false
open Go.RowKit
def petG (g:GrD) (t:List Int):GrD:=if t= [] then g else if addOk g t=true then addG g 0 0 t else g
theorem petG_ok {g:GrD} {t:List Int} (hg:grB g=true) (hw:wordB g.1 t=true):grB (petG g t)=true∧(petG g t).1=g.1∧(petG g t).2.2.length≤g.2.2.length+t.length:=by
 have hr:=(grB_parts hg).2.1
 unfold petG
 split
 ·exact⟨hg,rfl,by omega⟩
 ·rename_i h0
  have h0':t.length≠0:=fun q=>h0 (List.eq_nil_of_length_eq_zero q)
  split
  ·rename_i hok
   refine⟨addG_gr hg (by omega) (by omega) hw h0' hok,rfl,?_⟩
   have h1:=srt_len (c:=cmpE) (g.2.2++pthL g.2.1.toNat 0 0 t t.length)
   rw[List.length_append,pthL_len] at h1
   exact h1
  ·exact⟨hg,rfl,by omega⟩
end Go.Proofs.YtlgcflpaekbopaaGreat
namespace Go.Proofs.YtlgcflpaekbopaaGreat
set_option maxRecDepth 20000
set_option linter.unusedVariables false
set_option linter.unusedSimpArgs false
open Go.RowKit
def floF (r:Int) (L:List (List Int)):GrD:=L.foldl petG (r,1,[])
theorem areW_parts {r:Int} {L:List (List Int)} (h:areW r L=true):(∀x∈L,wordB r x=true)∧(1≤r∧r≤3)∧L.length≤6∧lenLL L<40:=by
 unfold areW at h
 simp only[Bool.and_eq_true,List.all_eq_true,decide_eq_true_eq] at h
 exact⟨h.1,inB_iff.1 h.2.1,h.2.2.1,h.2.2.2⟩
theorem flo_ok {r:Int} {L:List (List Int)} (hr:1≤r∧r≤3) (h: ∀x∈L,wordB r x=true): ∀k,k≤L.length→grB ((L.take k).foldl petG (r,1,[]))=true∧((L.take k).foldl petG (r,1,[])).1=r
 | 0,_=>⟨grB_of hr ⟨show(1:Int)≤1 by decide,show(1:Int)≤40 by decide⟩ (by simp) List.Pairwise.nil (fun _ h=>by cases h),rfl⟩
 | k+1,hk=>by
   have ih:=flo_ok hr h k (by omega)
   rw[List.take_succ_eq_append_getElem (by omega),List.foldl_append]
   have hx:=h _ (List.getElem_mem (show k<L.length by omega))
   rw[←ih.2] at hx
   have:=petG_ok ih.1 hx
   exact⟨this.1,this.2.1.trans ih.2⟩
end Go.Proofs.YtlgcflpaekbopaaGreat
namespace Go.Proofs.YtlgcflpaekbopaaGreat
set_option maxRecDepth 20000
set_option linter.unusedVariables false
set_option linter.unusedSimpArgs false
open Go.RowKit
theorem floF_ok {r:Int} {L:List (List Int)} (h:areW r L=true):grB (floF r L)=true:=by
 obtain⟨hwd,hr,_,_⟩:=areW_parts h
 have:=(flo_ok hr hwd L.length (Nat.le_refl _)).1
 rwa [List.take_length] at this
end Go.Proofs.YtlgcflpaekbopaaGreat
namespace Go.Proofs.YtlgcflpaekbopaaGreat
set_option maxRecDepth 20000
set_option linter.unusedVariables false
set_option linter.unusedSimpArgs false
open Go.RowKit
def wholeB (g:GrD):Bool:=coreB g&&decide (g.2.1=1)&&decide ((g.2.2.length:Int)=g.1)
set_option maxHeartbeats 1000000 in
theorem implIsWhole_any (v:Value) (g:GrD) (w:World) (h:ArgG w v g):
  Calls Tryz.prog 68 #[v] w fun e w'=>e= .returned (.bool (wholeB g))∧Below w.heap.size w w':=by
 have HG:=hDD h
 obtain⟨s,rfl,hi1,hi2,ha⟩:=h
 obtain⟨A,cap,rfl⟩:=ha.form
 obtain⟨g1,N,es⟩:=g
 simp only at*
 clear ha
 go_enter Tryz.func68,Tryz.ntmps68
 go_wp2_with fail
 obtain⟨W,hW⟩: ∃W,W=w.alloc (Obj.cells #[Value.int IntKind.i64 g1,Value.int IntKind.i64 N, .slice A es.length cap] 82):=⟨_,rfl⟩
 obtain⟨hsW,b1,hc1⟩:=gboxE hW
 rw[←hW]
 have BX:=hDD b1
 have HCL:=hDD hc1
 have HA:Hid (∀w',Below (w.heap.size+1) W w'→ArgG w' (.agg #[.int .i64 g1, .int .i64 N, .slice A es.length cap]) (g1,N,es)):=hDD fun w' hb=>HG.out.below (BX.out.trans (hb.mono (by omega)))
 clear hW b1 hc1
 refine(implIsCore_any _ (g1,N,es) W (HA.out W ((Below.refl W.heap.size W).mono (by omega)))).mono ?_
 rintro e w2 ⟨rfl,b2⟩
 have hs2:=b2.size
 have B2:Hid (Below (w.heap.size+1) W w2):=hDD (b2.mono (by omega))
 clear b2
 obtain⟨q0,q1,q2⟩:=HCL.out w2 B2.out
 have HBF:Hid (Below w.heap.size w w2):=hDD (BX.out.trans (B2.out.mono (by omega)))
 rcases ec:coreB (g1,N,es) with _ | _
 ·have F:Hid (wholeB (g1,N,es)=false):=hDD (by unfold wholeB;rw[ec];rfl)
  clear ec
  go_wp2
  go_ret
  exact⟨ret_bool F.out.symm,HBF.out⟩
 ·have F:Hid (wholeB (g1,N,es)=((N==1)&&((es.length:Int)==g1))):=hDD (by unfold wholeB;rw[ec];simp only[Bool.true_and];rfl)
  clear ec
  rcases e1:(N==1) with _ | _
  ·rw[e1] at F
   go_wp2
   go_ret
   exact⟨ret_bool F.out.symm,HBF.out⟩
  ·rw[e1] at F
   rcases e2:((es.length:Int)==g1) with _ | _
   ·rw[e2] at F
    go_wp2
    go_ret
    exact⟨ret_bool F.out.symm,HBF.out⟩
   ·rw[e2] at F
    go_wp2
    go_ret
    exact⟨ret_bool F.out.symm,HBF.out⟩
end Go.Proofs.YtlgcflpaekbopaaGreat
namespace Go.Proofs.YtlgcflpaekbopaaGreat
set_option maxRecDepth 20000
set_option linter.unusedVariables false
set_option linter.unusedSimpArgs false
open Go.RowKit
set_option maxHeartbeats 1000000 in
theorem implTotalLength_any (v:Value) (L:List (List Int)) (w:World) (h:RdII w v L) (hl:L.length≤1073741824) (hn:lenLL L≤1073741824):
  Calls Tryz.prog 148 #[v] w fun e w'=>e= .returned (.int .i64 (lenLL L))∧w=w':=by
 have H:=hDD h
 obtain⟨A,cap,rfl,hcap,hm,_⟩:=h.form
 unfold maxLen at hm
 clear h
 go_enter Tryz.func148,Tryz.ntmps148
 go_wp2
 go_loopw [3,8] (fun n i wr=> ∃k:Nat,k≤L.length∧i= .int .i64 k∧n= .int .i64 (lenLL (L.take k))∧w=wr) (fun _ i _=>L.length-(intOf i).toNat)
 case atStart=>exact⟨0,Nat.zero_le _,rfl,rfl,rfl⟩
 case round=>
  obtain⟨k,hk,rfl,rfl,rfl⟩:=hrel
  by_cases hlt:k<L.length
  ·obtain⟨b,off,A1,cap1,rfl,hb,hc,_,_,hr⟩:=H.out.at hlt
   have HS:=hDD (lenLL_succ L k hlt)
   have hs:=HS.out
   have ht:=lenLL_takeA L (k+1)
   have hkI:(k:Int)<(L.length:Int):=by omega
   clear hr
   generalize L[k]=x at*
   have hwa:IntKind.i64.wrap ((lenLL (L.take k):Int)+(x.length:Int))=((lenLL (L.take k)+x.length:Nat):Int):=by rw[IntKind.wrap_i64];omega
   generalize lenLL (L.take k)=m at*
   clear hs ht
   go_wp2
   go_roundw
   case rel=>exact⟨k+1,by omega,by go_num,by rw[HS.out];go_num,trivial⟩
   case measure=>(first | omega | (simp[intOf];omega))
  ·obtain rfl:k=L.length:=by omega
   rw[List.take_length]
   obtain⟨m,hm'⟩: ∃m,m=lenLL L:=⟨_,rfl⟩
   rw[←hm']
   have HM:=hDD hm'
   clear hm'
   go_wp2
   exact bodyPost_ret (v:= .int .i64 m) (by simp[results,Tryz.results148,go_sem]) rfl ⟨by rw[HM.out],rfl⟩
set_option maxHeartbeats 1000000 in
theorem implAreWords_any (r:Int) (v:Value) (L:List (List Int)) (w:World) (h:RdII w v L) (hl:L.length≤1073741824) (hn:lenLL L≤1073741824) (hx: ∀x∈L,x.length≤1073741824):
  Calls Tryz.prog 124 #[.int .i64 r,v] w fun e w'=>e= .returned (.bool (areW r L))∧w=w':=by
 have H:=hDD h
 have HX:=hDD hx
 obtain⟨A,cap,rfl,hcap,hm,_⟩:=h.form
 unfold maxLen at hm
 have HR:Hid (areW r L=(L.all (wordB r)&&(inB r 1 3&&(decide (L.length≤6)&&decide (lenLL L<40))))):=hDD rfl
 generalize areW r L=res at*
 clear h hx
 have HIN:=hDD (fun W=>within_any r 1 3 W)
 rcases e1:inB r 1 3 with _ | _
 ·rw[e1] at HIN
  have HF:Hid (res=false):=hDD (by rw[HR.out,e1];simp)
  clear e1
  go_enter Tryz.func124,Tryz.ntmps124
  go_wp2_with (go_at_call 56;refine(HIN.out _).mono ?_;rintro e w' ⟨rfl,rfl⟩)
  rw[HF.out]
  exact bodyPost_ret (v:= .bool false) (by simp[results,Tryz.results124,go_sem]) rfl ⟨rfl,rfl⟩
 rw[e1] at HIN
 by_cases h6:L.length≤6
 ·have h6I: ¬(6:Int)<(L.length:Int):=by omega
  have HR2:Hid (res=(L.all (wordB r)&&decide (lenLL L<40))):=hDD (by rw[HR.out,e1,decide_eq_true h6];simp)
  clear e1
  go_enter Tryz.func124,Tryz.ntmps124
  go_wp2_with (go_at_call 56;refine(HIN.out _).mono ?_;rintro e w' ⟨rfl,rfl⟩)
  go_loopw [17] (fun i wr=> ∃k:Nat,k≤L.length∧i= .int .i64 k∧(∀x∈L.take k,wordB r x=true)∧w=wr) (fun i _=>L.length-(intOf i).toNat)
  case atStart=>exact⟨0,Nat.zero_le _,rfl,by simp,rfl⟩
  case round=>
   obtain⟨k,hk,rfl,hno,rfl⟩:=hrel
   have HNO:=hDD hno
   clear hno
   by_cases hlt:k<L.length
   ·obtain⟨b,off,A1,cap1,rfl,hb,hc,_,_,hr⟩:=H.out.at hlt
    have HT:Hid (L.take (k+1)=L.take k++ [L[k]]):=hDD (List.take_succ_eq_append_getElem hlt)
    have HM:=hDD (List.getElem_mem hlt)
    have HRD:=hDD hr
    have hkI:(k:Int)<(L.length:Int):=by omega
    clear hr
    generalize L[k]=x at*
    have hxl:=HX.out x HM.out
    rcases e1:wordB r x with _ | _
    ·have HE:=hDD fun w (h:ArgI w (.slice A1 x.length cap1) x)=>implIsWord_any r _ x w h hxl
     rw[e1] at HE
     have HF:Hid (res=false):=hDD (by
      rw[HR2.out]
      have:L.all (wordB r)=false:=by
       rw[List.all_eq_false]
       exact⟨x,HM.out,by simp[e1]⟩
      rw[this];rfl)
     clear e1 hxl
     go_wp2_with (go_at_call 72;refine(HE.out _ HRD.out.arg).mono ?_;rintro e w1 ⟨rfl,rfl⟩)
     rw[HF.out]
     exact bodyPost_ret (v:= .bool false) (by simp[results,Tryz.results124,go_sem]) rfl ⟨rfl,rfl⟩
    ·have HE:=hDD fun w (h:ArgI w (.slice A1 x.length cap1) x)=>implIsWord_any r _ x w h hxl
     rw[e1] at HE
     have HW:=hDD e1
     clear e1 hxl
     go_wp2_with (go_at_call 72;refine(HE.out _ HRD.out.arg).mono ?_;rintro e w1 ⟨rfl,rfl⟩)
     go_roundw
     case rel=>exact⟨k+1,by omega,by go_num,fun y hy=>by
      rw[HT.out] at hy
      rcases List.mem_append.1 hy with hy | hy
      ·exact HNO.out y hy
      ·rw[List.mem_singleton.1 hy];exact HW.out,trivial⟩
     case measure=>(first | omega | (simp[intOf];omega))
   ·obtain rfl:k=L.length:=by omega
    have HA:Hid (L.all (wordB r)=true):=hDD (by rw[List.all_eq_true];have:=HNO.out;rwa [List.take_length] at this)
    have HF:Hid (res=decide (lenLL L<40)):=hDD (by rw[HR2.out,HA.out,Bool.true_and])
    have HTL:=hDD (fun w (h:RdII w (.slice A L.length cap) L)=>implTotalLength_any _ L w h hl hn)
    clear HA HR HR2
    generalize lenLL L=m at*
    go_wp2_with (go_at_call 148;refine(HTL.out _ H.out).mono ?_;rintro e w' ⟨rfl,rfl⟩)
    rw[HF.out]
    by_cases h40:m<40
    ·have h40I:(m:Int)<40:=by omega
     exact bodyPost_ret (v:= .bool true) (by simp[results,Tryz.results124,go_sem,h40I]) rfl ⟨by rw[decide_eq_true h40],rfl⟩
    ·have h40I: ¬(m:Int)<40:=by omega
     exact bodyPost_ret (v:= .bool false) (by simp[results,Tryz.results124,go_sem,h40I]) rfl ⟨by rw[decide_eq_false h40],rfl⟩
 ·have h6I:(6:Int)<(L.length:Int):=by omega
  have HF:Hid (res=false):=hDD (by rw[HR.out,decide_eq_false h6];simp)
  clear e1
  go_enter Tryz.func124,Tryz.ntmps124
  go_wp2_with (go_at_call 56;refine(HIN.out _).mono ?_;rintro e w' ⟨rfl,rfl⟩)
  rw[HF.out]
  exact bodyPost_ret (v:= .bool false) (by simp[results,Tryz.results124,go_sem]) rfl ⟨rfl,rfl⟩
set_option maxHeartbeats 1000000 in
theorem implNewGraph_any (r:Int) (w:World) (hr:1≤r∧r≤3):
  Calls Tryz.prog 125 #[.int .i64 r] w fun x w'=> ∃rv,x= .returned (.tuple #[rv, .bool true])∧OwG w' w.heap.size rv (r,1,[])∧Below w.heap.size w w':=by
 have HIN:=hDD (fun W=>within_any r 1 3 W)
 rw[inB_iff.2 hr] at HIN
 go_enter Tryz.func125,Tryz.ntmps125
 go_wp2_with (go_at_call 56;refine(HIN.out _).mono ?_;rintro e w' ⟨rfl,rfl⟩)
 refine bodyPost_ret (v:= .tuple #[.agg #[.int .i64 r, .int .i64 1, .slice none 0 0], .bool true]) (by simp[results,Tryz.results125,go_sem]) rfl ⟨_,rfl,⟨_,rfl,⟨by omega,by omega⟩,⟨by show _≤(1:Int);omega,by show(1:Int)≤_;omega⟩,OwE.nil⟩,(by repeat(first | exact Below.refl _ _ | (refine Below.setCell ?_ (by first | omega | (simp<;>omega)) _) | (refine bel_drewN ?_ _) | (refine Below.drew ?_) | (refine Below.alloc ?_ (by first | omega | (simp<;>omega)) _)))⟩
set_option maxHeartbeats 1000000 in
theorem implAddPetal_any (v y:Value) (g:GrD) (t:List Int) (w:World) (h:ArgG w v g) (ht:RdI w y t) (hg:grB g=true) (hw:wordB g.1 t=true) (h0:t.length≠0) (hl:t.length≤1073741824):
  Calls Tryz.prog 126 #[v,y] w fun x w'=> ∃r b,x= .returned (.tuple #[r, .bool b])∧OwG w' w.heap.size r (petG g t)∧Below w.heap.size w w':=by
 have hn:=(grB_parts hg).2.1
 have HP:Hid ((if addOk g t=true then addG g 0 0 t else g)=petG g t):=hDD (by
  have:petG g t=if addOk g t=true then addG g 0 0 t else g:=by
   unfold petG
   rw[if_neg (show ¬t= [] from fun e=>h0 (by rw[e];rfl))]
  exact this.symm)
 have HA:=hDD (fun W v y (h:ArgG W v g) (ht:RdI W y t)=>implAddPath_any v y g 0 0 t W h ht hg ⟨by omega,by omega⟩ ⟨by omega,by omega⟩ hw h0 hl)
 rw[HP.out] at HA
 have HG:=hDD h
 have HY:=hDD ht
 obtain⟨s,rfl,hi1,hi2,ha⟩:=h
 obtain⟨A,c,rfl⟩:=ha.form
 obtain⟨A',c',rfl,_⟩:=ht.arg
 obtain⟨g1,g2,gs⟩:=g
 simp only at*
 generalize addOk (g1,g2,gs) t=ok at*
 generalize petG (g1,g2,gs) t=pg at*
 clear ha ht hg hw h0 hn HP
 obtain⟨w1,hw1⟩: ∃W,W=w.alloc (Obj.cells #[Value.int IntKind.i64 g1,Value.int IntKind.i64 g2, .slice A gs.length c] 82):=⟨_,rfl⟩
 obtain⟨x1,b1,s1⟩:=CBx.new hw1
 obtain⟨w2,hw2⟩: ∃W,W=w1.alloc (Obj.cells #[Value.int IntKind.i64 0,Value.int IntKind.i64 0, .slice none 0 0] 82):=⟨_,rfl⟩
 obtain⟨x2,b2,s2⟩:=CBx.new hw2
 rw[s1] at x2
 have BW:=hDD (b1.trans (b2.mono b1.size))
 have X2:=hDD x2
 replace HG:=hDD (HG.out.below BW.out)
 replace HY:=hDD (HY.out.below BW.out)
 clear x1 x2 b1 b2 s1 s2
 go_enter Tryz.func126,Tryz.ntmps126
 go_wp2_with fail
 rw[←hw1,←hw2]
 clear hw1 hw2
 refine(HA.out _ _ _ HG.out HY.out).mono ?_
 rintro e w3 ⟨rv,rfl,⟨s3,rfl,i1,i2,o3⟩,b3⟩
 have hs:=BW.out.size
 obtain⟨A3,c3,rfl,_⟩:=o3.form
 have O3:=hDD (o3.mono hs)
 obtain⟨p1,p2,ps⟩:=pg
 simp only at*
 have X3:=X2.out.below b3
 have e0:=X3.c0
 have e1:=X3.c1
 have e2:=X3.c2
 have f0:=X3.fz
 have hlt:=X3.lt
 have HNE:Hid (∀b,(Value.slice A3 ps.length c3).ownBlock=some b→b≠w.heap.size+1):=hDD fun b hb=>by
  have:=(o3.1.lt b hb).1
  have:=X2.out.lt
  omega
 have B3:=hDD (BW.out.trans (b3.mono hs))
 clear o3 b3 X3
 go_wp2
 refine bodyPost_ret (v:= .tuple #[.agg #[.int .i64 p1, .int .i64 p2, .slice A3 ps.length c3], .bool ok]) (by simp[results,Tryz.results126,go_sem,e0,e1,e2,hlt]) rfl ⟨_,_,rfl,⟨_,rfl,i1,i2,?_⟩,set3_below _ _ _ B3.out (by omega)⟩
 exact O3.out.keep fun b hb=>set3_heap _ _ _ _ _ (HNE.out b hb)
set_option maxRecDepth 100000 in
set_option maxHeartbeats 4000000 in
theorem implFlowerOf_any (r:Int) (v:Value) (L:List (List Int)) (w:World) (h:RdII w v L) (hl:L.length≤1073741824) (hn:lenLL L≤1073741824) (hx: ∀x∈L,x.length≤1073741824) (hr:I64 r):
  Calls Tryz.prog 104 #[.int .i64 r,v] w fun x w'=> ∃rv,x= .returned (.tuple #[rv, .bool (areW r L)])∧OwG w' w.heap.size rv (if areW r L=true then floF r L else(0,0,[]))∧Below w.heap.size w w':=by
 have HAW:=hDD (fun W (h:RdII W v L)=>implAreWords_any r v L W h hl hn hx)
 obtain⟨w1,hw1⟩: ∃W,W=w.alloc (Obj.cells #[Value.int IntKind.i64 0,Value.int IntKind.i64 0, .slice none 0 0] 82):=⟨_,rfl⟩
 obtain⟨x1,b1,s1⟩:=CBx.new hw1
 have X1:=hDD x1
 have BW:=hDD b1
 have H:=hDD (h.below b1)
 have H0:=hDD h
 obtain⟨A,cap,rfl,hcap,hm,_⟩:=h.form
 unfold maxLen at hm
 have e0:=x1.c0
 have e1:=x1.c1
 have e2:=x1.c2
 have f0:=x1.fz
 have hlt1:=x1.lt
 have hsz1:w.heap.size≤w1.heap.size:=by omega
 clear h x1 b1 s1
 rcases ea:areW r L with _ | _
 ·rw[ea] at HAW
  clear ea
  go_enter Tryz.func104,Tryz.ntmps104
  go_wp2_with fail
  rw[←hw1]
  clear hw1
  refine(HAW.out _ H.out).mono ?_
  rintro e w2 ⟨rfl,rfl⟩
  go_wp2
  exact bodyPost_ret (v:= .tuple #[.agg #[.int .i64 0, .int .i64 0, .slice none 0 0], .bool false]) (by simp[results,Tryz.results104,go_sem,e0,e1,e2,hlt1]) rfl ⟨_,rfl,⟨_,rfl,⟨by show _≤(0:Int);omega,by show(0:Int)≤_;omega⟩,⟨by show _≤(0:Int);omega,by show(0:Int)≤_;omega⟩,OwE.nil⟩,set3_below _ _ _ BW.out (Nat.le_refl _)⟩
 rw[ea] at HAW
 obtain⟨hwd,hr3,hL6,hL40⟩:=areW_parts ea
 clear ea
 have HWD:=hDD hwd
 have HFO:=hDD (fun k hk=>flo_ok hr3 hwd k hk)
 have HNG:=hDD (fun W=>implNewGraph_any r W hr3)
 clear hwd
 go_enter Tryz.func104,Tryz.ntmps104
 go_wp2_with fail
 rw[←hw1]
 clear hw1
 refine(HAW.out _ H.out).mono ?_
 rintro e w2 ⟨rfl,rfl⟩
 clear e0 e1 e2 f0
 go_wp2_with fail
 refine(HNG.out _).mono ?_
 rintro e w2 ⟨rv,rfl,⟨s2,rfl,i1,i2,o2⟩,b2⟩
 obtain⟨A2,c2,rfl,_⟩:=o2.form
 simp only at*
 obtain⟨w3,hw3⟩: ∃W,W=w2.alloc (Obj.cells #[Value.int IntKind.i64 r,Value.int IntKind.i64 1, .slice A2 0 c2] 82):=⟨_,rfl⟩
 have g3:=GBx.new (m:=(r,1,[])) o2 i1 i2 hw3
 obtain⟨-,b3,s3⟩:=CBx.new hw3
 have hs2:=b2.size
 have G3:=hDD (g3.mono (base':=w.heap.size+1) hlt1)
 replace X1:=hDD ((X1.out.below b2).below b3)
 replace H:=hDD ((H.out.below b2).below b3)
 replace BW:=hDD ((BW.out.trans (b2.mono hsz1)).trans (b3.mono (by omega)))
 clear o2 i1 i2 b2 b3 g3
 go_wp2_with fail
 rw[←hw3]
 clear hw3
 have hpp:w.heap.size<w2.heap.size:=by omega
 have hs3:w2.heap.size<w3.heap.size:=by omega
 clear s3
 generalize w2.heap.size=p at*
 go_loopw [22] (fun iv wr=> ∃(k:Nat) (A':Option Addr) (c':Nat),k≤L.length∧iv= .int .i64 k∧GBx wr p (w.heap.size+1) A' c' ((L.take k).foldl petG (r,1,[]))∧Below p w3 wr∧w3.heap.size≤wr.heap.size)
  (fun iv _=>L.length-(intOf iv).toNat)
 case atStart=>exact⟨0,A2,c2,Nat.zero_le _,rfl,by simpa using G3.out,Below.refl _ _,Nat.le_refl _⟩
 case round=>
  obtain⟨k,A5,c5,hk,rfl,hg5,hb5,hz5⟩:=hrel
  have G5:=hDD hg5
  have B5:=hDD hb5
  have HBW:=hDD (BW.out.trans (hb5.mono (by omega)))
  replace X1:=hDD (X1.out.belowAt hb5 (by omega))
  clear hg5 hb5
  by_cases hlt:k<L.length
  ·have hltI:(k:Int)<(L.length:Int):=by omega
   obtain⟨hgr,hgr1⟩:=HFO.out k hk
   have HW:=HWD.out _ (List.getElem_mem hlt)
   have hxl:=hx _ (List.getElem_mem hlt)
   have HS:Hid ((L.take (k+1)).foldl petG (r,1,[])=petG ((L.take k).foldl petG (r,1,[])) L[k]):=hDD (by
    rw[List.take_succ_eq_append_getElem hlt,List.foldl_append];rfl)
   obtain⟨b,off,A1,cap1,rfl,hb,hc,_,_,hrd⟩:=(H0.out.below HBW.out).at hlt
   have RD:=hDD hrd
   clear hrd
   generalize L[k]=t at*
   generalize (L.take k).foldl petG (r,1,[])=g at*
   obtain⟨g1,g2,gs⟩:=g
   have u0:=G5.out.c0
   have u1:=G5.out.c1
   have u2:=G5.out.c2
   have hltp:=G5.out.lt
   simp only at u0 u1 u2 hgr1
   subst hgr1
   have hwk:IntKind.i64.wrap ((k:Int)+1)=((k+1:Nat):Int):=by rw[IntKind.wrap_i64];omega
   by_cases h0:t.length=0
   ·have ht:t= []:=List.eq_nil_of_length_eq_zero h0
    have HSK:Hid ((L.take (k+1)).foldl petG (g1,1,[])=(g1,g2,gs)):=hDD (by rw[HS.out];unfold petG;rw[if_pos ht])
    have h0I: ¬(0:Int)<(t.length:Int):=by omega
    clear HS ht hgr
    go_wp2
    go_roundw
    case rel=>exact⟨k+1,A5,c5,by omega,by go_num,by rw[HSK.out];exact G5.out,B5.out,hz5⟩
    case measure=>(first | omega | (simp[intOf];omega))
   ·have h0I:(0:Int)<(t.length:Int):=by omega
    have HP:=hDD (fun W u (h:ArgG W u (g1,g2,gs)) (h':RdI W (.slice A1 t.length cap1) t)=>implAddPetal_any u _ (g1,g2,gs) t W h h' hgr HW h0 hxl)
    clear hgr
    go_wp2_with fail
    refine(HP.out _ _ G5.out.arg RD.out).mono ?_
    rintro e w6 ⟨rv,bb,rfl,⟨s6,rfl,i1,i2,o6⟩,b6⟩
    obtain⟨A6,c6,rfl,_⟩:=o6.form
    have G6:=hDD (G5.out.below b6)
    have hs6:=b6.size
    have HNE:Hid (∀b,(Value.slice A6 (petG (g1,g2,gs) t).2.2.length c6).ownBlock=some b→b≠p):=hDD fun b hb=>by
     have:=(o6.1.lt b hb).1
     omega
    have O6:=hDD (o6.mono (base':=w.heap.size+1) (by omega))
    have B6:=hDD (B5.out.trans (b6.mono (by omega)))
    clear o6 b6 u0 u1 u2 HP
    generalize petG (g1,g2,gs) t=pg at*
    obtain⟨p1,p2,ps⟩:=pg
    simp only at*
    have u0:=G6.out.c0
    have u1:=G6.out.c1
    have u2:=G6.out.c2
    have uf:=G6.out.fz
    have hlt6:=G6.out.lt
    simp only at u0 u1 u2
    go_wp2
    go_roundw
    case rel=>exact⟨k+1,A6,c6,by omega,by go_num,by rw[HS.out];exact GBx.set (m:=(p1,p2,ps)) G6.out O6.out HNE.out i1 i2,set3_below _ _ _ B6.out (Nat.le_refl _),by simp;omega⟩
    case measure=>(first | omega | (simp[intOf];omega))
  ·obtain rfl:k=L.length:=by omega
   have hltI: ¬(L.length:Int)<(L.length:Int):=by omega
   rw[List.take_length] at G5
   have HF:Hid (L.foldl petG (r,1,[])=floF r L):=hDD rfl
   generalize L.foldl petG (r,1,[])=g at*
   obtain⟨g1,g2,gs⟩:=g
   have u0:=G5.out.c0
   have u1:=G5.out.c1
   have u2:=G5.out.c2
   simp only at u0 u1 u2
   have e0:=X1.out.c0
   have e1:=X1.out.c1
   have e2:=X1.out.c2
   have ef:=X1.out.fz
   have hlt1:=X1.out.lt
   have hnq: ∀b,(Value.slice A5 gs.length c5).ownBlock=some b→b≠w.heap.size:=fun b hb=>by
    have:=(G5.out.ow.1.lt b hb).1
    omega
   have HNQ:=hDD hnq
   clear hnq
   go_wp2
   refine bodyPost_ret (v:= .tuple #[.agg #[.int .i64 g1, .int .i64 g2, .slice A5 gs.length c5], .bool true]) (by simp[results,Tryz.results104,go_sem,e0,e1,e2,hlt1]) rfl ⟨_,rfl,⟨_,by rw[←HF.out],by rw[←HF.out];exact G5.out.i1,by rw[←HF.out];exact G5.out.i2,?_⟩,set3_below _ _ _ HBW.out (Nat.le_refl _)⟩
   rw[←HF.out]
   exact(G5.out.ow.mono (Nat.le_succ _)).keep fun b hb=>set3_heap _ _ _ _ _ (HNQ.out b hb)
def subF (r:Int) (L:List (List Int)):GrD:=if areW r L=true then coreG (floF r L) else(0,0,[])
set_option maxHeartbeats 2000000 in
theorem implSubgroupOf_any (r:Int) (v:Value) (L:List (List Int)) (w:World) (h:RdII w v L) (hl:L.length≤1073741824) (hn:lenLL L≤1073741824) (hx: ∀x∈L,x.length≤1073741824) (hr:I64 r):
  Calls Tryz.prog 67 #[.int .i64 r,v] w fun x w'=> ∃rv,x= .returned (.tuple #[rv, .bool (areW r L)])∧OwG w' w.heap.size rv (subF r L)∧Below w.heap.size w w':=by
 have HFL:=hDD (fun W (h:RdII W v L)=>implFlowerOf_any r v L W h hl hn hx hr)
 obtain⟨w1,hw1⟩: ∃W,W=w.alloc (Obj.cells #[Value.int IntKind.i64 0,Value.int IntKind.i64 0, .slice none 0 0] 82):=⟨_,rfl⟩
 obtain⟨x1,b1,s1⟩:=CBx.new hw1
 have X1:=hDD x1
 have BW:=hDD b1
 have H:=hDD (h.below b1)
 obtain⟨A,cap,rfl,_⟩:=h.form
 have hlt1:=x1.lt
 have hsz1:w.heap.size≤w1.heap.size:=by omega
 clear h x1 b1 s1
 have HS:Hid (subF r L=if areW r L=true then coreG (floF r L) else(0,0,[])):=hDD rfl
 have HGR:Hid (areW r L=true→grB (floF r L)=true):=hDD floF_ok
 generalize subF r L=sg at*
 generalize areW r L=ok at*
 go_enter Tryz.func67,Tryz.ntmps67
 go_wp2_with fail
 rw[←hw1]
 clear hw1
 refine(HFL.out _ H.out).mono ?_
 rintro e w2 ⟨rv,rfl,⟨s2,rfl,i1,i2,o2⟩,b2⟩
 obtain⟨A2,c2,rfl,_⟩:=o2.form
 have hs2:=b2.size
 have O2:=hDD o2
 replace X1:=hDD (X1.out.below b2)
 replace BW:=hDD (BW.out.trans (b2.mono hsz1))
 clear o2 b2 HFL H
 cases ok
 ·simp only[Bool.false_eq_true,if_false,List.length_nil] at i1 i2 O2 HS⊢
  clear HGR
  obtain⟨w3,hw3⟩: ∃W,W=w2.alloc (Obj.cells #[Value.int IntKind.i64 0,Value.int IntKind.i64 0, .slice A2 0 c2] 82):=⟨_,rfl⟩
  obtain⟨x3,b3,s3⟩:=CBx.new hw3
  have e:=X1.out.below b3
  have e0:=e.c0
  have e1:=e.c1
  have e2:=e.c2
  have ef:=e.fz
  have elt:=e.lt
  have BW3:=hDD (BW.out.trans (b3.mono (by omega)))
  rw[hw3] at e0 e1 e2 ef elt BW3
  clear x3 b3 s3 e i1 i2 O2 X1 hw3
  go_wp2
  exact bodyPost_ret (v:= .tuple #[.agg #[.int .i64 0, .int .i64 0, .slice none 0 0], .bool false]) (by simp[results,Tryz.results67,go_sem,e0,e1,e2,elt]) rfl ⟨_,rfl,by rw[HS.out];exact⟨_,rfl,⟨by show _≤(0:Int);omega,by show(0:Int)≤_;omega⟩,⟨by show _≤(0:Int);omega,by show(0:Int)≤_;omega⟩,OwE.nil⟩,set3_below _ _ _ BW3.out (Nat.le_refl _)⟩
 ·simp only[if_true] at i1 i2 O2 HS⊢
  have hgr:=HGR.out rfl
  clear HGR
  have HCO:=hDD (fun W u (h:ArgG W u (floF r L))=>implCoreGraph_any u _ W h hgr)
  clear hgr
  generalize coreG (floF r L)=cg at*
  generalize floF r L=fg at*
  obtain⟨g1,g2,gs⟩:=fg
  simp only at*
  obtain⟨w3,hw3⟩: ∃W,W=w2.alloc (Obj.cells #[Value.int IntKind.i64 g1,Value.int IntKind.i64 g2, .slice A2 gs.length c2] 82):=⟨_,rfl⟩
  have g3:=GBx.new (m:=(g1,g2,gs)) O2.out i1 i2 hw3
  obtain⟨-,b3,s3⟩:=CBx.new hw3
  have G3:=hDD g3
  replace X1:=hDD (X1.out.below b3)
  replace BW:=hDD (BW.out.trans (b3.mono (by omega)))
  clear g3 b3 s3 i1 i2 O2
  go_wp2_with fail
  rw[←hw3]
  clear hw3
  have u0:=G3.out.c0
  have u1:=G3.out.c1
  have u2:=G3.out.c2
  simp only at u0 u1 u2
  go_wp2_with fail
  refine(HCO.out _ _ G3.out.arg).mono ?_
  rintro e w4 ⟨rv,rfl,⟨s4,rfl,i1,i2,o4⟩,b4⟩
  obtain⟨A4,c4,rfl,_⟩:=o4.form
  have hb3:=BW.out.size
  have O4:=hDD (o4.mono hb3)
  have HNE:Hid (∀b,(Value.slice A4 cg.2.2.length c4).ownBlock=some b→b≠w.heap.size):=hDD fun b hb=>by
   have:=(o4.1.lt b hb).1
   have:=X1.out.lt
   omega
  have e:=X1.out.below b4
  have e0:=e.c0
  have e1:=e.c1
  have e2:=e.c2
  have ef:=e.fz
  have elt:=e.lt
  have BW4:=hDD (BW.out.trans (b4.mono hb3))
  clear o4 b4 e u0 u1 u2 HCO
  obtain⟨p1,p2,ps⟩:=cg
  simp only at*
  go_wp2
  refine bodyPost_ret (v:= .tuple #[.agg #[.int .i64 p1, .int .i64 p2, .slice A4 ps.length c4], .bool true]) (by simp[results,Tryz.results67,go_sem,e0,e1,e2,elt]) rfl ⟨_,rfl,by rw[HS.out];exact⟨_,rfl,i1,i2,O4.out.keep fun b hb=>set3_heap _ _ _ _ _ (HNE.out b hb)⟩,set3_below _ _ _ BW4.out (Nat.le_refl _)⟩
def surB (d:MoD):Bool:=morB d&&(areW d.1 d.2&&wholeB (subF d.1 d.2))
set_option maxHeartbeats 2000000 in
theorem implIsSurjective_any (v:Value) (d:MoD) (w:World) (h:ArgM w v d) (hl:d.2.length≤1073741824) (hn:lenLL d.2≤1073741824) (hx: ∀x∈d.2,x.length≤1073741824):
  Calls Tryz.prog 16 #[v] w fun e w'=>e= .returned (.bool (surB d))∧Below w.heap.size w w':=by
 have HM:=hDD (fun W (h:ArgM W v d)=>implIsMorphism_any v d W h hx)
 have H:=hDD h
 obtain⟨s,rfl,hr,ha⟩:=h
 obtain⟨r,L⟩:=d
 have HL:=hDD ha
 obtain⟨A,c,rfl,_⟩:=ha.form
 simp only at hr HL
 have HSU:=hDD (fun W (h:RdII W (.slice A L.length c) L)=>implSubgroupOf_any r _ L W h hl hn hx hr)
 obtain⟨w1,hw1⟩: ∃W,W=w.alloc (Obj.cells #[Value.int IntKind.i64 r,Value.slice A L.length c] 31):=⟨_,rfl⟩
 obtain⟨x1,b1,s1⟩:=MBx.new hw1
 have X:=hDD x1
 have BW:=hDD b1
 replace H:=hDD (H.out.below b1)
 replace HL:=hDD (HL.out.below b1)
 have F:Hid (surB (r,L)=(morB (r,L)&&(areW r L&&wholeB (subF r L)))):=hDD rfl
 have e0:=x1.c0
 have e1:=x1.c1
 clear ha x1 b1 s1 hr
 generalize surB (r,L)=res at*
 generalize morB (r,L)=mb at*
 cases mb
 ·go_enter Tryz.func16,Tryz.ntmps16
  go_wp2_with fail
  rw[←hw1]
  clear hw1
  refine(HM.out _ H.out).mono ?_
  rintro e w2 ⟨rfl,b2⟩
  have B2:=hDD (BW.out.trans (b2.mono BW.out.size))
  clear b2
  go_wp2
  go_ret
  exact⟨ret_bool (by rw[F.out];rfl),B2.out⟩
 ·go_enter Tryz.func16,Tryz.ntmps16
  go_wp2_with fail
  rw[←hw1]
  clear hw1
  refine(HM.out _ H.out).mono ?_
  rintro e w2 ⟨rfl,b2⟩
  have B2:=hDD (BW.out.trans (b2.mono BW.out.size))
  replace X:=hDD (X.out.below b2)
  replace HL:=hDD (HL.out.below b2)
  clear b2 e0 e1 HM H
  have e0:=X.out.c0
  have e1:=X.out.c1
  go_wp2_with fail
  refine(HSU.out _ HL.out).mono ?_
  rintro e w3 ⟨rv,rfl,⟨s3,rfl,i1,i2,o3⟩,b3⟩
  obtain⟨A3,c3,rfl,_⟩:=o3.form
  have O3:=hDD o3
  have B3:=hDD (B2.out.trans (b3.mono B2.out.size))
  have HWH:=hDD (fun W u (h:ArgG W u (subF r L))=>implIsWhole_any u _ W h)
  generalize subF r L=sg at*
  generalize areW r L=ok at*
  clear o3 b3 e0 e1 HSU X HL
  obtain⟨g1,g2,gs⟩:=sg
  simp only at*
  obtain⟨w4,hw4⟩: ∃W,W=w3.alloc (Obj.cells #[Value.int IntKind.i64 g1,Value.int IntKind.i64 g2, .slice A3 gs.length c3] 82):=⟨_,rfl⟩
  have g4:=GBx.new (m:=(g1,g2,gs)) O3.out i1 i2 hw4
  obtain⟨-,b4,s4⟩:=CBx.new hw4
  have G4:=hDD g4
  have B4:=hDD (B3.out.trans (b4.mono B3.out.size))
  clear g4 b4 s4 i1 i2 O3
  cases ok
  ·go_wp2_with fail
   rw[←hw4]
   clear hw4
   go_wp2
   go_ret
   exact⟨ret_bool (by rw[F.out];rfl),B4.out⟩
  ·have u0:=G4.out.c0
   have u1:=G4.out.c1
   have u2:=G4.out.c2
   simp only at u0 u1 u2
   rw[hw4] at u0 u1 u2
   go_wp2_with fail
   rw[←hw4]
   refine(HWH.out _ _ G4.out.arg).mono ?_
   rintro e w5 ⟨rfl,b5⟩
   have B5:=hDD (B4.out.trans (b5.mono B4.out.size))
   clear b5 u0 u1 u2 hw4
   generalize wholeB (g1,g2,gs)=wb at*
   go_wp2
   go_ret
   exact⟨ret_bool (by rw[F.out];rfl),B5.out⟩
end Go.Proofs.YtlgcflpaekbopaaGreat
namespace Go.Proofs.YtlgcflpaekbopaaGreat
set_option maxRecDepth 20000
set_option linter.unusedVariables false
set_option linter.unusedSimpArgs false
open Go.RowKit
def chkS (n:Nat) (d:WhD):Bool:=surB ((n:Int),whImgs d n)
theorem chkS_all:(List.range 4).all (fun n=>(allWh n).all (chkS n))=true:=by kernel_rfl
theorem wh_sur {r:Int} {d:WhD} (h:whB r d=true):surB (whM r d)=true:=by
 obtain⟨n,rfl,h1,h3,hl⟩:=wh_rank h
 have hn:n∈List.range 4:=List.mem_range.2 (by omega)
 have ht:=List.all_eq_true.1 (List.all_eq_true.1 chkS_all n hn) _ (twin_in h1 h3 hl)
 unfold chkS at ht
 rw[imgs_eq (n:=n) (d:=d) (e:=twin n d) rfl (fun x hx=>twin_has h hx) n (Nat.le_refl _)] at ht
 unfold whM
 rw[if_pos h,Int.toNat_natCast]
 exact ht
theorem wh_mor {r:Int} {d:WhD} (h:whB r d=true):morB (whM r d)=true:=by
 have:=wh_sur h
 unfold surB at this
 rw[Bool.and_eq_true] at this
 exact this.1
end Go.Proofs.YtlgcflpaekbopaaGreat
namespace Go.Proofs.YtlgcflpaekbopaaGreat
set_option maxRecDepth 20000
set_option linter.unusedVariables false
set_option linter.unusedSimpArgs false
open Go.RowKit
set_option maxRecDepth 100000 in
set_option maxHeartbeats 4000000 in
theorem implComposeMorphisms_any (v u:Value) (r:Int) (B C:List (List Int)) (w:World) (h:ArgM w v (r,B)) (h':ArgM w u (r,C)) (hf:morB (r,B)=true) (hg:morB (r,C)=true) (hl: ∀x∈C,(expL B x).length≤24):
  Calls Tryz.prog 15 #[v,u] w fun e w'=> ∃s,e= .returned (.tuple #[.agg #[.int .i64 r,s], .bool true])∧OwII w.heap.size w'.heap.size s (C.map (expL B)) w'∧Below w.heap.size w w':=by
 obtain⟨hB1,hr,hB3⟩:=morB_parts hf
 obtain⟨hC1,-,hC3⟩:=morB_parts hg
 have hr3:=inB_iff.1 hr
 simp only at hB1 hB3 hC1 hC3
 have HM1:=hDD (fun W (h:ArgM W v (r,B))=>implIsMorphism_any v (r,B) W h (fun x hx=>by have:=wordB_len (hB1 x hx);omega))
 have HM2:=hDD (fun W (h:ArgM W u (r,C))=>implIsMorphism_any u (r,C) W h (fun x hx=>by have:=wordB_len (hC1 x hx);omega))
 rw[hf] at HM1
 rw[hg] at HM2
 have HA1:=hDD h
 have HA2:=hDD h'
 obtain⟨s,rfl,-,ha⟩:=h
 obtain⟨s',rfl,-,ha'⟩:=h'
 have HB:=hDD ha
 have HC:=hDD ha'
 obtain⟨A,c,rfl,_⟩:=ha.form
 obtain⟨A',c',rfl,_⟩:=ha'.form
 simp only at HB HC
 have HE:=hDD (fun W z x (h1:RdII W (.slice A B.length c) B) (h2:RdI W z x) (hx:x∈C)=>implExpandBy_any _ z B x W h1 h2 (by omega) (fun y hy=>by have:=wordB_len (hB1 y hy);omega) (by have:=wordB_len (hC1 x hx);omega))
 have HLN:=hDD hl
 clear ha ha' hf hg hB1 hC1 hl
 obtain⟨w1,hw1⟩: ∃W,W=w.alloc (Obj.cells #[Value.int IntKind.i64 r,Value.slice A B.length c] 31):=⟨_,rfl⟩
 obtain⟨x1,b1,s1⟩:=MBx.new hw1
 obtain⟨w2,hw2⟩: ∃W,W=w1.alloc (Obj.cells #[Value.int IntKind.i64 r,Value.slice A' C.length c'] 31):=⟨_,rfl⟩
 obtain⟨x2,b2,s2⟩:=MBx.new hw2
 obtain⟨w3,hw3⟩: ∃W,W=w2.alloc (Obj.cells #[Value.int IntKind.i64 0,Value.slice none 0 0] 31):=⟨_,rfl⟩
 obtain⟨x3,b3,s3⟩:=MBx.new hw3
 have X1:=hDD ((x1.below b2).below b3)
 have X2:=hDD (x2.below b3)
 have X3:=hDD x3
 rw[s1] at X2
 rw[s2,s1] at X3
 have BW:=hDD ((b1.trans (b2.mono b1.size)).trans (b3.mono (by omega)))
 have hz3:w.heap.size+2<w3.heap.size:=by omega
 clear x1 x2 x3 b1 b2 b3 s1 s2 s3
 replace HA1:=hDD (HA1.out.below BW.out)
 replace HA2:=hDD (HA2.out.below BW.out)
 have e0:=X1.out.c0
 have e1:=X1.out.c1
 rw[hw3,hw2,hw1] at e0 e1
 go_enter Tryz.func15,Tryz.ntmps15
 go_wp2_with fail
 rw[←hw1,←hw2,←hw3]
 clear hw1 hw2 hw3 e0 e1
 refine(HM1.out _ HA1.out).mono ?_
 rintro e w4 ⟨rfl,b4⟩
 have hb3:=BW.out.size
 replace X1:=hDD (X1.out.below b4)
 replace X2:=hDD (X2.out.below b4)
 replace X3:=hDD (X3.out.below b4)
 replace HA2:=hDD (HA2.out.below b4)
 replace BW:=hDD (BW.out.trans (b4.mono hb3))
 have hz4:w.heap.size+2<w4.heap.size:=by have:=b4.size;omega
 clear b4 HM1 HA1 hz3
 have e0:=X2.out.c0
 have e1:=X2.out.c1
 go_wp2_with fail
 refine(HM2.out _ HA2.out).mono ?_
 rintro e w5 ⟨rfl,b5⟩
 have hb4:=BW.out.size
 replace X1:=hDD (X1.out.below b5)
 replace X2:=hDD (X2.out.below b5)
 replace X3:=hDD (X3.out.below b5)
 replace BW:=hDD (BW.out.trans (b5.mono hb4))
 have hz5:w.heap.size+2<w5.heap.size:=by have:=b5.size;omega
 clear b5 HM2 HA2 hz4 e0 e1
 have hzA:w.heap.size+1<w5.heap.size:=by omega
 have hzB:w.heap.size<w5.heap.size:=by omega
 have hzC:w.heap.size+1+1<w5.heap.size:=by omega
 have e0:=X1.out.c0
 have e1:=X1.out.c1
 have g0:=X2.out.c0
 have g1:=X2.out.c1
 go_wp2_with fail
 go_loopw [32] (fun i wr=> ∃k:Nat,k≤C.length∧i= .int .i64 k∧ ∃s:Value,wr.cell? ⟨w5.heap.size,0,none⟩=some (.int .i64 r)∧wr.cell? ⟨w5.heap.size,1,none⟩=some s∧(∀o,wr.frozen? ⟨w5.heap.size,o,none⟩=false)∧OwII (w5.heap.size+1) wr.heap.size s ((C.take k).map (expL B)) wr∧Below w5.heap.size w5 wr∧w5.heap.size<wr.heap.size)
  (fun i _=>C.length-(intOf i).toNat)
 case atStart=>
  refine⟨0,Nat.zero_le _,rfl, .slice none 0 0,by simp[go_sem],by simp[go_sem],by simp[go_sem],OwII_none _ _ _,(Below.refl _ _).alloc (Nat.le_refl _) _,by simp⟩
 case round=>
  obtain⟨k,hk,rfl,s,h0,h1',hf,hs,hb5,hg5⟩:=hrel
  have HB5:=hDD hb5
  have HO5:=hDD hs
  have HBW:=hDD (BW.out.trans (hb5.mono (by omega)))
  have hlen:((C.take k).map (expL B)).length=k:=by rw[List.length_map,List.length_take];omega
  obtain⟨A5,cap5,rfl,_⟩:=hs.len
  have hX1:=X1.out.belowAt hb5 (by omega)
  have hX3:=X3.out.belowAt hb5 (by omega)
  have y0:=hX1.c0
  have y1:=hX1.c1
  clear hs hb5 e0 e1 g0 g1 hX1
  by_cases hlt:k<C.length
  ·have hltI:(k:Int)<(C.length:Int):=by omega
   obtain⟨b,off,Ax,cx,rfl,hb,hc,_,_,hr'⟩:=(HC.out.below HBW.out).at hlt
   have RD:=hDD hr'
   have HIM:Hid ((C.take (k+1)).map (expL B)=(C.take k).map (expL B)++ [expL B C[k]]):=hDD (by
    rw[List.take_succ_eq_append_getElem hlt,List.map_append];rfl)
   have hmem:=List.getElem_mem hlt
   have HEX:=hDD (fun W (h1:RdII W (.slice A B.length c) B) (h2:RdI W (.slice Ax C[k].length cx) C[k])=>HE.out W _ C[k] h1 h2 hmem)
   have hxl:=HLN.out _ hmem
   have hwk:IntKind.i64.wrap ((k:Int)+1)=((k+1:Nat):Int):=by rw[IntKind.wrap_i64];omega
   have hlk:((C.take k).map (expL B)).length≤1048576:=by omega
   clear hr' hmem hX3 hlen
   generalize C[k]=x at*
   generalize (C.take k).map (expL B)=acc at*
   generalize expL B x=ex at*
   go_wp2_with fail
   refine(HEX.out _ (HB.out.below HBW.out) RD.out).mono ?_
   rintro e w6 ⟨rv,rfl,o6,b6⟩
   have O1:=hDD o6
   have B1:=hDD b6
   obtain⟨A6,c6,rfl,_⟩:=o6.form
   have hs6:=b6.size
   have hgt: ¬(24:Int)<(ex.length:Int):=by omega
   have z0:=(b6.cell (p:=⟨w5.heap.size,0,none⟩) hg5).trans h0
   have z1:=(b6.cell (p:=⟨w5.heap.size,1,none⟩) hg5).trans h1'
   have zf:=fun o=>(b6.frozen (p:=⟨w5.heap.size,o,none⟩) hg5).trans (hf o)
   clear o6 b6 y0 y1 HEX
   go_wp2_with (at_builtin;refine push_ints rfl (.tmp 45) (.tmp 47) rfl (w0:=wr) HO5.out (by omega) (B1.out.alloc (by omega) _) rfl _ _ _ rfl (O1.out.alloc _) (Nat.le_refl _) (by simp[go_sem]) rfl (by omega) ?_;intro vz wz oz gz;obtain⟨Az,cz,rfl,_⟩:=OwnL.len oz;obtain⟨hcz,hfz⟩:=cell_grown_alloc gz (b:=w5.heap.size) (by omega) (fun h=>by have:=(HO5.out.lt h).1;omega);have hzz:=gz.size;simp at hzz;have hzz2:w5.heap.size<wz.heap.size:=(by omega);have OZ:=hDD oz;have GZ:=hDD gz;clear oz gz)
   go_roundw
   case rel=>
    have q0:=(hcz 0).trans z0
    have q1:=(hcz 1).trans z1
    have qf:=fun o=>(hfz o).trans (zf o)
    refine⟨k+1,by omega,by go_num, .slice Az (acc.length+1) cz,by simp[go_sem,q0],by simp[go_sem,q1],by simp[go_sem,qf],?_,?_,by simp;omega⟩
    ·rw[HIM.out]
     have h9:=OZ.out
     simp only[List.length_append,List.length_singleton] at h9
     have h:=h9.keep EI.stable (w':=wz.setCell ⟨w5.heap.size,1,none⟩ (.slice Az (acc.length+1) cz)) fun b hb _=>by rw[setCell_block _ _ _ b (by show b≠w5.heap.size;omega)]
     exact h.widen (Nat.le_refl _) (by simp)
    ·exact(((HB5.out.trans (B1.out.mono (by omega))).alloc (by omega) _).grown GZ.out (by simp;omega) (fun j hj=>Nat.le_of_lt (HO5.out.lt hj).1)).setCell (Nat.le_refl _) _
   case measure=>simp[intOf];omega
  ·obtain rfl:k=C.length:=by omega
   have hltI: ¬(C.length:Int)<(C.length:Int):=by omega
   rw[List.take_length] at HO5 hlen h1'
   have HO6:Hid (OwII (w5.heap.size+1) wr.heap.size (.slice A5 C.length cap5) (C.map (expL B)) wr):=hDD (by have:=HO5.out;rwa [hlen] at this)
   rw[hlen] at h1'
   clear HO5 hlen
   have e0:=hX3.c0
   have e1:=hX3.c1
   have ef:=hX3.fz
   have hlt2:=hX3.lt
   go_wp2
   refine bodyPost_ret (v:= .tuple #[.agg #[.int .i64 r, .slice A5 C.length cap5], .bool true]) (by simp[results,Tryz.results15,go_sem,hlt2,e0,e1]) rfl ⟨_,rfl,?_,?_⟩
   ·have h:OwII (w5.heap.size+1) wr.heap.size (.slice A5 C.length cap5) (C.map (expL B)) ((wr.setCell ⟨w.heap.size+1+1,0,none⟩ (.int .i64 r)).setCell ⟨w.heap.size+1+1,1,none⟩ (.slice A5 C.length cap5)):=
     HO6.out.keep EI.stable fun b hb _=>by rw[setCell_block _ _ _ b (by show b≠w.heap.size+1+1;omega),setCell_block _ _ _ b (by show b≠w.heap.size+1+1;omega)]
    have hh:=h.widen (lo':=w.heap.size) (hi':=wr.heap.size) (by omega) (Nat.le_refl _)
    simpa using hh
   ·exact(HBW.out.setCell (by show w.heap.size≤w.heap.size+1+1;omega) _).setCell (by show w.heap.size≤w.heap.size+1+1;omega) _
end Go.Proofs.YtlgcflpaekbopaaGreat
namespace Go.Proofs.YtlgcflpaekbopaaGreat
set_option maxRecDepth 20000
set_option linter.unusedVariables false
set_option linter.unusedSimpArgs false
open Go.RowKit
def fmtWh (d:WhD):List UInt8:=if lt d.1= [] then [] else if okL d.2 then lt d.1++ [58]++d.2.flatMap lt else []
set_option maxHeartbeats 1000000 in
theorem specFormatWord_any (v:Value) (es:List Int) (w:World) (h:RdI w v es) (hl:es.length≤1073741824):
  Calls Tryz.prog 60 #[v] w fun e w'=>e= .returned (str (fmtW es))∧Below w.heap.size w w':=by
 have H:=hDD h
 obtain⟨A,cap,rfl,hcap,hm,_,_⟩:=h.arg
 clear h
 go_enter Tryz.func60,Tryz.ntmps60
 go_wp2
 go_loopw [3,4] (fun s i wr=> ∃(k:Nat) (t:List UInt8),k≤es.length∧i= .int .i64 k∧s= .string ⟨t.toArray⟩∧t=(es.take k).flatMap lt∧(∀j (hj:j<es.length),j<k→lt es[j]≠ [])∧Below w.heap.size w wr) (fun _ i _=>es.length-(intOf i).toNat)
 case atStart=>exact⟨0,[],Nat.zero_le _,rfl,rfl,by simp,(fun j hj h=>absurd h (by omega)),Below.refl _ _⟩
 case round=>
  obtain⟨k,t,hk,rfl,rfl,ht,hok,hbel⟩:=hrel
  have hsz:=hbel.size
  have hsl:t.length≤k:=by
   have h1:=flatL_len (es.take k)
   have h2:=List.length_take_le k es
   rw[←ht] at h1
   omega
  have HT:=hDD ht
  have HOK:=hDD hok
  have HBL:=hDD hbel
  clear ht hok
  by_cases hlt:k<es.length
  ·obtain⟨b,off,rfl,hbl,hc⟩:=(H.out.below hbel).at (by omega)
   have hcell:=hc k hlt
   clear hbel
   have HS:=hDD (flatL_succ es k hlt)
   have HBAD:Hid (lt es[k]= []→fmtW es= []):=fun h=>by unfold fmtW;rw[okL_bad k hlt h];rfl
   have HST:Hid (lt es[k]≠ []→ ∀j (hj:j<es.length),j<k+1→lt es[j]≠ []):=fun F j hj hjk=>by
    rcases Nat.lt_or_eq_of_le (Nat.le_of_lt_succ hjk) with h | rfl
    ·exact HOK.out j hj h
    ·exact F
   clear hc
   generalize es[k]=e at hcell HS HBAD HST
   have hlb:=l2Letter_any e
   rw[letB3] at hlb
   by_cases hle:lt e= []
   ·have LB:Hid (∀w,Calls Tryz.prog 61 #[.int .i64 e] w fun e w'=>e= .returned (.bool false)∧w=w'):=hDD (by rw[hle] at hlb;simpa using hlb)
    have F:=hDD (HBAD.out hle)
    clear hlb hle
    go_wp2_with (go_at_call 61;refine(LB.out _).mono ?_;rintro e w' ⟨rfl,rfl⟩)
    go_ret
    exact⟨by rw[F.out];rfl,HBL.out⟩
   ·obtain⟨c,hcc⟩:=lt_one e hle
    rw[decide_eq_true hle] at hlb
    have LB:Hid (∀w,Calls Tryz.prog 61 #[.int .i64 e] w fun e w'=>e= .returned (.bool true)∧w=w'):=hDD hlb
    have hch: ∀w,_:=fun w=>l2Char_any e w hle
    rw[hcc] at hch
    have LC:=hDD hch
    have CC:=hDD hcc
    have F:=hDD (HST.out hle)
    clear hlb hle hcc hch
    unfold str at LC
    go_wp2_with fail
    refine(LB.out _).mono ?_
    rintro e w' ⟨rfl,rfl⟩
    go_wp2_with fail
    refine(LC.out _).mono ?_
    rintro e w1 ⟨rfl,b1⟩
    have B1:=hDD b1
    clear b1
    go_wp2
    go_roundw
    case rel=>exact⟨k+1,t++ [c],by omega,by go_num,str_snoc _ _,by rw[HS.out,HT.out,CC.out],F.out,HBL.out.trans (B1.out.mono hsz)⟩
    case measure=>simp[intOf];omega
  ·obtain rfl:k=es.length:=by omega
   have hokl:okL es=true:=okL_ok fun j hj=>HOK.out j hj hj
   by_cases h0:es= []
   ·subst h0
    have ht0:t= []:=HT.out
    subst ht0
    clear hokl
    go_wp2
    go_ret
    exact⟨by rfl,HBL.out⟩
   ·have F:Hid (fmtW es=es.flatMap lt):=hDD (by unfold fmtW;rw[if_pos hokl,if_neg h0])
    have hne:t≠ []:=by
     rw[HT.out,List.take_length]
     cases es with
     | nil=>exact absurd rfl h0
     | cons e es=>
       have:=HOK.out 0 (by simp) (by simp)
       simp only[List.flatMap_cons]
       intro hh
       exact this (List.append_eq_nil_iff.1 hh).1
    have hte:t.isEmpty=false:=by cases t with | nil=>exact absurd rfl hne | cons _ _=>rfl
    have hte2:(t== [])=false:=by cases t with | nil=>exact absurd rfl hne | cons _ _=>rfl
    clear h0 hokl
    go_wp2
    go_ret
    exact⟨by rw[F.out,HT.out,List.take_length];rfl,HBL.out⟩
set_option maxHeartbeats 2000000 in
theorem implFormatWhitehead_any (v:Value) (d:WhD) (w:World) (h:ArgWh w v d) (hl:d.2.length≤1073741824):
  Calls Tryz.prog 11 #[v] w fun e w'=>e= .returned (str (fmtWh d))∧Below w.heap.size w w':=by
 obtain⟨s,rfl,hd,ha⟩:=h
 obtain⟨L,es⟩:=d
 simp only at hd ha hl
 obtain⟨A,cap,rfl,hcap,hm,hr,hb⟩:=ha
 have HB:=hDD hb
 have HR:=hDD hr
 have HL:=hDD hd
 clear hr hb hd
 have hlL:=fun w=>letterText_any L w HL.out
 by_cases h0:lt L= []
 ·rw[h0] at hlL
  have LL:=hDD hlL
  have F:Hid (fmtWh (L,es)= []):=hDD (by unfold fmtWh;rw[if_pos h0])
  clear h0 hlL
  unfold str at LL
  go_enter Tryz.func11,Tryz.ntmps11
  go_wp2_with (go_at_call 59;refine(LL.out _).mono ?_;rintro e w' ⟨rfl,rfl⟩)
  go_ret
  exact⟨by rw[F.out];rfl,(by repeat(first | exact Below.refl _ _ | (refine Below.setCell ?_ (by first | omega | (simp<;>omega)) _) | (refine bel_drewN ?_ _) | (refine Below.drew ?_) | (refine Below.alloc ?_ (by first | omega | (simp<;>omega)) _)))⟩
 ·obtain⟨c0,hc0⟩:=lt_one L h0
  rw[hc0] at hlL
  have LL:=hDD hlL
  have HC0:=hDD hc0
  clear hlL h0 hc0
  unfold str at LL
  go_enter Tryz.func11,Tryz.ntmps11
  go_wp2_with (go_at_call 59;refine(LL.out _).mono ?_;rintro e w' ⟨rfl,rfl⟩)
  go_loop [3,17] (fun s i=> ∃(k:Nat) (t:List UInt8),k≤es.length∧i= .int .i64 k∧s= .string ⟨t.toArray⟩∧t= [c0,58]++(es.take k).flatMap lt∧ ∀j (hj:j<es.length),j<k→lt es[j]≠ []) (fun _ i=>es.length-(intOf i).toNat)
  case atStart=>exact⟨0,[c0,58],Nat.zero_le _,rfl,by first | rfl | exact str_snoc [c0] 58,by simp,fun j hj h=>absurd h (by omega)⟩
  case round=>
   obtain⟨k,t,hk,rfl,rfl,ht,hok⟩:=hrel
   have hsl:t.length≤k+2:=by
    have h1:=flatL_len (es.take k)
    have h2:=List.length_take_le k es
    rw[ht]
    simp only[List.length_append,List.length_cons,List.length_nil]
    omega
   have HT:=hDD ht
   have HOK:=hDD hok
   clear ht hok
   by_cases hlt:k<es.length
   ·obtain⟨b,off,rfl,hc⟩:=HB.out (by omega)
    have hbl:b<w.heap.size:=World.block_lt_of_cell? w _ (hc k hlt)
    have hcell:=hc k hlt
    have HS:=hDD (flatL_succ es k hlt)
    have HI:=hDD (HR.out es[k] (by simp))
    have HBAD:Hid (lt es[k]= []→fmtWh (L,es)= []):=fun h=>by unfold fmtWh;simp only[okL_bad k hlt h];simp
    have HST:Hid (lt es[k]≠ []→ ∀j (hj:j<es.length),j<k+1→lt es[j]≠ []):=fun F j hj hjk=>by
     rcases Nat.lt_or_eq_of_le (Nat.le_of_lt_succ hjk) with h | rfl
     ·exact HOK.out j hj h
     ·exact F
    clear hc
    generalize es[k]=e at hcell HS HI HBAD HST
    have hlt2:=fun w=>letterText_any e w HI.out
    by_cases hle:lt e= []
    ·rw[hle] at hlt2
     have LT':=hDD hlt2
     have F:=hDD (HBAD.out hle)
     clear hlt2 hle
     unfold str at LT'
     go_wp2_with (go_at_call 59;refine(LT'.out _).mono ?_;rintro e w' ⟨rfl,rfl⟩)
     go_ret
     exact⟨by rw[F.out];rfl,(by repeat(first | exact Below.refl _ _ | (refine Below.setCell ?_ (by first | omega | (simp<;>omega)) _) | (refine bel_drewN ?_ _) | (refine Below.drew ?_) | (refine Below.alloc ?_ (by first | omega | (simp<;>omega)) _)))⟩
    ·obtain⟨c,hcc⟩:=lt_one e hle
     rw[hcc] at hlt2
     have LT':=hDD hlt2
     have CC:=hDD hcc
     have F:=hDD (HST.out hle)
     clear hlt2 hle hcc
     unfold str at LT'
     go_wp2_with (go_at_call 59;refine(LT'.out _).mono ?_;rintro e w' ⟨rfl,rfl⟩)
     go_round
     case rel=>exact⟨k+1,t++ [c],by omega,by go_num,str_snoc _ _,by rw[HS.out,HT.out,CC.out,List.append_assoc],F.out⟩
     case measure=>simp[intOf];omega
   ·obtain rfl:k=es.length:=by omega
    have F:Hid (fmtWh (L,es)= [c0]++ [58]++es.flatMap lt):=hDD (by
     unfold fmtWh
     simp only[HC0.out,okL_ok fun j hj=>HOK.out j hj hj]
     simp)
    go_wp2
    go_ret
    exact⟨by rw[F.out,HT.out,List.take_length];rfl,(by repeat(first | exact Below.refl _ _ | (refine Below.setCell ?_ (by first | omega | (simp<;>omega)) _) | (refine bel_drewN ?_ _) | (refine Below.drew ?_) | (refine Below.alloc ?_ (by first | omega | (simp<;>omega)) _)))⟩
theorem fmtW_one (L:Int):fmtW [L]=lt L:=by
 unfold fmtW okL
 by_cases h:lt L= []<;>simp[h]
set_option maxHeartbeats 2000000 in
theorem specFormatWhitehead_any (v:Value) (d:WhD) (w:World) (h:ArgWh w v d) (hl:d.2.length≤1073741824):
  Calls Tryz.prog 12 #[v] w fun e w'=>e= .returned (str (fmtWh d))∧Below w.heap.size w w':=by
 obtain⟨s,rfl,hd,ha⟩:=h
 obtain⟨L,es⟩:=d
 simp only at hd ha hl
 have H:=hDD ha
 obtain⟨A,cap,rfl,hcap,hm,hr,_⟩:=ha
 have HL:=hDD hd
 clear hr hd
 by_cases h0:lt L= []
 ·have F:Hid (fmtWh (L,es)= []):=hDD (by unfold fmtWh;rw[if_pos h0])
  have G:Hid (str (fmtW [L])= .string ⟨#[]⟩):=hDD (by rw[fmtW_one,h0];rfl)
  clear h0
  have hr1:RdI ((w.alloc (Obj.cells #[.int .i64 L, .slice A es.length cap] 26)).alloc (Obj.cells #[.int .i64 L] 3)) (.slice (some ⟨w.heap.size+1,0,none⟩) 1 1) [L]:=
   (OwI_litN _ [L] (w.heap.size+1) (by simp) (by intro x hx;simp at hx;subst hx;exact HL.out) (by simp) (Nat.le_refl _)).rd
  have HR1:=hDD (specFormatWord_any _ [L] _ hr1 (by simp))
  clear hr1
  go_enter Tryz.func12,Tryz.ntmps12
  go_wp2_with fail
  with_reducible refine Calls.mono HR1.out ?_
  rintro e w1 ⟨rfl,b1⟩
  rw[G.out]
  have B1:=hDD b1
  clear b1
  go_wp2
  go_ret
  exact⟨by rw[F.out];rfl,(by repeat(first | exact Below.refl _ _ | (refine Below.setCell ?_ (by first | omega | (simp<;>omega)) _) | (refine bel_drewN ?_ _) | (refine Below.drew ?_) | (refine Below.alloc ?_ (by first | omega | (simp<;>omega)) _) | (refine Below.trans ?_ (Below.mono (Hid.out B1) (by first | omega | (simp<;>omega))))))⟩
 ·obtain⟨c0,hc0⟩:=lt_one L h0
  have G:Hid (str (fmtW [L])= .string ⟨#[c0]⟩):=hDD (by rw[fmtW_one,hc0];rfl)
  have HC0:=hDD hc0
  clear h0 hc0
  have hr1:RdI ((w.alloc (Obj.cells #[.int .i64 L, .slice A es.length cap] 26)).alloc (Obj.cells #[.int .i64 L] 3)) (.slice (some ⟨w.heap.size+1,0,none⟩) 1 1) [L]:=
   (OwI_litN _ [L] (w.heap.size+1) (by simp) (by intro x hx;simp at hx;subst hx;exact HL.out) (by simp) (Nat.le_refl _)).rd
  have HR1:=hDD (specFormatWord_any _ [L] _ hr1 (by simp))
  clear hr1
  go_enter Tryz.func12,Tryz.ntmps12
  go_wp2_with fail
  with_reducible refine Calls.mono HR1.out ?_
  rintro e w1 ⟨rfl,b1⟩
  rw[G.out]
  have B1:=hDD b1
  have hb1:=b1.mono (B':=w.heap.size+1) (by simp)
  obtain⟨hc,_⟩:=bcellN hb1
  have hbx0:w1.cell? ⟨w.heap.size,1,none⟩=some (.slice A es.length cap):=by rw[hc _ _ (by omega)];simp[go_sem]
  have HBX:=hDD hbx0
  have hbel:Below w.heap.size w w1:=(by repeat(first | exact Below.refl _ _ | (refine Below.setCell ?_ (by first | omega | (simp<;>omega)) _) | (refine bel_drewN ?_ _) | (refine Below.drew ?_) | (refine Below.alloc ?_ (by first | omega | (simp<;>omega)) _) | (refine Below.trans ?_ (Below.mono (Hid.out B1) (by first | omega | (simp<;>omega))))))
  have HBL:=hDD hbel
  have hsz1:w.heap.size+1≤w1.heap.size:=by have:=b1.size;simp at this;omega
  clear b1 hb1 hc hbel
  go_wp2
  go_loopw [3,4] (fun s i wr=> ∃(k:Nat) (t:List UInt8),k≤es.length∧i= .int .i64 k∧s= .string ⟨t.toArray⟩∧t= [c0,58]++(es.take k).flatMap lt∧(∀j (hj:j<es.length),j<k→lt es[j]≠ [])∧Below w1.heap.size w1 wr) (fun _ i _=>es.length-(intOf i).toNat)
  case atStart=>exact⟨0,[c0,58],Nat.zero_le _,rfl,by first | rfl | exact str_snoc [c0] 58,by simp,(fun j hj h=>absurd h (by omega)),Below.refl _ _⟩
  case round=>
   obtain⟨k,t,hk,rfl,rfl,ht,hok,hbl1⟩:=hrel
   have hsz:=hbl1.size
   have hbx:=(hbl1.cell (p:=⟨w.heap.size,1,none⟩) (by show w.heap.size<_;omega)).trans HBX.out
   have hsl:t.length≤k+2:=by
    have h1:=flatL_len (es.take k)
    have h2:=List.length_take_le k es
    rw[ht]
    simp only[List.length_append,List.length_cons,List.length_nil]
    omega
   have HT:=hDD ht
   have HOK:=hDD hok
   have HB1:=hDD hbl1
   clear ht hok hbx0
   by_cases hlt:k<es.length
   ·have hag:=(H.out.below HBL.out).below HB1.out
    obtain⟨A',cap',hv,_,_,_,hbb⟩:=hag
    obtain⟨rfl,rfl⟩:A=A'∧cap=cap':=by simpa using hv
    obtain⟨b,off,rfl,hc⟩:=hbb (by omega)
    have hcell:=hc k hlt
    have HS:=hDD (flatL_succ es k hlt)
    have HBAD:Hid (lt es[k]= []→fmtWh (L,es)= []):=fun h=>by unfold fmtWh;simp only[okL_bad k hlt h];simp
    have HST:Hid (lt es[k]≠ []→ ∀j (hj:j<es.length),j<k+1→lt es[j]≠ []):=fun F j hj hjk=>by
     rcases Nat.lt_or_eq_of_le (Nat.le_of_lt_succ hjk) with h | rfl
     ·exact HOK.out j hj h
     ·exact F
    clear hc hbb hv hbl1
    generalize es[k]=e at hcell HS HBAD HST
    have hlb:=l2Letter_any e
    rw[letB3] at hlb
    by_cases hle:lt e= []
    ·have LB:Hid (∀w,Calls Tryz.prog 61 #[.int .i64 e] w fun e w'=>e= .returned (.bool false)∧w=w'):=hDD (by rw[hle] at hlb;simpa using hlb)
     have F:=hDD (HBAD.out hle)
     clear hlb hle
     go_wp2_with (go_at_call 61;refine(LB.out _).mono ?_;rintro e w' ⟨rfl,rfl⟩)
     go_ret
     exact⟨by rw[F.out];rfl,HBL.out.trans (HB1.out.mono (by omega))⟩
    ·obtain⟨c,hcc⟩:=lt_one e hle
     rw[decide_eq_true hle] at hlb
     have LB:Hid (∀w,Calls Tryz.prog 61 #[.int .i64 e] w fun e w'=>e= .returned (.bool true)∧w=w'):=hDD hlb
     have hch: ∀w,_:=fun w=>l2Char_any e w hle
     rw[hcc] at hch
     have LC:=hDD hch
     have CC:=hDD hcc
     have F:=hDD (HST.out hle)
     clear hlb hle hcc hch
     unfold str at LC
     go_wp2_with fail
     refine(LB.out _).mono ?_
     rintro e w' ⟨rfl,rfl⟩
     go_wp2_with fail
     refine(LC.out _).mono ?_
     rintro e w2 ⟨rfl,b2⟩
     have B2:=hDD b2
     clear b2
     go_wp2
     go_roundw
     case rel=>exact⟨k+1,t++ [c],by omega,by go_num,str_snoc _ _,by rw[HS.out,HT.out,CC.out,List.append_assoc],F.out,HB1.out.trans (B2.out.mono hsz)⟩
     case measure=>simp[intOf];omega
   ·obtain rfl:k=es.length:=by omega
    have F:Hid (fmtWh (L,es)= [c0]++ [58]++es.flatMap lt):=hDD (by
     unfold fmtWh
     simp only[HC0.out,okL_ok fun j hj=>HOK.out j hj hj]
     simp)
    go_wp2
    go_ret
    exact⟨by rw[F.out,HT.out,List.take_length];rfl,HBL.out.trans (HB1.out.mono (by omega))⟩
end Go.Proofs.YtlgcflpaekbopaaGreat
namespace Go.Proofs.YtlgcflpaekbopaaGreat
set_option maxRecDepth 20000
set_option linter.unusedVariables false
set_option linter.unusedSimpArgs false
open Go.RowKit
def whInv (d:WhD):WhD:=(wrap64 (-d.1),d.2)
set_option maxHeartbeats 1000000 in
theorem implInverseWhitehead_any (v:Value) (d:WhD) (w:World) {base:Nat} (h:OwWh w base v d) (hl:d.2.length≤1073741824):
  Calls Tryz.prog 13 #[v] w fun e w'=> ∃r,e= .returned r∧OwWh w' w.heap.size r (whInv d)∧Below w.heap.size w w':=by
 obtain⟨s,rfl,hd,ho⟩:=h
 obtain⟨L,xs⟩:=d
 have H:=hDD ho.rd
 obtain⟨A,cap,rfl,_⟩:=OwI.form ho
 clear ho
 go_enter Tryz.func13,Tryz.ntmps13
 go_wp2_with fail
 go_region_held3 (fun w'=>w'.cell? ⟨w.heap.size,0,none⟩=some (.int .i64 L)∧w'.cell? ⟨w.heap.size,1,none⟩=some (.slice A xs.length cap)) (first | go_keep | (constructor<;>(rw[hc _ _ (by simp;omega)];simp[go_sem])))
  (first | (go_at_call 63;refine(copyInts_any _ xs _ ?_ hl).mono ?_;(exact(by repeat(first | exact(Hid.out H) | (refine RdI.drew ?_) | (refine RdI.drewN ?_ _) | (refine RdI.alloc ?_ _))));rintro e w1 ⟨r,rfl,o1,b1⟩;have O1:=hDD o1;have B1:=hDD b1;obtain⟨A1,cap1,rfl,_⟩:=OwI.form o1;obtain⟨hc,hf⟩:=bcell b1;have hz:w.heap.size+1<w1.heap.size:=(by have:=b1.size;simp at this;omega);clear o1 b1))
 go_wp2
 refine bodyPost_ret (v:= .agg #[.int .i64 (wrap64 (-L)), .slice A1 xs.length cap1]) (by simp[results,Tryz.results13,go_sem,hc,hz,wrap_i64_eq]) rfl ⟨_,rfl,⟨_,rfl,I64_wrap0 _,?_⟩,?_⟩
 ·refine OwI.mono (base:=w.heap.size+1+1) ?_ (by omega)
  have O2:Hid (OwI w1 (w.heap.size+1+1) (.slice A1 xs.length cap1) xs):=hDD (by simpa using O1.out)
  exact(by repeat(first | exact(Hid.out O2) | exact(Hid.out O2).drewN _ | (refine OwI.far ?_ (by first | omega | (simp<;>omega)) _) | (refine OwI.alloc ?_ _) | (refine OwI.drew ?_) | (refine OwI.drewN ?_ _)))
 ·exact(by repeat(first | exact Below.refl _ _ | (refine Below.setCell ?_ (by first | omega | (simp<;>omega)) _) | (refine bel_drewN ?_ _) | (refine Below.drew ?_) | (refine Below.alloc ?_ (by first | omega | (simp<;>omega)) _) | (refine Below.trans ?_ (Below.mono (Hid.out B1) (by first | omega | (simp<;>omega))))))
end Go.Proofs.YtlgcflpaekbopaaGreat
