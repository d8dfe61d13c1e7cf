/- Parts of the proof: FoldK, Mov, Core, InsI. -/
import Derived.Test.YtnjpoljbagfdnaaGreatV05
import Derived.Test.YtnjpoljbagfdnaaGreatV02
import Derived.Deep.RegionHeld3
import Derived.Outline
import Derived.Test.YtnjpoljbagfdnaaGreatV04
import Derived.Test.YtnjpoljbagfdnaaGreatV03
import Derived.Test.YtnjpoljbagfdnaaGreatV01
namespace Go.Proofs.YtnjpoljbagfdnaaGreat
set_option maxRecDepth 20000
set_option linter.unusedVariables false
set_option linter.unusedSimpArgs false
open Go.RowKit
def sLen:Value→Nat
 | .slice _ n _=>n
 | _=>0
set_option maxHeartbeats 1000000 in
theorem implFoldOnce_any (v:Value) (g:GrD) (w:World) (h:ArgG w v g) (hg:grB g=true):
  Calls Tryz.prog 228 #[v] w fun e w'=> ∃r,e= .returned (.tuple #[r, .agg #[.int .i64 (firF g).1.1, .int .i64 (firF g).1.2], .bool (firF g).2])∧OwG w' w.heap.size r (onceG g)∧Below w.heap.size w w':=by
 have HG:=hDD h
 have HGR:=hDD hg
 have HFK:=hDD fun f (hf:f∈foL g.2.2)=>foL_ok hg hf
 have h120:=(grB_parts hg).2.2.1
 obtain⟨s,rfl,hi1,hi2,ha⟩:=h
 obtain⟨A,cap,rfl⟩:=ha.form
 obtain⟨g1,N,es⟩:=g
 simp only at*
 clear ha hg
 go_enter Tryz.func228,Tryz.ntmps228
 have bx:Below w.heap.size w (((w.alloc (Obj.cells #[Value.int IntKind.i64 g1,Value.int IntKind.i64 N, .slice A es.length cap] 26)).alloc (Obj.cells #[Value.int IntKind.i64 0,Value.int IntKind.i64 0, .slice none 0 0] 26)).alloc (Obj.cells #[Value.int IntKind.i64 0,Value.int IntKind.i64 0] 106)):=(by repeat(first | exact Below.refl _ _ | (refine Below.setCell ?_ (by first | omega | (simp<;>omega)) _) | (refine bel_drewN ?_ _) | (refine Below.drew ?_) | (refine Below.alloc ?_ (by first | omega | (simp<;>omega)) _)))
 go_wp2_with fail
 obtain⟨W,hW⟩: ∃W,W=(((w.alloc (Obj.cells #[Value.int IntKind.i64 g1,Value.int IntKind.i64 N, .slice A es.length cap] 26)).alloc (Obj.cells #[Value.int IntKind.i64 0,Value.int IntKind.i64 0, .slice none 0 0] 26)).alloc (Obj.cells #[Value.int IntKind.i64 0,Value.int IntKind.i64 0] 106)):=⟨_,rfl⟩
 rw[←hW] at bx⊢
 have hsW:W.heap.size=w.heap.size+3:=by rw[hW];simp
 have L0:Hid (W.cell? ⟨w.heap.size,0,none⟩=some (.int .i64 g1)):=hDD (by rw[hW];simp[go_sem])
 have L1:Hid (W.cell? ⟨w.heap.size,1,none⟩=some (.int .i64 N)):=hDD (by rw[hW];simp[go_sem])
 have L2:Hid (W.cell? ⟨w.heap.size,2,none⟩=some (.slice A es.length cap)):=hDD (by rw[hW];simp[go_sem])
 have R0:Hid (W.cell? ⟨w.heap.size+1,0,none⟩=some (.int .i64 0)):=hDD (by rw[hW];simp[go_sem])
 have R1:Hid (W.cell? ⟨w.heap.size+1,1,none⟩=some (.int .i64 0)):=hDD (by rw[hW];simp[go_sem])
 have R2:Hid (W.cell? ⟨w.heap.size+1,2,none⟩=some (.slice none 0 0)):=hDD (by rw[hW];simp[go_sem])
 have S0:Hid (W.cell? ⟨w.heap.size+1+1,0,none⟩=some (.int .i64 0)):=hDD (by rw[hW];simp[go_sem])
 have S1:Hid (W.cell? ⟨w.heap.size+1+1,1,none⟩=some (.int .i64 0)):=hDD (by rw[hW];simp[go_sem])
 have RF:Hid (∀j,W.frozen? ⟨w.heap.size+1,j,none⟩=false):=hDD fun j=>by rw[hW];simp[go_sem]
 have SF:Hid (∀j,W.frozen? ⟨w.heap.size+1+1,j,none⟩=false):=hDD fun j=>by rw[hW];simp[go_sem]
 have BX:=hDD bx
 have HA:Hid (∀w',Below W.heap.size W w'→ArgG w' (.agg #[.int .i64 g1, .int .i64 N, .slice A es.length cap]) (g1,N,es)):=hDD fun w' hb=>HG.out.below (BX.out.trans (hb.mono BX.out.size))
 have HCL:Hid (∀w',Below W.heap.size W w'→w'.cell? ⟨w.heap.size,0,none⟩=some (.int .i64 g1)∧w'.cell? ⟨w.heap.size,1,none⟩=some (.int .i64 N)∧w'.cell? ⟨w.heap.size,2,none⟩=some (.slice A es.length cap)):=hDD fun w' hb=>
  ⟨(hb.cell (p:=⟨w.heap.size,0,none⟩) (by show w.heap.size<_;omega)).trans L0.out,(hb.cell (p:=⟨w.heap.size,1,none⟩) (by show w.heap.size<_;omega)).trans L1.out,(hb.cell (p:=⟨w.heap.size,2,none⟩) (by show w.heap.size<_;omega)).trans L2.out⟩
 have HCR:Hid (∀w',Below W.heap.size W w'→w'.cell? ⟨w.heap.size+1,0,none⟩=some (.int .i64 0)∧w'.cell? ⟨w.heap.size+1,1,none⟩=some (.int .i64 0)∧w'.cell? ⟨w.heap.size+1,2,none⟩=some (.slice none 0 0)∧w'.cell? ⟨w.heap.size+1+1,0,none⟩=some (.int .i64 0)∧w'.cell? ⟨w.heap.size+1+1,1,none⟩=some (.int .i64 0)∧(∀j,w'.frozen? ⟨w.heap.size+1,j,none⟩=false)∧(∀j,w'.frozen? ⟨w.heap.size+1+1,j,none⟩=false)):=hDD fun w' hb=>
  ⟨(hb.cell (p:=⟨w.heap.size+1,0,none⟩) (by show w.heap.size+1<_;omega)).trans R0.out,(hb.cell (p:=⟨w.heap.size+1,1,none⟩) (by show w.heap.size+1<_;omega)).trans R1.out,(hb.cell (p:=⟨w.heap.size+1,2,none⟩) (by show w.heap.size+1<_;omega)).trans R2.out,(hb.cell (p:=⟨w.heap.size+1+1,0,none⟩) (by show w.heap.size+1+1<_;omega)).trans S0.out,(hb.cell (p:=⟨w.heap.size+1+1,1,none⟩) (by show w.heap.size+1+1<_;omega)).trans S1.out,fun j=>(hb.frozen (p:=⟨w.heap.size+1,j,none⟩) (by show w.heap.size+1<_;omega)).trans (RF.out j),fun j=>(hb.frozen (p:=⟨w.heap.size+1+1,j,none⟩) (by show w.heap.size+1+1<_;omega)).trans (SF.out j)⟩
 clear hW bx L0 L1 L2 R0 R1 R2 S0 S1 RF SF
 refine(implFirstFold_any _ (g1,N,es) W (HA.out _ (Below.refl _ _))).mono ?_
 rintro e w1 ⟨rfl,b1⟩
 have B1:=hDD b1
 have hs1:=b1.size
 clear b1
 rcases ef:foL es with _ | ⟨f,l⟩
 ·have F:Hid (firF (g1,N,es)=((0,0),false)):=hDD (by unfold firF;rw[if_pos HGR.out];simp only[ef])
  have FO:Hid (onceG (g1,N,es)=(g1,N,es)):=hDD (by unfold onceG;simp only[ef])
  clear ef
  rw[F.out]
  simp only
  have bA:Below w1.heap.size w1 (w1.alloc (Obj.cells #[Value.int IntKind.i64 0,Value.int IntKind.i64 0] 106)):=(Below.refl _ _).alloc (Nat.le_refl _) _
  have BA:=hDD (B1.out.trans (bA.mono hs1))
  obtain⟨q0,q1,q2⟩:=HCL.out _ BA.out
  go_wp2_with fail
  refine(copyGraph_any _ (g1,N,es) _ (HA.out _ BA.out) (by simp only;omega)).mono ?_
  rintro e w2 ⟨r,rfl,o2,b2⟩
  have B2:=hDD (BA.out.trans (b2.mono BA.out.size))
  have O2:=hDD o2
  obtain⟨s2,rfl,_,_,oe2⟩:=o2
  obtain⟨A2,c2,rfl,_⟩:=oe2.form
  have OE2:=hDD oe2
  have hsA:=BA.out.size
  obtain⟨r0,r1,r2,s0,s1,rf,sf⟩:=HCR.out w2 B2.out
  have rf0:=rf 0
  have rf1:=rf 1
  have rf2:=rf 2
  have sf0:=sf 0
  have sf1:=sf 1
  have HBF:=hDD (BX.out.trans (B2.out.mono BX.out.size))
  clear b2 oe2 rf sf q0 q1 q2 bA
  go_wp2
  obtain⟨c0,c1,c2'⟩:=cells3F (.int .i64 g1) (.int .i64 N) (.slice A2 es.length c2) r0 r1 r2
  have hne1:w.heap.size+1≠w.heap.size+1+1:=by omega
  have hne2:w.heap.size+1+1≠w.heap.size+1:=by omega
  have d0:=setc_other (o':=1) (u:= .int .i64 0) hne1 (setc_other (o':=0) (u:= .int .i64 0) hne1 c0)
  have d1:=setc_other (o':=1) (u:= .int .i64 0) hne1 (setc_other (o':=0) (u:= .int .i64 0) hne1 c1)
  have d2:=setc_other (o':=1) (u:= .int .i64 0) hne1 (setc_other (o':=0) (u:= .int .i64 0) hne1 c2')
  obtain⟨e0,e1⟩:=cells2 (.int .i64 0) (.int .i64 0) (setc_other (o':=2) (u:= .slice A2 es.length c2) hne2 (setc_other (o':=1) (u:= .int .i64 N) hne2 (setc_other (o':=0) (u:= .int .i64 g1) hne2 s0))) (setc_other (o':=2) (u:= .slice A2 es.length c2) hne2 (setc_other (o':=1) (u:= .int .i64 N) hne2 (setc_other (o':=0) (u:= .int .i64 g1) hne2 s1)))
  have bw:Below w.heap.size w (((((w2.setCell ⟨w.heap.size+1,0,none⟩ (.int .i64 g1)).setCell ⟨w.heap.size+1,1,none⟩ (.int .i64 N)).setCell ⟨w.heap.size+1,2,none⟩ (.slice A2 es.length c2)).setCell ⟨w.heap.size+1+1,0,none⟩ (.int .i64 0)).setCell ⟨w.heap.size+1+1,1,none⟩ (.int .i64 0)):=(((((HBF.out.setCell (by simp<;>omega) _).setCell (by simp<;>omega) _).setCell (by simp<;>omega) _).setCell (by simp<;>omega) _).setCell (by simp<;>omega) _)
  have ow:OwE (((((w2.setCell ⟨w.heap.size+1,0,none⟩ (.int .i64 g1)).setCell ⟨w.heap.size+1,1,none⟩ (.int .i64 N)).setCell ⟨w.heap.size+1,2,none⟩ (.slice A2 es.length c2)).setCell ⟨w.heap.size+1+1,0,none⟩ (.int .i64 0)).setCell ⟨w.heap.size+1+1,1,none⟩ (.int .i64 0)) _ (.slice A2 es.length c2) es:=(((((OE2.out.far (by show w.heap.size+1<_;omega) _).far (by show w.heap.size+1<_;omega) _).far (by show w.heap.size+1<_;omega) _).far (by show w.heap.size+1+1<_;omega) _).far (by show w.heap.size+1+1<_;omega) _)
  generalize (((((w2.setCell ⟨w.heap.size+1,0,none⟩ (.int .i64 g1)).setCell ⟨w.heap.size+1,1,none⟩ (.int .i64 N)).setCell ⟨w.heap.size+1,2,none⟩ (.slice A2 es.length c2)).setCell ⟨w.heap.size+1+1,0,none⟩ (.int .i64 0)).setCell ⟨w.heap.size+1+1,1,none⟩ (.int .i64 0))=wf at*
  rw[FO.out,F.out]
  exact bodyPost_ret (v:= .tuple #[.agg #[.int .i64 g1, .int .i64 N, .slice A2 es.length c2], .agg #[.int .i64 0, .int .i64 0], .bool false]) (by simp[results,Tryz.results228,go_sem,d0,d1,d2,e0,e1]) rfl ⟨_,rfl,⟨.slice A2 es.length c2,rfl,hi1,hi2,ow.mono (by omega)⟩,bw⟩
 ·have F:Hid (firF (g1,N,es)=(f,true)):=hDD (by unfold firF;rw[if_pos HGR.out];simp only[ef])
  have FO:Hid (onceG (g1,N,es)=merG (g1,N,es) f):=hDD (by unfold onceG;simp only[ef])
  have hfk:=HFK.out f (by rw[ef];simp)
  clear ef
  rw[F.out]
  obtain⟨fa,fb⟩:=f
  simp only
  have bA:Below w1.heap.size w1 (w1.alloc (Obj.cells #[Value.int IntKind.i64 fa,Value.int IntKind.i64 fb] 106)):=(Below.refl _ _).alloc (Nat.le_refl _) _
  have BA:=hDD (B1.out.trans (bA.mono hs1))
  obtain⟨q0,q1,q2⟩:=HCL.out _ BA.out
  go_wp2_with fail
  obtain⟨WA,hWA⟩: ∃W,W=w1.alloc (Obj.cells #[Value.int IntKind.i64 fa,Value.int IntKind.i64 fb] 106):=⟨_,rfl⟩
  have k0:Hid (WA.cell? ⟨w1.heap.size,0,none⟩=some (.int .i64 fa)):=hDD (by rw[hWA];simp[go_sem])
  have k1:Hid (WA.cell? ⟨w1.heap.size,1,none⟩=some (.int .i64 fb)):=hDD (by rw[hWA];simp[go_sem])
  have hsA:WA.heap.size=w1.heap.size+1:=by rw[hWA];simp
  rw[←hWA] at BA q0 q1 q2⊢
  clear hWA bA
  refine(implMergeVertices_any _ (g1,N,es) (fa,fb) WA (HA.out _ BA.out) HGR.out hfk).mono ?_
  rintro e w2 ⟨r,rfl,o2,b2⟩
  have B2:=hDD (BA.out.trans (b2.mono BA.out.size))
  have hs2:=b2.size
  obtain⟨s2,rfl,hj1,hj2,oe2⟩:=o2
  obtain⟨A2,c2,rfl,_⟩:=oe2.form
  have OE2:=hDD oe2
  have l0:=(b2.cell (p:=⟨w1.heap.size,0,none⟩) (by show w1.heap.size<_;omega)).trans k0.out
  have l1:=(b2.cell (p:=⟨w1.heap.size,1,none⟩) (by show w1.heap.size<_;omega)).trans k1.out
  clear b2 oe2 q0 q1 q2
  generalize hmg:merG (g1,N,es) (fa,fb)=M at*
  obtain⟨m1,m2,ms⟩:=M
  simp only at hj1 hj2
  have HMG:=hDD hmg
  clear hmg
  go_wp2_with fail
  have bB:Below w2.heap.size w2 (w2.alloc (Obj.cells #[Value.int IntKind.i64 m1,Value.int IntKind.i64 m2, .slice A2 ms.length c2] 26)):=(Below.refl _ _).alloc (Nat.le_refl _) _
  obtain⟨WB,hWB⟩: ∃W,W=w2.alloc (Obj.cells #[Value.int IntKind.i64 m1,Value.int IntKind.i64 m2, .slice A2 ms.length c2] 26):=⟨_,rfl⟩
  have x0:WB.cell? ⟨w2.heap.size,0,none⟩=some (.int .i64 m1):=by rw[hWB];simp[go_sem]
  have x1:WB.cell? ⟨w2.heap.size,1,none⟩=some (.int .i64 m2):=by rw[hWB];simp[go_sem]
  have x2:WB.cell? ⟨w2.heap.size,2,none⟩=some (.slice A2 ms.length c2):=by rw[hWB];simp[go_sem]
  have hsB:WB.heap.size=w2.heap.size+1:=by rw[hWB];simp
  rw[←hWB] at bB⊢
  clear hWB
  have y0:=(bB.cell (p:=⟨w1.heap.size,0,none⟩) (by show w1.heap.size<_;omega)).trans l0
  have y1:=(bB.cell (p:=⟨w1.heap.size,1,none⟩) (by show w1.heap.size<_;omega)).trans l1
  have BB:=hDD (B2.out.trans (bB.mono B2.out.size))
  have OEB:=hDD (OE2.out.below bB)
  obtain⟨r0,r1,r2,s0,s1,rf,sf⟩:=HCR.out WB BB.out
  have rf0:=rf 0
  have rf1:=rf 1
  have rf2:=rf 2
  have sf0:=sf 0
  have sf1:=sf 1
  have hne1:w.heap.size+1≠w2.heap.size:=by omega
  have hne2:w.heap.size+1+1≠w2.heap.size:=by omega
  have hne3:w.heap.size+1≠w1.heap.size:=by omega
  have hne4:w.heap.size+1+1≠w1.heap.size:=by omega
  have HBF:=hDD (BX.out.trans (BB.out.mono BX.out.size))
  clear rf sf l0 l1 bB
  go_region_held3 (fun w'=>w'.cell? ⟨w2.heap.size,0,none⟩=some (.int .i64 m1)∧w'.cell? ⟨w2.heap.size,1,none⟩=some (.int .i64 m2)∧w'.cell? ⟨w2.heap.size,2,none⟩=some (.slice A2 ms.length c2)∧w'.cell? ⟨w1.heap.size,0,none⟩=some (.int .i64 fa)∧w'.cell? ⟨w1.heap.size,1,none⟩=some (.int .i64 fb))
   (first | go_keep | (simp[go_sem, *];done))
   (fail)
  go_wp2
  obtain⟨c0,c1,c2'⟩:=cells3F (.int .i64 m1) (.int .i64 m2) (.slice A2 ms.length c2) r0 r1 r2
  have hnf1:w.heap.size+1≠w.heap.size+1+1:=by omega
  have hnf2:w.heap.size+1+1≠w.heap.size+1:=by omega
  have d0:=setc_other (o':=1) (u:= .int .i64 fb) hnf1 (setc_other (o':=0) (u:= .int .i64 fa) hnf1 c0)
  have d1:=setc_other (o':=1) (u:= .int .i64 fb) hnf1 (setc_other (o':=0) (u:= .int .i64 fa) hnf1 c1)
  have d2:=setc_other (o':=1) (u:= .int .i64 fb) hnf1 (setc_other (o':=0) (u:= .int .i64 fa) hnf1 c2')
  obtain⟨e0,e1⟩:=cells2 (.int .i64 fa) (.int .i64 fb) (setc_other (o':=2) (u:= .slice A2 ms.length c2) hnf2 (setc_other (o':=1) (u:= .int .i64 m2) hnf2 (setc_other (o':=0) (u:= .int .i64 m1) hnf2 s0))) (setc_other (o':=2) (u:= .slice A2 ms.length c2) hnf2 (setc_other (o':=1) (u:= .int .i64 m2) hnf2 (setc_other (o':=0) (u:= .int .i64 m1) hnf2 s1)))
  have bw:Below w.heap.size w (((((WB.setCell ⟨w.heap.size+1,0,none⟩ (.int .i64 m1)).setCell ⟨w.heap.size+1,1,none⟩ (.int .i64 m2)).setCell ⟨w.heap.size+1,2,none⟩ (.slice A2 ms.length c2)).setCell ⟨w.heap.size+1+1,0,none⟩ (.int .i64 fa)).setCell ⟨w.heap.size+1+1,1,none⟩ (.int .i64 fb)).drew:=(((((HBF.out.setCell (by simp<;>omega) _).setCell (by simp<;>omega) _).setCell (by simp<;>omega) _).setCell (by simp<;>omega) _).setCell (by simp<;>omega) _).drew
  have ow:OwE (((((WB.setCell ⟨w.heap.size+1,0,none⟩ (.int .i64 m1)).setCell ⟨w.heap.size+1,1,none⟩ (.int .i64 m2)).setCell ⟨w.heap.size+1,2,none⟩ (.slice A2 ms.length c2)).setCell ⟨w.heap.size+1+1,0,none⟩ (.int .i64 fa)).setCell ⟨w.heap.size+1+1,1,none⟩ (.int .i64 fb)).drew _ (.slice A2 ms.length c2) ms:=(((((OEB.out.far (by show w.heap.size+1<_;omega) _).far (by show w.heap.size+1<_;omega) _).far (by show w.heap.size+1<_;omega) _).far (by show w.heap.size+1+1<_;omega) _).far (by show w.heap.size+1+1<_;omega) _).drew
  generalize (((((WB.setCell ⟨w.heap.size+1,0,none⟩ (.int .i64 m1)).setCell ⟨w.heap.size+1,1,none⟩ (.int .i64 m2)).setCell ⟨w.heap.size+1,2,none⟩ (.slice A2 ms.length c2)).setCell ⟨w.heap.size+1+1,0,none⟩ (.int .i64 fa)).setCell ⟨w.heap.size+1+1,1,none⟩ (.int .i64 fb))=wf at*
  have d0':wf.drew.cell? ⟨w.heap.size+1,0,none⟩=some (.int .i64 m1):=d0
  have d1':wf.drew.cell? ⟨w.heap.size+1,1,none⟩=some (.int .i64 m2):=d1
  have d2':wf.drew.cell? ⟨w.heap.size+1,2,none⟩=some (.slice A2 ms.length c2):=d2
  have e0':wf.drew.cell? ⟨w.heap.size+1+1,0,none⟩=some (.int .i64 fa):=e0
  have e1':wf.drew.cell? ⟨w.heap.size+1+1,1,none⟩=some (.int .i64 fb):=e1
  generalize wf.drew=wg at*
  rw[FO.out,F.out]
  exact bodyPost_ret (v:= .tuple #[.agg #[.int .i64 m1, .int .i64 m2, .slice A2 ms.length c2], .agg #[.int .i64 fa, .int .i64 fb], .bool true]) (by simp[results,Tryz.results228,go_sem,d0',d1',d2',e0',e1']) rfl ⟨_,rfl,⟨.slice A2 ms.length c2,rfl,hj1,hj2,ow.mono (by omega)⟩,bw⟩
set_option maxHeartbeats 4000000 in
theorem implFoldAll_any (v:Value) (g:GrD) (w:World) (h:ArgG w v g) (hg:grB g=true):
  Calls Tryz.prog 189 #[v] w fun e w'=> ∃r o,e= .returned (.tuple #[r,o])∧OwG w' w.heap.size r (folA g)∧Below w.heap.size w w':=by
 have HG:=hDD h
 have HGR:=hDD hg
 obtain⟨h13,h40,h120,_⟩:=grB_parts hg
 obtain⟨s,rfl,hi1,hi2,ha⟩:=h
 obtain⟨A,cap,rfl⟩:=ha.form
 obtain⟨g1,N,es⟩:=g
 simp only at*
 clear ha hg
 go_enter Tryz.func189,Tryz.ntmps189
 have bx:Below w.heap.size w ((w.alloc (Obj.cells #[Value.int IntKind.i64 g1,Value.int IntKind.i64 N, .slice A es.length cap] 26)).alloc (Obj.cells #[Value.int IntKind.i64 0,Value.int IntKind.i64 0, .slice none 0 0] 26)):=(by repeat(first | exact Below.refl _ _ | (refine Below.setCell ?_ (by first | omega | (simp<;>omega)) _) | (refine bel_drewN ?_ _) | (refine Below.drew ?_) | (refine Below.alloc ?_ (by first | omega | (simp<;>omega)) _)))
 go_wp2_with fail
 obtain⟨W,hW⟩: ∃W,W=((w.alloc (Obj.cells #[Value.int IntKind.i64 g1,Value.int IntKind.i64 N, .slice A es.length cap] 26)).alloc (Obj.cells #[Value.int IntKind.i64 0,Value.int IntKind.i64 0, .slice none 0 0] 26)):=⟨_,rfl⟩
 rw[←hW] at bx⊢
 have hsW:W.heap.size=w.heap.size+2:=by rw[hW];simp
 have R0:Hid (W.cell? ⟨w.heap.size+1,0,none⟩=some (.int .i64 0)):=hDD (by rw[hW];simp[go_sem])
 have R1:Hid (W.cell? ⟨w.heap.size+1,1,none⟩=some (.int .i64 0)):=hDD (by rw[hW];simp[go_sem])
 have R2:Hid (W.cell? ⟨w.heap.size+1,2,none⟩=some (.slice none 0 0)):=hDD (by rw[hW];simp[go_sem])
 have RF:Hid (∀j,W.frozen? ⟨w.heap.size+1,j,none⟩=false):=hDD fun j=>by rw[hW];simp[go_sem]
 have BX:=hDD bx
 clear hW bx
 refine(copyGraph_any _ (g1,N,es) W (HG.out.below BX.out) (by simp only;omega)).mono ?_
 rintro e w1 ⟨r,rfl,o1,b1⟩
 have B1:=hDD b1
 have hs1:=b1.size
 obtain⟨s1,rfl,_,_,oe1⟩:=o1
 obtain⟨A1,c1,rfl,_⟩:=oe1.form
 simp only at*
 have OE1:=hDD oe1
 clear b1 oe1
 have HOU:Hid (OwFo ((w1.alloc (Obj.cells #[Value.int IntKind.i64 g1,Value.int IntKind.i64 N, .slice A1 es.length c1] 26)).alloc (.cells #[] 106)) (w1.heap.size+1) (.slice (some ⟨w1.heap.size+1,0,none⟩) 0 0) []):=hDD (by
  have:=OwFo_lit (base:=w1.heap.size+1) (w1.alloc (Obj.cells #[Value.int IntKind.i64 g1,Value.int IntKind.i64 N, .slice A1 es.length c1] 26)) (by simp)
  simpa using this)
 have bX:Below w1.heap.size w1 ((w1.alloc (Obj.cells #[Value.int IntKind.i64 g1,Value.int IntKind.i64 N, .slice A1 es.length c1] 26)).alloc (.cells #[] 106)):=(by repeat(first | exact Below.refl _ _ | (refine Below.setCell ?_ (by first | omega | (simp<;>omega)) _) | (refine bel_drewN ?_ _) | (refine Below.drew ?_) | (refine Below.alloc ?_ (by first | omega | (simp<;>omega)) _)))
 go_wp2
 obtain⟨W2,hW2⟩: ∃W,W=(w1.alloc (Obj.cells #[Value.int IntKind.i64 g1,Value.int IntKind.i64 N, .slice A1 es.length c1] 26)).alloc (.cells #[] 106):=⟨_,rfl⟩
 rw[←hW2] at bX HOU⊢
 have hsW2:W2.heap.size=w1.heap.size+2:=by rw[hW2];simp
 have X0:Hid (W2.cell? ⟨w1.heap.size,0,none⟩=some (.int .i64 g1)):=hDD (by rw[hW2];simp[go_sem])
 have X1:Hid (W2.cell? ⟨w1.heap.size,1,none⟩=some (.int .i64 N)):=hDD (by rw[hW2];simp[go_sem])
 have X2:Hid (W2.cell? ⟨w1.heap.size,2,none⟩=some (.slice A1 es.length c1)):=hDD (by rw[hW2];simp[go_sem])
 have XF:Hid (∀j,W2.frozen? ⟨w1.heap.size,j,none⟩=false):=hDD fun j=>by rw[hW2];simp[go_sem]
 have BX2:=hDD bX
 have OEX:Hid (OwE W2 (w.heap.size+2) (.slice A1 es.length c1) es):=hDD ((OE1.out.below bX).mono (by omega))
 have HNX:Hid (∀b,(Value.slice A1 es.length c1).ownBlock=some b→b≠w1.heap.size):=hDD fun b hb=>by have:=(OE1.out.1.lt b hb).2;omega
 clear hW2 bX OE1
 go_loopw [5] (fun out wr=> ∃(k:Nat) (gk:GrD) (A2:Option Addr) (c2:Nat) (lo:List FoD),k≤40∧(∃Ao co,out= .slice Ao lo.length co)∧lo.length=k∧grB gk=true∧folA gk=folA (g1,N,es)∧gk.2.1+k≤N∧wr.cell? ⟨w1.heap.size,0,none⟩=some (.int .i64 gk.1)∧wr.cell? ⟨w1.heap.size,1,none⟩=some (.int .i64 gk.2.1)∧wr.cell? ⟨w1.heap.size,2,none⟩=some (.slice A2 gk.2.2.length c2)∧
   (∀j,wr.frozen? ⟨w1.heap.size,j,none⟩=false)∧OwE wr (w.heap.size+2) (.slice A2 gk.2.2.length c2) gk.2.2∧(∀b,(Value.slice A2 gk.2.2.length c2).ownBlock=some b→b≠w1.heap.size)∧OwFo wr (w1.heap.size+1) out lo∧Below w1.heap.size w1 wr∧w1.heap.size<wr.heap.size) (fun o _=>40-sLen o)
 case atStart=>exact⟨0,(g1,N,es),A1,c1,[],Nat.zero_le _,⟨_,_,rfl⟩,rfl,HGR.out,rfl,by simp,X0.out,X1.out,X2.out,XF.out,OEX.out,HNX.out,HOU.out,BX2.out,by omega⟩
 case round=>
  obtain⟨k,gk,A2,c2,lo,hk,⟨Ao,co,rfl⟩,hlo,hgk,hfa,hsz,hx0,hx1,hx2,hxf,hoe,hnx,hof,hbr,hxr⟩:=hrel
  obtain⟨k13,k40,k120,_⟩:=grB_parts hgk
  have HGK:=hDD hgk
  have HFA:=hDD hfa
  have HOE:=hDD hoe
  have HNX2:=hDD hnx
  have HOF:=hDD hof
  have HBR:=hDD hbr
  have B4:=hDD (B1.out.trans (hbr.mono hs1))
  have HAK:Hid (ArgG wr (.agg #[.int .i64 gk.1, .int .i64 gk.2.1, .slice A2 gk.2.2.length c2]) gk):=hDD ⟨_,rfl,(by unfold I64;omega),(by unfold I64;omega),hoe.arg⟩
  obtain⟨wk,rfl⟩: ∃wk:World,wk=wr:=⟨_,rfl⟩
  clear hgk hfa hoe hnx hof hbr
  have hk40:k<40:=by omega
  go_wp2_with fail
  refine(implFoldOnce_any _ gk wk HAK.out HGK.out).mono ?_
  rintro e w5 ⟨r,rfl,o5,b5⟩
  have hs5:=b5.size
  have B5:=hDD (HBR.out.trans (b5.mono (by omega)))
  have z0:=(b5.cell (p:=⟨w1.heap.size,0,none⟩) hxr).trans hx0
  have z1:=(b5.cell (p:=⟨w1.heap.size,1,none⟩) hxr).trans hx1
  have z2:=(b5.cell (p:=⟨w1.heap.size,2,none⟩) hxr).trans hx2
  have ZF:Hid (∀j,w5.frozen? ⟨w1.heap.size,j,none⟩=false):=hDD fun j=>(b5.frozen (p:=⟨w1.heap.size,j,none⟩) hxr).trans (hxf j)
  have HOE5:=hDD (HOE.out.below b5)
  have HOF5:=hDD (HOF.out.below b5)
  clear hx0 hx1 hx2 hxf b5
  rcases ef:foL gk.2.2 with _ | ⟨f,l⟩
  ·have F:Hid (firF gk=((0,0),false)):=hDD (by unfold firF;rw[if_pos HGK.out];simp only[ef])
   have FO:Hid (onceG gk=gk):=hDD (by unfold onceG;simp only[ef])
   have FAG:Hid (folA (g1,N,es)=gk):=hDD (by rw[←HFA.out];exact folA_nil ef)
   clear ef
   rw[FO.out] at o5
   rw[F.out]
   simp only
   obtain⟨s5,rfl,hj1,hj2,oe5⟩:=o5
   obtain⟨A5,c5,rfl,_⟩:=oe5.form
   have bY:Below w5.heap.size w5 ((w5.alloc (Obj.cells #[Value.int IntKind.i64 gk.1,Value.int IntKind.i64 gk.2.1, .slice A5 gk.2.2.length c5] 26)).alloc (Obj.cells #[Value.int IntKind.i64 0,Value.int IntKind.i64 0] 106)):=(by repeat(first | exact Below.refl _ _ | (refine Below.setCell ?_ (by first | omega | (simp<;>omega)) _) | (refine bel_drewN ?_ _) | (refine Below.drew ?_) | (refine Below.alloc ?_ (by first | omega | (simp<;>omega)) _)))
   obtain⟨WY,hWY⟩: ∃W,W=(w5.alloc (Obj.cells #[Value.int IntKind.i64 gk.1,Value.int IntKind.i64 gk.2.1, .slice A5 gk.2.2.length c5] 26)).alloc (Obj.cells #[Value.int IntKind.i64 0,Value.int IntKind.i64 0] 106):=⟨_,rfl⟩
   rw[←hWY] at bY
   have BY:=hDD (B5.out.trans (bY.mono (by omega)))
   have BYW:=hDD (B1.out.trans (BY.out.mono hs1))
   have y0:=(bY.cell (p:=⟨w1.heap.size,0,none⟩) (by show w1.heap.size<_;omega)).trans z0
   have y1:=(bY.cell (p:=⟨w1.heap.size,1,none⟩) (by show w1.heap.size<_;omega)).trans z1
   have y2:=(bY.cell (p:=⟨w1.heap.size,2,none⟩) (by show w1.heap.size<_;omega)).trans z2
   have r0:=(BYW.out.cell (p:=⟨w.heap.size+1,0,none⟩) (by show w.heap.size+1<_;omega)).trans R0.out
   have r1:=(BYW.out.cell (p:=⟨w.heap.size+1,1,none⟩) (by show w.heap.size+1<_;omega)).trans R1.out
   have r2:=(BYW.out.cell (p:=⟨w.heap.size+1,2,none⟩) (by show w.heap.size+1<_;omega)).trans R2.out
   have rf0:=(BYW.out.frozen (p:=⟨w.heap.size+1,0,none⟩) (by show w.heap.size+1<_;omega)).trans (RF.out 0)
   have rf1:=(BYW.out.frozen (p:=⟨w.heap.size+1,1,none⟩) (by show w.heap.size+1<_;omega)).trans (RF.out 1)
   have rf2:=(BYW.out.frozen (p:=⟨w.heap.size+1,2,none⟩) (by show w.heap.size+1<_;omega)).trans (RF.out 2)
   have hne1:w.heap.size+1≠w1.heap.size:=by omega
   have HBF:=hDD (BX.out.trans (BYW.out.mono BX.out.size))
   have OEY:=hDD (HOE5.out.below bY)
   rw[hWY] at y0 y1 y2 r0 r1 r2 rf0 rf1 rf2
   clear z0 z1 z2 oe5 bY
   go_wp2
   rw[←hWY] at y0 y1 y2 r0 r1 r2 rf0 rf1 rf2⊢
   obtain⟨e0,e1,e2⟩:=cells3F (.int .i64 gk.1) (.int .i64 gk.2.1) (.slice A2 gk.2.2.length c2) r0 r1 r2
   have bw:Below w.heap.size w (((WY.setCell ⟨w.heap.size+1,0,none⟩ (.int .i64 gk.1)).setCell ⟨w.heap.size+1,1,none⟩ (.int .i64 gk.2.1)).setCell ⟨w.heap.size+1,2,none⟩ (.slice A2 gk.2.2.length c2)):=(((HBF.out.setCell (by simp<;>omega) _).setCell (by simp<;>omega) _).setCell (by simp<;>omega) _)
   have ow:OwE (((WY.setCell ⟨w.heap.size+1,0,none⟩ (.int .i64 gk.1)).setCell ⟨w.heap.size+1,1,none⟩ (.int .i64 gk.2.1)).setCell ⟨w.heap.size+1,2,none⟩ (.slice A2 gk.2.2.length c2)) (w.heap.size+2) (.slice A2 gk.2.2.length c2) gk.2.2:=((OEY.out.far (by show w.heap.size+1<_;omega) _).far (by show w.heap.size+1<_;omega) _).far (by show w.heap.size+1<_;omega) _
   generalize (((WY.setCell ⟨w.heap.size+1,0,none⟩ (.int .i64 gk.1)).setCell ⟨w.heap.size+1,1,none⟩ (.int .i64 gk.2.1)).setCell ⟨w.heap.size+1,2,none⟩ (.slice A2 gk.2.2.length c2))=wf at*
   rw[FAG.out]
   exact bodyPost_ret (v:= .tuple #[.agg #[.int .i64 gk.1, .int .i64 gk.2.1, .slice A2 gk.2.2.length c2], .slice Ao lo.length co]) (by simp[results,Tryz.results189,go_sem,e0,e1,e2]) rfl ⟨_,_,rfl,⟨.slice A2 gk.2.2.length c2,rfl,hj1,hj2,ow.mono (by omega)⟩,bw⟩
  ·have F:Hid (firF gk=(f,true)):=hDD (by unfold firF;rw[if_pos HGK.out];simp only[ef])
   have FO:Hid (onceG gk=merG gk f):=hDD (by unfold onceG;simp only[ef])
   have hfk:=foL_ok HGK.out (f:=f) (by rw[ef];simp)
   have HGM:=hDD (grB_merG HGK.out hfk)
   have HFM:=hDD ((once_folA HGK.out ef).trans HFA.out)
   have hm2:(merG gk f).2.1=gk.2.1-1:=rfl
   clear ef
   rw[FO.out] at o5
   rw[F.out]
   obtain⟨fa,fb⟩:=f
   simp only
   generalize merG gk (fa,fb)=M at*
   obtain⟨m1,m2,ms⟩:=M
   simp only at hm2
   obtain⟨s5,rfl,hj1,hj2,oe5⟩:=o5
   obtain⟨A5,c5,rfl,_⟩:=oe5.form
   simp only at hj1 hj2 oe5
   have HM2:=hDD hm2
   clear hm2
   have bY:Below w5.heap.size w5 ((w5.alloc (Obj.cells #[Value.int IntKind.i64 m1,Value.int IntKind.i64 m2, .slice A5 ms.length c5] 26)).alloc (Obj.cells #[Value.int IntKind.i64 fa,Value.int IntKind.i64 fb] 106)):=(by repeat(first | exact Below.refl _ _ | (refine Below.setCell ?_ (by first | omega | (simp<;>omega)) _) | (refine bel_drewN ?_ _) | (refine Below.drew ?_) | (refine Below.alloc ?_ (by first | omega | (simp<;>omega)) _)))
   obtain⟨WY,hWY⟩: ∃W,W=(w5.alloc (Obj.cells #[Value.int IntKind.i64 m1,Value.int IntKind.i64 m2, .slice A5 ms.length c5] 26)).alloc (Obj.cells #[Value.int IntKind.i64 fa,Value.int IntKind.i64 fb] 106):=⟨_,rfl⟩
   have a0:WY.cell? ⟨w5.heap.size,0,none⟩=some (.int .i64 m1):=by rw[hWY];simp[go_sem]
   have a1:WY.cell? ⟨w5.heap.size,1,none⟩=some (.int .i64 m2):=by rw[hWY];simp[go_sem]
   have a2:WY.cell? ⟨w5.heap.size,2,none⟩=some (.slice A5 ms.length c5):=by rw[hWY];simp[go_sem]
   have a3:WY.cell? ⟨w5.heap.size+1,0,none⟩=some (.int .i64 fa):=by rw[hWY];simp[go_sem]
   have a4:WY.cell? ⟨w5.heap.size+1,1,none⟩=some (.int .i64 fb):=by rw[hWY];simp[go_sem]
   have hsY:WY.heap.size=w5.heap.size+2:=by rw[hWY];simp
   rw[←hWY] at bY
   have BY:=hDD (B5.out.trans (bY.mono (by omega)))
   have y0:=(bY.cell (p:=⟨w1.heap.size,0,none⟩) (by show w1.heap.size<_;omega)).trans z0
   have y1:=(bY.cell (p:=⟨w1.heap.size,1,none⟩) (by show w1.heap.size<_;omega)).trans z1
   have y2:=(bY.cell (p:=⟨w1.heap.size,2,none⟩) (by show w1.heap.size<_;omega)).trans z2
   have YF:Hid (∀j,WY.frozen? ⟨w1.heap.size,j,none⟩=false):=hDD fun j=>(bY.frozen (p:=⟨w1.heap.size,j,none⟩) (by show w1.heap.size<_;omega)).trans (ZF.out j)
   have yf0:=YF.out 0
   have yf1:=YF.out 1
   have yf2:=YF.out 2
   have OEM:=hDD (oe5.below bY)
   have OFY:=hDD (HOF5.out.below bY)
   obtain⟨e0,e1,e2⟩:=cells3F (.int .i64 m1) (.int .i64 m2) (.slice A5 ms.length c5) y0 y1 y2
   have e3:=setc_other (b':=w1.heap.size) (o':=2) (u:= .slice A5 ms.length c5) (show w5.heap.size+1≠w1.heap.size by omega) (setc_other (b':=w1.heap.size) (o':=1) (u:= .int .i64 m2) (show w5.heap.size+1≠w1.heap.size by omega) (setc_other (b':=w1.heap.size) (o':=0) (u:= .int .i64 m1) (show w5.heap.size+1≠w1.heap.size by omega) a3))
   have e4:=setc_other (b':=w1.heap.size) (o':=2) (u:= .slice A5 ms.length c5) (show w5.heap.size+1≠w1.heap.size by omega) (setc_other (b':=w1.heap.size) (o':=1) (u:= .int .i64 m2) (show w5.heap.size+1≠w1.heap.size by omega) (setc_other (b':=w1.heap.size) (o':=0) (u:= .int .i64 m1) (show w5.heap.size+1≠w1.heap.size by omega) a4))
   have BS:Hid (Below w1.heap.size w1 (((WY.setCell ⟨w1.heap.size,0,none⟩ (.int .i64 m1)).setCell ⟨w1.heap.size,1,none⟩ (.int .i64 m2)).setCell ⟨w1.heap.size,2,none⟩ (.slice A5 ms.length c5))):=hDD (((BY.out.setCell (Nat.le_refl _) _).setCell (Nat.le_refl _) _).setCell (Nat.le_refl _) _)
   have OES:Hid (OwE (((WY.setCell ⟨w1.heap.size,0,none⟩ (.int .i64 m1)).setCell ⟨w1.heap.size,1,none⟩ (.int .i64 m2)).setCell ⟨w1.heap.size,2,none⟩ (.slice A5 ms.length c5)) wk.heap.size (.slice A5 ms.length c5) ms):=hDD (((OEM.out.far (by show w1.heap.size<_;omega) _).far (by show w1.heap.size<_;omega) _).far (by show w1.heap.size<_;omega) _)
   have OFS:Hid (OwFo (((WY.setCell ⟨w1.heap.size,0,none⟩ (.int .i64 m1)).setCell ⟨w1.heap.size,1,none⟩ (.int .i64 m2)).setCell ⟨w1.heap.size,2,none⟩ (.slice A5 ms.length c5)) (w1.heap.size+1) (.slice Ao lo.length co) lo):=hDD (ownsRow_setCell_below (ownsRow_setCell_below (ownsRow_setCell_below OFY.out (by show w1.heap.size<_;omega) _) (by show w1.heap.size<_;omega) _) (by show w1.heap.size<_;omega) _)
   have ESF:Hid (∀j,((((WY.setCell ⟨w1.heap.size,0,none⟩ (.int .i64 m1)).setCell ⟨w1.heap.size,1,none⟩ (.int .i64 m2)).setCell ⟨w1.heap.size,2,none⟩ (.slice A5 ms.length c5))).frozen? ⟨w1.heap.size,j,none⟩=false):=hDD fun j=>by rw[World.frozen?_setCell,World.frozen?_setCell,World.frozen?_setCell];exact YF.out j
   have hsS:((((WY.setCell ⟨w1.heap.size,0,none⟩ (.int .i64 m1)).setCell ⟨w1.heap.size,1,none⟩ (.int .i64 m2)).setCell ⟨w1.heap.size,2,none⟩ (.slice A5 ms.length c5))).heap.size=WY.heap.size:=by simp
   clear z0 z1 z2 oe5 bY
   have E0:=hDD e0
   have E1:=hDD e1
   have E2:=hDD e2
   have E3:=hDD e3
   have E4:=hDD e4
   have HSS:=hDD hsS
   clear e0 e1 e2 a3 a4 hsS
   rw[hWY] at y0 y1 y2 yf0 yf1 yf2 a0 a1 a2 e3 e4
   have HWY:=hDD hWY
   clear hWY
   have hw5x:w1.heap.size≠w5.heap.size:=by omega
   have hw5y:w1.heap.size≠w5.heap.size+1:=by omega
   go_wp2_with (at_builtin;rw[←HWY.out];refine push_fold rfl (.tmp 23) (.tmp 25) rfl (w1.heap.size+1) _ lo (OFS.out.alloc _) rfl _ (fa,fb) rfl (fo_litN _ _ (by simp<;>omega) _ _ _) (by omega) (by simp<;>omega) ?_;intro v6 w6 o6 g6 p6;have O6:=hDD o6;have G6:=hDD g6;clear o6 g6 p6)
   have e0:=E0.out
   have e1:=E1.out
   have e2:=E2.out
   have bL:Below ((((WY.setCell ⟨w1.heap.size,0,none⟩ (.int .i64 m1)).setCell ⟨w1.heap.size,1,none⟩ (.int .i64 m2)).setCell ⟨w1.heap.size,2,none⟩ (.slice A5 ms.length c5))).heap.size (((WY.setCell ⟨w1.heap.size,0,none⟩ (.int .i64 m1)).setCell ⟨w1.heap.size,1,none⟩ (.int .i64 m2)).setCell ⟨w1.heap.size,2,none⟩ (.slice A5 ms.length c5)) ((((WY.setCell ⟨w1.heap.size,0,none⟩ (.int .i64 m1)).setCell ⟨w1.heap.size,1,none⟩ (.int .i64 m2)).setCell ⟨w1.heap.size,2,none⟩ (.slice A5 ms.length c5)).alloc (Obj.cells #[Value.int IntKind.i64 fa,Value.int IntKind.i64 fb] 106)):=(Below.refl _ _).alloc (Nat.le_refl _) _
   have hxL:w1.heap.size<((((WY.setCell ⟨w1.heap.size,0,none⟩ (.int .i64 m1)).setCell ⟨w1.heap.size,1,none⟩ (.int .i64 m2)).setCell ⟨w1.heap.size,2,none⟩ (.slice A5 ms.length c5))).heap.size:=by simp<;>omega
   have hxG:w1.heap.size<((((WY.setCell ⟨w1.heap.size,0,none⟩ (.int .i64 m1)).setCell ⟨w1.heap.size,1,none⟩ (.int .i64 m2)).setCell ⟨w1.heap.size,2,none⟩ (.slice A5 ms.length c5)).alloc (Obj.cells #[Value.int IntKind.i64 fa,Value.int IntKind.i64 fb] 106)).heap.size:=by simp<;>omega
   have hGO: ∀c,(Value.slice Ao lo.length co).ownBlock=some c→w1.heap.size+1≤c∧c<wk.heap.size:=fun c hc=>HOF.out.lt c hc
   have n0:=(grown_cellF (o:=0) G6.out hxG (fun c hc=>by have:=(hGO c hc).1;omega)).trans ((bL.cell (p:=⟨w1.heap.size,0,none⟩) hxL).trans e0)
   have n1:=(grown_cellF (o:=1) G6.out hxG (fun c hc=>by have:=(hGO c hc).1;omega)).trans ((bL.cell (p:=⟨w1.heap.size,1,none⟩) hxL).trans e1)
   have n2:=(grown_cellF (o:=2) G6.out hxG (fun c hc=>by have:=(hGO c hc).1;omega)).trans ((bL.cell (p:=⟨w1.heap.size,2,none⟩) hxL).trans e2)
   have nf: ∀j,w6.frozen? ⟨w1.heap.size,j,none⟩=false:=fun j=>(World.frozen?_of_block (G6.out.block w1.heap.size hxG fun e=>by have:=(hGO w1.heap.size e.symm).1;omega)).trans ((bL.frozen (p:=⟨w1.heap.size,j,none⟩) hxL).trans (ESF.out j))
   have NE:Hid (OwE w6 (w.heap.size+2) (.slice A5 ms.length c5) ms):=hDD (OwE.mono (OwE.keep OES.out fun b hb=>by
    have hb2:=OES.out.1.lt b hb
    exact(G6.out.block b (by have:=bL.size;omega) fun e=>by have:=(hGO b e.symm).2;omega).trans (bL.block b hb2.2)) (by omega))
   have NX:Hid (∀b,(Value.slice A5 ms.length c5).ownBlock=some b→b≠w1.heap.size):=hDD fun b hb=>by have:=(OES.out.1.lt b hb).1;omega
   have NB:Hid (Below w1.heap.size w1 w6):=hDD ((BS.out.trans (bL.mono (by omega))).grown G6.out (by omega) (fun c hc=>by have:=(hGO c hc).1;omega))
   have hs6:=G6.out.size
   have O6F:Hid (∃Ao co,v6= .slice Ao (lo++ [(fa,fb)]).length co):=hDD (by obtain⟨Ao',co',h,_⟩:=O6.out.form;exact⟨Ao',co',h⟩)
   go_roundw
   case rel=>exact⟨k+1,(m1,m2,ms),A5,c5,lo++ [(fa,fb)],by omega,O6F.out,by rw[List.length_append];simp only[List.length_singleton];omega,HGM.out,HFM.out,by have:=HM2.out;simp only;omega,n0,n1,n2,nf,NE.out,NX.out,O6.out,NB.out,by omega⟩
   case measure=>
    obtain⟨Ao',co',h⟩:=O6F.out
    rw[h]
    show 40-(lo++ [(fa,fb)]).length<40-lo.length
    rw[List.length_append]
    simp only[List.length_singleton]
    omega
set_option maxHeartbeats 1000000 in
theorem implCoreGraph_any (v:Value) (g:GrD) (w:World) (h:ArgG w v g) (hg:grB g=true):
  Calls Tryz.prog 123 #[v] w fun e w'=> ∃r,e= .returned r∧OwG w' w.heap.size r (coreG g)∧Below w.heap.size w w':=by
 have HG:=hDD h
 have HFA:=hDD (folA_ok hg)
 have HFB:=hDD (foldB_parts HFA.out).1
 have HTB:=hDD (trimG_fold HFA.out)
 have HCG:Hid (coreG g=canG (trimG (folA g)).1):=hDD rfl
 have HFO:=hDD (fun W h=>implFoldAll_any v g W h hg)
 have HTR:=hDD (fun u W h=>(trimGraph_any u (folA g) W h HFB.out).mono (R':=fun e w'=> ∃r o,e= .returned (.tuple #[r,o])∧OwG w' W.heap.size r (trimG (folA g)).1∧Below W.heap.size W w') fun e w' ⟨r,l,h1,h2,_,h4⟩=>⟨r,l,h1,h2,h4⟩)
 have HCA:=hDD (fun u W h=>canonicalGraph_any u (trimG (folA g)).1 W h HTB.out)
 generalize canG (trimG (folA g)).1=CG at*
 generalize (trimG (folA g)).1=TG at*
 generalize folA g=FG at*
 obtain⟨s,rfl,hi1,hi2,ha⟩:=h
 obtain⟨A,cap,rfl⟩:=ha.form
 obtain⟨g1,N,es⟩:=g
 simp only at*
 clear ha hg
 go_enter Tryz.func123,Tryz.ntmps123
 have bx:Below w.heap.size w ((w.alloc (Obj.cells #[Value.int IntKind.i64 g1,Value.int IntKind.i64 N, .slice A es.length cap] 26)).alloc (Obj.cells #[Value.int IntKind.i64 0,Value.int IntKind.i64 0, .slice none 0 0] 26)):=(by repeat(first | exact Below.refl _ _ | (refine Below.setCell ?_ (by first | omega | (simp<;>omega)) _) | (refine bel_drewN ?_ _) | (refine Below.drew ?_) | (refine Below.alloc ?_ (by first | omega | (simp<;>omega)) _)))
 go_wp2_with fail
 obtain⟨W,hW⟩: ∃W,W=((w.alloc (Obj.cells #[Value.int IntKind.i64 g1,Value.int IntKind.i64 N, .slice A es.length cap] 26)).alloc (Obj.cells #[Value.int IntKind.i64 0,Value.int IntKind.i64 0, .slice none 0 0] 26)):=⟨_,rfl⟩
 rw[←hW] at bx⊢
 have hsW:W.heap.size=w.heap.size+2:=by rw[hW];simp
 have R0:Hid (W.cell? ⟨w.heap.size+1,0,none⟩=some (.int .i64 0)):=hDD (by rw[hW];simp[go_sem])
 have R1:Hid (W.cell? ⟨w.heap.size+1,1,none⟩=some (.int .i64 0)):=hDD (by rw[hW];simp[go_sem])
 have R2:Hid (W.cell? ⟨w.heap.size+1,2,none⟩=some (.slice none 0 0)):=hDD (by rw[hW];simp[go_sem])
 have RF:Hid (∀j,W.frozen? ⟨w.heap.size+1,j,none⟩=false):=hDD fun j=>by rw[hW];simp[go_sem]
 have BX:=hDD bx
 clear hW bx
 refine(HFO.out W (HG.out.below BX.out)).mono ?_
 rintro e w1 ⟨r,o,rfl,o1,b1⟩
 have B1:=hDD b1
 have hs1:=b1.size
 have O1:=hDD o1
 obtain⟨f1,f2,fs⟩:=FG
 obtain⟨s1,rfl,_,_,oe1⟩:=o1
 obtain⟨A1,c1,rfl,_⟩:=oe1.form
 simp only at*
 clear b1 oe1
 have bf:Below w1.heap.size w1 (w1.alloc (Obj.cells #[Value.int IntKind.i64 f1,Value.int IntKind.i64 f2, .slice A1 fs.length c1] 26)):=(Below.refl _ _).alloc (Nat.le_refl _) _
 go_wp2_with fail
 refine(HTR.out _ _ (O1.out.arg.below bf)).mono ?_
 rintro e w3 ⟨r3,o3,rfl,o3',b3⟩
 have hsf:=bf.size
 have B3:=hDD (B1.out.trans ((bf.trans (b3.mono hsf)).mono hs1))
 have hs3:=b3.size
 have O3:=hDD o3'
 obtain⟨t1,t2,ts⟩:=TG
 obtain⟨s3,rfl,_,_,oe3⟩:=o3'
 obtain⟨A3,c3,rfl,_⟩:=oe3.form
 simp only at*
 clear b3 oe3 bf
 have bt:Below w3.heap.size w3 (w3.alloc (Obj.cells #[Value.int IntKind.i64 t1,Value.int IntKind.i64 t2, .slice A3 ts.length c3] 26)):=(Below.refl _ _).alloc (Nat.le_refl _) _
 go_wp2_with fail
 refine(HCA.out _ _ (O3.out.arg.below bt)).mono ?_
 rintro e w5 ⟨r5,rfl,o5,b5⟩
 have hst:=bt.size
 have hs33:=B3.out.size
 have B5:=hDD (B3.out.trans ((bt.trans (b5.mono hst)).mono hs33))
 have hs5:=B5.out.size
 have hb5:=b5.size
 obtain⟨c1',c2',cs⟩:=CG
 obtain⟨s5,rfl,hj1,hj2,oe5⟩:=o5
 obtain⟨A5,k5,rfl,_⟩:=oe5.form
 simp only at*
 have OE5:=hDD oe5
 have r0:=(B5.out.cell (p:=⟨w.heap.size+1,0,none⟩) (by show w.heap.size+1<_;omega)).trans R0.out
 have r1:=(B5.out.cell (p:=⟨w.heap.size+1,1,none⟩) (by show w.heap.size+1<_;omega)).trans R1.out
 have r2:=(B5.out.cell (p:=⟨w.heap.size+1,2,none⟩) (by show w.heap.size+1<_;omega)).trans R2.out
 have rf0:=(B5.out.frozen (p:=⟨w.heap.size+1,0,none⟩) (by show w.heap.size+1<_;omega)).trans (RF.out 0)
 have rf1:=(B5.out.frozen (p:=⟨w.heap.size+1,1,none⟩) (by show w.heap.size+1<_;omega)).trans (RF.out 1)
 have rf2:=(B5.out.frozen (p:=⟨w.heap.size+1,2,none⟩) (by show w.heap.size+1<_;omega)).trans (RF.out 2)
 have HBF:=hDD (BX.out.trans (B5.out.mono BX.out.size))
 clear b5 oe5 bt
 go_wp2
 obtain⟨e0,e1,e2⟩:=cells3F (.int .i64 c1') (.int .i64 c2') (.slice A5 cs.length k5) r0 r1 r2
 have bw:Below w.heap.size w (((w5.setCell ⟨w.heap.size+1,0,none⟩ (.int .i64 c1')).setCell ⟨w.heap.size+1,1,none⟩ (.int .i64 c2')).setCell ⟨w.heap.size+1,2,none⟩ (.slice A5 cs.length k5)):=(((HBF.out.setCell (by simp<;>omega) _).setCell (by simp<;>omega) _).setCell (by simp<;>omega) _)
 have ow:OwE (((w5.setCell ⟨w.heap.size+1,0,none⟩ (.int .i64 c1')).setCell ⟨w.heap.size+1,1,none⟩ (.int .i64 c2')).setCell ⟨w.heap.size+1,2,none⟩ (.slice A5 cs.length k5)) w.heap.size (.slice A5 cs.length k5) cs:=OwE.mono (((OE5.out.far (by show w.heap.size+1<_;omega) _).far (by show w.heap.size+1<_;omega) _).far (by show w.heap.size+1<_;omega) _) (by omega)
 generalize (((w5.setCell ⟨w.heap.size+1,0,none⟩ (.int .i64 c1')).setCell ⟨w.heap.size+1,1,none⟩ (.int .i64 c2')).setCell ⟨w.heap.size+1,2,none⟩ (.slice A5 cs.length k5))=wf at*
 rw[HCG.out]
 exact bodyPost_ret (v:= .agg #[.int .i64 c1', .int .i64 c2', .slice A5 cs.length k5]) (by simp[results,Tryz.results123,go_sem,e0,e1,e2]) rfl ⟨_,rfl,⟨.slice A5 cs.length k5,rfl,hj1,hj2,ow⟩,bw⟩
end Go.Proofs.YtnjpoljbagfdnaaGreat
namespace Go.Proofs.YtnjpoljbagfdnaaGreat
set_option maxRecDepth 20000
set_option linter.unusedVariables false
set_option linter.unusedSimpArgs false
open Go.RowKit
def movO (n u:Nat):List Int:=(u:Int)::delO n (u:Int)
def movG (g:GrD) (u:Nat):GrD:=coreG (rnG g (movO g.2.1.toNat u))
end Go.Proofs.YtnjpoljbagfdnaaGreat
namespace Go.Proofs.YtnjpoljbagfdnaaGreat
set_option maxRecDepth 20000
set_option linter.unusedVariables false
set_option linter.unusedSimpArgs false
open Go.RowKit
theorem one_rd {w:World} {u:Value} {xs:List Int} (h:RdI w u xs):RdII (w.alloc (.cells #[u] 37)) (.slice (some ⟨w.heap.size,0,none⟩) 1 1) [xs]:=
 (PartsL.lit w [u] [xs] rfl (fun i h1 h2=>by
  match i,h1,h2 with
  | 0,_,_=>exact h) (by simp) (Nat.le_refl _)).rd
set_option maxHeartbeats 400000 in
theorem implReduceLetters_any (v:Value) (xs:List Int) (w:World) (h:RdI w v xs) (hl:xs.length≤536870912):
  Calls Tryz.prog 109 #[v] w fun e w'=> ∃r,e= .returned r∧OwI w' w.heap.size r (redL [] xs)∧Below w.heap.size w w':=by
 have H:=hDD h
 obtain⟨A,cap,rfl,_⟩:=h.arg
 clear h
 go_enter Tryz.func109,Tryz.ntmps109
 go_wp2_with (go_at_call 97;refine(product_any _ [xs] _ (one_rd H.out) (by simp[lenLL];omega) (by simp)).mono ?_;rintro e w1 ⟨r1,rfl,o1,b1⟩;have O1:=hDD o1;have B1:=hDD b1;clear o1 b1)
 go_ret
 exact⟨_,rfl,by have:=O1.out.mono (base':=w.heap.size) (by simp);simpa[redLL] using this,(by repeat(first | exact Below.refl _ _ | (refine Below.setCell ?_ (by first | omega | (simp<;>omega)) _) | (refine bel_drewN ?_ _) | (refine Below.drew ?_) | (refine Below.alloc ?_ (by first | omega | (simp<;>omega)) _) | (refine Below.trans ?_ (Below.mono (Hid.out B1) (by first | omega | (simp<;>omega))))))⟩
end Go.Proofs.YtnjpoljbagfdnaaGreat
namespace Go.Proofs.YtnjpoljbagfdnaaGreat
set_option maxRecDepth 20000
set_option linter.unusedVariables false
set_option linter.unusedSimpArgs false
open Go.RowKit
theorem gboxI {w W:World} {a b c:Value} {t:TypeId} (hW:W=w.alloc (.cells #[a,b,c] t)):W.heap.size=w.heap.size+1∧Below w.heap.size w W∧
  (∀w',Below (w.heap.size+1) W w'→w'.cell? ⟨w.heap.size,0,none⟩=some a∧w'.cell? ⟨w.heap.size,1,none⟩=some b∧w'.cell? ⟨w.heap.size,2,none⟩=some c):=by
 have hs:W.heap.size=w.heap.size+1:=by rw[hW];simp
 have h0:W.cell? ⟨w.heap.size,0,none⟩=some a:=by rw[hW];simp[go_sem]
 have h1:W.cell? ⟨w.heap.size,1,none⟩=some b:=by rw[hW];simp[go_sem]
 have h2:W.cell? ⟨w.heap.size,2,none⟩=some c:=by rw[hW];simp[go_sem]
 exact⟨hs,by rw[hW];exact(Below.refl _ _).alloc (Nat.le_refl _) _,fun w' hb=>⟨(hb.cell (p:=⟨w.heap.size,0,none⟩) (Nat.lt_succ_self _)).trans h0,(hb.cell (p:=⟨w.heap.size,1,none⟩) (Nat.lt_succ_self _)).trans h1,(hb.cell (p:=⟨w.heap.size,2,none⟩) (Nat.lt_succ_self _)).trans h2⟩⟩
theorem core_foldI {g:GrD} (h:coreB g=true):foldB g=true:=by
 unfold coreB at h
 simp only[Bool.and_eq_true] at h
 exact h.1.1
structure IsI (a b:GrD) (ls:List Int) (N P bl capl:Nat) (W wr:World) (out:Value) (o im:List Int):Prop where
 ok:OrdOk (N:Int) o
 len:im.length=N
 img: ∀y:Nat,y<N→(y:Int)∈o→im[y]? =some (imgW a b y)∧0≤imgW a b y
 fnd:OwI wr (P+1) out o
 row:OwI wr P (.slice (some ⟨P,0,none⟩) N N) im
 lets:RdI wr (.slice (some ⟨bl,0,none⟩) ls.length capl) ls
 ne:out.ownBlock≠some bl
 blt:bl<wr.heap.size
 blP:P<bl
 bel:Below P W wr
section
variable {a b:GrD} {ls:List Int} {N P bl capl:Nat} {W wr w':World} {out:Value} {o im:List Int}
theorem IsI.below (h:IsI a b ls N P bl capl W wr out o im) (hb:Below wr.heap.size wr w'):IsI a b ls N P bl capl W w' out o im:=
 ⟨h.ok,h.len,h.img,h.fnd.below hb,h.row.below hb,h.lets.below hb,h.ne,Nat.lt_of_lt_of_le h.blt hb.size,h.blP,h.bel.trans (hb.mono (by have:=h.blt;have:=h.blP;omega))⟩
theorem IsI.found (h:IsI a b ls N P bl capl W wr out o im) {y:Nat} (hy:y<N) {v9:Value} {w9:World} {ob:Obj} (hok:OrdOk (N:Int) (o++ [(y:Int)])) (o9:OwI w9 (P+1) v9 (o++ [(y:Int)])) (g9:(wr.alloc ob).grownBy w9 out.ownBlock)
  (p9:v9.ownBlock=out.ownBlock∨v9.ownBlock=some (wr.alloc ob).heap.size) {z:Int} (hz:imgW a b y=z) (hz0:0≤z) (hz64:I64 z):
  IsI a b ls N P bl capl W (w9.setCell ⟨P,y,none⟩ (.int .i64 z)) v9 (o++ [(y:Int)]) (im.set y z):=by
 have hs9:=g9.size
 have hsa:(wr.alloc ob).heap.size=wr.heap.size+1:=by simp
 have hbl:=h.blt
 have hbP:=h.blP
 have hP: ∀c,out.ownBlock=some c→P+1≤c:=fun c hc=>(h.fnd.1.lt c hc).1
 have hrow:OwI w9 P (.slice (some ⟨P,0,none⟩) N N) im:=(h.row.alloc ob).kept g9 (.inr fun e=>by have:=hP P (by rw[←e];rfl);omega)
 have hlet:RdI w9 (.slice (some ⟨bl,0,none⟩) ls.length capl) ls:=(h.lets.alloc ob).grown g9 fun b hb hb'=>by
  simp only[Value.ownBlock,Option.some.injEq] at hb
  subst hb
  exact h.ne hb'
 obtain⟨r1,r2⟩:=hrow.set y z hz64
 refine⟨hok,by rw[List.length_set];exact h.len,fun j hj hm=> ?_,o9.far (p:=⟨P,y,none⟩) (Nat.lt_succ_self _) _,r1,hlet.grown r2 fun b hb hb'=>by simp[Value.ownBlock] at hb hb';omega,?_,by simp;omega,h.blP,?_⟩
 ·by_cases e:j=y
  ·subst e
   rw[List.getElem?_set_self (by rw[h.len];exact hy),hz]
   exact⟨rfl,hz0⟩
  ·rw[List.getElem?_set_ne (Ne.symm e)]
   rcases List.mem_append.1 hm with hm | hm
   ·exact h.img j hj hm
   ·rw[List.mem_singleton] at hm;omega
 ·rcases p9 with p9 | p9
  ·rw[p9];exact h.ne
  ·rw[p9]
   intro e
   injection e with e
   omega
 ·refine Below.setCell ?_ (by show P≤P;omega) _
  exact bel_push h.bel (by omega) h.fnd.1 (by omega) g9
end
set_option maxHeartbeats 3000000 in
theorem specIsInside_any (va vb:Value) (a b:GrD) (w:World) (ha:ArgG w va a) (hb:ArgG w vb b):
  Calls Tryz.prog 48 #[va,vb] w fun e w'=>e= .returned (.bool (inclS a b))∧Below w.heap.size w w':=by
 have HGA:=hDD ha
 have HGB:=hDD hb
 obtain⟨sa,rfl,hi1,hi2,haa⟩:=ha
 obtain⟨Aa,capa,rfl⟩:=haa.form
 obtain⟨sb,rfl,hi3,hi4,hab⟩:=hb
 obtain⟨Ab,capb,rfl⟩:=hab.form
 obtain⟨a1,a2,es⟩:=a
 obtain⟨b1,b2,fs⟩:=b
 simp only at*
 clear haa hab
 obtain⟨i0,hi0,hz0,hz1,hz2⟩:=info_parts int_info
 go_enter Tryz.func48,Tryz.ntmps48
 go_wp2_with fail
 obtain⟨W1,hW1⟩: ∃W,W=w.alloc (Obj.cells #[Value.int IntKind.i64 a1,Value.int IntKind.i64 a2, .slice Aa es.length capa] 26):=⟨_,rfl⟩
 obtain⟨hs1,bb1,hc1⟩:=gboxI hW1
 rw[←hW1]
 obtain⟨W,hW⟩: ∃W,W=W1.alloc (Obj.cells #[Value.int IntKind.i64 b1,Value.int IntKind.i64 b2, .slice Ab fs.length capb] 26):=⟨_,rfl⟩
 obtain⟨hs2,bb2,hc2⟩:=gboxI hW
 rw[←hW]
 have hsW:W.heap.size=w.heap.size+2:=by omega
 have BX:Hid (Below w.heap.size w W):=hDD (bb1.trans (bb2.mono (by omega)))
 have HC1:=hDD hc1
 have HC2:=hDD hc2
 have BX2:=hDD bb2
 have HCA:Hid (∀w',Below (w.heap.size+2) W w'→w'.cell? ⟨w.heap.size,0,none⟩=some (.int .i64 a1)∧w'.cell? ⟨w.heap.size,1,none⟩=some (.int .i64 a2)∧w'.cell? ⟨w.heap.size,2,none⟩=some (.slice Aa es.length capa)):=hDD fun w' hb=>HC1.out w' ((BX2.out.mono (by omega)).trans (hb.mono (by omega)))
 have HCB:Hid (∀w',Below (w.heap.size+2) W w'→w'.cell? ⟨w.heap.size+1,0,none⟩=some (.int .i64 b1)∧w'.cell? ⟨w.heap.size+1,1,none⟩=some (.int .i64 b2)∧w'.cell? ⟨w.heap.size+1,2,none⟩=some (.slice Ab fs.length capb)):=hDD fun w' hb=>by
  have h:=HC2.out w' (by rw[hs1];exact hb)
  rwa [hs1] at h
 have HAA:Hid (∀w',Below (w.heap.size+2) W w'→ArgG w' (.agg #[.int .i64 a1, .int .i64 a2, .slice Aa es.length capa]) (a1,a2,es)):=hDD fun w' hb=>HGA.out.below (BX.out.trans (hb.mono (by omega)))
 have HAB:Hid (∀w',Below (w.heap.size+2) W w'→ArgG w' (.agg #[.int .i64 b1, .int .i64 b2, .slice Ab fs.length capb]) (b1,b2,fs)):=hDD fun w' hb=>HGB.out.below (BX.out.trans (hb.mono (by omega)))
 clear hW1 hW hc1 hc2 bb1 bb2 HC1 HC2 BX2 hs1 hs2
 refine(specIsSubgroup_any _ (a1,a2,es) W (HAA.out W ((Below.refl W.heap.size W).mono (by omega)))).mono ?_
 rintro e w2 ⟨rfl,b2'⟩
 have hs2:=b2'.size
 have B2:Hid (Below (w.heap.size+2) W w2):=hDD (b2'.mono (by omega))
 clear b2'
 obtain⟨p0,p1,p2⟩:=HCA.out w2 B2.out
 obtain⟨q0,q1,q2⟩:=HCB.out w2 B2.out
 rcases ea:coreB (a1,a2,es) with _ | _
 ·have F:Hid (inclS (a1,a2,es) (b1,b2,fs)=false):=hDD (by unfold inclS;rw[ea];rfl)
  have HBF:Hid (Below w.heap.size w w2):=hDD (BX.out.trans (B2.out.mono (by omega)))
  clear ea
  go_wp2
  go_ret
  exact⟨ret_bool F.out.symm,HBF.out⟩
 go_wp2_with fail
 refine(specIsSubgroup_any _ (b1,b2,fs) w2 (HAB.out w2 B2.out)).mono ?_
 rintro e w3 ⟨rfl,b3'⟩
 have hs3:=b3'.size
 have B3:Hid (Below (w.heap.size+2) W w3):=hDD (B2.out.trans (b3'.mono (by omega)))
 clear b3' p0 p1 p2 q0 q1 q2
 obtain⟨p0,p1,p2⟩:=HCA.out w3 B3.out
 obtain⟨q0,q1,q2⟩:=HCB.out w3 B3.out
 rcases eb:coreB (b1,b2,fs) with _ | _
 ·have F:Hid (inclS (a1,a2,es) (b1,b2,fs)=false):=hDD (by unfold inclS;rw[ea,eb];rfl)
  have HBF:Hid (Below w.heap.size w w3):=hDD (BX.out.trans (B3.out.mono (by omega)))
  clear ea eb
  go_wp2
  go_ret
  exact⟨ret_bool F.out.symm,HBF.out⟩
 rcases er:(a1 != b1) with _ | _
 rotate_left
 ·have hne:a1≠b1:=by simpa using er
  have F:Hid (inclS (a1,a2,es) (b1,b2,fs)=false):=hDD (by unfold inclS;simp[hne])
  have HBF:Hid (Below w.heap.size w w3):=hDD (BX.out.trans (B3.out.mono (by omega)))
  clear ea eb hne
  go_wp2
  go_ret
  exact⟨ret_bool F.out.symm,HBF.out⟩
 obtain rfl:a1=b1:=by simpa using er
 have hga:=coreB_grB ea
 have hgb:=coreB_grB eb
 have hfa:=(foldB_parts (core_foldI ea)).2
 have hfb:=(foldB_parts (core_foldI eb)).2
 obtain⟨h13,h40,h120,_⟩:=grB_parts hga
 obtain⟨_,h40b,_,_⟩:=grB_parts hgb
 simp only at h13 h40 h120 h40b
 obtain⟨N,rfl⟩: ∃N:Nat,a2=(N:Int):=⟨a2.toNat,by omega⟩
 obtain⟨r,rfl⟩: ∃r:Nat,a1=(r:Int):=⟨a1.toNat,by omega⟩
 have F:Hid (inclS ((r:Int),(N:Int),es) ((r:Int),b2,fs)=(canO ((r:Int),(N:Int),es)).all fun u=>(lettersL r).all (stB ((r:Int),(N:Int),es) ((r:Int),b2,fs) u)):=hDD (by unfold inclS;rw[ea,eb];simp)
 have ONEA:=hDD (steps_one hfa)
 have ONEB:=hDD (steps_one hfb)
 have HZ:Hid (imgW ((r:Int),(N:Int),es) ((r:Int),b2,fs) 0=0):=hDD (by unfold imgW;rw[wd_zero hga];rfl)
 have HS0:Hid (TwS ((r:Int),(N:Int),es) (lettersL r) 0 [0]):=hDD (TwS.zero ((r:Int),(N:Int),es))
 have HCO:Hid (canO ((r:Int),(N:Int),es)=canF es (lettersL r) 41 0 [0]):=hDD rfl
 have HNW:Hid (∀(k:Nat) (o:List Int) (u:Int),TwS ((r:Int),(N:Int),es) (lettersL r) k o→o[k]? =some u→k<41→0≤imgW ((r:Int),(N:Int),es) ((r:Int),b2,fs) u→ ∀(m:Nat) (hm:m<(lettersL r).length),0≤nextV es u (lettersL r)[m]→hasB (((lettersL r).take m).foldl (cstep es u) o) (nextV es u (lettersL r)[m])=false→0≤nextV fs (imgW ((r:Int),(N:Int),es) ((r:Int),b2,fs) u) (lettersL r)[m]→
   imgW ((r:Int),(N:Int),es) ((r:Int),b2,fs) (nextV es u (lettersL r)[m])=nextV fs (imgW ((r:Int),(N:Int),es) ((r:Int),b2,fs) u) (lettersL r)[m]):=hDD fun k o u h h1 h2 h0 m hm h3 h4 h5=>by
  have hw:=h.new hga h1 h2 hm h3 h4
  simp only at hw
  unfold imgW at h0 h5⊢
  simp only at h0 h5⊢
  rw[hw,walkF_app _ _ _ _ h0,walkF_one _ _ _ h5]
 have OK0:Hid (OrdOk (N:Int) [0]):=hDD (OrdOk.one (by omega))
 have OKm:Hid (∀(u:Int) (o:List Int) (k:Nat),OrdOk (N:Int) o→OrdOk (N:Int) (((lettersL r).take k).foldl (cstep es u) o)):=hDD fun u o k h=>cfold_take_ok hga _ k h
 have OKL:Hid (∀o:List Int,OrdOk (N:Int) o→o.length≤40):=hDD fun o h=>h.len (by omega) (by omega)
 have NVA:Hid (∀u x,nextV es u x= -1∨(0≤nextV es u x∧nextV es u x<N)):=hDD fun u x=>nextV_range hga u x
 have NVB:Hid (∀u x,nextV fs u x= -1∨(0≤nextV fs u x∧nextV fs u x<41)):=hDD fun u x=>by
  rcases nextV_range hgb u x with e | e
  ·exact .inl e
  ·exact .inr ⟨e.1,by have:=e.2;simp only at this;omega⟩
 have hll:=lettersL_len r
 have HLE:=hDD (fun W=>l5Letters_any r W (by omega))
 have hL64:=lettersL_I64 (n:=r) (by omega)
 have HL64:=hDD hL64
 generalize lettersL r=ls at*
 obtain⟨IMG,hIMG⟩: ∃I,I=imgW ((r:Int),(N:Int),es) ((r:Int),b2,fs):=⟨_,rfl⟩
 have HIMG:=hDD hIMG
 rw[←hIMG] at HZ HNW
 clear ea eb hga hgb hfa hfb hL64 hIMG
 go_wp2_with (at_make;refine wpList_make_full _ rfl _ _ 37 rfl w3.heap.size 3 i0 (.int .i64 0) 1 Tryz.underlying37 hi0 hz0 hz1 _ _ _ _ N rfl rfl rfl rfl (by rw[hz2];omega) (by unfold maxLen;omega) (Nat.le_refl _) ?_)
 intro w4 hown4 hgrow4
 have hs4:w3.heap.size<w4.heap.size:=(hown4.lt w3.heap.size rfl).2
 have B34:Below w3.heap.size w3 w4:=(Below.refl w3.heap.size w3).grown hgrow4 (Nat.le_refl _) (fun k h=>by cases h)
 have R4:OwI w4 w3.heap.size (.slice (some ⟨w3.heap.size,0,none⟩) N N) (List.replicate N 0):=⟨by simpa[ints,toList_madeCells_one] using hown4,fun x hx=>by rw[(List.mem_replicate.1 hx).2];exact⟨by decide,by decide⟩⟩
 have O5:OwI (w4.alloc (.cells #[Value.int IntKind.i64 0] 3)) w4.heap.size (.slice (some ⟨w4.heap.size,0,none⟩) 1 1) [0]:=OwI_lit w4 [0] (fun x hx=>by simp at hx;subst hx;exact⟨by decide,by decide⟩) (by simp) (Nat.le_refl _)
 have R5:=R4.alloc (.cells #[Value.int IntKind.i64 0] 3)
 have B35:Below w3.heap.size w3 (w4.alloc (.cells #[Value.int IntKind.i64 0] 3)):=B34.alloc (by omega) _
 have hs5:(w4.alloc (.cells #[Value.int IntKind.i64 0] 3)).heap.size=w4.heap.size+1:=by simp
 have HO5:=hDD O5
 have HR5:=hDD R5
 have HB5:=hDD B35
 have B5:Hid (Below (w.heap.size+2) W (w4.alloc (.cells #[Value.int IntKind.i64 0] 3))):=hDD (B3.out.trans (B35.mono (by omega)))
 clear hown4 hgrow4 B34 R4 O5 R5 B35 p0 p1 p2 q0 q1 q2
 obtain⟨p0,p1,p2⟩:=HCA.out _ B5.out
 go_wp2_with fail
 generalize w4.alloc (.cells #[Value.int IntKind.i64 0] 3)=w5 at*
 refine(HLE.out w5).mono ?_
 rintro e w6 ⟨rl,rfl,ol,b6⟩
 have hs6:=b6.size
 obtain⟨Al,capl,rfl,hcl,hml,_,hfl⟩:=OwI.form ol
 obtain⟨bl,rfl,hbl1,hbl2⟩:=hfl (by omega)
 unfold maxLen at hml
 have HI0:Hid (IsI ((r:Int),(N:Int),es) ((r:Int),b2,fs) ls N w3.heap.size bl capl w3 w6 (.slice (some ⟨w4.heap.size,0,none⟩) 1 1) [0] (List.replicate N 0)):=hDD
  ⟨OK0.out,by simp,fun y hy hm=>by
   rw[List.mem_singleton] at hm
   obtain rfl:y=0:=by omega
   have hz:imgW ((r:Int),(N:Int),es) ((r:Int),b2,fs) ((0:Nat):Int)=0:=by have:=HZ.out;rw[HIMG.out] at this;exact this
   rw[hz]
   exact⟨by simp[hy],Int.le_refl _⟩,(HO5.out.below b6).mono (by omega),HR5.out.below b6,ol.rd,by simp[Value.ownBlock];omega,hbl2,by omega,HB5.out.trans (b6.mono (by omega))⟩
 clear ol b6 hfl p0 p1 p2
 go_wp2
 have HBW:Hid (∀wr,Below w3.heap.size w3 wr→Below (w.heap.size+2) W wr):=hDD fun wr hb=>B3.out.trans (hb.mono (by omega))
 go_loopw [6,8] (fun out i wo=> ∃(k:Nat) (o im:List Int),k≤o.length∧i= .int .i64 k∧TwS ((r:Int),(N:Int),es) ls k o∧canO ((r:Int),(N:Int),es)=canF es ls (41-k) k o∧(∀j u,j<k→o[j]? =some u→ls.all (stB ((r:Int),(N:Int),es) ((r:Int),b2,fs) u)=true)∧IsI ((r:Int),(N:Int),es) ((r:Int),b2,fs) ls N w3.heap.size bl capl w3 wo out o im) (fun _ i _=>41-(intOf i).toNat)
 case atStart=>exact⟨0,[0],_,by simp,rfl,HS0.out,HCO.out,fun j u hj=>absurd hj (Nat.not_lt_zero _),HI0.out⟩
 case round=>
  obtain⟨k,o,im,hk,rfl,hts,hco,hall,hI⟩:=hrel
  obtain⟨wo,rfl⟩: ∃wo:World,wo=wr:=⟨_,rfl⟩
  have hol:=OKL.out o hI.ok
  have HTS:=hDD hts
  have HC:=hDD hco
  have HALL:=hDD hall
  have HI:=hDD hI
  obtain⟨A1,cap1,rfl,_⟩:=OwI.form HI.out.fnd
  clear hts hco hall hI
  by_cases hlt:k<o.length
  ·obtain⟨u,hu⟩: ∃u,o[k]? =some u:=⟨o[k],by simp⟩
   have hku:o[k]=u:=by rw[List.getElem?_eq_getElem hlt] at hu;injection hu
   have HCF:Hid (canO ((r:Int),(N:Int),es)=canF es ls (41-(k+1)) (k+1) (ls.foldl (cstep es u) o)):=hDD (by
    rw[HC.out,show 41-k=(41-(k+1))+1 by omega,canF_step _ _ _ _ _ hlt,hku])
   have HTS1:=hDD (HTS.out.step hu (by omega))
   have hum0:u∈o:=List.mem_of_getElem? hu
   obtain⟨un,rfl,hunN⟩: ∃un:Nat,u=(un:Int)∧un<N:=by
    have h1:=HI.out.ok.2.1 u hum0
    exact⟨u.toNat,by omega,by omega⟩
   have HIU:=hDD (HI.out.img un hunN hum0)
   have HNW1:=hDD (HNW.out k o (un:Int) HTS.out hu (by omega) (by rw[HIMG.out];exact HIU.out.2))
   have HPU:Hid (∀m:Nat,(((ls.take m).foldl (cstep es (un:Int)) o))[k]? =some (un:Int)):=hDD fun m=>cfold_prefix _ _ _ _ _ _ hu
   have HPF:Hid (∀(j:Nat) (y:Int),o[j]? =some y→(ls.foldl (cstep es (un:Int)) o)[j]? =some y):=hDD fun j y h=>cfold_prefix _ _ _ _ _ _ h
   have HSU:Hid (∀(m:Nat) (hm:m<ls.length),(ls.take (m+1)).foldl (cstep es (un:Int)) o=cstep es (un:Int) ((ls.take m).foldl (cstep es (un:Int)) o) ls[m]):=hDD fun m hm=>cfold_succ _ _ _ _ _ hm
   have HOKm:Hid (∀m:Nat,OrdOk (N:Int) ((ls.take m).foldl (cstep es (un:Int)) o)):=hDD fun m=>OKm.out (un:Int) o m HI.out.ok
   have HUC:Hid ((un:Int)∈canO ((r:Int),(N:Int),es)):=hDD (by
    rw[HC.out,show 41-k=(41-(k+1))+1 by omega,canF_step _ _ _ _ _ hlt,hku]
    have key: ∀(f i:Nat) (p:List Int) (j:Nat) (y:Int),p[j]? =some y→(canF es ls f i p)[j]? =some y:=by
     intro f
     induction f with
     | zero=>intro i p j y h;exact h
     | succ f ih=>
       intro i p j y h
       rw[canF]
       cases p[i]? with
       | none=>exact h
       | some v=>exact ih _ _ _ _ (cfold_prefix _ _ _ _ _ _ h)
    exact List.mem_of_getElem? (key _ _ _ k _ (cfold_prefix _ _ _ _ _ _ hu)))
   clear hu hku hum0
   go_wp2
   go_loopw [6,9] (fun out j wr=> ∃(m:Nat) (im:List Int),m≤ls.length∧j= .int .i64 m∧(∀l∈ls.take m,stB ((r:Int),(N:Int),es) ((r:Int),b2,fs) (un:Int) l=true)∧IsI ((r:Int),(N:Int),es) ((r:Int),b2,fs) ls N w3.heap.size bl capl w3 wr out ((ls.take m).foldl (cstep es (un:Int)) o) im) (fun _ j _=>ls.length-(intOf j).toNat)
   case atStart=>exact⟨0,im,Nat.zero_le _,rfl,fun l hl=>by simp at hl,HI.out⟩
   case round=>
    obtain⟨m,im2,hm1,rfl,hst,hI2⟩:=hrel
    have HST:=hDD hst
    have HI2:=hDD hI2
    obtain⟨wj,rfl⟩: ∃wj:World,wj=wr:=⟨_,rfl⟩
    have hblr:=hI2.blt
    have hblP:=hI2.blP
    clear hst hI2
    by_cases hlt2:m<ls.length
    ·have hokm:=HOKm.out m
     have hlm:=OKL.out _ hokm
     have hpu:=HPU.out m
     have HS:=hDD (HSU.out m hlt2)
     have HNW2:=hDD (HNW1.out m hlt2)
     have HOKn:=hDD (HOKm.out (m+1))
     obtain⟨_,_,hAl,_,hcl'⟩:=HI2.out.lets.at (by omega)
     obtain⟨rfl,rfl⟩:bl=_∧0=_:=by simpa using hAl
     have c0:=hcl' m hlt2
     rw[Nat.zero_add] at c0
     have HX64:=hDD (HL64.out ls[m] (by simp))
     have HTK:Hid (∀l∈ls.take (m+1),l∈ls.take m∨l=ls[m]):=hDD fun l hl=>by
      rw[List.take_succ_eq_append_getElem hlt2] at hl
      rcases List.mem_append.1 hl with h | h
      ·exact .inl h
      ·exact .inr (List.mem_singleton.1 h)
     have HLM:Hid (ls[m]∈ls):=hDD (List.getElem_mem _)
     have HSTX:Hid (stB ((r:Int),(N:Int),es) ((r:Int),b2,fs) (un:Int) ls[m]=(decide (nextV es (un:Int) ls[m]<0)||(decide (0≤nextV fs (IMG (un:Int)) ls[m])&&decide (IMG (nextV es (un:Int) ls[m])=nextV fs (IMG (un:Int)) ls[m])))):=hDD (by rw[HIMG.out];rfl)
     rw[HS.out] at HOKn
     generalize ls[m]=x at*
     generalize hom:(ls.take m).foldl (cstep es (un:Int)) o=om at*
     clear hom
     have hkm:k<om.length:=(List.getElem?_eq_some_iff.1 hpu).1
     have hkg:om[k]=(un:Int):=by rw[List.getElem?_eq_getElem hkm] at hpu;injection hpu
     obtain⟨A2,cap2,rfl,_,_,_,hf2⟩:=OwI.form HI2.out.fnd
     obtain⟨b2',rfl,hb21,hb22⟩:=hf2 (by omega)
     have d0:=HI2.out.fnd.cellAt k hkm
     rw[hkg] at d0
     have hum:(un:Int)∈om:=List.mem_of_getElem? hpu
     have hIU:=HI2.out.img un hunN hum
     have hlen2:=HI2.out.len
     have e0:=HI2.out.row.cellAt un (by rw[hlen2];exact hunN)
     have hIMu:im2[un]'(by rw[hlen2];exact hunN)=IMG (un:Int):=by
      have h:=hIU.1
      rw[List.getElem?_eq_getElem (by rw[hlen2];exact hunN)] at h
      rw[HIMG.out]
      injection h
     rw[hIMu] at e0
     have hPw:w3.heap.size<wj.heap.size:=by omega
     have hws:w.heap.size<wj.heap.size:=by omega
     have hws1:w.heap.size+1<wj.heap.size:=by omega
     have HBJ:=hDD (HBW.out wj HI2.out.bel)
     obtain⟨p0,p1,p2⟩:=HCA.out wj HBJ.out
     obtain⟨q0,q1,q2⟩:=HCB.out wj HBJ.out
     have NX:=hDD (NVA.out (un:Int) x)
     have NY:=hDD (NVB.out (IMG (un:Int)) x)
     have N0:=hDD (cstep_no (es:=es) (u:=(un:Int)) (x:=x) (o:=om))
     have N1:=hDD (cstep_in (es:=es) (u:=(un:Int)) (x:=x) (o:=om))
     have N2:=hDD (cstep_new (es:=es) (u:=(un:Int)) (x:=x) (o:=om))
     have HNA:=hDD (fun W' (h:ArgG W' (.agg #[.int .i64 (r:Int), .int .i64 (N:Int), .slice Aa es.length capa]) ((r:Int),(N:Int),es))=>specNextVertex_any _ ((r:Int),(N:Int),es) (un:Int) x W' h (ONEA.out (un:Int) x))
     have HNB:=hDD (fun W' (h:ArgG W' (.agg #[.int .i64 (r:Int), .int .i64 b2, .slice Ab fs.length capb]) ((r:Int),b2,fs))=>specNextVertex_any _ ((r:Int),b2,fs) (IMG (un:Int)) x W' h (ONEB.out (IMG (un:Int)) x))
     have hunI:(un:Int)<(N:Int):=by omega
     have HFAIL:Hid (stB ((r:Int),(N:Int),es) ((r:Int),b2,fs) (un:Int) x=false→inclS ((r:Int),(N:Int),es) ((r:Int),b2,fs)=false):=hDD fun h=>by
      rw[F.out,Bool.eq_false_iff]
      intro hc
      have h1:=List.all_eq_true.1 (List.all_eq_true.1 hc (un:Int) HUC.out) x HLM.out
      rw[h] at h1
      cases h1
     clear hcl' hAl hf2 hpu hkg hokm hum hIU hIMu
     simp only at HNA HNB
     go_wp2_with fail
     have f0:=BelW.cell p0 hws
     have f1:=BelW.cell p1 hws
     have f2:=BelW.cell p2 hws
     have f3:=BelW.cell c0 hblr
     have f4:=BelW.cell d0 hb22
     (refine wp_region_quiet_bel (by kernel_rfl) (by kernel_rfl) ?_;(repeat(go_big_quiet_step (first | (go_at_call 86;exact Calls.bel_of (HNA.out _ (HAA.out _ (HBJ.out.trans ((BelW.h _).mono (by omega)))))))));refine wpQuiet_nil ?_;intro wq hw';obtain⟨pq,hw''⟩:=hw';have bq:=pq.h;rw[←hw''] at bq;clear hw'' pq)
     clear f0 f1 f2 f3 f4 p0 p1 p2
     have sq:=bq.size
     have c1:=(bq.cell (p:=⟨bl,m,none⟩) hblr).trans c0
     have d1:=(bq.cell (p:=⟨b2',k,none⟩) hb22).trans d0
     have e1:=(bq.cell (p:=⟨w3.heap.size,un,none⟩) hPw).trans e0
     have HIQ:=hDD (HI2.out.below bq)
     have HBQ:=hDD (HBW.out wq HIQ.out.bel)
     clear bq c0 d0 e0 q0 q1 q2
     obtain⟨q0,q1,q2⟩:=HCB.out wq HBQ.out
     generalize nextV es (un:Int) x=y at*
     rcases NX.out with hy | hy
     ·subst hy
      have F0:=hDD (N0.out (by omega))
      have HSTT:Hid (stB ((r:Int),(N:Int),es) ((r:Int),b2,fs) (un:Int) x=true):=hDD (by rw[HSTX.out];simp)
      go_wp2
      go_roundw
      case rel=>exact⟨m+1,im2,by omega,by go_num,fun l hl=>by
       rcases HTK.out l hl with h | rfl
       ·exact HST.out l h
       ·exact HSTT.out,by rw[HS.out,F0.out];exact HIQ.out⟩
      case measure=>simp[intOf];omega
     ·obtain⟨yn,rfl⟩: ∃yn:Nat,y=(yn:Int):=⟨y.toNat,by omega⟩
      have hy0:(0:Int)≤(yn:Int):=hy.1
      have hyN:(yn:Int)<(N:Int):=hy.2
      have hynN:yn<N:=by omega
      have hyneg: ¬((yn:Int)<0):=by omega
      have hws2:w.heap.size+1<wq.heap.size:=by omega
      have hblq:bl<wq.heap.size:=by omega
      have hb2q:b2'<wq.heap.size:=by omega
      have hPq:w3.heap.size<wq.heap.size:=by omega
      go_wp2_with fail
      have f0:=BelW.cell q0 hws2
      have f1:=BelW.cell q1 hws2
      have f2:=BelW.cell q2 hws2
      have f3:=BelW.cell c1 hblq
      have f4:=BelW.cell d1 hb2q
      have f5:=BelW.cell e1 hPq
      (refine wp_region_quiet_bel (by kernel_rfl) (by kernel_rfl) ?_;(repeat(go_big_quiet_step (first | (go_at_call 86;exact Calls.bel_of (HNB.out _ (HAB.out _ (HBQ.out.trans ((BelW.h _).mono (by omega)))))))));refine wpQuiet_nil ?_;intro wz hw';obtain⟨pq,hw''⟩:=hw';have bz:=pq.h;rw[←hw''] at bz;clear hw'' pq)
      clear f0 f1 f2 f3 f4 f5 q0 q1 q2
      have sz:=bz.size
      have HIZ:=hDD (HIQ.out.below bz)
      clear bz c1 d1 e1
      generalize nextV fs (IMG (un:Int)) x=z at*
      rcases NY.out with hz | hz
      ·subst hz
       have HSTF:Hid (inclS ((r:Int),(N:Int),es) ((r:Int),b2,fs)=false):=hDD (HFAIL.out (by rw[HSTX.out];simp[hyneg]))
       have HBF:Hid (Below w.heap.size w wz):=hDD (BX.out.trans ((HBW.out wz HIZ.out.bel).mono (by omega)))
       go_wp2
       go_ret
       exact⟨ret_bool HSTF.out.symm,HBF.out⟩
      ·have hz0:(0:Int)≤z:=hz.1
       have hz41:z<41:=hz.2
       have hzneg: ¬(z<0):=by omega
       go_wp2_with fail
       refine(l4Has_any _ om (yn:Int) _ HIZ.out.fnd.arg (by omega)).mono ?_
       rintro e' w' ⟨rfl,rfl⟩
       have hlenz:=HIZ.out.len
       rcases h1:hasB om (yn:Int) with _ | _
       ·have F0:=hDD (N2.out hy0 h1)
        have HIY:=hDD (HNW2.out hy0 h1 hz0)
        have HSTT:Hid (stB ((r:Int),(N:Int),es) ((r:Int),b2,fs) (un:Int) x=true):=hDD (by rw[HSTX.out];simp[HIY.out,hz0])
        have HY:Hid (I64 (yn:Int)):=hDD ⟨by omega,by omega⟩
        have HZ64:Hid (I64 z):=hDD ⟨by omega,by omega⟩
        have HOKY:Hid (OrdOk (N:Int) (om++ [(yn:Int)])):=hDD (by have h:=HOKn.out;rwa [F0.out] at h)
        have hcY:=HIZ.out.row.cellAt yn (by rw[hlenz];exact hynN)
        have hfY:=HIZ.out.row.free yn
        have HIYW:Hid (imgW ((r:Int),(N:Int),es) ((r:Int),b2,fs) (yn:Int)=z):=hDD (by rw[←HIMG.out];exact HIY.out)
        have hPz:w3.heap.size<wz.heap.size:=by omega
        generalize im2[yn]'(by rw[hlenz];exact hynN)=z9 at hcY
        have HCY:=hDD hcY
        have HFY:=hDD hfY
        clear h1 hcY hfY
        go_wp2_with ((at_builtin;refine push_int rfl (.tmp 77) (.tmp 79) rfl _ _ _ (OwI.alloc HIZ.out.fnd _) rfl _ _ rfl (cell_new1 _ _ _) HY.out (by first | omega | (simp<;>omega)) (by first | omega | (simp<;>omega)) ?_;intro v9 wv9 o9 g9 p9);have hPo: ∀c,(Value.slice (some ⟨b2',0,none⟩) om.length cap2).ownBlock=some c→w3.heap.size+1≤c:=fun c hc=>(HIZ.out.fnd.1.lt c hc).1;have hblk9:wv9.heap[w3.heap.size]? =wz.heap[w3.heap.size]? :=(g9.block w3.heap.size (by simp;omega) (fun e=>by have:=hPo w3.heap.size e.symm;omega)).trans (((Below.refl wz.heap.size wz).alloc (Nat.le_refl _) _).block w3.heap.size hPz);have hcY9:wv9.cell? ⟨w3.heap.size,yn,none⟩=some (.int .i64 z9):=(World.cell?_of_block (w:=wz) hblk9).trans HCY.out;have HROW9:=hDD (((HIZ.out.row.alloc (.cells #[.int .i64 (yn:Int)] 3)).kept g9 (.inr fun e=>by have:=hPo w3.heap.size (by rw[←e];rfl);omega)).free yn);have hfY9:=HROW9.out;have HFND:=hDD (HIZ.out.found hynN HOKY.out o9 g9 p9 HIYW.out hz0 HZ64.out);clear o9 g9 p9 hPo hblk9)
        go_roundw
        case rel=>exact⟨m+1,im2.set yn z,by omega,by go_num,fun l hl=>by
         rcases HTK.out l hl with h | rfl
         ·exact HST.out l h
         ·exact HSTT.out,by rw[HS.out,F0.out];exact HFND.out⟩
        case measure=>simp[intOf];omega
       ·have F0:=hDD (N1.out hy0 h1)
        have hym:(yn:Int)∈om:=hasB_iff.1 h1
        have hIY:=HIZ.out.img yn hynN hym
        have hcY:=HIZ.out.row.cellAt yn (by rw[hlenz];exact hynN)
        have hIMy:im2[yn]'(by rw[hlenz];exact hynN)=IMG (yn:Int):=by
         have h:=hIY.1
         rw[List.getElem?_eq_getElem (by rw[hlenz];exact hynN)] at h
         rw[HIMG.out]
         injection h
        rw[hIMy] at hcY
        clear h1 hym hIY hIMy
        generalize IMG (yn:Int)=t at*
        rcases et:(t != z) with _ | _
        ·have htz:t=z:=by simpa using et
         have HSTT:Hid (stB ((r:Int),(N:Int),es) ((r:Int),b2,fs) (un:Int) x=true):=hDD (by rw[HSTX.out];simp[htz,hz0])
         clear htz
         go_wp2
         go_roundw
         case rel=>exact⟨m+1,im2,by omega,by go_num,fun l hl=>by
          rcases HTK.out l hl with h | rfl
          ·exact HST.out l h
          ·exact HSTT.out,by rw[HS.out,F0.out];exact HIZ.out⟩
         case measure=>simp[intOf];omega
        ·have htz:t≠z:=by simpa using et
         have HSTF:Hid (inclS ((r:Int),(N:Int),es) ((r:Int),b2,fs)=false):=hDD (HFAIL.out (by rw[HSTX.out];simp[hyneg,htz]))
         have HBF:Hid (Below w.heap.size w wz):=hDD (BX.out.trans ((HBW.out wz HIZ.out.bel).mono (by omega)))
         clear htz
         go_wp2
         go_ret
         exact⟨ret_bool HSTF.out.symm,HBF.out⟩
    ·obtain rfl:m=ls.length:=by omega
     have HI3:=HI2
     rw[List.take_length] at HI3 HST
     have HALL3:Hid (∀j u,j<k+1→(ls.foldl (cstep es (un:Int)) o)[j]? =some u→ls.all (stB ((r:Int),(N:Int),es) ((r:Int),b2,fs) u)=true):=hDD fun j u hj hu=>by
      by_cases hjk:j<k
      ·have hjo:j<o.length:=by omega
       have h2:=HPF.out j _ (List.getElem?_eq_getElem hjo)
       rw[h2] at hu
       injection hu with hu
       exact HALL.out j u hjk (by rw[List.getElem?_eq_getElem hjo,hu])
      ·obtain rfl:j=k:=by omega
       have h2:=HPU.out ls.length
       rw[List.take_length] at h2
       rw[h2] at hu
       injection hu with hu
       subst hu
       exact List.all_eq_true.2 HST.out
     have hlen:k+1≤(ls.foldl (cstep es (un:Int)) o).length:=by
      have:=HPU.out ls.length
      rw[List.take_length] at this
      have:=(List.getElem?_eq_some_iff.1 this).1
      omega
     obtain⟨A2,cap2,rfl,_⟩:=OwI.form HI2.out.fnd
     go_wp2
     go_roundw
     case rel=>exact⟨k+1,_,im2,hlen,by go_num,HTS1.out,HCF.out,HALL3.out,HI3.out⟩
     case measure=>simp[intOf];omega
  ·obtain rfl:k=o.length:=by omega
   have HT:Hid (inclS ((r:Int),(N:Int),es) ((r:Int),b2,fs)=true):=hDD (by
    rw[F.out,HC.out,canF_end]
    refine List.all_eq_true.2 fun u hu=> ?_
    obtain⟨j,hj,rfl⟩:=List.getElem_of_mem hu
    exact HALL.out j _ hj (List.getElem?_eq_getElem hj))
   have HBF:Hid (Below w.heap.size w wo):=hDD (BX.out.trans ((HBW.out wo HI.out.bel).mono (by omega)))
   go_wp2
   go_ret
   exact⟨ret_bool HT.out.symm,HBF.out⟩
theorem invN_eq {w:List Int} (h: ∀x∈w,-3≤x∧x≤3):invL w=invN w:=by
 unfold invL invN negL
 congr 1
 refine List.map_congr_left fun x hx=> ?_
 have:=h x hx
 exact IntWalk.wrap64_in _ ⟨by omega,by omega⟩
theorem NoB.red: ∀ {w:List Int},NoB w→redP w
 | [],_=>fun i hi=>by simp at hi
 | [x],_=>fun i hi=>by simp at hi
 | x::y::w,h=>fun i hi=>by
   match i,hi with
   | 0,_=>
     show invB x y=false
     unfold invB
     rw[Bool.eq_false_iff]
     intro hc
     simp only[Bool.and_eq_true,beq_iff_eq] at hc
     exact h.1 hc.2
   | i+1,hi=>exact NoB.red h.2 i (by simpa using hi)
structure TreeX (f:Int→List Int) (bb P N:Nat) (w:World) (ord:Value) (o:List Int):Prop where
 ex: ∃vs:List Value,vs.length=N∧w.ownsRow bb 37 1 (.slice (some ⟨P,0,none⟩) N N) N vs∧ ∀(j:Nat) (hj:j<vs.length),
  ((j:Int)∉o∧vs[j]= .slice none 0 0)∨((j:Int)∈o∧ ∃(b cap:Nat),vs[j]= .slice (some ⟨b,0,none⟩) (f j).length cap∧(f j).length≤o.length∧OwI w P vs[j] (f j)∧P<b∧ord.ownBlock≠some b∧b<w.heap.size)
 ne:ord.ownBlock≠some P
section
variable {f:Int→List Int} {bb P N:Nat} {w w':World} {ord:Value} {o:List Int}
theorem TreeX.lt (h:TreeX f bb P N w ord o):bb≤P∧P<w.heap.size:=by
 obtain⟨vs,_,h2,_⟩:=h.ex
 exact h2.lt P rfl
theorem TreeX.at_new (h:TreeX f bb P N w ord o) {y:Nat} (hy:y<N) (hn:(y:Int)∉o):w.cell? ⟨P,y,none⟩=some (.slice none 0 0):=by
 obtain⟨vs,h1,h2,h3⟩:=h.ex
 rw[World.ownsRow.cellAt h2 y (by omega)]
 rcases h3 y (by omega) with ⟨_,h4⟩ | ⟨h4,_⟩
 ·rw[List.getElem?_eq_getElem (by omega),h4]
 ·exact absurd h4 hn
theorem TreeX.at_old (h:TreeX f bb P N w ord o) {y:Nat} (hy:y<N) (hn:(y:Int)∈o):
  ∃(b cap:Nat),w.cell? ⟨P,y,none⟩=some (.slice (some ⟨b,0,none⟩) (f y).length cap)∧(f y).length≤o.length∧RdI w (.slice (some ⟨b,0,none⟩) (f y).length cap) (f y)∧b<w.heap.size∧P<b:=by
 obtain⟨vs,h1,h2,h3⟩:=h.ex
 rw[World.ownsRow.cellAt h2 y (by omega)]
 rcases h3 y (by omega) with ⟨h4,_⟩ | ⟨_,b,cap,e1,e2,e3,e4,_,e6⟩
 ·exact absurd hn h4
 ·rw[e1] at e3
  exact⟨b,cap,by rw[List.getElem?_eq_getElem (by omega),e1],e2,e3.rd,e6,e4⟩
theorem TreeX.free (h:TreeX f bb P N w ord o) (j:Nat):w.frozen? ⟨P,j,none⟩=false:=by
 obtain⟨vs,h1,h2,h3⟩:=h.ex
 exact World.ownsRow.frozenAt h2 j
theorem TreeX.below (h:TreeX f bb P N w ord o) (hb:Below w.heap.size w w'):TreeX f bb P N w' ord o:=by
 obtain⟨vs,h1,h2,h3⟩:=h.ex
 refine⟨⟨vs,h1,ownsRow_below h2 hb,fun j hj=> ?_⟩,h.ne⟩
 rcases h3 j hj with h4 | ⟨h4,b,cap,e1,e2,e3,e4,e5,e6⟩
 ·exact .inl h4
 ·exact .inr ⟨h4,b,cap,e1,e2,e3.below hb,e4,e5,by have:=hb.size;omega⟩
theorem TreeX.set (h:TreeX f bb P N w ord o) {y:Nat} (hy:y<N) {b cap:Nat} {ws:List Int} (hws:f (y:Int)=ws) (hr:OwI w P (.slice (some ⟨b,0,none⟩) ws.length cap) ws) (hl:ws.length≤o.length+1) (hb:P<b) (ho:ord.ownBlock≠some b) (hlt:b<w.heap.size):
  TreeX f bb P N (w.setCell ⟨P,y,none⟩ (.slice (some ⟨b,0,none⟩) ws.length cap)) ord (o++ [(y:Int)]):=by
 obtain⟨vs,h1,h2,h3⟩:=h.ex
 obtain⟨s1,s2⟩:=World.ownsRow.stored h2 y (.slice (some ⟨b,0,none⟩) ws.length cap)
 have hsz:(w.setCell ⟨P,y,none⟩ (.slice (some ⟨b,0,none⟩) ws.length cap)).heap.size=w.heap.size:=by simp
 have hg:w.grownBy (w.setCell ⟨P,y,none⟩ (.slice (some ⟨b,0,none⟩) ws.length cap)) (some P):=set_grown _ _ _ _
 refine⟨⟨_,by simpa using h1,s1,fun j hj=> ?_⟩,h.ne⟩
 have hj':j<vs.length:=by simpa using hj
 by_cases hjy:j=y
 ·subst hjy
  refine .inr ⟨by simp,b,cap,by rw[hws];simp,by rw[hws];simp;omega,?_,hb,ho,by omega⟩
  rw[List.getElem_set_self,hws]
  exact hr.kept hg (.inr fun q=>by simp[Value.ownBlock] at q;omega)
 ·rw[List.getElem_set_ne (Ne.symm hjy)]
  rcases h3 j hj' with ⟨h4,h5⟩ | ⟨h4,b',cap',e1,e2,e3,e4,e5,e6⟩
  ·refine .inl ⟨?_,h5⟩
   rw[List.mem_append,List.mem_singleton]
   rintro(h6 | h6)
   ·exact h4 h6
   ·omega
  ·refine .inr ⟨List.mem_append_left _ h4,b',cap',e1,by simp;omega,e3.kept hg (.inr fun hx=> ?_),e4,e5,by omega⟩
   rw[e1] at hx
   simp[Value.ownBlock] at hx
   omega
theorem TreeX.lit (h:TreeX f bb P N w (.slice none 0 0) o) (ob:Obj) (n c:Nat):TreeX f bb P N (w.alloc ob) (.slice (some ⟨w.heap.size,0,none⟩) n c) o:=by
 have hlt:=h.lt
 obtain⟨vs,h1,h2,h3⟩:=h.ex
 refine⟨⟨vs,h1,ownsRow_below h2 ((Below.refl w.heap.size w).alloc (Nat.le_refl _) ob),fun j hj=> ?_⟩,by simp[Value.ownBlock];omega⟩
 rcases h3 j hj with h4 | ⟨h4,b,cap,e1,e2,e3,e4,e5,e6⟩
 ·exact .inl h4
 ·exact .inr ⟨h4,b,cap,e1,e2,e3.alloc _,e4,by simp[Value.ownBlock];omega,by simp;omega⟩
theorem TreeX.push (h:TreeX f bb P N w ord o) {w9:World} {v9:Value} {ob:Obj} (hg:(w.alloc ob).grownBy w9 ord.ownBlock) (hp:v9.ownBlock=ord.ownBlock∨v9.ownBlock=some (w.alloc ob).heap.size):TreeX f bb P N w9 v9 o:=by
 have hlt:=h.lt
 have h':=h.below ((Below.refl w.heap.size w).alloc (Nat.le_refl _) ob)
 obtain⟨vs,h1,h2,h3⟩:=h'.ex
 have hs:(w.alloc ob).heap.size=w.heap.size+1:=by simp
 have hs9:=hg.size
 refine⟨⟨vs,h1,h2.kept hg (.inr fun e=>h.ne e.symm),fun j hj=> ?_⟩,?_⟩
 ·rcases h3 j hj with h4 | ⟨h4,b,cap,e1,e2,e3,e4,e5,e6⟩
  ·exact .inl h4
  ·refine .inr ⟨h4,b,cap,e1,e2,e3.kept hg (.inr fun hx=> ?_),e4,?_,by omega⟩
   ·rw[e1] at hx
    simp only[Value.ownBlock] at hx
    exact e5 hx.symm
   ·rcases hp with hp | hp
    ·rw[hp];exact e5
    ·rw[hp]
     intro e
     injection e with e
     omega
 ·rcases hp with hp | hp
  ·rw[hp];exact h.ne
  ·rw[hp]
   intro e
   injection e with e
   omega
end
set_option maxHeartbeats 1000000 in
theorem treeX_any (v:Value) (g:GrD) (w:World) (h:ArgG w v g) (hf:foldB g=true):
  Calls Tryz.prog 192 #[v, .int .i64 0] w fun e w'=> ∃r P,e= .returned (.tuple #[r, .slice (some ⟨P,0,none⟩) g.2.1.toNat g.2.1.toNat])∧w.heap.size≤P∧TreeX (wdO g) P P g.2.1.toNat w' r (canO g)∧OwI w' w.heap.size r (canO g)∧Below w.heap.size w w':=by
 have HG:=hDD h
 obtain⟨hg,hfol⟩:=foldB_parts hf
 have ONE:=hDD (steps_one hfol)
 have LET:=hDD (let_of_gr hg)
 obtain⟨hr13,hsz40,hl120,_⟩:=grB_parts hg
 obtain⟨A,cap,hv⟩: ∃A cap,v= .agg #[.int .i64 g.1, .int .i64 g.2.1, .slice A g.2.2.length cap]:=by
  obtain⟨s,hv,_,_,ha⟩:=h
  obtain⟨A,cap,rfl⟩:=ha.form
  exact⟨A,cap,hv⟩
 subst hv
 obtain⟨N,hN⟩: ∃N:Nat,g.2.1=(N:Int):=⟨g.2.1.toNat,by omega⟩
 obtain⟨rn,hrn⟩: ∃rn:Nat,g.1=(rn:Int):=⟨g.1.toNat,by omega⟩
 have hrn1:1≤rn:=by omega
 have hrn3:rn≤3:=by omega
 have hN1:1≤N:=by omega
 have hN2:N≤40:=by omega
 have HCO:Hid (canO g=canF g.2.2 (lettersL rn) 41 0 [0]):=hDD (by unfold canO;rw[hrn];rfl)
 have HZ:Hid (wdO g 0= []):=hDD (wd_zero hg)
 have HS0:Hid (TwS g (lettersL rn) 0 [0]):=hDD (by have h:=TwS.zero g;rwa [hrn] at h)
 have HNW:Hid (∀(k:Nat) (o:List Int) (u:Int),TwS g (lettersL rn) k o→o[k]? =some u→k<41→ ∀(m:Nat) (hm:m<(lettersL rn).length),0≤nextV g.2.2 u (lettersL rn)[m]→hasB (((lettersL rn).take m).foldl (cstep g.2.2 u) o) (nextV g.2.2 u (lettersL rn)[m])=false→wdO g (nextV g.2.2 u (lettersL rn)[m])=wdO g u++ [(lettersL rn)[m]]):=hDD fun k o u h h1 h2 m hm h3 h4=>h.new hg h1 h2 hm h3 h4
 have OK0:=hDD (OrdOk.one (n:=g.2.1) (by omega))
 have OKS:Hid (∀(u:Int) (o:List Int) (k:Nat),OrdOk g.2.1 o→OrdOk g.2.1 (((lettersL rn).take k).foldl (cstep g.2.2 u) o)):=hDD fun u o k h=>cfold_take_ok hg _ k h
 have OKL:Hid (∀o:List Int,OrdOk g.2.1 o→o.length≤40):=hDD fun o h=>h.len (by omega) (by omega)
 have OKR:Hid (∀o:List Int,OrdOk g.2.1 o→ ∀y∈o,0≤y∧y<N):=hDD fun o h y hy=>by have:=h.2.1 y hy;omega
 have NV:Hid (∀u x,nextV g.2.2 u x= -1∨(0≤nextV g.2.2 u x∧nextV g.2.2 u x<N)):=hDD fun u x=>by
  rcases nextV_range hg u x with e | e
  ·exact .inl e
  ·exact .inr ⟨e.1,by omega⟩
 have hll:=lettersL_len rn
 have HLE:Hid (∀W:World,Calls Tryz.prog 79 #[.int .i64 g.1] W fun e w'=> ∃r,e= .returned r∧OwI w' W.heap.size r (lettersL rn)∧Below W.heap.size W w'):=hDD fun W=>by
  rw[hrn]
  exact letters_any rn W (by omega)
 generalize lettersL rn=ls at*
 obtain⟨F,hF⟩: ∃F,F=wdO g:=⟨_,rfl⟩
 rw[←hF] at HZ HNW⊢
 replace hF:=hDD hF
 rw[hN] at HG
 clear hg hf hfol h hrn
 have hr1:1≤g.1∧g.1≤3:=hr13
 clear hsz40 hl120 hr13
 rw[hN]
 simp only[Int.toNat_natCast]
 have bx:Below w.heap.size w (w.alloc (Obj.cells #[Value.int IntKind.i64 g.1,Value.int IntKind.i64 N, .slice A g.2.2.length cap] 26)):=(by repeat(first | exact Below.refl _ _ | (refine Below.setCell ?_ (by first | omega | (simp<;>omega)) _) | (refine bel_drewN ?_ _) | (refine Below.drew ?_) | (refine Below.alloc ?_ (by first | omega | (simp<;>omega)) _)))
 have k0:(w.alloc (Obj.cells #[Value.int IntKind.i64 g.1,Value.int IntKind.i64 N, .slice A g.2.2.length cap] 26)).cell? ⟨w.heap.size,0,none⟩=some (.int .i64 g.1):=by simp[go_sem]
 have k1:(w.alloc (Obj.cells #[Value.int IntKind.i64 g.1,Value.int IntKind.i64 N, .slice A g.2.2.length cap] 26)).cell? ⟨w.heap.size,1,none⟩=some (.int .i64 N):=by simp[go_sem]
 have k2:(w.alloc (Obj.cells #[Value.int IntKind.i64 g.1,Value.int IntKind.i64 N, .slice A g.2.2.length cap] 26)).cell? ⟨w.heap.size,2,none⟩=some (.slice A g.2.2.length cap):=by simp[go_sem]
 have sx:w.heap.size<(w.alloc (Obj.cells #[Value.int IntKind.i64 g.1,Value.int IntKind.i64 N, .slice A g.2.2.length cap] 26)).heap.size:=by simp
 have ex:(w.alloc (Obj.cells #[Value.int IntKind.i64 g.1,Value.int IntKind.i64 N, .slice A g.2.2.length cap] 26)).heap.size=w.heap.size+1:=by simp
 have qT: ∀(w:World) (a:Option Addr) (n c n' c':Nat),(binOp .eql 37 (.slice a n c) (.slice none n' c')).run Tryz.prog w= .ok (.bool a.isNone) w:=fun w a n c n' c'=>Lib.run_eql_slice_nil w _ _ a n c n' c' Tryz.underlying37
 go_enter Tryz.func192,Tryz.ntmps192
 obtain⟨i0,hi0,hz0,hz1,hz2⟩:=info_parts ints_info'
 go_wp2_with (at_make;refine wpList_make_full _ rfl _ _ 69 rfl (w.heap.size+1) 37 i0 (.slice none 0 0) 1 Tryz.underlying69 hi0 hz0 hz1 _ _ _ _ N rfl rfl rfl rfl (by rw[hz2];omega) (by unfold maxLen;omega) (by simp) ?_)
 generalize w.alloc (Obj.cells #[Value.int IntKind.i64 g.1,Value.int IntKind.i64 N, .slice A g.2.2.length cap] 26)=w1 at bx k0 k1 k2 sx ex⊢
 rw[←ex]
 have BX:=hDD bx
 have K0:=hDD k0
 have K1:=hDD k1
 have K2:=hDD k2
 have EX:=hDD ex
 clear k0 k1 k2 bx ex
 intro w2 hown0 hgrow0
 have hP2:w1.heap.size<w2.heap.size:=(hown0.lt w1.heap.size rfl).2
 have B12:Below w1.heap.size w1 w2:=(Below.refl w1.heap.size w1).grown hgrow0 (Nat.le_refl _) (fun k h=>by cases h)
 have TW0:TreeX F w1.heap.size w1.heap.size N w2 (.slice none 0 0) []:=⟨⟨List.replicate N (.slice none 0 0),by simp,by simpa[toList_madeCells_one] using hown0,fun j hj=> .inl ⟨by simp,by simp⟩⟩,by simp[Value.ownBlock]⟩
 have TW1:TreeX F w1.heap.size w1.heap.size N (w2.alloc (.cells #[] 3)) (.slice none 0 0) []:=TW0.below ((Below.refl _ _).alloc (Nat.le_refl _) _)
 have oE:OwI (w2.alloc (.cells #[] 3)) w2.heap.size (.slice (some ⟨w2.heap.size,0,none⟩) 0 0) []:=OwI_lit w2 [] (fun _ h=>by cases h) (by simp) (Nat.le_refl _)
 have TW2:=TW1.set (y:=0) (by omega) HZ.out (b:=w2.heap.size) (cap:=0) (ws:= []) (oE.mono (by omega)) (by simp) (by omega) (by simp[Value.ownBlock]) (by simp)
 have hc0:=TW1.at_new (y:=0) (by omega) (by simp)
 have hf0:=TW1.free 0
 have j1:(0:Int)<(N:Int):=by omega
 have TWH:=hDD TW2
 have B13:Hid (Below w1.heap.size w1 ((w2.alloc (.cells #[] 3)).setCell ⟨w1.heap.size,0,none⟩ (.slice (some ⟨w2.heap.size,0,none⟩) 0 0))):=hDD ((B12.alloc (by omega) _).setCell (by show w1.heap.size≤w1.heap.size;omega) _)
 clear TW0 TW1 TW2 oE hown0 hgrow0 B12
 go_wp2
 have oO:OwI (((w2.alloc (.cells #[] 3)).setCell ⟨w1.heap.size,0,none⟩ (.slice (some ⟨w2.heap.size,0,none⟩) 0 0)).alloc (.cells #[Value.int IntKind.i64 0] 3)) (w1.heap.size+1) (.slice (some ⟨w2.heap.size+1,0,none⟩) 1 1) [0]:=OwI_litN _ [0] (w2.heap.size+1) (by simp) (fun x hx=>by simp at hx;subst hx;exact⟨by decide,by decide⟩) (by simp) (by omega)
 have TWL:=TWH.out.lit (.cells #[Value.int IntKind.i64 0] 3) 1 1
 have B14:Below w1.heap.size w1 (((w2.alloc (.cells #[] 3)).setCell ⟨w1.heap.size,0,none⟩ (.slice (some ⟨w2.heap.size,0,none⟩) 0 0)).alloc (.cells #[Value.int IntKind.i64 0] 3)):=B13.out.alloc (by simp;omega) _
 have e3:((w2.alloc (.cells #[] 3)).setCell ⟨w1.heap.size,0,none⟩ (.slice (some ⟨w2.heap.size,0,none⟩) 0 0)).heap.size=w2.heap.size+1:=by simp
 simp only[List.length_nil,List.nil_append] at TWL
 rw[e3] at TWL
 have hsw:(w2.alloc (.cells #[] 3)).setCell ⟨w1.heap.size,0,none⟩ (.slice (some ⟨w2.heap.size,0,none⟩) 0 0)=(w2.setCell ⟨w1.heap.size,0,none⟩ (.slice (some ⟨w2.heap.size,0,none⟩) 0 0)).alloc (.cells #[] 3):=World.setCell_alloc_past _ _ _ _ hP2
 rw[hsw] at oO TWL B14
 generalize ((w2.setCell ⟨w1.heap.size,0,none⟩ (.slice (some ⟨w2.heap.size,0,none⟩) 0 0)).alloc (.cells #[] 3)).alloc (.cells #[Value.int IntKind.i64 0] 3)=w3 at oO TWL B14⊢
 have OO:=hDD oO
 have TW:=hDD TWL
 have HB0:=hDD B14
 clear oO TWL B14 e3 hc0 hf0 TWH B13
 go_loopw [7,8] (fun out i wo=> ∃(k:Nat) (o:List Int),k≤o.length∧i= .int .i64 k∧OrdOk g.2.1 o∧TwS g ls k o∧canO g=canF g.2.2 ls (41-k) k o∧OwI wo (w1.heap.size+1) out o∧TreeX F w1.heap.size w1.heap.size N wo out o∧Below w1.heap.size w1 wo) (fun _ i _=>41-(intOf i).toNat)
 case atStart=>exact⟨0,[0],by simp,rfl,OK0.out,HS0.out,HCO.out,OO.out,TW.out,HB0.out⟩
 case round=>
  obtain⟨k,o,hk,rfl,hok,hts0,hco,hown,htw,hbel⟩:=hrel
  have HTS0:=hDD hts0
  clear hts0
  obtain⟨wo,rfl⟩: ∃wo:World,wo=wr:=⟨_,rfl⟩
  have hol:=OKL.out o hok
  have HOK:=hDD hok
  have HC:=hDD hco
  have HO:=hDD hown
  have HTW:=hDD htw
  have HB2:=hDD hbel
  have hsz:=hbel.size
  have q0:=(hbel.cell (p:=⟨w.heap.size,0,none⟩) sx).trans K0.out
  obtain⟨A1,cap1,rfl,_,_,_,hf2⟩:=hown.form
  clear hok hco htw hbel
  by_cases hlt:k<o.length
  ·obtain⟨u,hu⟩: ∃u,o[k]? =some u:=⟨o[k],by simp⟩
   have hku:o[k]=u:=by rw[List.getElem?_eq_getElem hlt] at hu;injection hu
   have HCF:Hid (canO g=canF g.2.2 ls (41-(k+1)) (k+1) (ls.foldl (cstep g.2.2 u) o)):=hDD (by
    rw[HC.out,show 41-k=(41-(k+1))+1 by omega,canF_step _ _ _ _ _ hlt,hku])
   have HTS1:=hDD (HTS0.out.step hu (by omega))
   have HNW1:=hDD (HNW.out k o u HTS0.out hu (by omega))
   have HPU:Hid (∀m:Nat,(((ls.take m).foldl (cstep g.2.2 u) o))[k]? =some u):=hDD fun m=>cfold_prefix _ _ _ _ _ _ hu
   have HSU:Hid (∀(m:Nat) (hm:m<ls.length),(ls.take (m+1)).foldl (cstep g.2.2 u) o=cstep g.2.2 u ((ls.take m).foldl (cstep g.2.2 u) o) ls[m]):=hDD fun m hm=>cfold_succ _ _ _ _ _ hm
   have HOKm:Hid (∀m:Nat,OrdOk g.2.1 ((ls.take m).foldl (cstep g.2.2 u) o)):=hDD fun m=>OKS.out u o m HOK.out
   obtain⟨un,hun,hunN⟩: ∃un:Nat,u=(un:Int)∧un<N:=by
    have h1:=HOK.out.2.1 u (by rw[←hku];simp)
    exact⟨u.toNat,by omega,by omega⟩
   obtain⟨b1,rfl,_,hb1⟩:=hf2 (by omega)
   have ck:=hown.cellAt k hlt
   rw[hku] at ck
   have HUN:=hDD hun
   clear hf2 hu hku hown hun
   go_wp2_with fail
   refine(HLE.out wo).mono ?_
   rintro e wl ⟨rl,rfl,ol,bl⟩
   have sl:=bl.size
   obtain⟨Al,capl,rfl,hcl,hml,_,hfl⟩:=ol.form
   obtain⟨gl,rfl,hgl1,hgl2⟩:=hfl (by omega)
   unfold maxLen at hml
   have OL:=hDD ol.rd
   have BL:=hDD bl
   have HO3:=hDD (HO.out.below bl)
   have HT3:=hDD (HTW.out.below bl)
   have hne1:b1≠gl:=by omega
   clear hfl ol bl
   go_wp2
   go_loopw [7,36] (fun out j wr=> ∃m:Nat,m≤ls.length∧j= .int .i64 m∧OwI wr (w1.heap.size+1) out ((ls.take m).foldl (cstep g.2.2 u) o)∧TreeX F w1.heap.size w1.heap.size N wr out ((ls.take m).foldl (cstep g.2.2 u) o)∧RdI wr (.slice (some ⟨gl,0,none⟩) ls.length capl) ls∧out.ownBlock≠some gl∧gl≠w1.heap.size∧gl<wr.heap.size∧Below w1.heap.size wl wr) (fun _ j _=>ls.length-(intOf j).toNat)
   case atStart=>exact⟨0,Nat.zero_le _,rfl,HO3.out,HT3.out,OL.out,by simp[Value.ownBlock];omega,by have:=HTW.out.lt;omega,hgl2,Below.refl _ _⟩
   case round=>
    obtain⟨m,hm1,rfl,hown,htw,hrd,hne,hnP,hblr,hbi⟩:=hrel
    have hsi:=hbi.size
    have HBI:=hDD hbi
    have HB4:Hid (Below w1.heap.size w1 wr):=hDD ((HB2.out.trans (BL.out.mono (by omega))).trans hbi)
    have p0:=(HB4.out.cell (p:=⟨w.heap.size,0,none⟩) sx).trans K0.out
    have p1:=(HB4.out.cell (p:=⟨w.heap.size,1,none⟩) sx).trans K1.out
    have p2:=(HB4.out.cell (p:=⟨w.heap.size,2,none⟩) sx).trans K2.out
    have HRR:=hDD hrd
    have HNR:=hDD hne
    have HTW2:=hDD htw
    clear hbi htw
    by_cases hlt2:m<ls.length
    ·have hokm:=HOKm.out m
     have hlm:=OKL.out _ hokm
     have hpu:=HPU.out m
     have HS:=hDD (HSU.out m hlt2)
     have HORm:=hDD (OKR.out _ hokm)
     obtain⟨_,_,hAl,_,hcl⟩:=hrd.at (by omega)
     obtain⟨rfl,rfl⟩:gl=_∧0=_:=by simpa using hAl
     have c0:=hcl m hlt2
     rw[Nat.zero_add] at c0
     have hx64:I64 ls[m]:=hrd.2 _ (by simp)
     have HNW2:=hDD (HNW1.out m hlt2)
     generalize ls[m]=x at c0 HS hx64 HNW2
     have HX:=hDD hx64
     generalize (ls.take m).foldl (cstep g.2.2 u) o=om at*
     have hum:u∈om:=List.mem_of_getElem? hpu
     have HUM:=hDD hum
     have HOM:=hDD hown
     have NX:=hDD (NV.out u x)
     have N0:=hDD (cstep_no (es:=g.2.2) (u:=u) (x:=x) (o:=om))
     have N1:=hDD (cstep_in (es:=g.2.2) (u:=u) (x:=x) (o:=om))
     have N2:=hDD (cstep_new (es:=g.2.2) (u:=u) (x:=x) (o:=om))
     have HNX:=hDD (implNextVertex_any _ g u x wr (HG.out.below (BX.out.trans (HB4.out.mono (by omega)))) (ONE.out u x) LET.out)
     clear hcl hAl hown hrd hpu hokm hx64 hum
     go_wp2_with fail
     refine HNX.out.mono ?_
     rintro e wq ⟨rfl,bq⟩
     clear HNX
     have sq:=bq.size
     have HQ:Hid (Below w1.heap.size wl wq):=hDD (HBI.out.trans (bq.mono (by omega)))
     have HOQ:=hDD (HOM.out.below bq)
     have HRQ:=hDD (HRR.out.below bq)
     have HTQ:=hDD (HTW2.out.below bq)
     clear bq p0 p1 p2
     generalize nextV g.2.2 u x=y at*
     rcases NX.out with hy | hy
     ·subst hy
      have F0:=hDD (N0.out (by omega))
      go_wp2
      go_roundw
      case rel=>exact⟨m+1,by omega,by go_num,by rw[HS.out,F0.out];exact HOQ.out,by rw[HS.out,F0.out];exact HTQ.out,HRQ.out,HNR.out,hnP,by omega,HQ.out⟩
      case measure=>simp[intOf];omega
     ·obtain⟨yn,rfl⟩: ∃yn:Nat,y=(yn:Int):=⟨y.toNat,by omega⟩
      have hy0:(0:Int)≤(yn:Int):=hy.1
      have hyN:(yn:Int)<(N:Int):=hy.2
      have hynN:yn<N:=by omega
      rcases h1:hasB om (yn:Int) with _ | _
      ·have F0:=hDD (N2.out hy0 h1)
       have HY:Hid (I64 (yn:Int)):=hDD ⟨by omega,by omega⟩
       have hnotin:(yn:Int)∉om:=hasB_not h1
       have HWY:=hDD (HNW2.out hy0 h1)
       have ct:=HTQ.out.at_new hynN hnotin
       have ft:=HTQ.out.free yn
       obtain⟨bu,capu,cu,hwul,hru,_⟩:=HTQ.out.at_old hunN (by rw[←HUN.out];exact HUM.out)
       have HWU:Hid (F u=F (un:Int)):=hDD (by rw[HUN.out])
       have HWY2:Hid (F (yn:Int)=F (un:Int)++ [x]):=hDD (by rw[HWY.out,HWU.out])
       generalize F (un:Int)=wu at*
       have HRU:=hDD hru
       have huN':u<(N:Int):=by rw[HUN.out];omega
       have hu0':(0:Int)≤u:=by rw[HUN.out];omega
       have cu':wq.cell? ⟨w1.heap.size,u.toNat,none⟩=some (.slice (some ⟨bu,0,none⟩) wu.length capu):=by rw[HUN.out];exact cu
       clear hru hnotin
       go_wp2_with fail
       refine(copyInts_any _ wu _ HRU.out (by omega)).mono ?_
       rintro e wc ⟨rc,rfl,oc,bc⟩
       have sc:=bc.size
       have OC:=hDD oc
       have BC:=hDD bc
       have hPq:=HTQ.out.lt.2
       have hneT:=HTQ.out.ne
       have hA2: ∀x,u7.ownBlock=some x→x<wq.heap.size:=fun x hx=>(HOQ.out.1.lt x hx).2
       have HA2:=hDD hA2
       have CT:=hDD ct
       have FT:=hDD ft
       obtain⟨Ac,capc,rfl,_⟩:=OwI.form oc
       clear oc bc ct ft hA2
       go_wp2_with (first | ((at_builtin;refine push_int rfl (.tmp 59) (.tmp 61) rfl _ _ _ (OwI.alloc OC.out _) rfl _ _ rfl (cell_new1 _ _ _) HX.out (by first | omega | (simp<;>omega)) (by first | omega | (simp<;>omega)) ?_;intro v8 wv8 o8 g8 p8);obtain⟨A8,cap8,rfl,hl8,hm8,_,hf8⟩:=OwI.form o8;obtain⟨b8,rfl,hb81,hb82⟩:=hf8 (by simp);have B8:Below wq.heap.size wq wv8:=bel_push BC.out sc OC.out.1 (Nat.le_refl _) g8;have ct3:=(B8.cell (p:=⟨w1.heap.size,yn,none⟩) hPq).trans CT.out;have ft3:=(B8.frozen (p:=⟨w1.heap.size,yn,none⟩) hPq).trans FT.out;have hts:=(HTQ.out.below B8).set hynN HWY2.out (o8.mono (by omega)) (by simp;omega) (by omega) (fun e=>by have:=HA2.out _ e;omega) hb82;have s8:=B8.size;have HB8:=hDD B8;simp only[List.length_append,List.length_cons,List.length_nil,Nat.zero_add] at hts;have HTS:=hDD hts;clear o8 g8 p8 hf8 B8 hts;have hgS:wv8.grownBy (wv8.setCell ⟨w1.heap.size,yn,none⟩ (.slice (some ⟨b8,0,none⟩) (wu.length+1) cap8)) (some w1.heap.size):=set_grown _ _ _ _;have HOS:Hid (OwI (wv8.setCell ⟨w1.heap.size,yn,none⟩ (.slice (some ⟨b8,0,none⟩) (wu.length+1) cap8)) (w1.heap.size+1) u7 om):=hDD ((HOQ.out.below HB8.out).far (p:=⟨w1.heap.size,yn,none⟩) (by show w1.heap.size<_;omega) _);have HRS:Hid (RdI (wv8.setCell ⟨w1.heap.size,yn,none⟩ (.slice (some ⟨b8,0,none⟩) (wu.length+1) cap8)) (.slice (some ⟨gl,0,none⟩) ls.length capl) ls):=hDD ((HRQ.out.below HB8.out).grown hgS fun b hb hb'=>by simp[Value.ownBlock] at hb hb';omega);have HBS:Hid (Below w1.heap.size wl (wv8.setCell ⟨w1.heap.size,yn,none⟩ (.slice (some ⟨b8,0,none⟩) (wu.length+1) cap8))):=hDD ((HQ.out.trans (HB8.out.mono (by omega))).setCell (by show w1.heap.size≤w1.heap.size;omega) _);clear hgS) | (at_builtin;refine push_int rfl (.tmp 64) (.tmp 66) rfl _ _ _ (OwI.alloc HOS.out _) rfl _ _ rfl (by simp[go_sem]) HY.out (by first | omega | (simp<;>omega)) (by first | omega | (simp<;>omega)) ?_;intro v9 wv9 o9 g9 p9))
       have hS:(wv8.setCell ⟨w1.heap.size,yn,none⟩ (.slice (some ⟨b8,0,none⟩) (wu.length+1) cap8)).heap.size=wv8.heap.size:=by simp
       have hz9:=g9.size
       simp at hz9
       go_roundw
       case rel=>
        refine⟨m+1,by omega,by go_num,by rw[HS.out,F0.out];exact o9,by rw[HS.out,F0.out];exact HTS.out.push g9 p9,(HRS.out.alloc _).grown g9 (fun b hb hb'=> ?_),fun e=> ?_,hnP,by omega,bel_push HBS.out (by omega) HOS.out.1 (by omega) g9⟩
        ·simp only[Value.ownBlock,Option.some.injEq] at hb
         subst hb
         exact HNR.out hb'
        ·rcases p9 with p9 | p9
         ·rw[p9] at e;exact HNR.out e
         ·rw[p9] at e;simp at e;omega
       case measure=>simp[intOf];omega
      ·have F0:=hDD (N1.out hy0 h1)
       obtain⟨bu,capu,cu,hwul,hru,_⟩:=HTQ.out.at_old hynN (hasB_iff.1 h1)
       clear hru
       generalize F (yn:Int)=wy at*
       go_wp2
       go_roundw
       case rel=>exact⟨m+1,by omega,by go_num,by rw[HS.out,F0.out];exact HOQ.out,by rw[HS.out,F0.out];exact HTQ.out,HRQ.out,HNR.out,hnP,by omega,HQ.out⟩
       case measure=>simp[intOf];omega
    ·obtain rfl:m=ls.length:=by omega
     rw[List.take_length] at hown HTW2
     have hokm:=HOKm.out ls.length
     rw[List.take_length] at hokm
     have HOKF:=hDD hokm
     have HOM:=hDD hown
     have hlen:k+1≤(ls.foldl (cstep g.2.2 u) o).length:=by
      have:=HPU.out ls.length
      rw[List.take_length] at this
      have:=(List.getElem?_eq_some_iff.1 this).1
      omega
     obtain⟨A2,cap2,rfl,_⟩:=hown.form
     clear hown hrd hne hokm p0 p1 p2
     go_wp2
     go_roundw
     case rel=>exact⟨k+1,_,hlen,by go_num,HOKF.out,HTS1.out,HCF.out,HOM.out,HTW2.out,HB4.out⟩
     case measure=>simp[intOf];omega
  ·obtain rfl:k=o.length:=by omega
   have F':Hid (canO g=o):=hDD (by rw[HC.out,canF_end])
   clear hown hf2
   have HBW:Hid (Below w.heap.size w wo):=hDD (BX.out.trans (HB2.out.mono (by omega)))
   have HEX:=EX.out
   have hbase:w.heap.size≤w1.heap.size+1:=by omega
   have hP0:w.heap.size≤w1.heap.size:=by omega
   clear HEX
   go_wp2
   exact bodyPost_ret (v:= .tuple #[.slice A1 o.length cap1, .slice (some ⟨w1.heap.size,0,none⟩) N N]) (by simp[results,Tryz.results192]) rfl ⟨_,w1.heap.size,rfl,hP0,by rw[F'.out];exact HTW.out,by rw[F'.out];exact HO.out.mono hbase,HBW.out⟩
theorem gboxE {w W:World} {a b c:Value} {t:TypeId} (hW:W=w.alloc (.cells #[a,b,c] t)):W.heap.size=w.heap.size+1∧Below w.heap.size w W∧
  (∀w',Below (w.heap.size+1) W w'→w'.cell? ⟨w.heap.size,0,none⟩=some a∧w'.cell? ⟨w.heap.size,1,none⟩=some b∧w'.cell? ⟨w.heap.size,2,none⟩=some c):=by
 have hs:W.heap.size=w.heap.size+1:=by rw[hW];simp
 have h0:W.cell? ⟨w.heap.size,0,none⟩=some a:=by rw[hW];simp[go_sem]
 have h1:W.cell? ⟨w.heap.size,1,none⟩=some b:=by rw[hW];simp[go_sem]
 have h2:W.cell? ⟨w.heap.size,2,none⟩=some c:=by rw[hW];simp[go_sem]
 exact⟨hs,by rw[hW];exact(Below.refl _ _).alloc (Nat.le_refl _) _,fun w' hb=>⟨(hb.cell (p:=⟨w.heap.size,0,none⟩) (Nat.lt_succ_self _)).trans h0,(hb.cell (p:=⟨w.heap.size,1,none⟩) (Nat.lt_succ_self _)).trans h1,(hb.cell (p:=⟨w.heap.size,2,none⟩) (Nat.lt_succ_self _)).trans h2⟩⟩
def stE (u x v:Int):EdD:=if x<0 then(v,-x,u) else(u,x,v)
set_option maxHeartbeats 400000 in
theorem step_any (u x v:Int) (w:World) (hx: -3≤x∧x≤3):
  Calls Tryz.prog 172 #[.int .i64 u, .int .i64 x, .int .i64 v] w fun e w'=>e= .returned (edV (stE u x v))∧Below w.heap.size w w':=by
 have hn:IntKind.i64.wrap (-x)= -x:=by rw[IntKind.wrap_i64];omega
 by_cases h:x<0
 ·have F:Hid (stE u x v=(v,-x,u)):=hDD (by unfold stE;rw[if_pos h])
  go_enter Tryz.func172,Tryz.ntmps172
  go_wp2
  refine bodyPost_ret (v:= .agg #[.int .i64 v, .int .i64 (-x), .int .i64 u]) (by simp[results,Tryz.results172,go_sem]) rfl ⟨by rw[F.out];rfl,(by repeat(first | exact Below.refl _ _ | (refine Below.setCell ?_ (by first | omega | (simp<;>omega)) _) | (refine bel_drewN ?_ _) | (refine Below.drew ?_) | (refine Below.alloc ?_ (by first | omega | (simp<;>omega)) _)))⟩
 ·have F:Hid (stE u x v=(u,x,v)):=hDD (by unfold stE;rw[if_neg h])
  go_enter Tryz.func172,Tryz.ntmps172
  go_wp2
  refine bodyPost_ret (v:= .agg #[.int .i64 u, .int .i64 x, .int .i64 v]) (by simp[results,Tryz.results172,go_sem]) rfl ⟨by rw[F.out];rfl,(by repeat(first | exact Below.refl _ _ | (refine Below.setCell ?_ (by first | omega | (simp<;>omega)) _) | (refine bel_drewN ?_ _) | (refine Below.drew ?_) | (refine Below.alloc ?_ (by first | omega | (simp<;>omega)) _)))⟩
set_option maxHeartbeats 1000000 in
theorem indexE_any (v:Value) (es:List EdD) (d:EdD) (w:World) (h:ArgE w v es) (hl:es.length≤1073741824):
  Calls Tryz.prog 220 #[v,edV d] w fun e w'=> ∃n:Int,e= .returned (.int .i64 n)∧(decide (0≤n)=decide (d∈es))∧Below w.heap.size w w':=by
 obtain⟨d1,d2,d3⟩:=d
 obtain⟨A,cap,rfl⟩:=h.form
 have H:=hDD h
 clear h
 have HEQ:Hid (∀(y:EdD) (w:World),(binOp .eql 97 (edV (d1,d2,d3)) (edV y)).run Tryz.prog w= .ok (.bool (decide ((d1,d2,d3)=y))) w):=hDD fun y w=>edge_eql (d1,d2,d3) y w
 unfold edV
 go_enter Tryz.func220,Tryz.ntmps220
 go_wp2_with fail
 obtain⟨W,hW⟩: ∃W,W=w.alloc (Obj.cells #[Value.int IntKind.i64 d1,Value.int IntKind.i64 d2,Value.int IntKind.i64 d3] 97):=⟨_,rfl⟩
 obtain⟨hsW,b1,hc1⟩:=gboxE hW
 rw[←hW]
 have BX:=hDD b1
 have HCL:=hDD hc1
 clear hW b1 hc1
 go_loopw [8] (fun i wr=> ∃k:Nat,k≤es.length∧i= .int .i64 k∧(∀j (hj:j<es.length),j<k→es[j]≠(d1,d2,d3))∧ ∃q,wr=W.drewN q) (fun i _=>es.length-(intOf i).toNat)
 case atStart=>exact⟨0,Nat.zero_le _,rfl,fun j hj h=>absurd h (by omega),0,rfl⟩
 case round=>
  obtain⟨k,hk,rfl,hno,q,rfl⟩:=hrel
  have HNO:=hDD hno
  clear hno
  obtain⟨q0,q1,q2⟩:=HCL.out W ((Below.refl W.heap.size W).mono (by omega))
  have HBF:Hid (∀q,Below w.heap.size w (W.drewN q)):=hDD fun q=>bel_drewN BX.out q
  by_cases hlt:k<es.length
  ·obtain⟨b,off,rfl,hbl,c0,c1,c2,_⟩:=(H.out.below BX.out).at hlt
   have heql:=fun w=>HEQ.out es[k] w
   unfold edV at heql
   have hgd:=edge_guard
   have HN:Hid (¬(d1,d2,d3)=es[k]→ ∀j (hj:j<es.length),j<k+1→es[j]≠(d1,d2,d3)):=hDD fun e j hj hjk=>by
    rcases Nat.lt_or_eq_of_le (Nat.le_of_lt_succ hjk) with h | rfl
    ·exact HNO.out j hj h
    ·exact fun h=>e h.symm
   have HY:Hid ((d1,d2,d3)=es[k]→(d1,d2,d3)∈es):=hDD fun e=>e▸List.getElem_mem hlt
   obtain⟨be,hbe⟩: ∃be,be=decide ((d1,d2,d3)=es[k]):=⟨_,rfl⟩
   rw[←hbe] at heql
   have HBE:=hDD hbe
   clear hbe
   generalize es[k]=y at*
   obtain⟨y1,y2,y3⟩:=y
   simp only at*
   rcases be with _ | _
   ·have F:=hDD (HN.out (by simpa using HBE.out.symm))
    go_wp2
    go_quiet (fail)
    go_wp2
    go_roundw
    case rel=>exact⟨k+1,by omega,by go_num,F.out,_,rfl⟩
    case measure=>simp[intOf];omega
   ·have F:=hDD (HY.out (by simpa using HBE.out.symm))
    go_wp2
    go_quiet (fail)
    go_wp2
    go_ret
    exact⟨_,rfl,by rw[decide_eq_true F.out];simp,bel_drewN (HBF.out q) _⟩
  ·obtain rfl:k=es.length:=by omega
   have F:Hid ((d1,d2,d3)∉es):=hDD fun hm=>by
    obtain⟨j,hj,e⟩:=List.getElem_of_mem hm
    exact HNO.out j hj hj e
   go_wp2
   go_ret
   exact⟨_,rfl,by rw[decide_eq_false F.out];simp,HBF.out q⟩
set_option maxHeartbeats 1000000 in
theorem containsE_any (v:Value) (es:List EdD) (d:EdD) (w:World) (h:ArgE w v es) (hl:es.length≤1073741824):
  Calls Tryz.prog 176 #[v,edV d] w fun e w'=>e= .returned (.bool (decide (d∈es)))∧Below w.heap.size w w':=by
 have H:=hDD h
 have HI:=hDD (fun W' (h:ArgE W' v es)=>indexE_any v es d W' h hl)
 obtain⟨A,cap,rfl⟩:=h.form
 clear h
 obtain⟨d1,d2,d3⟩:=d
 unfold edV at HI⊢
 go_enter Tryz.func176,Tryz.ntmps176
 go_wp2_with fail
 refine(HI.out _ (H.out.alloc _)).mono ?_
 rintro e w1 ⟨n,rfl,hn,b1⟩
 have HN:=hDD hn
 have HB:Hid (Below w.heap.size w w1):=hDD (((Below.refl w.heap.size w).alloc (Nat.le_refl _) (Obj.cells #[Value.int IntKind.i64 d1,Value.int IntKind.i64 d2,Value.int IntKind.i64 d3] 97)).trans (b1.mono (by simp)))
 clear hn b1
 go_wp2
 go_ret
 exact⟨ret_bool HN.out,HB.out⟩
set_option maxHeartbeats 2000000 in
theorem treeEdges_any (v:Value) (g:GrD) (w:World) (h:ArgG w v g) (hf:foldB g=true):
  Calls Tryz.prog 177 #[v] w fun e w'=> ∃r T,e= .returned r∧OwE w' w.heap.size r T∧TrE g (canO g) T∧T.length≤40∧Below w.heap.size w w':=by
 have HG:=hDD h
 have HF:=hDD hf
 obtain⟨hg,hfol⟩:=foldB_parts hf
 have ONE:=hDD (steps_one hfol)
 have LET:=hDD (let_of_gr hg)
 obtain⟨hr13,hsz40,hl120,_⟩:=grB_parts hg
 have HOK:=hDD (canO_ok hg)
 have HPAR:Hid (∀y∈canO g,y≠0→ ∃(u x:Int) (ws:List Int),wdO g y=ws++ [x]∧(-3≤x∧x≤3)∧ws.length<40∧nextV g.2.2 y (-x)=u∧tE g y=stE u x y∧(0≤u∧u<g.2.1)):=hDD fun y hy h0=>by
  obtain⟨u,hu,x,hx,e1,hnx⟩:=wd_par hg hy h0
  have hyr:=(canO_ok hg).2.1 y hy
  have hur:=(canO_ok hg).2.1 u hu
  have hb:=nextV_back hg hfol (let3 hg hx) (by rw[hnx];omega)
  rw[hnx] at hb
  have ht:=tE_new hg hfol hx (by rw[hnx];omega) hnx e1
  refine⟨u,x,wdO g u,e1,let3 hg hx,wd_len hg hu,hb,?_,hur⟩
  rw[ht]
  unfold stE
  have hx0:=letters_mem.1 hx
  by_cases hp:0<x
  ·rw[if_pos hp,if_neg (by omega)]
  ·rw[if_neg hp,if_pos (by omega)]
 obtain⟨N,hN⟩: ∃N:Nat,g.2.1=(N:Int):=⟨g.2.1.toNat,by omega⟩
 have hol:=(canO_ok hg).len (by omega) (by omega)
 have HHEAD:=hDD (canO_ok hg).2.2
 have HND:=hDD (canO_ok hg).1
 obtain⟨s,rfl,hi1,hi2,ha⟩:=h
 obtain⟨A,cap,rfl⟩:=ha.form
 have HTREE:=hDD (fun W' (h:ArgG W' (.agg #[.int .i64 g.1, .int .i64 g.2.1, .slice A g.2.2.length cap]) g)=>treeX_any _ g W' h hf)
 obtain⟨g1,n,es⟩:=g
 simp only at*
 subst hN
 clear ha hf hg hfol
 obtain⟨O,hO⟩: ∃O,O=canO (g1,(N:Int),es):=⟨_,rfl⟩
 obtain⟨F,hF⟩: ∃F,F=wdO (g1,(N:Int),es):=⟨_,rfl⟩
 obtain⟨TE,hTE⟩: ∃TE,TE=tE (g1,(N:Int),es):=⟨_,rfl⟩
 have HTRE:Hid (∀(o:List Int) (T T':List EdD) (y:Int),TrE (g1,(N:Int),es) o T→y≠0→(∀e,e∈T'↔e=TE y∨e∈T)→TrE (g1,(N:Int),es) (o++ [y]) T'):=hDD fun o T T' y h h0 hT=>h.add h0 (by rw[←hTE];exact hT)
 rw[←hO] at HOK HPAR hol HHEAD HND HTREE⊢
 rw[←hF] at HPAR HTREE
 rw[←hTE] at HPAR
 simp only[Int.toNat_natCast] at HTREE
 clear hO hF hTE
 have hO1:1≤O.length:=HOK.out.toN.2.2
 go_enter Tryz.func177,Tryz.ntmps177
 go_wp2_with fail
 obtain⟨W1,hW1⟩: ∃W,W=w.alloc (Obj.cells #[Value.int IntKind.i64 g1,Value.int IntKind.i64 (N:Int), .slice A es.length cap] 26):=⟨_,rfl⟩
 obtain⟨hs1,b1,hc1⟩:=gboxE hW1
 obtain⟨W,hW⟩: ∃W,W=W1.alloc (Obj.cells #[] 97):=⟨_,rfl⟩
 have b2:Below W1.heap.size W1 W:=by rw[hW];exact(Below.refl _ _).alloc (Nat.le_refl _) _
 have hsW:W.heap.size=w.heap.size+2:=by rw[hW];simp;omega
 have o0:OwE W (w.heap.size+1) (.slice (some ⟨w.heap.size+1,0,none⟩) 0 0) []:=by rw[hW];exact OwE_litN W1 (w.heap.size+1) hs1 (Nat.le_refl _)
 rw[←hW1,←hW]
 have BX:Hid (Below w.heap.size w W):=hDD (b1.trans (b2.mono (by omega)))
 have B12:=hDD (b2.mono (show w.heap.size+1≤W1.heap.size by omega))
 have HC1:=hDD hc1
 have HCL:Hid (∀w',Below (w.heap.size+1) W w'→w'.cell? ⟨w.heap.size,0,none⟩=some (.int .i64 g1)∧w'.cell? ⟨w.heap.size,1,none⟩=some (.int .i64 (N:Int))∧w'.cell? ⟨w.heap.size,2,none⟩=some (.slice A es.length cap)):=hDD fun w' hb=>HC1.out w' (B12.out.trans hb)
 have HA:Hid (∀w',Below (w.heap.size+1) W w'→ArgG w' (.agg #[.int .i64 g1, .int .i64 (N:Int), .slice A es.length cap]) (g1,(N:Int),es)):=hDD fun w' hb=>HG.out.below (BX.out.trans (hb.mono (by omega)))
 have O0:=hDD o0
 clear hW1 hW hc1 b1 b2 HC1 o0
 refine(HTREE.out W (HA.out W ((Below.refl W.heap.size W).mono (by omega)))).mono ?_
 rintro e w2 ⟨r2,P,rfl,hP,tx,o2,b2⟩
 have hs2:=b2.size
 have B2:Hid (Below (w.heap.size+1) W w2):=hDD (b2.mono (by omega))
 have OE2:=hDD (O0.out.below b2)
 have TX2:=hDD tx
 have OR2:=hDD o2.rd
 obtain⟨Ar,cr,rfl,hcr,hmr,_,hgr⟩:=OwI.form o2
 obtain⟨br,rfl,hbr1,hbr2⟩:=hgr (by omega)
 unfold maxLen at hmr
 have hPl:=tx.lt.2
 have hcb:1≤cr:=by omega
 have hcO:(1:Int)≤(O.length:Int):=by omega
 have hcI:(O.length:Int)≤(cr:Int):=by omega
 clear tx o2 b2 hgr
 obtain⟨q0,q1,q2⟩:=HCL.out w2 B2.out
 have hlenI:IntKind.i64.wrap ((O.length:Int)-1)=(O.length:Int)-1:=by rw[IntKind.wrap_i64];omega
 have HCUT:=hDD (fun W' (h:RdI W' (.slice (some ⟨br,0,none⟩) O.length cr) O)=>h.cut (k:=1) rfl (by omega))
 have HTR1:Hid (TrE (g1,(N:Int),es) (O.take 1) []):=hDD fun e=>⟨fun h=>(by cases h),fun ⟨y,hy,h0,_⟩=>by
  have h1:=HHEAD.out
  cases hO:O with
  | nil=>rw[hO] at h1;cases h1
  | cons a O'=>
    rw[hO] at h1 hy
    simp at h1 hy
    omega⟩
 have HBW:Hid (∀w',Below (w.heap.size+1) W w'→Below w.heap.size w w'):=hDD fun w' hb=>BX.out.trans (hb.mono (by omega))
 have HSO:Hid (∀(v:Value) (T:List EdD) (w':World),ArgE w' v T→T.length≤40→Calls Tryz.prog 173 #[v] w' fun e w''=> ∃r,e= .returned r∧OwE w'' w'.heap.size r (srt cmpE T)∧Below w'.heap.size w' w''):=hDD fun v T w' h hl=>sortedD_any v T w' h (by omega)
 have HSF:Hid (∀T:List EdD,TrE (g1,(N:Int),es) O T→TrE (g1,(N:Int),es) O (srt cmpE T)):=hDD fun T h e=>by rw[(srt_spec cmpE_ord T).2 e];exact h e
 have HSL:Hid (∀T:List EdD,(srt cmpE T).length≤T.length):=hDD fun T=>srt_len T
 by_cases hc1:cr=1
 ·subst hc1
  obtain⟨y0,hy0⟩: ∃y0,O= [y0]:=List.length_eq_one_iff.1 (by omega)
  subst hy0
  simp only[List.length_singleton] at*
  have HTR2:Hid (TrE (g1,(N:Int),es) [y0] []):=HTR1
  go_wp2
  refine wp_loop_rounds 1 ?_
  rw[rounds_succ]
  go_wp2_with fail
  refine(HSO.out _ [] w2 OE2.out.arg (by simp)).mono ?_
  rintro e w5 ⟨r5,rfl,o5,b5⟩
  have O5:=hDD o5
  have HBF:=hDD (HBW.out w5 (B2.out.trans (b5.mono (by omega))))
  obtain⟨A5,c5,rfl,_⟩:=o5.form
  clear o5 b5
  go_wp2
  go_ret
  exact⟨_,_,rfl,O5.out.mono (by omega),HSF.out [] HTR2.out,Nat.le_trans (HSL.out []) (by simp),HBF.out⟩
 have hRC:(if cr=1 then none else some (⟨br,0+1,none⟩:Addr))=some ⟨br,1,none⟩:=by rw[if_neg hc1]
 go_wp2
 obtain⟨L,hL⟩: ∃L:Nat,O.length=L+1:=⟨O.length-1,by omega⟩
 have HHL:=hDD hL
 have HAT:Hid (∀k,k<L→ ∃hk:k+1<O.length,O[k+1]∈O∧O[k+1]≠0):=hDD fun k hk=>⟨by have:=HHL.out;omega,List.getElem_mem _,fun e=>by
  have h0:=HHEAD.out
  have h1:O[k+1]? =some 0:=by rw[List.getElem?_eq_getElem (by have:=HHL.out;omega),e]
  have:=(List.getElem?_inj (i:=0) (j:=k+1) (by omega) HND.out).1 (h0.trans h1.symm)
  omega⟩
 have HTK:Hid (∀k (hk:k+1<O.length),O.take (k+2)=O.take (k+1)++ [O[k+1]]):=hDD fun k hk=>by rw[List.take_succ_eq_append_getElem hk]
 have HTF:Hid (O.take (L+1)=O):=hDD (by rw[←hL,List.take_length])
 clear hL
 have hLn:((O.length:Int)-1)=(L:Int):=by have:=HHL.out;omega
 have hsub:O.length-1=L:=by have:=HHL.out;omega
 rw[hsub]
 clear hsub hLn
 go_loopw [3,20] (fun vo i wr=> ∃(k:Nat) (T:List EdD),k≤L∧i= .int .i64 k∧OwE wr (w.heap.size+1) vo T∧TrE (g1,(N:Int),es) (O.take (k+1)) T∧T.length=k∧(∀c,vo.ownBlock=some c→c<W.heap.size∨w2.heap.size≤c)∧(∀b,W.heap.size≤b→b<w2.heap.size→wr.heap[b]? =w2.heap[b]?)∧w2.heap.size≤wr.heap.size∧Below (w.heap.size+1) W wr) (fun _ i _=>L-(intOf i).toNat)
 case atStart=>exact⟨0,[],Nat.zero_le _,rfl,OE2.out,HTR1.out,rfl,fun c hc=> .inl (by simp[Value.ownBlock] at hc;omega),fun _ _ _=>rfl,Nat.le_refl _,B2.out⟩
 case round=>
  obtain⟨k,T,hk,rfl,ho,htr,htl,hvo,hkp,hsr,hb⟩:=hrel
  have HO:=hDD ho
  have HTR:=hDD htr
  have HTL:=hDD htl
  have HVO:=hDD hvo
  have HKP:=hDD hkp
  have HB:=hDD hb
  obtain⟨wi,rfl⟩: ∃wi:World,wi=wr:=⟨_,rfl⟩
  clear ho htr htl hvo hkp hb
  obtain⟨Ao,co,rfl,_⟩:=OwE.form HO.out
  by_cases hlt:k<L
  ·obtain⟨hkO,hmO,hn0⟩:=HAT.out k hlt
   obtain⟨u,x,ws,hw1,hx3,hwl,hnu,hte,hur⟩:=HPAR.out O[k+1] hmO hn0
   have hyr:=HOK.out.2.1 O[k+1] hmO
   have HTKk:=hDD (HTK.out k hkO)
   obtain⟨_,_,hAo,_,hcO'⟩:=OR2.out.at (by omega)
   obtain⟨rfl,rfl⟩:br=_∧0=_:=by simpa using hAo
   have c0:=(World.cell?_of_block (w:=w2) (HKP.out br hbr1 hbr2)).trans (hcO' (k+1) hkO)
   rw[show 0+(k+1)=1+k by omega] at c0
   generalize O[k+1]=y at*
   obtain⟨yn,rfl⟩: ∃yn:Nat,y=(yn:Int):=⟨y.toNat,by omega⟩
   have hyN:yn<N:=by omega
   obtain⟨bw,cw,cu,_,hru,hbw,hPb⟩:=TX2.out.at_old hyN hmO
   have cu2:=(World.cell?_of_block (w:=w2) (HKP.out P hP hPl)).trans cu
   rw[hw1,List.length_append,List.length_singleton] at cu2
   obtain⟨_,_,hAw,_,hcw⟩:=hru.at (by rw[hw1];simp)
   obtain⟨rfl,rfl⟩:bw=_∧0=_:=by simpa using hAw
   have cx0:=hcw ws.length (by rw[hw1];simp)
   have hxx:(F (yn:Int))[ws.length]'(by rw[hw1];simp)=x:=by simp[hw1]
   rw[hxx,Nat.zero_add] at cx0
   have cx:=(World.cell?_of_block (w:=w2) (HKP.out bw (by omega) hbw)).trans cx0
   have hwr1:IntKind.i64.wrap ((ws.length:Int)+1-1)=(ws.length:Int):=by rw[IntKind.wrap_i64];omega
   have hwi:(0:Int)≤(ws.length:Int):=by omega
   have hwl1:(ws.length:Int)<(ws.length:Int)+1:=by omega
   have hnx:IntKind.i64.wrap (-x)= -x:=by rw[IntKind.wrap_i64];omega
   have hyI:(yn:Int)<(N:Int):=hyr.2
   have hy0:(0:Int)≤(yn:Int):=hyr.1
   have hkI:(k:Int)<(L:Int):=by omega
   have HE64:Hid (E64 (stE u x (yn:Int))):=hDD (by
    unfold stE
    split
    ·exact⟨⟨by simp only;omega,by simp only;omega⟩,⟨by simp only;omega,by simp only;omega⟩,⟨by simp only;omega,by simp only;omega⟩⟩
    ·exact⟨⟨by simp only;omega,by simp only;omega⟩,⟨by simp only;omega,by simp only;omega⟩,⟨by simp only;omega,by simp only;omega⟩⟩)
   have HTE:Hid (TE (yn:Int)=stE u x (yn:Int)):=hDD hte
   have HN0:Hid ((yn:Int)≠0):=hDD hn0
   have HNX:=hDD (fun W' (h:ArgG W' (.agg #[.int .i64 g1, .int .i64 (N:Int), .slice A es.length cap]) (g1,(N:Int),es))=>implNextVertex_any _ (g1,(N:Int),es) (yn:Int) (-x) W' h (ONE.out (yn:Int) (-x)) LET.out)
   simp only at HNX
   rw[hnu] at HNX
   have HSTP:=hDD (fun W'=>step_any u x (yn:Int) W' hx3)
   clear hAo hcO' hAw hcw cx0 hxx hru cu hw1 hte hn0 hmO hnu
   obtain⟨q0,q1,q2⟩:=HCL.out wi HB.out
   go_wp2_with fail
   refine(HNX.out wi (HA.out wi HB.out)).mono ?_
   rintro e w3 ⟨rfl,b3⟩
   have hs3:=b3.size
   have HO3:=hDD (HO.out.below b3)
   have HB3:=hDD (HB.out.trans (b3.mono (by omega)))
   have HKP3:Hid (∀b,W.heap.size≤b→b<w2.heap.size→w3.heap[b]? =w2.heap[b]?):=hDD fun b h1 h2=>(b3.block b (by omega)).trans (HKP.out b h1 h2)
   clear b3 q0 q1 q2 c0 cu2 cx
   go_wp2_with fail
   refine(HSTP.out w3).mono ?_
   rintro e w4 ⟨rfl,b4⟩
   have hs4:=b4.size
   have HO4:=hDD (HO3.out.below b4)
   have HB4:=hDD (HB3.out.trans (b4.mono (by omega)))
   have HKP4:Hid (∀b,W.heap.size≤b→b<w2.heap.size→w4.heap[b]? =w2.heap[b]?):=hDD fun b h1 h2=>(b4.block b (by omega)).trans (HKP3.out b h1 h2)
   clear b4
   generalize stE u x (yn:Int)=E at*
   obtain⟨e1,e2,e3⟩:=E
   unfold edV
   simp only
   go_wp2_with (at_builtin;refine push_edge rfl (.tmp 39) (.tmp 44) rfl (w.heap.size+1) _ _ (HO4.out.alloc _) rfl _ (e1,e2,e3) rfl (edC_new _ _ _) HE64.out (by have:=HTL.out;omega) (by simp;omega) ?_;intro v5 wv5 o5 g5 p5;have hz5:=g5.size;simp at hz5;have O5:=hDD o5;have B5:=hDD (bel_pushE HB4.out (show w.heap.size+1≤w4.heap.size by omega) HO4.out (Nat.le_refl _) g5);have HVO5:Hid (∀c,v5.ownBlock=some c→c<W.heap.size∨w2.heap.size≤c):=hDD fun c hc=>(by rcases p5 with p5 | p5<;>rw[p5] at hc<;>first | exact HVO.out c hc | (simp at hc;omega));have HKP5:Hid (∀b,W.heap.size≤b→b<w2.heap.size→wv5.heap[b]? =w2.heap[b]?):=hDD fun b h1 h2=>((g5.block b (by simp;omega) (fun e=>by have:=HVO.out b e.symm;omega)).trans (((Below.refl w4.heap.size w4).alloc (Nat.le_refl _) _).block b (by omega))).trans (HKP4.out b h1 h2);clear o5 g5 p5)
   go_roundw
   case rel=>exact⟨k+1,T++ [(e1,e2,e3)],by omega,by go_num,O5.out,by rw[HTKk.out];exact HTRE.out _ _ _ _ HTR.out HN0.out (fun e=>by rw[HTE.out,List.mem_append,List.mem_singleton];exact Or.comm),by rw[List.length_append,HTL.out];rfl,HVO5.out,HKP5.out,by omega,B5.out⟩
   case measure=>simp[intOf];omega
  ·obtain rfl:k=L:=by omega
   have HTR2:Hid (TrE (g1,(N:Int),es) O T):=hDD (by have h:=HTR.out;rwa [HTF.out] at h)
   have hT40:T.length≤40:=by have:=HTL.out;have:=HHL.out;omega
   have hwi:=HB.out.size
   go_wp2_with fail
   refine(HSO.out _ T wi HO.out.arg hT40).mono ?_
   rintro e w5 ⟨r5,rfl,o5,b5⟩
   have O5:=hDD o5
   have HBF:=hDD (HBW.out w5 (HB.out.trans (b5.mono (by omega))))
   obtain⟨A5,c5,rfl,_⟩:=o5.form
   have hsl:=HSL.out T
   have HS40:Hid ((srt cmpE T).length≤40):=hDD (by omega)
   have HSF2:=hDD (HSF.out T HTR2.out)
   clear o5 b5 hsl
   generalize srt cmpE T=T2 at*
   go_wp2
   go_ret
   exact⟨_,T2,rfl,O5.out.mono (by omega),HSF2.out,HS40.out,HBF.out⟩
theorem take_filterE {α} (p:α→Bool) (l:List α) (k:Nat) (h:k<l.length):(l.take (k+1)).filter p=if p l[k]=true then(l.take k).filter p++ [l[k]] else(l.take k).filter p:=by
 rw[List.take_succ_eq_append_getElem h,List.filter_append]
 split
 ·rename_i h1;simp[h1]
 ·rename_i h1;simp[h1]
set_option maxHeartbeats 2000000 in
theorem extraEdges_any (v:Value) (g:GrD) (w:World) (h:ArgG w v g) (hf:foldB g=true):
  Calls Tryz.prog 100 #[v] w fun e w'=> ∃r,e= .returned r∧OwE w' w.heap.size r (extL g)∧Below w.heap.size w w':=by
 have HG:=hDD h
 have HF:=hDD hf
 obtain⟨hg,hfol⟩:=foldB_parts hf
 obtain⟨hr13,hsz40,hl120,_⟩:=grB_parts hg
 have HEX:Hid (∀T,TrE g (canO g) T→ ∀e∈g.2.2,exB g e= !decide (e∈T)):=hDD fun T hT e he=>by
  have h1:=hT.ext hf he
  rcases ex:exB g e with _ | _
  ·rw[decide_eq_true (h1.2 ex)];rfl
  ·rw[decide_eq_false (fun hm=>by rw[h1.1 hm] at ex;cases ex)];rfl
 have HXL:Hid (extL g=g.2.2.filter (exB g)):=hDD rfl
 obtain⟨s,rfl,hi1,hi2,ha⟩:=h
 obtain⟨A,cap,rfl⟩:=ha.form
 have HTREE:=hDD (fun W' (h:ArgG W' (.agg #[.int .i64 g.1, .int .i64 g.2.1, .slice A g.2.2.length cap]) g)=>treeEdges_any _ g W' h hf)
 obtain⟨g1,n,es⟩:=g
 simp only at*
 clear ha hf hg hfol
 obtain⟨XB,hXB⟩: ∃X,X=exB (g1,n,es):=⟨_,rfl⟩
 rw[←hXB] at HEX HXL
 clear hXB
 go_enter Tryz.func100,Tryz.ntmps100
 go_wp2_with fail
 obtain⟨W1,hW1⟩: ∃W,W=w.alloc (Obj.cells #[Value.int IntKind.i64 g1,Value.int IntKind.i64 n, .slice A es.length cap] 26):=⟨_,rfl⟩
 obtain⟨hs1,b1,hc1⟩:=gboxE hW1
 obtain⟨W,hW⟩: ∃W,W=W1.alloc (Obj.cells #[] 97):=⟨_,rfl⟩
 have b2:Below W1.heap.size W1 W:=by rw[hW];exact(Below.refl _ _).alloc (Nat.le_refl _) _
 have hsW:W.heap.size=w.heap.size+2:=by rw[hW];simp;omega
 have o0:OwE W (w.heap.size+1) (.slice (some ⟨w.heap.size+1,0,none⟩) 0 0) []:=by rw[hW];exact OwE_litN W1 (w.heap.size+1) hs1 (Nat.le_refl _)
 rw[←hW1,←hW]
 have BX:Hid (Below w.heap.size w W):=hDD (b1.trans (b2.mono (by omega)))
 have B12:=hDD (b2.mono (show w.heap.size+1≤W1.heap.size by omega))
 have HC1:=hDD hc1
 have HCL:Hid (∀w',Below (w.heap.size+1) W w'→w'.cell? ⟨w.heap.size,0,none⟩=some (.int .i64 g1)∧w'.cell? ⟨w.heap.size,1,none⟩=some (.int .i64 n)∧w'.cell? ⟨w.heap.size,2,none⟩=some (.slice A es.length cap)):=hDD fun w' hb=>HC1.out w' (B12.out.trans hb)
 have HA:Hid (∀w',Below (w.heap.size+1) W w'→ArgG w' (.agg #[.int .i64 g1, .int .i64 n, .slice A es.length cap]) (g1,n,es)):=hDD fun w' hb=>HG.out.below (BX.out.trans (hb.mono (by omega)))
 have HBW:Hid (∀w',Below (w.heap.size+1) W w'→Below w.heap.size w w'):=hDD fun w' hb=>BX.out.trans (hb.mono (by omega))
 have O0:=hDD o0
 clear hW1 hW hc1 b1 b2 HC1 o0
 have hfo:=implIsFolded_any _ (g1,n,es) W (HA.out W ((Below.refl W.heap.size W).mono (by omega)))
 rw[HF.out] at hfo
 refine hfo.mono ?_
 clear hfo
 rintro e w2 ⟨rfl,b2⟩
 have hs2:=b2.size
 have B2:Hid (Below (w.heap.size+1) W w2):=hDD (b2.mono (by omega))
 have OE2:=hDD (O0.out.below b2)
 clear b2
 obtain⟨q0,q1,q2⟩:=HCL.out w2 B2.out
 go_wp2_with fail
 refine(HTREE.out w2 (HA.out w2 B2.out)).mono ?_
 rintro e w3 ⟨r3,T,rfl,o3,htr,hT40,b3⟩
 have hs3:=b3.size
 have B3:Hid (Below (w.heap.size+1) W w3):=hDD (B2.out.trans (b3.mono (by omega)))
 have OE3:=hDD (OE2.out.below b3)
 have OT3:=hDD o3
 have HEXT:=hDD (HEX.out T htr)
 obtain⟨At,ct,rfl,_⟩:=o3.form
 clear o3 htr b3 q0 q1 q2
 obtain⟨q0,q1,q2⟩:=HCL.out w3 B3.out
 have HTB:Hid (∀b,(Value.slice At T.length ct).ownBlock=some b→w2.heap.size≤b∧b<w3.heap.size):=hDD fun b hb=>OT3.out.1.lt b hb
 go_wp2
 go_loopw [3,17] (fun vo i wr=> ∃k:Nat,k≤es.length∧i= .int .i64 k∧OwE wr (w.heap.size+1) vo ((es.take k).filter XB)∧(∀c,vo.ownBlock=some c→c<W.heap.size∨w3.heap.size≤c)∧(∀b,W.heap.size≤b→b<w3.heap.size→wr.heap[b]? =w3.heap[b]?)∧w3.heap.size≤wr.heap.size∧Below (w.heap.size+1) W wr) (fun _ i _=>es.length-(intOf i).toNat)
 case atStart=>exact⟨0,Nat.zero_le _,rfl,by simpa using OE3.out,fun c hc=> .inl (by simp[Value.ownBlock] at hc;omega),fun _ _ _=>rfl,Nat.le_refl _,B3.out⟩
 case round=>
  obtain⟨k,hk,rfl,ho,hvo,hkp,hsr,hb⟩:=hrel
  have HO:=hDD ho
  have HVO:=hDD hvo
  have HKP:=hDD hkp
  have HB:=hDD hb
  obtain⟨wi,rfl⟩: ∃wi:World,wi=wr:=⟨_,rfl⟩
  clear ho hvo hkp hb
  have hfl:((es.take k).filter XB).length≤120:=by
   have h1:=List.length_filter_le XB (es.take k)
   rw[List.length_take] at h1
   omega
  obtain⟨Ao,co,rfl,_⟩:=OwE.form HO.out
  by_cases hlt:k<es.length
  ·have HTK:=hDD (take_filterE XB es k hlt)
   have HXE:=hDD (HEXT.out es[k] (List.getElem_mem hlt))
   obtain⟨_,_,hIN,hAE,_,_⟩:=(HA.out wi HB.out).inner
   injection hIN with e1 e2 e3
   subst e1 e3
   clear e2
   obtain⟨b,off,rfl,hbl,c0,c1,c2,he64⟩:=hAE.at hlt
   have HE64:=hDD he64
   have hkI:(k:Int)<(es.length:Int):=by omega
   generalize es[k]=E at*
   generalize (es.take k).filter XB=LO at*
   obtain⟨e1,e2,e3⟩:=E
   simp only at*
   clear hAE he64
   have HCT:=hDD (fun W' (h:ArgE W' (.slice At T.length ct) T)=>containsE_any _ T (e1,e2,e3) W' h (by omega))
   unfold edV at HCT
   simp only at HCT
   go_wp2_with fail
   obtain⟨WX,hWX⟩: ∃WX,WX=wi.alloc (Obj.cells #[Value.int IntKind.i64 e1,Value.int IntKind.i64 e2,Value.int IntKind.i64 e3] 97):=⟨_,rfl⟩
   obtain⟨hsX,bX,hcX⟩:=gboxE hWX
   rw[←hWX]
   have HOX:=hDD (HO.out.below bX)
   have HBX:=hDD (HB.out.trans (bX.mono (by have:=HB.out.size;omega)))
   have HKPX:Hid (∀b,W.heap.size≤b→b<w3.heap.size→WX.heap[b]? =w3.heap[b]?):=hDD fun b h1 h2=>(bX.block b (by omega)).trans (HKP.out b h1 h2)
   have HCX:=hDD hcX
   clear hWX bX hcX c0 c1 c2
   refine(HCT.out WX (OT3.out.keep fun b hb=>HKPX.out b (by have:=HTB.out b hb;omega) (HTB.out b hb).2).arg).mono ?_
   rintro e w4 ⟨rfl,b4⟩
   have hs4:=b4.size
   obtain⟨z0,z1,z2⟩:=HCX.out w4 (b4.mono (by omega))
   have HO4:=hDD (HOX.out.below b4)
   have HB4:=hDD (HBX.out.trans (b4.mono (by have:=HBX.out.size;omega)))
   have HKP4:Hid (∀b,W.heap.size≤b→b<w3.heap.size→w4.heap[b]? =w3.heap[b]?):=hDD fun b h1 h2=>(b4.block b (by omega)).trans (HKPX.out b h1 h2)
   clear b4
   have hw4:w.heap.size+1≤w4.heap.size:=by have:=HB4.out.size;omega
   rcases ed:decide ((e1,e2,e3)∈T) with _ | _
   ·have HT2:Hid ((es.take (k+1)).filter XB=LO++ [(e1,e2,e3)]):=hDD (by rw[HTK.out,HXE.out,ed];rfl)
    clear ed
    go_wp2_with (at_builtin;refine push_edge rfl (.tmp 25) (.tmp 27) rfl (w.heap.size+1) _ _ (HO4.out.alloc _) rfl _ (e1,e2,e3) rfl (edC_new _ _ _) HE64.out (by omega) (by simp;omega) ?_;intro v5 wv5 o5 g5 p5;have hz5:=g5.size;simp at hz5;have O5:=hDD o5;have B5:=hDD (bel_pushE HB4.out hw4 HO4.out (Nat.le_refl _) g5);have HVO5:Hid (∀c,v5.ownBlock=some c→c<W.heap.size∨w3.heap.size≤c):=hDD fun c hc=>(by rcases p5 with p5 | p5<;>rw[p5] at hc<;>first | exact HVO.out c hc | (simp at hc;omega));have HKP5:Hid (∀b,W.heap.size≤b→b<w3.heap.size→wv5.heap[b]? =w3.heap[b]?):=hDD fun b h1 h2=>((g5.block b (by simp;omega) (fun e=>by have:=HVO.out b e.symm;omega)).trans (((Below.refl w4.heap.size w4).alloc (Nat.le_refl _) _).block b (by omega))).trans (HKP4.out b h1 h2);clear o5 g5 p5)
    go_roundw
    case rel=>exact⟨k+1,by omega,by go_num,by rw[HT2.out];exact O5.out,HVO5.out,HKP5.out,by omega,B5.out⟩
    case measure=>simp[intOf];omega
   ·have HT2:Hid ((es.take (k+1)).filter XB=LO):=hDD (by rw[HTK.out,HXE.out,ed];rfl)
    clear ed z0 z1 z2
    go_wp2
    go_roundw
    case rel=>exact⟨k+1,by omega,by go_num,by rw[HT2.out];exact HO4.out,HVO.out,HKP4.out,by omega,HB4.out⟩
    case measure=>simp[intOf];omega
  ·obtain rfl:k=es.length:=by omega
   rw[List.take_length] at HO hfl
   have HOF:=hDD (HXL.out▸HO.out)
   have HBF:=hDD (HBW.out wi HB.out)
   go_wp2
   go_ret
   exact⟨_,rfl,by rw[HXL.out];rw[List.take_length];exact HO.out.mono (by omega),HBF.out⟩
theorem core_foldB {g:GrD} (h:coreB g=true):foldB g=true:=by
 unfold coreB at h
 simp only[Bool.and_eq_true] at h
 exact h.1.1
theorem bas_red {g:GrD} (h:coreB g=true) {e:EdD} (he:e∈extL g):redLL [wdO g e.1,[e.2.1],invL (wdO g e.2.2)]=basW g e:=by
 obtain⟨hg,hf⟩:=foldB_parts (core_foldB h)
 have hm:=List.mem_filter.1 he
 have h1:e.1∈canO g:=core_all h (edge_of_gr hg hm.1).1
 have h2:e.2.2∈canO g:=core_all h (edge_of_gr hg hm.1).2.2
 rw[invN_eq (wd_let3 hg h2)]
 have hr:=(bas_chain hg hf hm.1 hm.2 h1 h2).red
 unfold redLL
 have e1: [wdO g e.1,[e.2.1],invN (wdO g e.2.2)].flatten=basW g e:=by simp[basW]
 rw[e1,redL_id (by simpa using hr)]
 rfl
theorem invL_length (xs:List Int):(invL xs).length=xs.length:=by simp[invL,negL]
theorem OwLf.form {α:Type} {E:El α} {t:TypeId} {width:Nat} {w:World} {v:Value} {ds:List α} {F:List Nat} (h:OwLf E t width w v ds F): ∃A cap,v= .slice A ds.length cap:=by
 obtain⟨ess,h1,h2,h3,_⟩:=h
 obtain⟨A,cap,hv,_⟩:=owns_form h3
 exact⟨A,cap,by rw[hv,←h1];simp⟩
theorem three_rdN {w:World} (N:Nat) (hN:w.heap.size=N) {u v t:Value} {xs ys zs:List Int} (h:RdI w u xs) (h':RdI w v ys) (h'':RdI w t zs):RdII (w.alloc (.cells #[u,v,t] 37)) (.slice (some ⟨N,0,none⟩) 3 3) [xs,ys,zs]:=by
 subst hN
 exact three_rd h h' h''
theorem RdI.keepB {w w':World} {b off n c:Nat} {xs:List Int} (h:RdI w (.slice (some ⟨b,off,none⟩) n c) xs) (hb:w'.heap[b]? =w.heap[b]?):RdI w' (.slice (some ⟨b,off,none⟩) n c) xs:=by
 obtain⟨⟨h1,A,cap,hv,h2,h3,h4,h5⟩,h6⟩:=h
 injection hv with e1 e2 e3
 subst e1 e3
 refine⟨⟨h1,_,_,by rw[e2],h2,h3,h4,fun h0=> ?_⟩,h6⟩
 obtain⟨b',off',cur,fr,hA,hh,hx⟩:=h5 h0
 injection hA with hA
 injection hA with hA1 hA2
 subst hA1 hA2
 exact⟨b,off,cur,fr,rfl,by rw[hb];exact hh,hx⟩
set_option maxHeartbeats 3000000 in
theorem implBasisOf_any (v:Value) (g:GrD) (w:World) (h:ArgG w v g):
  Calls Tryz.prog 126 #[v] w fun e w'=> ∃r,e= .returned r∧OwII w.heap.size w'.heap.size r (basF g) w'∧Below w.heap.size w w':=by
 have HG:=hDD h
 obtain⟨s,rfl,hi1,hi2,ha⟩:=h
 obtain⟨A,cap,rfl⟩:=ha.form
 clear ha
 have HTREE:=hDD (fun W' (h:ArgG W' (.agg #[.int .i64 g.1, .int .i64 g.2.1, .slice A g.2.2.length cap]) g) hf=>treeX_any _ g W' h hf)
 have HEXE:=hDD (fun W' (h:ArgG W' (.agg #[.int .i64 g.1, .int .i64 g.2.1, .slice A g.2.2.length cap]) g) hf=>extraEdges_any _ g W' h hf)
 obtain⟨g1,n,es⟩:=g
 simp only at*
 go_enter Tryz.func126,Tryz.ntmps126
 go_wp2_with fail
 obtain⟨W1,hW1⟩: ∃W,W=w.alloc (Obj.cells #[Value.int IntKind.i64 g1,Value.int IntKind.i64 n, .slice A es.length cap] 26):=⟨_,rfl⟩
 obtain⟨hs1,b1,hc1⟩:=gboxE hW1
 obtain⟨W,hW⟩: ∃W,W=W1.alloc (Obj.cells #[] 37):=⟨_,rfl⟩
 have b2:Below W1.heap.size W1 W:=by rw[hW];exact(Below.refl _ _).alloc (Nat.le_refl _) _
 have hsW:W.heap.size=w.heap.size+2:=by rw[hW];simp;omega
 have o0:OwII (w.heap.size+1) W.heap.size (.slice (some ⟨w.heap.size+1,0,none⟩) 0 0) [] W:=by
  have h:=OwII_lit W1 (lo:=w.heap.size+1) (by omega)
  rw[←hW,hs1] at h
  exact h.widen (Nat.le_refl _) (by omega)
 rw[←hW1,←hW]
 have BX:Hid (Below w.heap.size w W):=hDD (b1.trans (b2.mono (by omega)))
 have B12:=hDD (b2.mono (show w.heap.size+1≤W1.heap.size by omega))
 have HC1:=hDD hc1
 have HCL:Hid (∀w',Below (w.heap.size+1) W w'→w'.cell? ⟨w.heap.size,0,none⟩=some (.int .i64 g1)∧w'.cell? ⟨w.heap.size,1,none⟩=some (.int .i64 n)∧w'.cell? ⟨w.heap.size,2,none⟩=some (.slice A es.length cap)):=hDD fun w' hb=>HC1.out w' (B12.out.trans hb)
 have HA:Hid (∀w',Below (w.heap.size+1) W w'→ArgG w' (.agg #[.int .i64 g1, .int .i64 n, .slice A es.length cap]) (g1,n,es)):=hDD fun w' hb=>HG.out.below (BX.out.trans (hb.mono (by omega)))
 have HBW:Hid (∀w',Below (w.heap.size+1) W w'→Below w.heap.size w w'):=hDD fun w' hb=>BX.out.trans (hb.mono (by omega))
 have O0:=hDD o0
 clear hW1 hW hc1 b1 b2 HC1 o0
 refine(implIsCore_any _ (g1,n,es) W (HA.out W ((Below.refl W.heap.size W).mono (by omega)))).mono ?_
 rintro e w1 ⟨rfl,b1⟩
 have hs1':=b1.size
 have B1:Hid (Below (w.heap.size+1) W w1):=hDD (b1.mono (by omega))
 have O1:=hDD ((OwnL.keep O0.out EI.stable fun b _ hlt=>b1.block b hlt).widen (Nat.le_refl _) b1.size)
 clear b1
 rcases ec:coreB (g1,n,es) with _ | _
 ·have F:Hid (basF (g1,n,es)= []):=hDD (by unfold basF;rw[ec];rfl)
  have HOF:=hDD (OwnL.widen O1.out (show w.heap.size≤w.heap.size+1 by omega) (Nat.le_refl _))
  have HBF:=hDD (HBW.out w1 B1.out)
  clear ec
  go_wp2
  go_ret
  rw[F.out]
  exact⟨_,rfl,HOF.out,HBF.out⟩
 have hfold:=core_foldB ec
 have HFD:=hDD hfold
 have hg:=coreB_grB ec
 obtain⟨h13,h40,h120,_⟩:=grB_parts hg
 simp only at h13 h40 h120
 obtain⟨N,rfl⟩: ∃N:Nat,n=(N:Int):=⟨n.toNat,by omega⟩
 have HBF:Hid (basF (g1,(N:Int),es)=(extL (g1,(N:Int),es)).map (basW (g1,(N:Int),es))):=hDD (by unfold basF;rw[if_pos ec])
 have HRED:Hid (∀e∈extL (g1,(N:Int),es),redLL [wdO (g1,(N:Int),es) e.1,[e.2.1],invL (wdO (g1,(N:Int),es) e.2.2)]=basW (g1,(N:Int),es) e):=hDD fun e he=>bas_red ec he
 have HVX:Hid (∀e∈extL (g1,(N:Int),es),(0≤e.1∧e.1<N∧e.1∈canO (g1,(N:Int),es))∧(1≤e.2.1∧e.2.1≤3)∧(0≤e.2.2∧e.2.2<N∧e.2.2∈canO (g1,(N:Int),es))):=hDD fun e he=>by
  have hm:=(List.mem_filter.1 he).1
  have h:=edge_of_gr hg hm
  simp only at h
  exact⟨⟨h.1.1,h.1.2,core_all ec h.1⟩,⟨h.2.1.1,by omega⟩,⟨h.2.2.1,h.2.2.2,core_all ec h.2.2⟩⟩
 have HWL:Hid (∀y∈canO (g1,(N:Int),es),(wdO (g1,(N:Int),es) y).length<40):=hDD fun y hy=>wd_len hg hy
 have hxl:(extL (g1,(N:Int),es)).length≤120:=Nat.le_trans (List.length_filter_le _ _) h120
 clear ec hfold hg
 obtain⟨q0,q1,q2⟩:=HCL.out w1 B1.out
 go_wp2_with fail
 refine(HTREE.out w1 (HA.out w1 B1.out) HFD.out).mono ?_
 rintro e w2 ⟨r2,P,rfl,hP,tx,o2,b2⟩
 have hs2:=b2.size
 have B2:Hid (Below (w.heap.size+1) W w2):=hDD (B1.out.trans (b2.mono (by omega)))
 have O2:=hDD ((OwnL.keep O1.out EI.stable fun b _ hlt=>b2.block b hlt).widen (Nat.le_refl _) b2.size)
 have hPl:=tx.lt.2
 simp only[Int.toNat_natCast] at tx⊢
 have TX2:=hDD tx
 obtain⟨Ar,cr,rfl,_⟩:=OwI.form o2
 clear tx o2 b2 q0 q1 q2
 obtain⟨q0,q1,q2⟩:=HCL.out w2 B2.out
 go_wp2_with fail
 refine(HEXE.out w2 (HA.out w2 B2.out) HFD.out).mono ?_
 rintro e w3 ⟨r3,rfl,o3,b3⟩
 have hs3:=b3.size
 have B3:Hid (Below (w.heap.size+1) W w3):=hDD (B2.out.trans (b3.mono (by omega)))
 have O3:=hDD ((OwnL.keep O2.out EI.stable fun b _ hlt=>b3.block b hlt).widen (Nat.le_refl _) b3.size)
 have HW23:Hid (∀b,b<w2.heap.size→w3.heap[b]? =w2.heap[b]?):=hDD fun b hb=>b3.block b hb
 have OX3:=hDD o3
 obtain⟨Ax,cx,rfl,_⟩:=o3.form
 obtain⟨F,hF⟩: ∃F,F=wdO (g1,(N:Int),es):=⟨_,rfl⟩
 obtain⟨OO,hOO⟩: ∃O,O=canO (g1,(N:Int),es):=⟨_,rfl⟩
 obtain⟨BW,hBW⟩: ∃B,B=basW (g1,(N:Int),es):=⟨_,rfl⟩
 rw[←hF] at HRED HWL TX2
 rw[←hOO] at HVX HWL TX2
 rw[←hBW] at HRED HBF
 generalize extL (g1,(N:Int),es)=X at*
 clear o3 b3 q0 q1 q2 hF hOO hBW
 have HXB:Hid (∀b,(Value.slice Ax X.length cx).ownBlock=some b→w2.heap.size≤b∧b<w3.heap.size):=hDD fun b hb=>OX3.out.1.lt b hb
 obtain⟨F0,hl0,hn0,hF0⟩:=O3.out
 have HL0:=hDD hl0
 have HF0:Hid (∀b∈F0,(w.heap.size+1≤b∧b<w3.heap.size)∧(b<W.heap.size∨w3.heap.size≤b)):=hDD fun b hb=>by
  obtain⟨ess,h1,h2,h3,rfl⟩:=hl0
  have h4:ess= []:=by simpa using h1
  subst h4
  simp[Value.ownBlock] at hb
  omega
 clear hl0 hF0
 have HN0:=hDD hn0
 clear hn0
 go_wp2
 go_loopw [3,21] (fun vo i wr=> ∃(k:Nat) (Fp:List Nat),k≤X.length∧i= .int .i64 k∧OwLf EI 37 1 wr vo ((X.take k).map BW) Fp∧Fp.Nodup∧(∀b∈Fp,(w.heap.size+1≤b∧b<wr.heap.size)∧(b<W.heap.size∨w3.heap.size≤b))∧(∀b,W.heap.size≤b→b<w3.heap.size→wr.heap[b]? =w3.heap[b]?)∧w3.heap.size≤wr.heap.size∧Below (w.heap.size+1) W wr) (fun _ i _=>X.length-(intOf i).toNat)
 case atStart=>exact⟨0,F0,Nat.zero_le _,rfl,by simpa using HL0.out,HN0.out,HF0.out,fun _ _ _=>rfl,Nat.le_refl _,B3.out⟩
 case round=>
  obtain⟨k,Fp,hk,rfl,ho,hnd,hFp,hkp,hsr,hb⟩:=hrel
  have HO:=hDD ho
  have HND:=hDD hnd
  have HFP:=hDD hFp
  have HKP:=hDD hkp
  have HB:=hDD hb
  obtain⟨wi,rfl⟩: ∃wi:World,wi=wr:=⟨_,rfl⟩
  clear ho hnd hFp hkp hb
  obtain⟨Ao,co,rfl⟩:=OwLf.form HO.out
  by_cases hlt:k<X.length
  ·have HTK:Hid ((X.take (k+1)).map BW=(X.take k).map BW++ [BW X[k]]):=hDD (by rw[List.take_succ_eq_append_getElem hlt,List.map_append];rfl)
   have HRE:=hDD (HRED.out X[k] (List.getElem_mem hlt))
   obtain⟨⟨hp0,hpN,hpO⟩,hx13,⟨hq0,hqN,hqO⟩⟩:=HVX.out X[k] (List.getElem_mem hlt)
   have hAX:=(OX3.out.keep fun b hb=>HKP.out b (by have:=HXB.out b hb;omega) (HXB.out b hb).2).arg
   obtain⟨b,off,rfl,hbl,c0,c1,c2,he64⟩:=hAX.at hlt
   have hkI:(k:Int)<(X.length:Int):=by omega
   have hLk:((X.take k).map BW).length≤120:=by rw[List.length_map,List.length_take];omega
   generalize X[k]=E at*
   obtain⟨e1,x,e3⟩:=E
   simp only at*
   obtain⟨pn,rfl⟩: ∃pn:Nat,e1=(pn:Int):=⟨e1.toNat,by omega⟩
   obtain⟨qn,rfl⟩: ∃qn:Nat,e3=(qn:Int):=⟨e3.toNat,by omega⟩
   obtain⟨bp,cp,cup,_,hrp,hbp,hPbp⟩:=TX2.out.at_old (y:=pn) (by omega) hpO
   obtain⟨bq,cq,cuq,_,hrq,hbq,hPbq⟩:=TX2.out.at_old (y:=qn) (by omega) hqO
   have hheap: ∀b,W.heap.size≤b→b<w2.heap.size→wi.heap[b]? =w2.heap[b]? :=fun b h1 h2=>(HKP.out b h1 (by omega)).trans (HW23.out b h2)
   have hup:=(World.cell?_of_block (w:=w2) (hheap P (by omega) hPl)).trans cup
   have huq:=(World.cell?_of_block (w:=w2) (hheap P (by omega) hPl)).trans cuq
   have HRP:=hDD (hrp.keepB (hheap bp (by omega) hbp))
   have HRQ:=hDD (hrq.keepB (hheap bq (by omega) hbq))
   have hlp:=HWL.out pn hpO
   have hlq:=HWL.out qn hqO
   have HX64:Hid (I64 x):=hDD ⟨by omega,by omega⟩
   have hpNI:(pn:Int)<(N:Int):=hpN
   have hqNI:(qn:Int)<(N:Int):=hqN
   generalize hLO:(X.take k).map BW=LO at*
   generalize BW ((pn:Int),x,(qn:Int))=BV at*
   generalize F (pn:Int)=wp at*
   generalize F (qn:Int)=wq at*
   have hPwi:P<wi.heap.size:=by omega
   have hbw:=HB.out.size
   clear hAX he64 cup cuq hrp hrq hheap hpO hqO hLO
   go_wp2_with fail
   obtain⟨WX,hWX⟩: ∃WX,WX=wi.alloc (Obj.cells #[Value.int IntKind.i64 (pn:Int),Value.int IntKind.i64 x,Value.int IntKind.i64 (qn:Int)] 97):=⟨_,rfl⟩
   obtain⟨hsX,bX,hcX⟩:=gboxE hWX
   rw[←hWX]
   obtain⟨z0,z1,z2⟩:=hcX WX ((Below.refl WX.heap.size WX).mono (by omega))
   have hup:=(bX.cell (p:=⟨P,pn,none⟩) hPwi).trans hup
   have huq:=(bX.cell (p:=⟨P,qn,none⟩) hPwi).trans huq
   have HRPX:Hid (∀W',Below WX.heap.size WX W'→RdI W' (.slice (some ⟨bp,0,none⟩) wp.length cp) wp):=hDD fun W' hb=>(HRP.out.below bX).below hb
   have HRQX:Hid (∀W',Below WX.heap.size WX W'→RdI W' (.slice (some ⟨bq,0,none⟩) wq.length cq) wq):=hDD fun W' hb=>(HRQ.out.below bX).below hb
   have HOX:=hDD (HO.out.stable EI.stable fun b hb=>bX.block b (HFP.out b hb).1.2)
   have HBX:=hDD (HB.out.trans (bX.mono (by omega)))
   have HKPX:Hid (∀b,W.heap.size≤b→b<w3.heap.size→WX.heap[b]? =w3.heap[b]?):=hDD fun b h1 h2=>(bX.block b (by omega)).trans (HKP.out b h1 h2)
   have HFPX:Hid (∀b∈Fp,b<WX.heap.size):=hDD fun b hb=>by have:=(HFP.out b hb).1.2;omega
   have hPX:P<WX.heap.size:=by omega
   have hwX:wi.heap.size<WX.heap.size:=by omega
   have HBA:Hid (Below WX.heap.size WX ((WX.alloc (.cells #[.int .i64 x] 3)).drew)):=hDD (((Below.refl WX.heap.size WX).alloc (Nat.le_refl _) _).drew)
   have HBI:Hid (Below WX.heap.size WX WX.drew):=hDD (Below.refl WX.heap.size WX).drew
   clear hWX bX hcX c0 c1 c2 HRP HRQ hsX
   go_region_held3 (fun w'=>w'.cell? ⟨wi.heap.size,0,none⟩=some (.int .i64 (pn:Int))∧w'.cell? ⟨wi.heap.size,1,none⟩=some (.int .i64 x)∧w'.cell? ⟨wi.heap.size,2,none⟩=some (.int .i64 (qn:Int))∧w'.cell? ⟨P,pn,none⟩=some (.slice (some ⟨bp,0,none⟩) wp.length cp)∧w'.cell? ⟨P,qn,none⟩=some (.slice (some ⟨bq,0,none⟩) wq.length cq))
    (first | go_keep | exact⟨s0,s1,s2,s3,s4⟩)
    (first
     | (go_at_call 98;(with_reducible refine(implInvertWord_any _ wq _ (HRQX.out _ HBA.out) (by omega)).mono ?_);rintro e w9 ⟨r9,rfl,o9,b9⟩;have HB9:=hDD (HBA.out.trans (b9.mono HBA.out.size));obtain⟨A9,c9,rfl,_⟩:=OwI.form o9;have R9:=hDD (o9.mono HBA.out.size);have RX9:=hDD ((RdI_new1 WX x HX64.out).drew.below b9);have s0:=(HB9.out.cell (p:=⟨wi.heap.size,0,none⟩) hwX).trans z0;have s1:=(HB9.out.cell (p:=⟨wi.heap.size,1,none⟩) hwX).trans z1;have s2:=(HB9.out.cell (p:=⟨wi.heap.size,2,none⟩) hwX).trans z2;have s3:=(HB9.out.cell (p:=⟨P,pn,none⟩) hPX).trans hup;have s4:=(HB9.out.cell (p:=⟨P,qn,none⟩) hPX).trans huq;clear o9 b9 HBA HBI)
     | (go_at_call 98;(with_reducible refine(implInvertWord_any _ wq _ (HRQX.out _ HBI.out) (by omega)).mono ?_);rintro e w9 ⟨r9,rfl,o9,b9⟩;have HB9:=hDD (HBI.out.trans (b9.mono HBI.out.size));obtain⟨A9,c9,rfl,_⟩:=OwI.form o9;have R9:=hDD (o9.mono HBI.out.size);have s0:=(HB9.out.cell (p:=⟨wi.heap.size,0,none⟩) hwX).trans z0;have s1:=(HB9.out.cell (p:=⟨wi.heap.size,1,none⟩) hwX).trans z1;have s2:=(HB9.out.cell (p:=⟨wi.heap.size,2,none⟩) hwX).trans z2;have s3:=(HB9.out.cell (p:=⟨P,pn,none⟩) hPX).trans hup;have s4:=(HB9.out.cell (p:=⟨P,qn,none⟩) hPX).trans huq;clear o9 b9 HBA HBI)
     | (go_at_call 97;(with_reducible refine(product_any _ [wp,[x],invL wq] _ (three_rd (HRPX.out w9 HB9.out) RX9.out R9.out.rd) (by simp[lenLL,invL_length];omega) (by simp)).mono ?_);rintro e w10 ⟨r10,rfl,o10,b10⟩;have HBC:=hDD (HB9.out.alloc HB9.out.size (Obj.cells #[.slice (some ⟨bp,0,none⟩) wp.length cp, .slice (some ⟨WX.heap.size,0,none⟩) 1 1, .slice A9 (invL wq).length c9] 37));have HB10:=hDD (HBC.out.trans (b10.mono HBC.out.size));rw[HRE.out] at o10;obtain⟨A10,c10,rfl,_⟩:=OwI.form o10;have R10:=hDD (o10.mono HBC.out.size);have s0:=(HB10.out.cell (p:=⟨wi.heap.size,0,none⟩) hwX).trans z0;have s1:=(HB10.out.cell (p:=⟨wi.heap.size,1,none⟩) hwX).trans z1;have s2:=(HB10.out.cell (p:=⟨wi.heap.size,2,none⟩) hwX).trans z2;have s3:=(HB10.out.cell (p:=⟨P,pn,none⟩) hPX).trans hup;have s4:=(HB10.out.cell (p:=⟨P,qn,none⟩) hPX).trans huq;clear o10 b10)
     | (go_at_call 97;(with_reducible refine(product_any _ [wp,[x],invL wq] _ (three_rdN (w:=w9.alloc (.cells #[.int .i64 x] 3)) (w9.heap.size+1) (by simp) (HRPX.out _ (HB9.out.alloc HB9.out.size _)) (RdI_new1 w9 x HX64.out) (R9.out.alloc _).rd) (by simp[lenLL,invL_length];omega) (by simp)).mono ?_);rintro e w10 ⟨r10,rfl,o10,b10⟩;have HBC:=hDD ((HB9.out.alloc HB9.out.size (Obj.cells #[.int .i64 x] 3)).alloc (HB9.out.alloc HB9.out.size (Obj.cells #[.int .i64 x] 3)).size (Obj.cells #[.slice (some ⟨bp,0,none⟩) wp.length cp, .slice (some ⟨w9.heap.size,0,none⟩) 1 1, .slice A9 (invL wq).length c9] 37));have HB10:=hDD (HBC.out.trans (b10.mono HBC.out.size));rw[HRE.out] at o10;obtain⟨A10,c10,rfl,_⟩:=OwI.form o10;have R10:=hDD (o10.mono HBC.out.size);have s0:=(HB10.out.cell (p:=⟨wi.heap.size,0,none⟩) hwX).trans z0;have s1:=(HB10.out.cell (p:=⟨wi.heap.size,1,none⟩) hwX).trans z1;have s2:=(HB10.out.cell (p:=⟨wi.heap.size,2,none⟩) hwX).trans z2;have s3:=(HB10.out.cell (p:=⟨P,pn,none⟩) hPX).trans hup;have s4:=(HB10.out.cell (p:=⟨P,qn,none⟩) hPX).trans huq;clear o10 b10)
     | (refine step_push_ints rfl (.tmp 25) (.tmp 42) rfl HOX.out HND.out HFPX.out (HB10.out.alloc HB10.out.size _) (by rfl) _ (.slice A10 BV.length c10) BV (base:=WX.heap.size) (by rfl) (R10.out.alloc _) (Nat.le_refl _) (cell_new1 _ _ _) rfl (by omega) ?_;intro v11 w11 F11 l11 n11 f11 g11 p11;have L11:=hDD l11;have N11:=hDD n11;have FF11:=hDD f11;have B11:Hid (Below (w.heap.size+1) W w11):=hDD ((HBX.out.trans ((HB10.out.alloc HB10.out.size (Obj.cells #[.slice A10 BV.length c10] 37)).mono (by omega))).grown g11 (by have:=HB10.out.size;simp;omega) (fun c hc=>(HFP.out c (HOX.out.mem hc)).1.1));have hs11:=g11.size;have h11: ∀b,b<WX.heap.size→(∀c,(Value.slice Ao LO.length co).ownBlock=some c→c≠b)→w11.heap[b]? =WX.heap[b]? :=fun b h1 h2=>(g11.block b (by have:=HB10.out.size;simp;omega) (fun e=>h2 b e.symm rfl)).trans ((HB10.out.alloc HB10.out.size (Obj.cells #[.slice A10 BV.length c10] 37)).block b h1);have hbwi:=h11 wi.heap.size hwX (fun c hc=>by have:=(HFP.out c (HOX.out.mem hc)).1.2;omega);have hbP:=h11 P hPX (fun c hc=>by have:=(HFP.out c (HOX.out.mem hc)).2;omega);have s0:=(World.cell?_of_block (w:=WX) hbwi).trans z0;have s1:=(World.cell?_of_block (w:=WX) hbwi).trans z1;have s2:=(World.cell?_of_block (w:=WX) hbwi).trans z2;have s3:=(World.cell?_of_block (w:=WX) hbP).trans hup;have s4:=(World.cell?_of_block (w:=WX) hbP).trans huq;clear h11 hbwi hbP;have KP11:Hid (∀b,W.heap.size≤b→b<w3.heap.size→w11.heap[b]? =w3.heap[b]?):=hDD fun b h1 h2=>((g11.block b (by have:=HB10.out.size;simp;omega) (fun e=>by have:=(HFP.out b (HOX.out.mem e.symm)).2;omega)).trans ((HB10.out.alloc HB10.out.size (Obj.cells #[.slice A10 BV.length c10] 37)).block b (by omega))).trans (HKPX.out b h1 h2);clear l11 n11 f11 g11 p11))
   ·have hs10:=HB10.out.size
    have hs11':w10.heap.size+1≤w11.heap.size:=by simpa using hs11
    go_wp2
    go_roundw
    case rel=>exact⟨k+1,F11,by omega,by go_num,by rw[HTK.out];exact L11.out,N11.out,fun b hb=>by
     have h1:=FF11.out b hb
     rcases h1.1 with h | h
     ·have:=HFP.out b h;omega
     ·omega,KP11.out,by omega,B11.out⟩
    case measure=>simp[intOf];omega
   ·have hs10:=HB10.out.size
    have hs11':w10.heap.size+1≤w11.heap.size:=by simpa using hs11
    go_wp2
    go_roundw
    case rel=>exact⟨k+1,F11,by omega,by go_num,by rw[HTK.out];exact L11.out,N11.out,fun b hb=>by
     have h1:=FF11.out b hb
     rcases h1.1 with h | h
     ·have:=HFP.out b h;omega
     ·omega,KP11.out,by omega,B11.out⟩
    case measure=>simp[intOf];omega
  ·obtain rfl:k=X.length:=by omega
   have HOF:Hid (OwII w.heap.size wi.heap.size (.slice Ao ((X.take X.length).map BW).length co) (basF (g1,(N:Int),es)) wi):=hDD ⟨Fp,by rw[HBF.out];have h:=HO.out;rwa [List.take_length] at h⊢,HND.out,fun b hb=>by have:=HFP.out b hb;omega⟩
   have HBD:=hDD (HBW.out wi HB.out)
   go_wp2
   go_ret
   exact⟨_,rfl,HOF.out,HBD.out⟩
set_option maxHeartbeats 1000000 in
theorem loops_any (v vw:Value) (g:GrD) (ws:List Int) (w:World) (h:ArgG w v g) (hw:RdI w vw ws) (hf:foldB g=true):
  Calls Tryz.prog 108 #[v,vw] w fun e w'=>e= .returned (.bool (decide (walkF g.2.2 0 ws=0)))∧Below w.heap.size w w':=by
 have HG:=hDD h
 have HW:=hDD hw
 have hg:=(foldB_parts hf).1
 have hsz:=(grB_parts hg).2.1
 have HRD:=hDD (fun W' (h:ArgG W' v g) (h2:RdI W' vw ws)=>read_any v vw g 0 ws W' h h2 hf ⟨Int.le_refl _,by omega⟩)
 have HWR:=hDD (walk_read g.2.2 ws 0 (Int.le_refl _))
 obtain⟨s,rfl,hi1,hi2,ha⟩:=h
 obtain⟨A,cap,rfl⟩:=ha.form
 obtain⟨Aw,cw,rfl⟩: ∃A cap,vw= .slice A ws.length cap:=by
  obtain⟨A,cap,hv,_⟩:=hw.arg
  exact⟨A,cap,hv⟩
 obtain⟨g1,N,es⟩:=g
 simp only at*
 clear ha hw hf hg hsz
 obtain⟨t,ht⟩: ∃t,t=walkF es 0 ws:=⟨_,rfl⟩
 rw[←ht] at HWR⊢
 clear ht
 go_enter Tryz.func108,Tryz.ntmps108
 go_wp2_with fail
 obtain⟨W,hW⟩: ∃W,W=w.alloc (Obj.cells #[Value.int IntKind.i64 g1,Value.int IntKind.i64 N, .slice A es.length cap] 26):=⟨_,rfl⟩
 obtain⟨hsW,b1,_⟩:=gboxE hW
 rw[←hW]
 have BX:=hDD b1
 clear hW b1
 refine(HRD.out W (HG.out.below BX.out) (HW.out.below BX.out)).mono ?_
 rintro e w1 ⟨rfl,b1⟩
 have HBF:Hid (Below w.heap.size w w1):=hDD (BX.out.trans (b1.mono (by omega)))
 clear b1
 generalize (readF es 0 ws).1=u at*
 generalize (readF es 0 ws).2=m at*
 generalize ws.length=L at HWR⊢
 by_cases hm:m=L
 ·subst hm
  by_cases hu:u=0
  ·subst hu
   have F:Hid (decide (t=0)=true):=hDD (by
    rcases HWR.out with h | h
    ·exact absurd h.2 (Nat.lt_irrefl _)
    ·simp[←h.2.2])
   go_wp2
   go_ret
   exact⟨ret_bool F.out.symm,HBF.out⟩
  ·have F:Hid (decide (t=0)=false):=hDD (by
    rcases HWR.out with h | h
    ·exact absurd h.2 (Nat.lt_irrefl _)
    ·rw[decide_eq_false_iff_not,←h.2.2];exact hu)
   go_wp2
   go_ret
   exact⟨ret_bool (by rw[F.out];simpa using hu),HBF.out⟩
 ·have hmi: ¬(m:Int)=(L:Int):=by omega
  have F:Hid (decide (t=0)=false):=hDD (by
   rcases HWR.out with h | h
   ·rw[decide_eq_false_iff_not];omega
   ·exact absurd h.2.1 hm)
  clear hm
  go_wp2
  go_ret
  exact⟨ret_bool F.out.symm,HBF.out⟩
set_option maxHeartbeats 1000000 in
theorem containsAll_any (v vl:Value) (g:GrD) (L:List (List Int)) (w:World) (h:ArgG w v g) (hl:RdII w vl L) (hc:coreB g=true) (hn:L.length≤1073741824) (hr: ∀x∈L,x.length≤536870912):
  Calls Tryz.prog 125 #[v,vl] w fun e w'=>e= .returned (.bool (L.all fun x=>decide (walkF g.2.2 0 (redL [] x)=0)))∧Below w.heap.size w w':=by
 have HG:=hDD h
 have HL:=hDD hl
 have HC:=hDD hc
 have HR:=hDD hr
 have HLP:=hDD (fun (vw:Value) (ws:List Int) W' (h:ArgG W' v g) (h2:RdI W' vw ws)=>loops_any v vw g ws W' h h2 (core_foldB hc))
 obtain⟨s,rfl,hi1,hi2,ha⟩:=h
 obtain⟨A,cap,rfl⟩:=ha.form
 obtain⟨Al,cl_,rfl,hcl,hml,_⟩:=hl.form
 unfold maxLen at hml
 obtain⟨g1,N,es⟩:=g
 simp only at*
 clear ha hl hc hr
 obtain⟨p,hp⟩: ∃p:List Int→Bool,p=fun x=>decide (walkF es 0 (redL [] x)=0):=⟨_,rfl⟩
 have HP:=hDD hp
 rw[←hp]
 clear hp
 go_enter Tryz.func125,Tryz.ntmps125
 go_wp2_with fail
 obtain⟨W,hW⟩: ∃W,W=w.alloc (Obj.cells #[Value.int IntKind.i64 g1,Value.int IntKind.i64 N, .slice A es.length cap] 26):=⟨_,rfl⟩
 obtain⟨hsW,b1,hc1⟩:=gboxE hW
 rw[←hW]
 have BX:=hDD b1
 have HCL:=hDD hc1
 clear hW b1 hc1
 have hco:=implIsCore_any _ (g1,N,es) W (HG.out.below BX.out)
 rw[HC.out] at hco
 refine hco.mono ?_
 clear hco
 rintro e w1 ⟨rfl,b1⟩
 have hs1:=b1.size
 have B1:Hid (Below W.heap.size W w1):=hDD b1
 clear b1
 go_wp2
 go_loopw [12] (fun i wr=> ∃k:Nat,k≤L.length∧i= .int .i64 k∧(∀x∈L.take k,p x=true)∧Below W.heap.size W wr) (fun i _=>L.length-(intOf i).toNat)
 case atStart=>exact⟨0,Nat.zero_le _,rfl,fun x hx=>by simp at hx,B1.out⟩
 case round=>
  obtain⟨k,hk,rfl,hall,hb⟩:=hrel
  have HALL:=hDD hall
  have HB:=hDD hb
  obtain⟨wi,rfl⟩: ∃wi:World,wi=wr:=⟨_,rfl⟩
  have hwi:=hb.size
  clear hall hb
  have HBW:Hid (Below w.heap.size w wi):=hDD (BX.out.trans (HB.out.mono (by omega)))
  obtain⟨z0,z1,z2⟩:=HCL.out wi (HB.out.mono (by omega))
  by_cases hlt:k<L.length
  ·obtain⟨b,off,A1,c1,rfl,hbl,hcell,_,_,hrd⟩:=(HL.out.below HBW.out).at hlt
   have HRK:=hDD hrd
   have HRL:=hDD (HR.out L[k] (List.getElem_mem hlt))
   have HPX:Hid (p L[k]=decide (walkF es 0 (redL [] L[k])=0)):=hDD (by rw[HP.out])
   have HTK:Hid (∀x∈L.take (k+1),x∈L.take k∨x=L[k]):=hDD fun x hx=>by
    rw[List.take_succ_eq_append_getElem hlt] at hx
    rcases List.mem_append.1 hx with h | h
    ·exact .inl h
    ·exact .inr (List.mem_singleton.1 h)
   have HNO:Hid (p L[k]=false→L.all p=false):=hDD fun h=>by
    rw[Bool.eq_false_iff]
    intro hc
    have:=List.all_eq_true.1 hc _ (List.getElem_mem hlt)
    rw[h] at this
    cases this
   have HAG:=hDD (HG.out.below HBW.out)
   have hkI:(k:Int)<(L.length:Int):=by omega
   have hww:w.heap.size<wi.heap.size:=by omega
   clear hrd
   generalize L[k]=X at*
   go_wp2_with fail
   go_region_held3 (fun w'=>w'.cell? ⟨w.heap.size,0,none⟩=some (.int .i64 g1)∧w'.cell? ⟨w.heap.size,1,none⟩=some (.int .i64 N)∧w'.cell? ⟨w.heap.size,2,none⟩=some (.slice A es.length cap))
    (first | go_keep | exact⟨s0,s1,s2⟩)
    (first
     | (go_at_call 109;(with_reducible refine(implReduceLetters_any _ X _ (HRK.out.drew) HRL.out).mono ?_);rintro e w3 ⟨r3,rfl,o3,b3⟩;have HB3:=hDD ((Below.refl wi.heap.size wi).drew.trans b3);have O3:=hDD o3.rd;obtain⟨A3,c3,rfl,_⟩:=OwI.form o3;have s0:=(HB3.out.cell (p:=⟨w.heap.size,0,none⟩) hww).trans z0;have s1:=(HB3.out.cell (p:=⟨w.heap.size,1,none⟩) hww).trans z1;have s2:=(HB3.out.cell (p:=⟨w.heap.size,2,none⟩) hww).trans z2;clear o3 b3)
     | (go_at_call 108;(with_reducible refine(HLP.out _ (redL [] X) _ (HAG.out.below HB3.out) O3.out).mono ?_);rintro e w4 ⟨rfl,b4⟩;have HB4:=hDD (HB3.out.trans (b4.mono HB3.out.size));have s0:=(HB4.out.cell (p:=⟨w.heap.size,0,none⟩) hww).trans z0;have s1:=(HB4.out.cell (p:=⟨w.heap.size,1,none⟩) hww).trans z1;have s2:=(HB4.out.cell (p:=⟨w.heap.size,2,none⟩) hww).trans z2;clear b4))
   rw[←HPX.out]
   rcases ep:p X with _ | _
   ·have HN:=hDD (HNO.out ep)
    have HBF:Hid (Below w.heap.size w w4):=hDD (HBW.out.trans (HB4.out.mono (by omega)))
    clear ep
    go_wp2
    go_ret
    exact⟨ret_bool HN.out.symm,HBF.out⟩
   ·have HPT:=hDD ep
    have HBF:Hid (Below W.heap.size W w4):=hDD (HB.out.trans (HB4.out.mono (by omega)))
    clear ep
    go_wp2
    go_roundw
    case rel=>exact⟨k+1,by omega,by go_num,fun x hx=>by
     rcases HTK.out x hx with h | rfl
     ·exact HALL.out x h
     ·exact HPT.out,HBF.out⟩
    case measure=>simp[intOf];omega
  ·obtain rfl:k=L.length:=by omega
   have HT:Hid (L.all p=true):=hDD (List.all_eq_true.2 fun x hx=>HALL.out x (by rw[List.take_length];exact hx))
   go_wp2
   go_ret
   exact⟨ret_bool HT.out.symm,HBW.out⟩
theorem incl_red (a b:GrD) (ha:coreB a=true) (hb:coreB b=true) (hr:a.1=b.1):inclS a b=(basF a).all fun x=>decide (walkF b.2.2 0 (redL [] x)=0):=by
 rw[incl_eq]
 unfold inclI
 rw[ha,hb,decide_eq_true hr]
 simp only[Bool.true_and]
 obtain⟨hg,hf⟩:=foldB_parts (core_foldB ha)
 rw[Bool.eq_iff_iff,List.all_eq_true,List.all_eq_true]
 have key: ∀x∈basF a,redL [] x=x:=fun x hx=>by
  unfold basF at hx
  rw[if_pos ha] at hx
  obtain⟨e,he,rfl⟩:=List.mem_map.1 hx
  have hm:=List.mem_filter.1 he
  have h:=(bas_chain hg hf hm.1 hm.2 (core_all ha (edge_of_gr hg hm.1).1) (core_all ha (edge_of_gr hg hm.1).2.2)).red
  have:=redL_id (acc:= []) (xs:=basW a e) (by simpa using h)
  simpa using this
 constructor
 ·intro H x hx;rw[key x hx];exact H x hx
 ·intro H x hx;have:=H x hx;rw[key x hx] at this;exact this
theorem bas_len (a:GrD):(basF a).length≤120∧ ∀x∈basF a,x.length≤100:=by
 unfold basF
 split
 ·rename_i ha
  obtain⟨hg,hf⟩:=foldB_parts (core_foldB ha)
  have h120:=(grB_parts hg).2.2.1
  refine⟨by rw[List.length_map];exact Nat.le_trans (List.length_filter_le _ _) h120,fun x hx=> ?_⟩
  obtain⟨e,he,rfl⟩:=List.mem_map.1 hx
  have hm:=List.mem_filter.1 he
  have h1:=wd_len hg (core_all ha (edge_of_gr hg hm.1).1)
  have h2:=wd_len hg (core_all ha (edge_of_gr hg hm.1).2.2)
  unfold basW invN
  simp only[List.length_append,List.length_reverse,List.length_map,List.length_singleton]
  omega
 ·exact⟨by simp,fun x hx=>by cases hx⟩
set_option maxHeartbeats 2000000 in
theorem implIsInside_any (va vb:Value) (a b:GrD) (w:World) (ha:ArgG w va a) (hb:ArgG w vb b):
  Calls Tryz.prog 44 #[va,vb] w fun e w'=>e= .returned (.bool (inclS a b))∧Below w.heap.size w w':=by
 have HGA:=hDD ha
 have HGB:=hDD hb
 have HBAS:=hDD (fun W' (h:ArgG W' va a)=>implBasisOf_any va a W' h)
 have HCON:=hDD (fun vl W' (h:ArgG W' vb b) (h2:RdII W' vl (basF a)) hc=>containsAll_any vb vl b (basF a) W' h h2 hc (by have:=(bas_len a).1;omega) (fun x hx=>by have:=(bas_len a).2 x hx;omega))
 have HINC:=hDD (incl_red a b)
 have HCA:=hDD (fun W' (h:ArgG W' va a)=>implIsCore_any va a W' h)
 have HCB:=hDD (fun W' (h:ArgG W' vb b)=>implIsCore_any vb b W' h)
 obtain⟨sa,rfl,hi1,hi2,haa⟩:=ha
 obtain⟨Aa,capa,rfl⟩:=haa.form
 obtain⟨sb,rfl,hi3,hi4,hab⟩:=hb
 obtain⟨Ab,capb,rfl⟩:=hab.form
 clear haa hab
 have HFA:Hid (coreB a=false→inclS a b=false):=hDD fun h=>by unfold inclS;rw[h];rfl
 have HFB:Hid (coreB b=false→inclS a b=false):=hDD fun h=>by unfold inclS;rw[h];simp
 have HFR:Hid (a.1≠b.1→inclS a b=false):=hDD fun h=>by unfold inclS;simp[h]
 obtain⟨a1,a2,es⟩:=a
 obtain⟨b1,b2,fs⟩:=b
 simp only at*
 generalize hRES:inclS (a1,a2,es) (b1,b2,fs)=RES at*
 clear hRES
 obtain⟨CON,hCON⟩: ∃C,C=(basF (a1,a2,es)).all fun x=>decide (walkF fs 0 (redL [] x)=0):=⟨_,rfl⟩
 rw[←hCON] at HCON HINC
 clear hCON
 obtain⟨BS,hBS⟩: ∃B,B=basF (a1,a2,es):=⟨_,rfl⟩
 rw[←hBS] at HBAS HCON
 clear hBS
 go_enter Tryz.func44,Tryz.ntmps44
 go_wp2_with fail
 obtain⟨W1,hW1⟩: ∃W,W=w.alloc (Obj.cells #[Value.int IntKind.i64 a1,Value.int IntKind.i64 a2, .slice Aa es.length capa] 26):=⟨_,rfl⟩
 obtain⟨hs1,bb1,hc1⟩:=gboxE hW1
 rw[←hW1]
 obtain⟨W,hW⟩: ∃W,W=W1.alloc (Obj.cells #[Value.int IntKind.i64 b1,Value.int IntKind.i64 b2, .slice Ab fs.length capb] 26):=⟨_,rfl⟩
 obtain⟨hs2,bb2,hc2⟩:=gboxE hW
 rw[←hW]
 have BX:Hid (Below w.heap.size w W):=hDD (bb1.trans (bb2.mono (by omega)))
 obtain⟨p0,p1,p2⟩:=hc1 W (bb2.mono (by omega))
 obtain⟨q0,q1,q2⟩:=hc2 W ((Below.refl W.heap.size W).mono (by omega))
 rw[hs1] at q0 q1 q2
 have hwA:w.heap.size<W.heap.size:=by omega
 have hwB:w.heap.size+1<W.heap.size:=by omega
 have HAA:=hDD (HGA.out.below BX.out)
 have HAB:=hDD (HGB.out.below BX.out)
 clear hW1 hW hc1 hc2 bb1 bb2 hs1 hs2
 have f0:=BelW.cell p0 hwA
 have f1:=BelW.cell p1 hwA
 have f2:=BelW.cell p2 hwA
 have f3:=BelW.cell q0 hwB
 have f4:=BelW.cell q1 hwB
 have f5:=BelW.cell q2 hwB
 rcases ea:coreB (a1,a2,es) with _ | _
 ·have HF:=hDD (HFA.out ea)
  rw[ea] at HCA
  (refine wp_region_quiet_bel (by kernel_rfl) (by kernel_rfl) ?_;(repeat(go_big_quiet_step (first | (go_at_call 93;with_reducible exact Calls.bel_of (HCA.out _ (HAA.out.below (BelW.h _)))))));refine wpQuiet_nil ?_;intro wq hw';obtain⟨pq,hw''⟩:=hw';have bq:=pq.h;rw[←hw''] at bq;clear hw'' pq)
  have HBF:=hDD (BX.out.trans (bq.mono (by omega)))
  clear bq f0 f1 f2 f3 f4 f5 p0 p1 p2 q0 q1 q2 ea
  go_wp2
  go_ret
  exact⟨ret_bool HF.out.symm,HBF.out⟩
 rw[ea] at HCA
 rcases eb:coreB (b1,b2,fs) with _ | _
 ·have HF:=hDD (HFB.out eb)
  rw[eb] at HCB
  (refine wp_region_quiet_bel (by kernel_rfl) (by kernel_rfl) ?_;(repeat(go_big_quiet_step (first | (go_at_call 93;with_reducible exact Calls.bel_of (HCA.out _ (HAA.out.below (BelW.h _)))) | (go_at_call 93;with_reducible exact Calls.bel_of (HCB.out _ (HAB.out.below (BelW.h _)))))));refine wpQuiet_nil ?_;intro wq hw';obtain⟨pq,hw''⟩:=hw';have bq:=pq.h;rw[←hw''] at bq;clear hw'' pq)
  have HBF:=hDD (BX.out.trans (bq.mono (by omega)))
  clear bq f0 f1 f2 f3 f4 f5 p0 p1 p2 q0 q1 q2 ea eb
  go_wp2
  go_ret
  exact⟨ret_bool HF.out.symm,HBF.out⟩
 rw[eb] at HCB
 by_cases er:a1=b1
 rotate_left
 ·have HF:=hDD (HFR.out er)
  have er':(a1==b1)=false:=by simpa using er
  clear er
  (refine wp_region_quiet_bel (by kernel_rfl) (by kernel_rfl) ?_;(repeat(go_big_quiet_step (first | (go_at_call 93;with_reducible exact Calls.bel_of (HCA.out _ (HAA.out.below (BelW.h _)))) | (go_at_call 93;with_reducible exact Calls.bel_of (HCB.out _ (HAB.out.below (BelW.h _)))))));refine wpQuiet_nil ?_;intro wq hw';obtain⟨pq,hw''⟩:=hw';have bq:=pq.h;rw[←hw''] at bq;clear hw'' pq)
  have HBF:=hDD (BX.out.trans (bq.mono (by omega)))
  clear bq f0 f1 f2 f3 f4 f5 p0 p1 p2 q0 q1 q2 ea eb
  go_wp2
  go_ret
  exact⟨ret_bool HF.out.symm,HBF.out⟩
 have HRES:=hDD (HINC.out ea eb er)
 have HCON2:=hDD (fun vl W' h h2=>HCON.out vl W' h h2 eb)
 subst er
 clear f0 f1 f2 f3 f4 f5 ea eb HCON
 go_region_held3 (fun w'=>w'.cell? ⟨w.heap.size,0,none⟩=some (.int .i64 a1)∧w'.cell? ⟨w.heap.size,1,none⟩=some (.int .i64 a2)∧w'.cell? ⟨w.heap.size,2,none⟩=some (.slice Aa es.length capa)∧w'.cell? ⟨w.heap.size+1,0,none⟩=some (.int .i64 a1)∧w'.cell? ⟨w.heap.size+1,1,none⟩=some (.int .i64 b2)∧w'.cell? ⟨w.heap.size+1,2,none⟩=some (.slice Ab fs.length capb))
  (first | go_keep | exact⟨s0,s1,s2,s3,s4,s5⟩)
  (first
   | (go_at_call 93;(with_reducible refine(HCA.out _ (HAA.out.below (Below.refl _ _).drew)).mono ?_);rintro e w3 ⟨rfl,b3⟩;have HB3:=hDD ((Below.refl W.heap.size W).drew.trans b3);have s0:=(HB3.out.cell (p:=⟨w.heap.size,0,none⟩) hwA).trans p0;have s1:=(HB3.out.cell (p:=⟨w.heap.size,1,none⟩) hwA).trans p1;have s2:=(HB3.out.cell (p:=⟨w.heap.size,2,none⟩) hwA).trans p2;have s3:=(HB3.out.cell (p:=⟨w.heap.size+1,0,none⟩) hwB).trans q0;have s4:=(HB3.out.cell (p:=⟨w.heap.size+1,1,none⟩) hwB).trans q1;have s5:=(HB3.out.cell (p:=⟨w.heap.size+1,2,none⟩) hwB).trans q2;clear b3)
   | (go_at_call 93;(with_reducible refine(HCB.out _ (HAB.out.below HB3.out)).mono ?_);rintro e w4 ⟨rfl,b4⟩;have HB4:=hDD (HB3.out.trans (b4.mono HB3.out.size));have s0:=(HB4.out.cell (p:=⟨w.heap.size,0,none⟩) hwA).trans p0;have s1:=(HB4.out.cell (p:=⟨w.heap.size,1,none⟩) hwA).trans p1;have s2:=(HB4.out.cell (p:=⟨w.heap.size,2,none⟩) hwA).trans p2;have s3:=(HB4.out.cell (p:=⟨w.heap.size+1,0,none⟩) hwB).trans q0;have s4:=(HB4.out.cell (p:=⟨w.heap.size+1,1,none⟩) hwB).trans q1;have s5:=(HB4.out.cell (p:=⟨w.heap.size+1,2,none⟩) hwB).trans q2;clear b4)
   | (go_at_call 126;(with_reducible refine(HBAS.out _ (HAA.out.below HB4.out)).mono ?_);rintro e w5 ⟨r5,rfl,o5,b5⟩;have HB5:=hDD (HB4.out.trans (b5.mono HB4.out.size));have R5:=hDD o5.rd;obtain⟨A5,c5,rfl,_⟩:=OwnL.len o5;have s0:=(HB5.out.cell (p:=⟨w.heap.size,0,none⟩) hwA).trans p0;have s1:=(HB5.out.cell (p:=⟨w.heap.size,1,none⟩) hwA).trans p1;have s2:=(HB5.out.cell (p:=⟨w.heap.size,2,none⟩) hwA).trans p2;have s3:=(HB5.out.cell (p:=⟨w.heap.size+1,0,none⟩) hwB).trans q0;have s4:=(HB5.out.cell (p:=⟨w.heap.size+1,1,none⟩) hwB).trans q1;have s5:=(HB5.out.cell (p:=⟨w.heap.size+1,2,none⟩) hwB).trans q2;clear o5 b5)
   | (go_at_call 125;(with_reducible refine(HCON2.out _ _ (HAB.out.below HB5.out) R5.out).mono ?_);rintro e w6 ⟨rfl,b6⟩;have HB6:=hDD (HB5.out.trans (b6.mono HB5.out.size));have s0:=(HB6.out.cell (p:=⟨w.heap.size,0,none⟩) hwA).trans p0;have s1:=(HB6.out.cell (p:=⟨w.heap.size,1,none⟩) hwA).trans p1;have s2:=(HB6.out.cell (p:=⟨w.heap.size,2,none⟩) hwA).trans p2;have s3:=(HB6.out.cell (p:=⟨w.heap.size+1,0,none⟩) hwB).trans q0;have s4:=(HB6.out.cell (p:=⟨w.heap.size+1,1,none⟩) hwB).trans q1;have s5:=(HB6.out.cell (p:=⟨w.heap.size+1,2,none⟩) hwB).trans q2;clear b6))
 have HBF:=hDD (BX.out.trans (HB6.out.mono (by omega)))
 clear s0 s1 s2 s3 s4 s5 p0 p1 p2 q0 q1 q2
 go_wp2
 go_ret
 exact⟨ret_bool HRES.out.symm,HBF.out⟩
end Go.Proofs.YtnjpoljbagfdnaaGreat
