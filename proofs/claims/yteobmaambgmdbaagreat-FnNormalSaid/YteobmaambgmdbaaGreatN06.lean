/- Parts of the proof: FoldK, Mov, Core, InsI, IdxI, Int, AddS, Sch, AddF. -/
import Derived.Test.YteobmaambgmdbaaGreatN05
import Derived.Test.YteobmaambgmdbaaGreatN02
import Derived.Deep.RegionHeld3
import Derived.Outline
import Derived.Test.YteobmaambgmdbaaGreatN04
import Derived.Test.YteobmaambgmdbaaGreatN03
import Derived.Test.YteobmaambgmdbaaGreatN01
import Derived.Maps.OwnSet
import Derived.Maps.OwnOps
import Derived.WideKeyPair
namespace Go.Proofs.YteobmaambgmdbaaGreat
set_option maxRecDepth 20000
set_option linter.unusedVariables false
set_option linter.unusedSimpArgs false
open Go.RowKit
def sLen:Value→Nat
 | .slice _ n _=>n
 | _=>0
set_option maxHeartbeats 1000000 in
theorem implFoldOnce_any (v:Value) (g:GrD) (w:World) (h:ArgG w v g) (hg:grB g=true):
  Calls Tryz.prog 165 #[v] w fun e w'=> ∃r,e= .returned (.tuple #[r, .agg #[.int .i64 (firF g).1.1, .int .i64 (firF g).1.2], .bool (firF g).2])∧OwG w' w.heap.size r (onceG g)∧Below w.heap.size w w':=by
 have HG:=hDD h
 have HGR:=hDD hg
 have HFK:=hDD fun f (hf:f∈foL g.2.2)=>foL_ok hg hf
 have h120:=(grB_parts hg).2.2.1
 obtain⟨s,rfl,hi1,hi2,ha⟩:=h
 obtain⟨A,cap,rfl⟩:=ha.form
 obtain⟨g1,N,es⟩:=g
 simp only at*
 clear ha hg
 go_enter Tryz.func165,Tryz.ntmps165
 have bx:Below w.heap.size w (((w.alloc (Obj.cells #[Value.int IntKind.i64 g1,Value.int IntKind.i64 N, .slice A es.length cap] 26)).alloc (Obj.cells #[Value.int IntKind.i64 0,Value.int IntKind.i64 0, .slice none 0 0] 26)).alloc (Obj.cells #[Value.int IntKind.i64 0,Value.int IntKind.i64 0] 123)):=(by repeat(first | exact Below.refl _ _ | (refine Below.setCell ?_ (by first | omega | (simp<;>omega)) _) | (refine bel_drewN ?_ _) | (refine Below.drew ?_) | (refine Below.alloc ?_ (by first | omega | (simp<;>omega)) _)))
 go_wp2_with fail
 obtain⟨W,hW⟩: ∃W,W=(((w.alloc (Obj.cells #[Value.int IntKind.i64 g1,Value.int IntKind.i64 N, .slice A es.length cap] 26)).alloc (Obj.cells #[Value.int IntKind.i64 0,Value.int IntKind.i64 0, .slice none 0 0] 26)).alloc (Obj.cells #[Value.int IntKind.i64 0,Value.int IntKind.i64 0] 123)):=⟨_,rfl⟩
 rw[←hW] at bx⊢
 have hsW:W.heap.size=w.heap.size+3:=by rw[hW];simp
 have L0:Hid (W.cell? ⟨w.heap.size,0,none⟩=some (.int .i64 g1)):=hDD (by rw[hW];simp[go_sem])
 have L1:Hid (W.cell? ⟨w.heap.size,1,none⟩=some (.int .i64 N)):=hDD (by rw[hW];simp[go_sem])
 have L2:Hid (W.cell? ⟨w.heap.size,2,none⟩=some (.slice A es.length cap)):=hDD (by rw[hW];simp[go_sem])
 have R0:Hid (W.cell? ⟨w.heap.size+1,0,none⟩=some (.int .i64 0)):=hDD (by rw[hW];simp[go_sem])
 have R1:Hid (W.cell? ⟨w.heap.size+1,1,none⟩=some (.int .i64 0)):=hDD (by rw[hW];simp[go_sem])
 have R2:Hid (W.cell? ⟨w.heap.size+1,2,none⟩=some (.slice none 0 0)):=hDD (by rw[hW];simp[go_sem])
 have S0:Hid (W.cell? ⟨w.heap.size+1+1,0,none⟩=some (.int .i64 0)):=hDD (by rw[hW];simp[go_sem])
 have S1:Hid (W.cell? ⟨w.heap.size+1+1,1,none⟩=some (.int .i64 0)):=hDD (by rw[hW];simp[go_sem])
 have RF:Hid (∀j,W.frozen? ⟨w.heap.size+1,j,none⟩=false):=hDD fun j=>by rw[hW];simp[go_sem]
 have SF:Hid (∀j,W.frozen? ⟨w.heap.size+1+1,j,none⟩=false):=hDD fun j=>by rw[hW];simp[go_sem]
 have BX:=hDD bx
 have HA:Hid (∀w',Below W.heap.size W w'→ArgG w' (.agg #[.int .i64 g1, .int .i64 N, .slice A es.length cap]) (g1,N,es)):=hDD fun w' hb=>HG.out.below (BX.out.trans (hb.mono BX.out.size))
 have HCL:Hid (∀w',Below W.heap.size W w'→w'.cell? ⟨w.heap.size,0,none⟩=some (.int .i64 g1)∧w'.cell? ⟨w.heap.size,1,none⟩=some (.int .i64 N)∧w'.cell? ⟨w.heap.size,2,none⟩=some (.slice A es.length cap)):=hDD fun w' hb=>
  ⟨(hb.cell (p:=⟨w.heap.size,0,none⟩) (by show w.heap.size<_;omega)).trans L0.out,(hb.cell (p:=⟨w.heap.size,1,none⟩) (by show w.heap.size<_;omega)).trans L1.out,(hb.cell (p:=⟨w.heap.size,2,none⟩) (by show w.heap.size<_;omega)).trans L2.out⟩
 have HCR:Hid (∀w',Below W.heap.size W w'→w'.cell? ⟨w.heap.size+1,0,none⟩=some (.int .i64 0)∧w'.cell? ⟨w.heap.size+1,1,none⟩=some (.int .i64 0)∧w'.cell? ⟨w.heap.size+1,2,none⟩=some (.slice none 0 0)∧w'.cell? ⟨w.heap.size+1+1,0,none⟩=some (.int .i64 0)∧w'.cell? ⟨w.heap.size+1+1,1,none⟩=some (.int .i64 0)∧(∀j,w'.frozen? ⟨w.heap.size+1,j,none⟩=false)∧(∀j,w'.frozen? ⟨w.heap.size+1+1,j,none⟩=false)):=hDD fun w' hb=>
  ⟨(hb.cell (p:=⟨w.heap.size+1,0,none⟩) (by show w.heap.size+1<_;omega)).trans R0.out,(hb.cell (p:=⟨w.heap.size+1,1,none⟩) (by show w.heap.size+1<_;omega)).trans R1.out,(hb.cell (p:=⟨w.heap.size+1,2,none⟩) (by show w.heap.size+1<_;omega)).trans R2.out,(hb.cell (p:=⟨w.heap.size+1+1,0,none⟩) (by show w.heap.size+1+1<_;omega)).trans S0.out,(hb.cell (p:=⟨w.heap.size+1+1,1,none⟩) (by show w.heap.size+1+1<_;omega)).trans S1.out,fun j=>(hb.frozen (p:=⟨w.heap.size+1,j,none⟩) (by show w.heap.size+1<_;omega)).trans (RF.out j),fun j=>(hb.frozen (p:=⟨w.heap.size+1+1,j,none⟩) (by show w.heap.size+1+1<_;omega)).trans (SF.out j)⟩
 clear hW bx L0 L1 L2 R0 R1 R2 S0 S1 RF SF
 refine(implFirstFold_any _ (g1,N,es) W (HA.out _ (Below.refl _ _))).mono ?_
 rintro e w1 ⟨rfl,b1⟩
 have B1:=hDD b1
 have hs1:=b1.size
 clear b1
 rcases ef:foL es with _ | ⟨f,l⟩
 ·have F:Hid (firF (g1,N,es)=((0,0),false)):=hDD (by unfold firF;rw[if_pos HGR.out];simp only[ef])
  have FO:Hid (onceG (g1,N,es)=(g1,N,es)):=hDD (by unfold onceG;simp only[ef])
  clear ef
  rw[F.out]
  simp only
  have bA:Below w1.heap.size w1 (w1.alloc (Obj.cells #[Value.int IntKind.i64 0,Value.int IntKind.i64 0] 123)):=(Below.refl _ _).alloc (Nat.le_refl _) _
  have BA:=hDD (B1.out.trans (bA.mono hs1))
  obtain⟨q0,q1,q2⟩:=HCL.out _ BA.out
  go_wp2_with fail
  refine(copyGraph_any _ (g1,N,es) _ (HA.out _ BA.out) (by simp only;omega)).mono ?_
  rintro e w2 ⟨r,rfl,o2,b2⟩
  have B2:=hDD (BA.out.trans (b2.mono BA.out.size))
  have O2:=hDD o2
  obtain⟨s2,rfl,_,_,oe2⟩:=o2
  obtain⟨A2,c2,rfl,_⟩:=oe2.form
  have OE2:=hDD oe2
  have hsA:=BA.out.size
  obtain⟨r0,r1,r2,s0,s1,rf,sf⟩:=HCR.out w2 B2.out
  have rf0:=rf 0
  have rf1:=rf 1
  have rf2:=rf 2
  have sf0:=sf 0
  have sf1:=sf 1
  have HBF:=hDD (BX.out.trans (B2.out.mono BX.out.size))
  clear b2 oe2 rf sf q0 q1 q2 bA
  go_wp2
  obtain⟨c0,c1,c2'⟩:=cells3F (.int .i64 g1) (.int .i64 N) (.slice A2 es.length c2) r0 r1 r2
  have hne1:w.heap.size+1≠w.heap.size+1+1:=by omega
  have hne2:w.heap.size+1+1≠w.heap.size+1:=by omega
  have d0:=setc_other (o':=1) (u:= .int .i64 0) hne1 (setc_other (o':=0) (u:= .int .i64 0) hne1 c0)
  have d1:=setc_other (o':=1) (u:= .int .i64 0) hne1 (setc_other (o':=0) (u:= .int .i64 0) hne1 c1)
  have d2:=setc_other (o':=1) (u:= .int .i64 0) hne1 (setc_other (o':=0) (u:= .int .i64 0) hne1 c2')
  obtain⟨e0,e1⟩:=cells2 (.int .i64 0) (.int .i64 0) (setc_other (o':=2) (u:= .slice A2 es.length c2) hne2 (setc_other (o':=1) (u:= .int .i64 N) hne2 (setc_other (o':=0) (u:= .int .i64 g1) hne2 s0))) (setc_other (o':=2) (u:= .slice A2 es.length c2) hne2 (setc_other (o':=1) (u:= .int .i64 N) hne2 (setc_other (o':=0) (u:= .int .i64 g1) hne2 s1)))
  have bw:Below w.heap.size w (((((w2.setCell ⟨w.heap.size+1,0,none⟩ (.int .i64 g1)).setCell ⟨w.heap.size+1,1,none⟩ (.int .i64 N)).setCell ⟨w.heap.size+1,2,none⟩ (.slice A2 es.length c2)).setCell ⟨w.heap.size+1+1,0,none⟩ (.int .i64 0)).setCell ⟨w.heap.size+1+1,1,none⟩ (.int .i64 0)):=(((((HBF.out.setCell (by simp<;>omega) _).setCell (by simp<;>omega) _).setCell (by simp<;>omega) _).setCell (by simp<;>omega) _).setCell (by simp<;>omega) _)
  have ow:OwE (((((w2.setCell ⟨w.heap.size+1,0,none⟩ (.int .i64 g1)).setCell ⟨w.heap.size+1,1,none⟩ (.int .i64 N)).setCell ⟨w.heap.size+1,2,none⟩ (.slice A2 es.length c2)).setCell ⟨w.heap.size+1+1,0,none⟩ (.int .i64 0)).setCell ⟨w.heap.size+1+1,1,none⟩ (.int .i64 0)) _ (.slice A2 es.length c2) es:=(((((OE2.out.far (by show w.heap.size+1<_;omega) _).far (by show w.heap.size+1<_;omega) _).far (by show w.heap.size+1<_;omega) _).far (by show w.heap.size+1+1<_;omega) _).far (by show w.heap.size+1+1<_;omega) _)
  generalize (((((w2.setCell ⟨w.heap.size+1,0,none⟩ (.int .i64 g1)).setCell ⟨w.heap.size+1,1,none⟩ (.int .i64 N)).setCell ⟨w.heap.size+1,2,none⟩ (.slice A2 es.length c2)).setCell ⟨w.heap.size+1+1,0,none⟩ (.int .i64 0)).setCell ⟨w.heap.size+1+1,1,none⟩ (.int .i64 0))=wf at*
  rw[FO.out,F.out]
  exact bodyPost_ret (v:= .tuple #[.agg #[.int .i64 g1, .int .i64 N, .slice A2 es.length c2], .agg #[.int .i64 0, .int .i64 0], .bool false]) (by simp[results,Tryz.results165,go_sem,d0,d1,d2,e0,e1]) rfl ⟨_,rfl,⟨.slice A2 es.length c2,rfl,hi1,hi2,ow.mono (by omega)⟩,bw⟩
 ·have F:Hid (firF (g1,N,es)=(f,true)):=hDD (by unfold firF;rw[if_pos HGR.out];simp only[ef])
  have FO:Hid (onceG (g1,N,es)=merG (g1,N,es) f):=hDD (by unfold onceG;simp only[ef])
  have hfk:=HFK.out f (by rw[ef];simp)
  clear ef
  rw[F.out]
  obtain⟨fa,fb⟩:=f
  simp only
  have bA:Below w1.heap.size w1 (w1.alloc (Obj.cells #[Value.int IntKind.i64 fa,Value.int IntKind.i64 fb] 123)):=(Below.refl _ _).alloc (Nat.le_refl _) _
  have BA:=hDD (B1.out.trans (bA.mono hs1))
  obtain⟨q0,q1,q2⟩:=HCL.out _ BA.out
  go_wp2_with fail
  obtain⟨WA,hWA⟩: ∃W,W=w1.alloc (Obj.cells #[Value.int IntKind.i64 fa,Value.int IntKind.i64 fb] 123):=⟨_,rfl⟩
  have k0:Hid (WA.cell? ⟨w1.heap.size,0,none⟩=some (.int .i64 fa)):=hDD (by rw[hWA];simp[go_sem])
  have k1:Hid (WA.cell? ⟨w1.heap.size,1,none⟩=some (.int .i64 fb)):=hDD (by rw[hWA];simp[go_sem])
  have hsA:WA.heap.size=w1.heap.size+1:=by rw[hWA];simp
  rw[←hWA] at BA q0 q1 q2⊢
  clear hWA bA
  refine(implMergeVertices_any _ (g1,N,es) (fa,fb) WA (HA.out _ BA.out) HGR.out hfk).mono ?_
  rintro e w2 ⟨r,rfl,o2,b2⟩
  have B2:=hDD (BA.out.trans (b2.mono BA.out.size))
  have hs2:=b2.size
  obtain⟨s2,rfl,hj1,hj2,oe2⟩:=o2
  obtain⟨A2,c2,rfl,_⟩:=oe2.form
  have OE2:=hDD oe2
  have l0:=(b2.cell (p:=⟨w1.heap.size,0,none⟩) (by show w1.heap.size<_;omega)).trans k0.out
  have l1:=(b2.cell (p:=⟨w1.heap.size,1,none⟩) (by show w1.heap.size<_;omega)).trans k1.out
  clear b2 oe2 q0 q1 q2
  generalize hmg:merG (g1,N,es) (fa,fb)=M at*
  obtain⟨m1,m2,ms⟩:=M
  simp only at hj1 hj2
  have HMG:=hDD hmg
  clear hmg
  go_wp2_with fail
  have bB:Below w2.heap.size w2 (w2.alloc (Obj.cells #[Value.int IntKind.i64 m1,Value.int IntKind.i64 m2, .slice A2 ms.length c2] 26)):=(Below.refl _ _).alloc (Nat.le_refl _) _
  obtain⟨WB,hWB⟩: ∃W,W=w2.alloc (Obj.cells #[Value.int IntKind.i64 m1,Value.int IntKind.i64 m2, .slice A2 ms.length c2] 26):=⟨_,rfl⟩
  have x0:WB.cell? ⟨w2.heap.size,0,none⟩=some (.int .i64 m1):=by rw[hWB];simp[go_sem]
  have x1:WB.cell? ⟨w2.heap.size,1,none⟩=some (.int .i64 m2):=by rw[hWB];simp[go_sem]
  have x2:WB.cell? ⟨w2.heap.size,2,none⟩=some (.slice A2 ms.length c2):=by rw[hWB];simp[go_sem]
  have hsB:WB.heap.size=w2.heap.size+1:=by rw[hWB];simp
  rw[←hWB] at bB⊢
  clear hWB
  have y0:=(bB.cell (p:=⟨w1.heap.size,0,none⟩) (by show w1.heap.size<_;omega)).trans l0
  have y1:=(bB.cell (p:=⟨w1.heap.size,1,none⟩) (by show w1.heap.size<_;omega)).trans l1
  have BB:=hDD (B2.out.trans (bB.mono B2.out.size))
  have OEB:=hDD (OE2.out.below bB)
  obtain⟨r0,r1,r2,s0,s1,rf,sf⟩:=HCR.out WB BB.out
  have rf0:=rf 0
  have rf1:=rf 1
  have rf2:=rf 2
  have sf0:=sf 0
  have sf1:=sf 1
  have hne1:w.heap.size+1≠w2.heap.size:=by omega
  have hne2:w.heap.size+1+1≠w2.heap.size:=by omega
  have hne3:w.heap.size+1≠w1.heap.size:=by omega
  have hne4:w.heap.size+1+1≠w1.heap.size:=by omega
  have HBF:=hDD (BX.out.trans (BB.out.mono BX.out.size))
  clear rf sf l0 l1 bB
  go_region_held3 (fun w'=>w'.cell? ⟨w2.heap.size,0,none⟩=some (.int .i64 m1)∧w'.cell? ⟨w2.heap.size,1,none⟩=some (.int .i64 m2)∧w'.cell? ⟨w2.heap.size,2,none⟩=some (.slice A2 ms.length c2)∧w'.cell? ⟨w1.heap.size,0,none⟩=some (.int .i64 fa)∧w'.cell? ⟨w1.heap.size,1,none⟩=some (.int .i64 fb))
   (first | go_keep | (simp[go_sem, *];done))
   (fail)
  go_wp2
  obtain⟨c0,c1,c2'⟩:=cells3F (.int .i64 m1) (.int .i64 m2) (.slice A2 ms.length c2) r0 r1 r2
  have hnf1:w.heap.size+1≠w.heap.size+1+1:=by omega
  have hnf2:w.heap.size+1+1≠w.heap.size+1:=by omega
  have d0:=setc_other (o':=1) (u:= .int .i64 fb) hnf1 (setc_other (o':=0) (u:= .int .i64 fa) hnf1 c0)
  have d1:=setc_other (o':=1) (u:= .int .i64 fb) hnf1 (setc_other (o':=0) (u:= .int .i64 fa) hnf1 c1)
  have d2:=setc_other (o':=1) (u:= .int .i64 fb) hnf1 (setc_other (o':=0) (u:= .int .i64 fa) hnf1 c2')
  obtain⟨e0,e1⟩:=cells2 (.int .i64 fa) (.int .i64 fb) (setc_other (o':=2) (u:= .slice A2 ms.length c2) hnf2 (setc_other (o':=1) (u:= .int .i64 m2) hnf2 (setc_other (o':=0) (u:= .int .i64 m1) hnf2 s0))) (setc_other (o':=2) (u:= .slice A2 ms.length c2) hnf2 (setc_other (o':=1) (u:= .int .i64 m2) hnf2 (setc_other (o':=0) (u:= .int .i64 m1) hnf2 s1)))
  have bw:Below w.heap.size w (((((WB.setCell ⟨w.heap.size+1,0,none⟩ (.int .i64 m1)).setCell ⟨w.heap.size+1,1,none⟩ (.int .i64 m2)).setCell ⟨w.heap.size+1,2,none⟩ (.slice A2 ms.length c2)).setCell ⟨w.heap.size+1+1,0,none⟩ (.int .i64 fa)).setCell ⟨w.heap.size+1+1,1,none⟩ (.int .i64 fb)).drew:=(((((HBF.out.setCell (by simp<;>omega) _).setCell (by simp<;>omega) _).setCell (by simp<;>omega) _).setCell (by simp<;>omega) _).setCell (by simp<;>omega) _).drew
  have ow:OwE (((((WB.setCell ⟨w.heap.size+1,0,none⟩ (.int .i64 m1)).setCell ⟨w.heap.size+1,1,none⟩ (.int .i64 m2)).setCell ⟨w.heap.size+1,2,none⟩ (.slice A2 ms.length c2)).setCell ⟨w.heap.size+1+1,0,none⟩ (.int .i64 fa)).setCell ⟨w.heap.size+1+1,1,none⟩ (.int .i64 fb)).drew _ (.slice A2 ms.length c2) ms:=(((((OEB.out.far (by show w.heap.size+1<_;omega) _).far (by show w.heap.size+1<_;omega) _).far (by show w.heap.size+1<_;omega) _).far (by show w.heap.size+1+1<_;omega) _).far (by show w.heap.size+1+1<_;omega) _).drew
  generalize (((((WB.setCell ⟨w.heap.size+1,0,none⟩ (.int .i64 m1)).setCell ⟨w.heap.size+1,1,none⟩ (.int .i64 m2)).setCell ⟨w.heap.size+1,2,none⟩ (.slice A2 ms.length c2)).setCell ⟨w.heap.size+1+1,0,none⟩ (.int .i64 fa)).setCell ⟨w.heap.size+1+1,1,none⟩ (.int .i64 fb))=wf at*
  have d0':wf.drew.cell? ⟨w.heap.size+1,0,none⟩=some (.int .i64 m1):=d0
  have d1':wf.drew.cell? ⟨w.heap.size+1,1,none⟩=some (.int .i64 m2):=d1
  have d2':wf.drew.cell? ⟨w.heap.size+1,2,none⟩=some (.slice A2 ms.length c2):=d2
  have e0':wf.drew.cell? ⟨w.heap.size+1+1,0,none⟩=some (.int .i64 fa):=e0
  have e1':wf.drew.cell? ⟨w.heap.size+1+1,1,none⟩=some (.int .i64 fb):=e1
  generalize wf.drew=wg at*
  rw[FO.out,F.out]
  exact bodyPost_ret (v:= .tuple #[.agg #[.int .i64 m1, .int .i64 m2, .slice A2 ms.length c2], .agg #[.int .i64 fa, .int .i64 fb], .bool true]) (by simp[results,Tryz.results165,go_sem,d0',d1',d2',e0',e1']) rfl ⟨_,rfl,⟨.slice A2 ms.length c2,rfl,hj1,hj2,ow.mono (by omega)⟩,bw⟩
set_option maxHeartbeats 4000000 in
theorem implFoldAll_any (v:Value) (g:GrD) (w:World) (h:ArgG w v g) (hg:grB g=true):
  Calls Tryz.prog 155 #[v] w fun e w'=> ∃r o,e= .returned (.tuple #[r,o])∧OwG w' w.heap.size r (folA g)∧Below w.heap.size w w':=by
 have HG:=hDD h
 have HGR:=hDD hg
 obtain⟨h13,h40,h120,_⟩:=grB_parts hg
 obtain⟨s,rfl,hi1,hi2,ha⟩:=h
 obtain⟨A,cap,rfl⟩:=ha.form
 obtain⟨g1,N,es⟩:=g
 simp only at*
 clear ha hg
 go_enter Tryz.func155,Tryz.ntmps155
 have bx:Below w.heap.size w ((w.alloc (Obj.cells #[Value.int IntKind.i64 g1,Value.int IntKind.i64 N, .slice A es.length cap] 26)).alloc (Obj.cells #[Value.int IntKind.i64 0,Value.int IntKind.i64 0, .slice none 0 0] 26)):=(by repeat(first | exact Below.refl _ _ | (refine Below.setCell ?_ (by first | omega | (simp<;>omega)) _) | (refine bel_drewN ?_ _) | (refine Below.drew ?_) | (refine Below.alloc ?_ (by first | omega | (simp<;>omega)) _)))
 go_wp2_with fail
 obtain⟨W,hW⟩: ∃W,W=((w.alloc (Obj.cells #[Value.int IntKind.i64 g1,Value.int IntKind.i64 N, .slice A es.length cap] 26)).alloc (Obj.cells #[Value.int IntKind.i64 0,Value.int IntKind.i64 0, .slice none 0 0] 26)):=⟨_,rfl⟩
 rw[←hW] at bx⊢
 have hsW:W.heap.size=w.heap.size+2:=by rw[hW];simp
 have R0:Hid (W.cell? ⟨w.heap.size+1,0,none⟩=some (.int .i64 0)):=hDD (by rw[hW];simp[go_sem])
 have R1:Hid (W.cell? ⟨w.heap.size+1,1,none⟩=some (.int .i64 0)):=hDD (by rw[hW];simp[go_sem])
 have R2:Hid (W.cell? ⟨w.heap.size+1,2,none⟩=some (.slice none 0 0)):=hDD (by rw[hW];simp[go_sem])
 have RF:Hid (∀j,W.frozen? ⟨w.heap.size+1,j,none⟩=false):=hDD fun j=>by rw[hW];simp[go_sem]
 have BX:=hDD bx
 clear hW bx
 refine(copyGraph_any _ (g1,N,es) W (HG.out.below BX.out) (by simp only;omega)).mono ?_
 rintro e w1 ⟨r,rfl,o1,b1⟩
 have B1:=hDD b1
 have hs1:=b1.size
 obtain⟨s1,rfl,_,_,oe1⟩:=o1
 obtain⟨A1,c1,rfl,_⟩:=oe1.form
 simp only at*
 have OE1:=hDD oe1
 clear b1 oe1
 have HOU:Hid (OwFo ((w1.alloc (Obj.cells #[Value.int IntKind.i64 g1,Value.int IntKind.i64 N, .slice A1 es.length c1] 26)).alloc (.cells #[] 123)) (w1.heap.size+1) (.slice (some ⟨w1.heap.size+1,0,none⟩) 0 0) []):=hDD (by
  have:=OwFo_lit (base:=w1.heap.size+1) (w1.alloc (Obj.cells #[Value.int IntKind.i64 g1,Value.int IntKind.i64 N, .slice A1 es.length c1] 26)) (by simp)
  simpa using this)
 have bX:Below w1.heap.size w1 ((w1.alloc (Obj.cells #[Value.int IntKind.i64 g1,Value.int IntKind.i64 N, .slice A1 es.length c1] 26)).alloc (.cells #[] 123)):=(by repeat(first | exact Below.refl _ _ | (refine Below.setCell ?_ (by first | omega | (simp<;>omega)) _) | (refine bel_drewN ?_ _) | (refine Below.drew ?_) | (refine Below.alloc ?_ (by first | omega | (simp<;>omega)) _)))
 go_wp2
 obtain⟨W2,hW2⟩: ∃W,W=(w1.alloc (Obj.cells #[Value.int IntKind.i64 g1,Value.int IntKind.i64 N, .slice A1 es.length c1] 26)).alloc (.cells #[] 123):=⟨_,rfl⟩
 rw[←hW2] at bX HOU⊢
 have hsW2:W2.heap.size=w1.heap.size+2:=by rw[hW2];simp
 have X0:Hid (W2.cell? ⟨w1.heap.size,0,none⟩=some (.int .i64 g1)):=hDD (by rw[hW2];simp[go_sem])
 have X1:Hid (W2.cell? ⟨w1.heap.size,1,none⟩=some (.int .i64 N)):=hDD (by rw[hW2];simp[go_sem])
 have X2:Hid (W2.cell? ⟨w1.heap.size,2,none⟩=some (.slice A1 es.length c1)):=hDD (by rw[hW2];simp[go_sem])
 have XF:Hid (∀j,W2.frozen? ⟨w1.heap.size,j,none⟩=false):=hDD fun j=>by rw[hW2];simp[go_sem]
 have BX2:=hDD bX
 have OEX:Hid (OwE W2 (w.heap.size+2) (.slice A1 es.length c1) es):=hDD ((OE1.out.below bX).mono (by omega))
 have HNX:Hid (∀b,(Value.slice A1 es.length c1).ownBlock=some b→b≠w1.heap.size):=hDD fun b hb=>by have:=(OE1.out.1.lt b hb).2;omega
 clear hW2 bX OE1
 go_loopw [5] (fun out wr=> ∃(k:Nat) (gk:GrD) (A2:Option Addr) (c2:Nat) (lo:List FoD),k≤40∧(∃Ao co,out= .slice Ao lo.length co)∧lo.length=k∧grB gk=true∧folA gk=folA (g1,N,es)∧gk.2.1+k≤N∧wr.cell? ⟨w1.heap.size,0,none⟩=some (.int .i64 gk.1)∧wr.cell? ⟨w1.heap.size,1,none⟩=some (.int .i64 gk.2.1)∧wr.cell? ⟨w1.heap.size,2,none⟩=some (.slice A2 gk.2.2.length c2)∧
   (∀j,wr.frozen? ⟨w1.heap.size,j,none⟩=false)∧OwE wr (w.heap.size+2) (.slice A2 gk.2.2.length c2) gk.2.2∧(∀b,(Value.slice A2 gk.2.2.length c2).ownBlock=some b→b≠w1.heap.size)∧OwFo wr (w1.heap.size+1) out lo∧Below w1.heap.size w1 wr∧w1.heap.size<wr.heap.size) (fun o _=>40-sLen o)
 case atStart=>exact⟨0,(g1,N,es),A1,c1,[],Nat.zero_le _,⟨_,_,rfl⟩,rfl,HGR.out,rfl,by simp,X0.out,X1.out,X2.out,XF.out,OEX.out,HNX.out,HOU.out,BX2.out,by omega⟩
 case round=>
  obtain⟨k,gk,A2,c2,lo,hk,⟨Ao,co,rfl⟩,hlo,hgk,hfa,hsz,hx0,hx1,hx2,hxf,hoe,hnx,hof,hbr,hxr⟩:=hrel
  obtain⟨k13,k40,k120,_⟩:=grB_parts hgk
  have HGK:=hDD hgk
  have HFA:=hDD hfa
  have HOE:=hDD hoe
  have HNX2:=hDD hnx
  have HOF:=hDD hof
  have HBR:=hDD hbr
  have B4:=hDD (B1.out.trans (hbr.mono hs1))
  have HAK:Hid (ArgG wr (.agg #[.int .i64 gk.1, .int .i64 gk.2.1, .slice A2 gk.2.2.length c2]) gk):=hDD ⟨_,rfl,(by unfold I64;omega),(by unfold I64;omega),hoe.arg⟩
  obtain⟨wk,rfl⟩: ∃wk:World,wk=wr:=⟨_,rfl⟩
  clear hgk hfa hoe hnx hof hbr
  have hk40:k<40:=by omega
  go_wp2_with fail
  refine(implFoldOnce_any _ gk wk HAK.out HGK.out).mono ?_
  rintro e w5 ⟨r,rfl,o5,b5⟩
  have hs5:=b5.size
  have B5:=hDD (HBR.out.trans (b5.mono (by omega)))
  have z0:=(b5.cell (p:=⟨w1.heap.size,0,none⟩) hxr).trans hx0
  have z1:=(b5.cell (p:=⟨w1.heap.size,1,none⟩) hxr).trans hx1
  have z2:=(b5.cell (p:=⟨w1.heap.size,2,none⟩) hxr).trans hx2
  have ZF:Hid (∀j,w5.frozen? ⟨w1.heap.size,j,none⟩=false):=hDD fun j=>(b5.frozen (p:=⟨w1.heap.size,j,none⟩) hxr).trans (hxf j)
  have HOE5:=hDD (HOE.out.below b5)
  have HOF5:=hDD (HOF.out.below b5)
  clear hx0 hx1 hx2 hxf b5
  rcases ef:foL gk.2.2 with _ | ⟨f,l⟩
  ·have F:Hid (firF gk=((0,0),false)):=hDD (by unfold firF;rw[if_pos HGK.out];simp only[ef])
   have FO:Hid (onceG gk=gk):=hDD (by unfold onceG;simp only[ef])
   have FAG:Hid (folA (g1,N,es)=gk):=hDD (by rw[←HFA.out];exact folA_nil ef)
   clear ef
   rw[FO.out] at o5
   rw[F.out]
   simp only
   obtain⟨s5,rfl,hj1,hj2,oe5⟩:=o5
   obtain⟨A5,c5,rfl,_⟩:=oe5.form
   have bY:Below w5.heap.size w5 ((w5.alloc (Obj.cells #[Value.int IntKind.i64 gk.1,Value.int IntKind.i64 gk.2.1, .slice A5 gk.2.2.length c5] 26)).alloc (Obj.cells #[Value.int IntKind.i64 0,Value.int IntKind.i64 0] 123)):=(by repeat(first | exact Below.refl _ _ | (refine Below.setCell ?_ (by first | omega | (simp<;>omega)) _) | (refine bel_drewN ?_ _) | (refine Below.drew ?_) | (refine Below.alloc ?_ (by first | omega | (simp<;>omega)) _)))
   obtain⟨WY,hWY⟩: ∃W,W=(w5.alloc (Obj.cells #[Value.int IntKind.i64 gk.1,Value.int IntKind.i64 gk.2.1, .slice A5 gk.2.2.length c5] 26)).alloc (Obj.cells #[Value.int IntKind.i64 0,Value.int IntKind.i64 0] 123):=⟨_,rfl⟩
   rw[←hWY] at bY
   have BY:=hDD (B5.out.trans (bY.mono (by omega)))
   have BYW:=hDD (B1.out.trans (BY.out.mono hs1))
   have y0:=(bY.cell (p:=⟨w1.heap.size,0,none⟩) (by show w1.heap.size<_;omega)).trans z0
   have y1:=(bY.cell (p:=⟨w1.heap.size,1,none⟩) (by show w1.heap.size<_;omega)).trans z1
   have y2:=(bY.cell (p:=⟨w1.heap.size,2,none⟩) (by show w1.heap.size<_;omega)).trans z2
   have r0:=(BYW.out.cell (p:=⟨w.heap.size+1,0,none⟩) (by show w.heap.size+1<_;omega)).trans R0.out
   have r1:=(BYW.out.cell (p:=⟨w.heap.size+1,1,none⟩) (by show w.heap.size+1<_;omega)).trans R1.out
   have r2:=(BYW.out.cell (p:=⟨w.heap.size+1,2,none⟩) (by show w.heap.size+1<_;omega)).trans R2.out
   have rf0:=(BYW.out.frozen (p:=⟨w.heap.size+1,0,none⟩) (by show w.heap.size+1<_;omega)).trans (RF.out 0)
   have rf1:=(BYW.out.frozen (p:=⟨w.heap.size+1,1,none⟩) (by show w.heap.size+1<_;omega)).trans (RF.out 1)
   have rf2:=(BYW.out.frozen (p:=⟨w.heap.size+1,2,none⟩) (by show w.heap.size+1<_;omega)).trans (RF.out 2)
   have hne1:w.heap.size+1≠w1.heap.size:=by omega
   have HBF:=hDD (BX.out.trans (BYW.out.mono BX.out.size))
   have OEY:=hDD (HOE5.out.below bY)
   rw[hWY] at y0 y1 y2 r0 r1 r2 rf0 rf1 rf2
   clear z0 z1 z2 oe5 bY
   go_wp2
   rw[←hWY] at y0 y1 y2 r0 r1 r2 rf0 rf1 rf2⊢
   obtain⟨e0,e1,e2⟩:=cells3F (.int .i64 gk.1) (.int .i64 gk.2.1) (.slice A2 gk.2.2.length c2) r0 r1 r2
   have bw:Below w.heap.size w (((WY.setCell ⟨w.heap.size+1,0,none⟩ (.int .i64 gk.1)).setCell ⟨w.heap.size+1,1,none⟩ (.int .i64 gk.2.1)).setCell ⟨w.heap.size+1,2,none⟩ (.slice A2 gk.2.2.length c2)):=(((HBF.out.setCell (by simp<;>omega) _).setCell (by simp<;>omega) _).setCell (by simp<;>omega) _)
   have ow:OwE (((WY.setCell ⟨w.heap.size+1,0,none⟩ (.int .i64 gk.1)).setCell ⟨w.heap.size+1,1,none⟩ (.int .i64 gk.2.1)).setCell ⟨w.heap.size+1,2,none⟩ (.slice A2 gk.2.2.length c2)) (w.heap.size+2) (.slice A2 gk.2.2.length c2) gk.2.2:=((OEY.out.far (by show w.heap.size+1<_;omega) _).far (by show w.heap.size+1<_;omega) _).far (by show w.heap.size+1<_;omega) _
   generalize (((WY.setCell ⟨w.heap.size+1,0,none⟩ (.int .i64 gk.1)).setCell ⟨w.heap.size+1,1,none⟩ (.int .i64 gk.2.1)).setCell ⟨w.heap.size+1,2,none⟩ (.slice A2 gk.2.2.length c2))=wf at*
   rw[FAG.out]
   exact bodyPost_ret (v:= .tuple #[.agg #[.int .i64 gk.1, .int .i64 gk.2.1, .slice A2 gk.2.2.length c2], .slice Ao lo.length co]) (by simp[results,Tryz.results155,go_sem,e0,e1,e2]) rfl ⟨_,_,rfl,⟨.slice A2 gk.2.2.length c2,rfl,hj1,hj2,ow.mono (by omega)⟩,bw⟩
  ·have F:Hid (firF gk=(f,true)):=hDD (by unfold firF;rw[if_pos HGK.out];simp only[ef])
   have FO:Hid (onceG gk=merG gk f):=hDD (by unfold onceG;simp only[ef])
   have hfk:=foL_ok HGK.out (f:=f) (by rw[ef];simp)
   have HGM:=hDD (grB_merG HGK.out hfk)
   have HFM:=hDD ((once_folA HGK.out ef).trans HFA.out)
   have hm2:(merG gk f).2.1=gk.2.1-1:=rfl
   clear ef
   rw[FO.out] at o5
   rw[F.out]
   obtain⟨fa,fb⟩:=f
   simp only
   generalize merG gk (fa,fb)=M at*
   obtain⟨m1,m2,ms⟩:=M
   simp only at hm2
   obtain⟨s5,rfl,hj1,hj2,oe5⟩:=o5
   obtain⟨A5,c5,rfl,_⟩:=oe5.form
   simp only at hj1 hj2 oe5
   have HM2:=hDD hm2
   clear hm2
   have bY:Below w5.heap.size w5 ((w5.alloc (Obj.cells #[Value.int IntKind.i64 m1,Value.int IntKind.i64 m2, .slice A5 ms.length c5] 26)).alloc (Obj.cells #[Value.int IntKind.i64 fa,Value.int IntKind.i64 fb] 123)):=(by repeat(first | exact Below.refl _ _ | (refine Below.setCell ?_ (by first | omega | (simp<;>omega)) _) | (refine bel_drewN ?_ _) | (refine Below.drew ?_) | (refine Below.alloc ?_ (by first | omega | (simp<;>omega)) _)))
   obtain⟨WY,hWY⟩: ∃W,W=(w5.alloc (Obj.cells #[Value.int IntKind.i64 m1,Value.int IntKind.i64 m2, .slice A5 ms.length c5] 26)).alloc (Obj.cells #[Value.int IntKind.i64 fa,Value.int IntKind.i64 fb] 123):=⟨_,rfl⟩
   have a0:WY.cell? ⟨w5.heap.size,0,none⟩=some (.int .i64 m1):=by rw[hWY];simp[go_sem]
   have a1:WY.cell? ⟨w5.heap.size,1,none⟩=some (.int .i64 m2):=by rw[hWY];simp[go_sem]
   have a2:WY.cell? ⟨w5.heap.size,2,none⟩=some (.slice A5 ms.length c5):=by rw[hWY];simp[go_sem]
   have a3:WY.cell? ⟨w5.heap.size+1,0,none⟩=some (.int .i64 fa):=by rw[hWY];simp[go_sem]
   have a4:WY.cell? ⟨w5.heap.size+1,1,none⟩=some (.int .i64 fb):=by rw[hWY];simp[go_sem]
   have hsY:WY.heap.size=w5.heap.size+2:=by rw[hWY];simp
   rw[←hWY] at bY
   have BY:=hDD (B5.out.trans (bY.mono (by omega)))
   have y0:=(bY.cell (p:=⟨w1.heap.size,0,none⟩) (by show w1.heap.size<_;omega)).trans z0
   have y1:=(bY.cell (p:=⟨w1.heap.size,1,none⟩) (by show w1.heap.size<_;omega)).trans z1
   have y2:=(bY.cell (p:=⟨w1.heap.size,2,none⟩) (by show w1.heap.size<_;omega)).trans z2
   have YF:Hid (∀j,WY.frozen? ⟨w1.heap.size,j,none⟩=false):=hDD fun j=>(bY.frozen (p:=⟨w1.heap.size,j,none⟩) (by show w1.heap.size<_;omega)).trans (ZF.out j)
   have yf0:=YF.out 0
   have yf1:=YF.out 1
   have yf2:=YF.out 2
   have OEM:=hDD (oe5.below bY)
   have OFY:=hDD (HOF5.out.below bY)
   obtain⟨e0,e1,e2⟩:=cells3F (.int .i64 m1) (.int .i64 m2) (.slice A5 ms.length c5) y0 y1 y2
   have e3:=setc_other (b':=w1.heap.size) (o':=2) (u:= .slice A5 ms.length c5) (show w5.heap.size+1≠w1.heap.size by omega) (setc_other (b':=w1.heap.size) (o':=1) (u:= .int .i64 m2) (show w5.heap.size+1≠w1.heap.size by omega) (setc_other (b':=w1.heap.size) (o':=0) (u:= .int .i64 m1) (show w5.heap.size+1≠w1.heap.size by omega) a3))
   have e4:=setc_other (b':=w1.heap.size) (o':=2) (u:= .slice A5 ms.length c5) (show w5.heap.size+1≠w1.heap.size by omega) (setc_other (b':=w1.heap.size) (o':=1) (u:= .int .i64 m2) (show w5.heap.size+1≠w1.heap.size by omega) (setc_other (b':=w1.heap.size) (o':=0) (u:= .int .i64 m1) (show w5.heap.size+1≠w1.heap.size by omega) a4))
   have BS:Hid (Below w1.heap.size w1 (((WY.setCell ⟨w1.heap.size,0,none⟩ (.int .i64 m1)).setCell ⟨w1.heap.size,1,none⟩ (.int .i64 m2)).setCell ⟨w1.heap.size,2,none⟩ (.slice A5 ms.length c5))):=hDD (((BY.out.setCell (Nat.le_refl _) _).setCell (Nat.le_refl _) _).setCell (Nat.le_refl _) _)
   have OES:Hid (OwE (((WY.setCell ⟨w1.heap.size,0,none⟩ (.int .i64 m1)).setCell ⟨w1.heap.size,1,none⟩ (.int .i64 m2)).setCell ⟨w1.heap.size,2,none⟩ (.slice A5 ms.length c5)) wk.heap.size (.slice A5 ms.length c5) ms):=hDD (((OEM.out.far (by show w1.heap.size<_;omega) _).far (by show w1.heap.size<_;omega) _).far (by show w1.heap.size<_;omega) _)
   have OFS:Hid (OwFo (((WY.setCell ⟨w1.heap.size,0,none⟩ (.int .i64 m1)).setCell ⟨w1.heap.size,1,none⟩ (.int .i64 m2)).setCell ⟨w1.heap.size,2,none⟩ (.slice A5 ms.length c5)) (w1.heap.size+1) (.slice Ao lo.length co) lo):=hDD (ownsRow_setCell_below (ownsRow_setCell_below (ownsRow_setCell_below OFY.out (by show w1.heap.size<_;omega) _) (by show w1.heap.size<_;omega) _) (by show w1.heap.size<_;omega) _)
   have ESF:Hid (∀j,((((WY.setCell ⟨w1.heap.size,0,none⟩ (.int .i64 m1)).setCell ⟨w1.heap.size,1,none⟩ (.int .i64 m2)).setCell ⟨w1.heap.size,2,none⟩ (.slice A5 ms.length c5))).frozen? ⟨w1.heap.size,j,none⟩=false):=hDD fun j=>by rw[World.frozen?_setCell,World.frozen?_setCell,World.frozen?_setCell];exact YF.out j
   have hsS:((((WY.setCell ⟨w1.heap.size,0,none⟩ (.int .i64 m1)).setCell ⟨w1.heap.size,1,none⟩ (.int .i64 m2)).setCell ⟨w1.heap.size,2,none⟩ (.slice A5 ms.length c5))).heap.size=WY.heap.size:=by simp
   clear z0 z1 z2 oe5 bY
   have E0:=hDD e0
   have E1:=hDD e1
   have E2:=hDD e2
   have E3:=hDD e3
   have E4:=hDD e4
   have HSS:=hDD hsS
   clear e0 e1 e2 a3 a4 hsS
   rw[hWY] at y0 y1 y2 yf0 yf1 yf2 a0 a1 a2 e3 e4
   have HWY:=hDD hWY
   clear hWY
   have hw5x:w1.heap.size≠w5.heap.size:=by omega
   have hw5y:w1.heap.size≠w5.heap.size+1:=by omega
   go_wp2_with (at_builtin;rw[←HWY.out];refine push_fold rfl (.tmp 23) (.tmp 25) rfl (w1.heap.size+1) _ lo (OFS.out.alloc _) rfl _ (fa,fb) rfl (fo_litN _ _ (by simp<;>omega) _ _ _) (by omega) (by simp<;>omega) ?_;intro v6 w6 o6 g6 p6;have O6:=hDD o6;have G6:=hDD g6;clear o6 g6 p6)
   have e0:=E0.out
   have e1:=E1.out
   have e2:=E2.out
   have bL:Below ((((WY.setCell ⟨w1.heap.size,0,none⟩ (.int .i64 m1)).setCell ⟨w1.heap.size,1,none⟩ (.int .i64 m2)).setCell ⟨w1.heap.size,2,none⟩ (.slice A5 ms.length c5))).heap.size (((WY.setCell ⟨w1.heap.size,0,none⟩ (.int .i64 m1)).setCell ⟨w1.heap.size,1,none⟩ (.int .i64 m2)).setCell ⟨w1.heap.size,2,none⟩ (.slice A5 ms.length c5)) ((((WY.setCell ⟨w1.heap.size,0,none⟩ (.int .i64 m1)).setCell ⟨w1.heap.size,1,none⟩ (.int .i64 m2)).setCell ⟨w1.heap.size,2,none⟩ (.slice A5 ms.length c5)).alloc (Obj.cells #[Value.int IntKind.i64 fa,Value.int IntKind.i64 fb] 123)):=(Below.refl _ _).alloc (Nat.le_refl _) _
   have hxL:w1.heap.size<((((WY.setCell ⟨w1.heap.size,0,none⟩ (.int .i64 m1)).setCell ⟨w1.heap.size,1,none⟩ (.int .i64 m2)).setCell ⟨w1.heap.size,2,none⟩ (.slice A5 ms.length c5))).heap.size:=by simp<;>omega
   have hxG:w1.heap.size<((((WY.setCell ⟨w1.heap.size,0,none⟩ (.int .i64 m1)).setCell ⟨w1.heap.size,1,none⟩ (.int .i64 m2)).setCell ⟨w1.heap.size,2,none⟩ (.slice A5 ms.length c5)).alloc (Obj.cells #[Value.int IntKind.i64 fa,Value.int IntKind.i64 fb] 123)).heap.size:=by simp<;>omega
   have hGO: ∀c,(Value.slice Ao lo.length co).ownBlock=some c→w1.heap.size+1≤c∧c<wk.heap.size:=fun c hc=>HOF.out.lt c hc
   have n0:=(grown_cellF (o:=0) G6.out hxG (fun c hc=>by have:=(hGO c hc).1;omega)).trans ((bL.cell (p:=⟨w1.heap.size,0,none⟩) hxL).trans e0)
   have n1:=(grown_cellF (o:=1) G6.out hxG (fun c hc=>by have:=(hGO c hc).1;omega)).trans ((bL.cell (p:=⟨w1.heap.size,1,none⟩) hxL).trans e1)
   have n2:=(grown_cellF (o:=2) G6.out hxG (fun c hc=>by have:=(hGO c hc).1;omega)).trans ((bL.cell (p:=⟨w1.heap.size,2,none⟩) hxL).trans e2)
   have nf: ∀j,w6.frozen? ⟨w1.heap.size,j,none⟩=false:=fun j=>(World.frozen?_of_block (G6.out.block w1.heap.size hxG fun e=>by have:=(hGO w1.heap.size e.symm).1;omega)).trans ((bL.frozen (p:=⟨w1.heap.size,j,none⟩) hxL).trans (ESF.out j))
   have NE:Hid (OwE w6 (w.heap.size+2) (.slice A5 ms.length c5) ms):=hDD (OwE.mono (OwE.keep OES.out fun b hb=>by
    have hb2:=OES.out.1.lt b hb
    exact(G6.out.block b (by have:=bL.size;omega) fun e=>by have:=(hGO b e.symm).2;omega).trans (bL.block b hb2.2)) (by omega))
   have NX:Hid (∀b,(Value.slice A5 ms.length c5).ownBlock=some b→b≠w1.heap.size):=hDD fun b hb=>by have:=(OES.out.1.lt b hb).1;omega
   have NB:Hid (Below w1.heap.size w1 w6):=hDD ((BS.out.trans (bL.mono (by omega))).grown G6.out (by omega) (fun c hc=>by have:=(hGO c hc).1;omega))
   have hs6:=G6.out.size
   have O6F:Hid (∃Ao co,v6= .slice Ao (lo++ [(fa,fb)]).length co):=hDD (by obtain⟨Ao',co',h,_⟩:=O6.out.form;exact⟨Ao',co',h⟩)
   go_roundw
   case rel=>exact⟨k+1,(m1,m2,ms),A5,c5,lo++ [(fa,fb)],by omega,O6F.out,by rw[List.length_append];simp only[List.length_singleton];omega,HGM.out,HFM.out,by have:=HM2.out;simp only;omega,n0,n1,n2,nf,NE.out,NX.out,O6.out,NB.out,by omega⟩
   case measure=>
    obtain⟨Ao',co',h⟩:=O6F.out
    rw[h]
    show 40-(lo++ [(fa,fb)]).length<40-lo.length
    rw[List.length_append]
    simp only[List.length_singleton]
    omega
set_option maxHeartbeats 1000000 in
theorem implCoreGraph_any (v:Value) (g:GrD) (w:World) (h:ArgG w v g) (hg:grB g=true):
  Calls Tryz.prog 131 #[v] w fun e w'=> ∃r,e= .returned r∧OwG w' w.heap.size r (coreG g)∧Below w.heap.size w w':=by
 have HG:=hDD h
 have HFA:=hDD (folA_ok hg)
 have HFB:=hDD (foldB_parts HFA.out).1
 have HTB:=hDD (trimG_fold HFA.out)
 have HCG:Hid (coreG g=canG (trimG (folA g)).1):=hDD rfl
 have HFO:=hDD (fun W h=>implFoldAll_any v g W h hg)
 have HTR:=hDD (fun u W h=>(trimGraph_any u (folA g) W h HFB.out).mono (R':=fun e w'=> ∃r o,e= .returned (.tuple #[r,o])∧OwG w' W.heap.size r (trimG (folA g)).1∧Below W.heap.size W w') fun e w' ⟨r,l,h1,h2,_,h4⟩=>⟨r,l,h1,h2,h4⟩)
 have HCA:=hDD (fun u W h=>canonicalGraph_any u (trimG (folA g)).1 W h HTB.out)
 generalize canG (trimG (folA g)).1=CG at*
 generalize (trimG (folA g)).1=TG at*
 generalize folA g=FG at*
 obtain⟨s,rfl,hi1,hi2,ha⟩:=h
 obtain⟨A,cap,rfl⟩:=ha.form
 obtain⟨g1,N,es⟩:=g
 simp only at*
 clear ha hg
 go_enter Tryz.func131,Tryz.ntmps131
 have bx:Below w.heap.size w ((w.alloc (Obj.cells #[Value.int IntKind.i64 g1,Value.int IntKind.i64 N, .slice A es.length cap] 26)).alloc (Obj.cells #[Value.int IntKind.i64 0,Value.int IntKind.i64 0, .slice none 0 0] 26)):=(by repeat(first | exact Below.refl _ _ | (refine Below.setCell ?_ (by first | omega | (simp<;>omega)) _) | (refine bel_drewN ?_ _) | (refine Below.drew ?_) | (refine Below.alloc ?_ (by first | omega | (simp<;>omega)) _)))
 go_wp2_with fail
 obtain⟨W,hW⟩: ∃W,W=((w.alloc (Obj.cells #[Value.int IntKind.i64 g1,Value.int IntKind.i64 N, .slice A es.length cap] 26)).alloc (Obj.cells #[Value.int IntKind.i64 0,Value.int IntKind.i64 0, .slice none 0 0] 26)):=⟨_,rfl⟩
 rw[←hW] at bx⊢
 have hsW:W.heap.size=w.heap.size+2:=by rw[hW];simp
 have R0:Hid (W.cell? ⟨w.heap.size+1,0,none⟩=some (.int .i64 0)):=hDD (by rw[hW];simp[go_sem])
 have R1:Hid (W.cell? ⟨w.heap.size+1,1,none⟩=some (.int .i64 0)):=hDD (by rw[hW];simp[go_sem])
 have R2:Hid (W.cell? ⟨w.heap.size+1,2,none⟩=some (.slice none 0 0)):=hDD (by rw[hW];simp[go_sem])
 have RF:Hid (∀j,W.frozen? ⟨w.heap.size+1,j,none⟩=false):=hDD fun j=>by rw[hW];simp[go_sem]
 have BX:=hDD bx
 clear hW bx
 refine(HFO.out W (HG.out.below BX.out)).mono ?_
 rintro e w1 ⟨r,o,rfl,o1,b1⟩
 have B1:=hDD b1
 have hs1:=b1.size
 have O1:=hDD o1
 obtain⟨f1,f2,fs⟩:=FG
 obtain⟨s1,rfl,_,_,oe1⟩:=o1
 obtain⟨A1,c1,rfl,_⟩:=oe1.form
 simp only at*
 clear b1 oe1
 have bf:Below w1.heap.size w1 (w1.alloc (Obj.cells #[Value.int IntKind.i64 f1,Value.int IntKind.i64 f2, .slice A1 fs.length c1] 26)):=(Below.refl _ _).alloc (Nat.le_refl _) _
 go_wp2_with fail
 refine(HTR.out _ _ (O1.out.arg.below bf)).mono ?_
 rintro e w3 ⟨r3,o3,rfl,o3',b3⟩
 have hsf:=bf.size
 have B3:=hDD (B1.out.trans ((bf.trans (b3.mono hsf)).mono hs1))
 have hs3:=b3.size
 have O3:=hDD o3'
 obtain⟨t1,t2,ts⟩:=TG
 obtain⟨s3,rfl,_,_,oe3⟩:=o3'
 obtain⟨A3,c3,rfl,_⟩:=oe3.form
 simp only at*
 clear b3 oe3 bf
 have bt:Below w3.heap.size w3 (w3.alloc (Obj.cells #[Value.int IntKind.i64 t1,Value.int IntKind.i64 t2, .slice A3 ts.length c3] 26)):=(Below.refl _ _).alloc (Nat.le_refl _) _
 go_wp2_with fail
 refine(HCA.out _ _ (O3.out.arg.below bt)).mono ?_
 rintro e w5 ⟨r5,rfl,o5,b5⟩
 have hst:=bt.size
 have hs33:=B3.out.size
 have B5:=hDD (B3.out.trans ((bt.trans (b5.mono hst)).mono hs33))
 have hs5:=B5.out.size
 have hb5:=b5.size
 obtain⟨c1',c2',cs⟩:=CG
 obtain⟨s5,rfl,hj1,hj2,oe5⟩:=o5
 obtain⟨A5,k5,rfl,_⟩:=oe5.form
 simp only at*
 have OE5:=hDD oe5
 have r0:=(B5.out.cell (p:=⟨w.heap.size+1,0,none⟩) (by show w.heap.size+1<_;omega)).trans R0.out
 have r1:=(B5.out.cell (p:=⟨w.heap.size+1,1,none⟩) (by show w.heap.size+1<_;omega)).trans R1.out
 have r2:=(B5.out.cell (p:=⟨w.heap.size+1,2,none⟩) (by show w.heap.size+1<_;omega)).trans R2.out
 have rf0:=(B5.out.frozen (p:=⟨w.heap.size+1,0,none⟩) (by show w.heap.size+1<_;omega)).trans (RF.out 0)
 have rf1:=(B5.out.frozen (p:=⟨w.heap.size+1,1,none⟩) (by show w.heap.size+1<_;omega)).trans (RF.out 1)
 have rf2:=(B5.out.frozen (p:=⟨w.heap.size+1,2,none⟩) (by show w.heap.size+1<_;omega)).trans (RF.out 2)
 have HBF:=hDD (BX.out.trans (B5.out.mono BX.out.size))
 clear b5 oe5 bt
 go_wp2
 obtain⟨e0,e1,e2⟩:=cells3F (.int .i64 c1') (.int .i64 c2') (.slice A5 cs.length k5) r0 r1 r2
 have bw:Below w.heap.size w (((w5.setCell ⟨w.heap.size+1,0,none⟩ (.int .i64 c1')).setCell ⟨w.heap.size+1,1,none⟩ (.int .i64 c2')).setCell ⟨w.heap.size+1,2,none⟩ (.slice A5 cs.length k5)):=(((HBF.out.setCell (by simp<;>omega) _).setCell (by simp<;>omega) _).setCell (by simp<;>omega) _)
 have ow:OwE (((w5.setCell ⟨w.heap.size+1,0,none⟩ (.int .i64 c1')).setCell ⟨w.heap.size+1,1,none⟩ (.int .i64 c2')).setCell ⟨w.heap.size+1,2,none⟩ (.slice A5 cs.length k5)) w.heap.size (.slice A5 cs.length k5) cs:=OwE.mono (((OE5.out.far (by show w.heap.size+1<_;omega) _).far (by show w.heap.size+1<_;omega) _).far (by show w.heap.size+1<_;omega) _) (by omega)
 generalize (((w5.setCell ⟨w.heap.size+1,0,none⟩ (.int .i64 c1')).setCell ⟨w.heap.size+1,1,none⟩ (.int .i64 c2')).setCell ⟨w.heap.size+1,2,none⟩ (.slice A5 cs.length k5))=wf at*
 rw[HCG.out]
 exact bodyPost_ret (v:= .agg #[.int .i64 c1', .int .i64 c2', .slice A5 cs.length k5]) (by simp[results,Tryz.results131,go_sem,e0,e1,e2]) rfl ⟨_,rfl,⟨.slice A5 cs.length k5,rfl,hj1,hj2,ow⟩,bw⟩
end Go.Proofs.YteobmaambgmdbaaGreat
namespace Go.Proofs.YteobmaambgmdbaaGreat
set_option maxRecDepth 20000
set_option linter.unusedVariables false
set_option linter.unusedSimpArgs false
open Go.RowKit
def movO (n u:Nat):List Int:=(u:Int)::delO n (u:Int)
def movG (g:GrD) (u:Nat):GrD:=coreG (rnG g (movO g.2.1.toNat u))
theorem movO_ok {n u:Nat} (hu:u<n):OrdN (n:Int) (movO n u):=by
 refine⟨List.nodup_cons.2 ⟨fun h=>(delO_mem.1 h).2 rfl,delO_nodup _ _⟩,fun y hy=> ?_,by simp[movO]⟩
 rcases List.mem_cons.1 hy with rfl | hy
 ·omega
 ·exact(delO_mem.1 hy).1
theorem movO_succ (n u:Nat):(u:Int)::delO (n+1) (u:Int)=if(n:Int)≠(u:Int) then((u:Int)::delO n (u:Int))++ [(n:Int)] else(u:Int)::delO n (u:Int):=by
 rw[delO_succ]
 split<;>rfl
theorem movO_len (n u:Nat):((u:Int)::delO n (u:Int)).length≤n+1:=by
 have h1:(delO n (u:Int)).length≤n:=by
  unfold delO
  refine Nat.le_trans (List.length_filter_le _ _) ?_
  simp
 rw[List.length_cons];omega
set_option maxHeartbeats 2000000 in
theorem specMoveBase_any (v:Value) (g:GrD) (u:Nat) (w:World) (h:ArgG w v g) (hf:foldB g=true) (hu:(u:Int)<g.2.1):
  Calls Tryz.prog 98 #[v, .int .i64 (u:Int)] w fun e w'=> ∃r,e= .returned (.tuple #[r, .bool true])∧OwG w' w.heap.size r (movG g u)∧Below w.heap.size w w':=by
 have HG:=hDD h
 have HF:=hDD hf
 have hgr:=(foldB_parts hf).1
 obtain⟨h13,h40,h120,_⟩:=grB_parts hgr
 obtain⟨n,hn⟩: ∃n:Nat,g.2.1=(n:Int):=⟨g.2.1.toNat,by omega⟩
 have hun:u<n:=by omega
 have HMO:=hDD (movO_ok hun)
 have HGM:Hid (grB (rnG g (movO n u))=true):=hDD (grB_rnGN hgr (by rw[hn];exact movO_ok hun))
 have HMG:Hid (movG g u=coreG (rnG g (movO n u))):=hDD (by unfold movG;rw[hn];rfl)
 have HGR:=hDD hgr
 obtain⟨s,rfl,hi1,hi2,ha⟩:=h
 obtain⟨A,cap,rfl⟩:=ha.form
 obtain⟨g1,N,es⟩:=g
 simp only at*
 subst hn
 clear ha hf hgr
 go_enter Tryz.func98,Tryz.ntmps98
 go_wp2_with fail
 obtain⟨W1,hW1⟩: ∃W,W=w.alloc (Obj.cells #[Value.int IntKind.i64 g1,Value.int IntKind.i64 (n:Int), .slice A es.length cap] 26):=⟨_,rfl⟩
 rw[←hW1]
 obtain⟨hs1,b1,hc1,_⟩:=gbox hW1
 obtain⟨W,hW⟩: ∃W,W=W1.alloc (Obj.cells #[Value.int IntKind.i64 0,Value.int IntKind.i64 0, .slice none 0 0] 26):=⟨_,rfl⟩
 rw[←hW]
 obtain⟨hs2,b2,hc2,hf2⟩:=gbox hW
 have HC1:=hDD hc1
 have HC2:=hDD hc2
 have HF2:=hDD hf2
 have BX1:=hDD b1
 have BX2:=hDD b2
 have hsW:W.heap.size=w.heap.size+2:=by omega
 have BX:Hid (Below w.heap.size w W):=hDD (b1.trans (b2.mono (by omega)))
 have HCL:Hid (∀w',Below (w.heap.size+2) W w'→w'.cell? ⟨w.heap.size,0,none⟩=some (.int .i64 g1)∧w'.cell? ⟨w.heap.size,1,none⟩=some (.int .i64 (n:Int))∧w'.cell? ⟨w.heap.size,2,none⟩=some (.slice A es.length cap)):=hDD fun w' hb=>HC1.out w' ((BX2.out.mono (by omega)).trans (hb.mono (by omega)))
 have HRC:Hid (∀w',Below (w.heap.size+2) W w'→(w'.cell? ⟨w.heap.size+1,0,none⟩=some (.int .i64 0)∧w'.cell? ⟨w.heap.size+1,1,none⟩=some (.int .i64 0)∧w'.cell? ⟨w.heap.size+1,2,none⟩=some (.slice none 0 0))∧ ∀j,w'.frozen? ⟨w.heap.size+1,j,none⟩=false):=hDD fun w' hb=>by
  have e:Below (W1.heap.size+1) W w':=by rw[hs1];exact hb
  have h1:=HC2.out w' e
  have h2:=fun j=>HF2.out j w' e
  rw[hs1] at h1 h2
  exact⟨h1,h2⟩
 have HA:Hid (∀w',Below (w.heap.size+2) W w'→ArgG w' (.agg #[.int .i64 g1, .int .i64 (n:Int), .slice A es.length cap]) (g1,(n:Int),es)):=hDD fun w' hb=>HG.out.below (BX.out.trans (hb.mono (by omega)))
 clear hW1 hW hc1 hc2 hf2 b1 b2 HC1 HC2 HF2 BX1 BX2 hs1 hs2
 have hfo:=specIsFolded_any _ (g1,(n:Int),es) W (HA.out W ((Below.refl W.heap.size W).mono (by omega)))
 rw[HF.out] at hfo
 refine hfo.mono ?_
 clear hfo
 rintro e w2 ⟨rfl,b2⟩
 have hs2:=b2.size
 have B2:Hid (Below (w.heap.size+2) W w2):=hDD (b2.mono (by omega))
 clear b2
 obtain⟨q0,q1,q2⟩:=HCL.out w2 B2.out
 have hw1:IntKind.i64.wrap ((n:Int)-1)=(n:Int)-1:=by rw[IntKind.wrap_i64];omega
 have hin:inB (u:Int) 0 ((n:Int)-1)=true:=inB_iff.2 ⟨by omega,by omega⟩
 have HIN:=hDD hin
 clear hin
 go_wp2_with (go_at_call 68;refine(l1In_any _ _ _ _).mono ?_;rintro e w' ⟨rfl,rfl⟩;rw[HIN.out])
 obtain⟨W4,hW4⟩: ∃W4,W4=w2.alloc (.cells #[.int .i64 (u:Int)] 3):=⟨_,rfl⟩
 have o4:OwI (w2.alloc (.cells #[.int .i64 (u:Int)] 3)) w2.heap.size (.slice (some ⟨w2.heap.size,0,none⟩) 1 1) [(u:Int)]:=OwI_lit w2 [(u:Int)] (fun x hx=>by simp at hx;subst hx;unfold I64;omega) (by simp) (Nat.le_refl _)
 have b4:Below w2.heap.size w2 (w2.alloc (.cells #[.int .i64 (u:Int)] 3)):=(Below.refl _ _).alloc (Nat.le_refl _) _
 rw[←hW4] at o4 b4⊢
 have hs4:W4.heap.size=w2.heap.size+1:=by rw[hW4];simp
 have O4:=hDD o4
 have B4:Hid (Below (w.heap.size+2) W W4):=hDD (B2.out.trans (b4.mono (by omega)))
 clear hW4 o4 b4 q0 q1 q2
 go_loopw [6,7] (fun vo i wr=> ∃q:Nat,q≤n∧i= .int .i64 q∧OwI wr (w.heap.size+2) vo ((u:Int)::delO q (u:Int))∧Below (w.heap.size+2) W wr) (fun _ i _=>n-(intOf i).toNat)
 case atStart=>exact⟨0,Nat.zero_le _,rfl,O4.out.mono (by omega),B4.out⟩
 case round=>
  obtain⟨q,hq,rfl,ho,hb⟩:=hrel
  have HO:=hDD ho
  have HB:=hDD hb
  obtain⟨wi,rfl⟩: ∃wi:World,wi=wr:=⟨_,rfl⟩
  clear ho hb
  have hwi:=HB.out.size
  obtain⟨q0,q1,q2⟩:=HCL.out wi HB.out
  have hlen:=movO_len q u
  have HDS:=hDD (movO_succ q u)
  obtain⟨Ao,co,rfl,_⟩:=OwI.form HO.out
  by_cases hlt:q<n
  ·have hqI:(q:Int)<(n:Int):=by omega
   have HK:Hid (I64 (q:Int)):=hDD (by unfold I64;omega)
   rcases e6:((q:Int) != (u:Int)) with _ | _
   ·have hqx:(q:Int)=(u:Int):=by simpa using e6
    have HD:Hid ((u:Int)::delO (q+1) (u:Int)=(u:Int)::delO q (u:Int)):=hDD (by rw[HDS.out,if_neg (by simp[hqx])])
    generalize ((u:Int)::delO q (u:Int))=lo at*
    clear hqx HDS
    go_wp2
    go_roundw
    case rel=>exact⟨q+1,by omega,by go_num,by rw[HD.out];exact HO.out,HB.out⟩
    case measure=>simp[intOf];omega
   ·have hqx:(q:Int)≠(u:Int):=by simpa using e6
    have HD:Hid ((u:Int)::delO (q+1) (u:Int)=((u:Int)::delO q (u:Int))++ [(q:Int)]):=hDD (by rw[HDS.out,if_pos hqx])
    generalize ((u:Int)::delO q (u:Int))=lo at*
    clear hqx HDS
    go_wp2_with (at_builtin;refine push_int rfl (.tmp 34) (.tmp 36) rfl _ _ _ (OwI.alloc HO.out _) rfl _ _ rfl (cell_new1 _ _ _) HK.out (by first | omega | (simp<;>omega)) (by first | omega | (simp<;>omega)) ?_;intro v9 wv9 o9 g9 p9)
    have O9:=hDD o9
    have B9:Hid (Below (w.heap.size+2) W wv9):=hDD ((HB.out.alloc (by omega) (.cells #[.int .i64 q] 3)).grown g9 (by simp<;>omega) (fun c hc=>(HO.out.1.lt c hc).1))
    clear o9 g9 p9
    go_roundw
    case rel=>exact⟨q+1,by omega,by go_num,by rw[HD.out];exact O9.out,B9.out⟩
    case measure=>simp[intOf];omega
  ·obtain rfl:q=n:=by omega
   clear HDS
   have HMO2:Hid (OrdN (q:Int) ((u:Int)::delO q (u:Int))):=HMO
   have HGM2:Hid (grB (rnG (g1,(q:Int),es) ((u:Int)::delO q (u:Int)))=true):=HGM
   have HMG2:Hid (movG (g1,(q:Int),es) u=coreG (rnG (g1,(q:Int),es) ((u:Int)::delO q (u:Int)))):=HMG
   clear HMO HGM HMG
   generalize ((u:Int)::delO q (u:Int))=lo at*
   go_wp2_with fail
   refine(specRenumber_anyN _ _ (g1,(q:Int),es) lo wi (HA.out wi HB.out) HO.out.rd HGR.out HMO2.out).mono ?_
   rintro e w5 ⟨r5,rfl,o5,b5⟩
   have hs5:=b5.size
   have B5:Hid (Below (w.heap.size+2) W w5):=hDD (HB.out.trans (b5.mono (by omega)))
   generalize rnG (g1,(q:Int),es) lo=M at*
   obtain⟨m1,m2,ms⟩:=M
   have OA5:=hDD o5.arg
   obtain⟨s5,rfl,_,_,oe5⟩:=o5
   obtain⟨A5,c5,rfl,_⟩:=oe5.form
   simp only at*
   clear oe5 b5 q0 q1 q2
   go_wp2_with fail
   obtain⟨WX,hWX⟩: ∃WX,WX=w5.alloc (Obj.cells #[Value.int IntKind.i64 m1,Value.int IntKind.i64 m2, .slice A5 ms.length c5] 26):=⟨_,rfl⟩
   obtain⟨hsX,bX,_,_⟩:=gbox hWX
   rw[←hWX]
   have BXX:Hid (Below (w.heap.size+2) W WX):=hDD (B5.out.trans (bX.mono (by omega)))
   refine(specCoreGraph_any _ (m1,m2,ms) WX (OA5.out.below bX) HGM2.out).mono ?_
   clear hWX bX
   rintro e w6 ⟨r6,rfl,o6,b6⟩
   have hs6:=b6.size
   have B6:Hid (Below (w.heap.size+2) W w6):=hDD (BXX.out.trans (b6.mono (by omega)))
   generalize coreG (m1,m2,ms)=K at*
   obtain⟨k1,k2,ks⟩:=K
   obtain⟨s6,rfl,hj1,hj2,oe6⟩:=o6
   obtain⟨A6,c6,rfl,_⟩:=oe6.form
   simp only at*
   have OE6:=hDD oe6
   clear b6 oe6
   obtain⟨⟨r0,r1,r2⟩,hrf⟩:=HRC.out w6 B6.out
   have rf0:=hrf 0
   have rf1:=hrf 1
   have rf2:=hrf 2
   have HBF:=hDD (BX.out.trans (B6.out.mono (by omega)))
   have hq6:w.heap.size+1<w6.heap.size:=by omega
   clear hrf
   go_wp2
   obtain⟨e0,e1,e2⟩:=cells3F (.int .i64 k1) (.int .i64 k2) (.slice A6 ks.length c6) r0 r1 r2
   have bw:Below w.heap.size w (((w6.setCell ⟨w.heap.size+1,0,none⟩ (.int .i64 k1)).setCell ⟨w.heap.size+1,1,none⟩ (.int .i64 k2)).setCell ⟨w.heap.size+1,2,none⟩ (.slice A6 ks.length c6)):=(((HBF.out.setCell (by simp<;>omega) _).setCell (by simp<;>omega) _).setCell (by simp<;>omega) _)
   have ow:OwE (((w6.setCell ⟨w.heap.size+1,0,none⟩ (.int .i64 k1)).setCell ⟨w.heap.size+1,1,none⟩ (.int .i64 k2)).setCell ⟨w.heap.size+1,2,none⟩ (.slice A6 ks.length c6)) w.heap.size (.slice A6 ks.length c6) ks:=OwE.mono (((OE6.out.far (by show w.heap.size+1<_;omega) _).far (by show w.heap.size+1<_;omega) _).far (by show w.heap.size+1<_;omega) _) (by omega)
   generalize (((w6.setCell ⟨w.heap.size+1,0,none⟩ (.int .i64 k1)).setCell ⟨w.heap.size+1,1,none⟩ (.int .i64 k2)).setCell ⟨w.heap.size+1,2,none⟩ (.slice A6 ks.length c6))=wf at*
   rw[HMG2.out]
   exact bodyPost_ret (v:= .tuple #[.agg #[.int .i64 k1, .int .i64 k2, .slice A6 ks.length c6], .bool true]) (by simp[results,Tryz.results98,go_sem,e0,e1,e2]) rfl ⟨_,rfl,⟨.slice A6 ks.length c6,rfl,hj1,hj2,ow⟩,bw⟩
set_option maxHeartbeats 2000000 in
theorem implMoveBase_any (v:Value) (g:GrD) (u:Nat) (w:World) (h:ArgG w v g) (hf:foldB g=true) (hu:(u:Int)<g.2.1):
  Calls Tryz.prog 95 #[v, .int .i64 (u:Int)] w fun e w'=> ∃r,e= .returned (.tuple #[r, .bool true])∧OwG w' w.heap.size r (movG g u)∧Below w.heap.size w w':=by
 have HG:=hDD h
 have HF:=hDD hf
 have hgr:=(foldB_parts hf).1
 obtain⟨h13,h40,h120,_⟩:=grB_parts hgr
 obtain⟨n,hn⟩: ∃n:Nat,g.2.1=(n:Int):=⟨g.2.1.toNat,by omega⟩
 have hun:u<n:=by omega
 have HMO:=hDD (movO_ok hun)
 have HGM:Hid (grB (rnG g (movO n u))=true):=hDD (grB_rnGN hgr (by rw[hn];exact movO_ok hun))
 have HMG:Hid (movG g u=coreG (rnG g (movO n u))):=hDD (by unfold movG;rw[hn];rfl)
 have HGR:=hDD hgr
 obtain⟨s,rfl,hi1,hi2,ha⟩:=h
 obtain⟨A,cap,rfl⟩:=ha.form
 obtain⟨g1,N,es⟩:=g
 simp only at*
 subst hn
 clear ha hf hgr
 go_enter Tryz.func95,Tryz.ntmps95
 go_wp2_with fail
 obtain⟨W1,hW1⟩: ∃W,W=w.alloc (Obj.cells #[Value.int IntKind.i64 g1,Value.int IntKind.i64 (n:Int), .slice A es.length cap] 26):=⟨_,rfl⟩
 rw[←hW1]
 obtain⟨hs1,b1,hc1,_⟩:=gbox hW1
 obtain⟨W,hW⟩: ∃W,W=W1.alloc (Obj.cells #[Value.int IntKind.i64 0,Value.int IntKind.i64 0, .slice none 0 0] 26):=⟨_,rfl⟩
 rw[←hW]
 obtain⟨hs2,b2,hc2,hf2⟩:=gbox hW
 have HC1:=hDD hc1
 have HC2:=hDD hc2
 have HF2:=hDD hf2
 have BX1:=hDD b1
 have BX2:=hDD b2
 have hsW:W.heap.size=w.heap.size+2:=by omega
 have BX:Hid (Below w.heap.size w W):=hDD (b1.trans (b2.mono (by omega)))
 have HCL:Hid (∀w',Below (w.heap.size+2) W w'→w'.cell? ⟨w.heap.size,0,none⟩=some (.int .i64 g1)∧w'.cell? ⟨w.heap.size,1,none⟩=some (.int .i64 (n:Int))∧w'.cell? ⟨w.heap.size,2,none⟩=some (.slice A es.length cap)):=hDD fun w' hb=>HC1.out w' ((BX2.out.mono (by omega)).trans (hb.mono (by omega)))
 have HRC:Hid (∀w',Below (w.heap.size+2) W w'→(w'.cell? ⟨w.heap.size+1,0,none⟩=some (.int .i64 0)∧w'.cell? ⟨w.heap.size+1,1,none⟩=some (.int .i64 0)∧w'.cell? ⟨w.heap.size+1,2,none⟩=some (.slice none 0 0))∧ ∀j,w'.frozen? ⟨w.heap.size+1,j,none⟩=false):=hDD fun w' hb=>by
  have e:Below (W1.heap.size+1) W w':=by rw[hs1];exact hb
  have h1:=HC2.out w' e
  have h2:=fun j=>HF2.out j w' e
  rw[hs1] at h1 h2
  exact⟨h1,h2⟩
 have HA:Hid (∀w',Below (w.heap.size+2) W w'→ArgG w' (.agg #[.int .i64 g1, .int .i64 (n:Int), .slice A es.length cap]) (g1,(n:Int),es)):=hDD fun w' hb=>HG.out.below (BX.out.trans (hb.mono (by omega)))
 clear hW1 hW hc1 hc2 hf2 b1 b2 HC1 HC2 HF2 BX1 BX2 hs1 hs2
 have hfo:=implIsFolded_any _ (g1,(n:Int),es) W (HA.out W ((Below.refl W.heap.size W).mono (by omega)))
 rw[HF.out] at hfo
 refine hfo.mono ?_
 clear hfo
 rintro e w2 ⟨rfl,b2⟩
 have hs2:=b2.size
 have B2:Hid (Below (w.heap.size+2) W w2):=hDD (b2.mono (by omega))
 clear b2
 obtain⟨q0,q1,q2⟩:=HCL.out w2 B2.out
 have hin:inB (u:Int) 0 (wrap64 ((n:Int)-1))=true:=by rw[show wrap64 ((n:Int)-1)=(n:Int)-1 by unfold wrap64;omega];exact inB_iff.2 ⟨by omega,by omega⟩
 have HIN:=hDD hin
 clear hin
 go_wp2_with fail
 refine(grHas_any _ _ _ _ _ _ _).mono ?_
 rintro e w3 ⟨rfl,b3⟩
 rw[HIN.out]
 have hs3:=b3.size
 have B2':Hid (Below (w.heap.size+2) W w3):=hDD (B2.out.trans (b3.mono (by omega)))
 clear b3 q0 q1 q2 B2
 obtain⟨q0,q1,q2⟩:=HCL.out w3 B2'.out
 go_wp2
 obtain⟨W4,hW4⟩: ∃W4,W4=w3.alloc (.cells #[.int .i64 (u:Int)] 3):=⟨_,rfl⟩
 have o4:OwI (w3.alloc (.cells #[.int .i64 (u:Int)] 3)) w3.heap.size (.slice (some ⟨w3.heap.size,0,none⟩) 1 1) [(u:Int)]:=OwI_lit w3 [(u:Int)] (fun x hx=>by simp at hx;subst hx;unfold I64;omega) (by simp) (Nat.le_refl _)
 have b4:Below w3.heap.size w3 (w3.alloc (.cells #[.int .i64 (u:Int)] 3)):=(Below.refl _ _).alloc (Nat.le_refl _) _
 rw[←hW4] at o4 b4⊢
 have hs4:W4.heap.size=w3.heap.size+1:=by rw[hW4];simp
 have O4:=hDD o4
 have B4:Hid (Below (w.heap.size+2) W W4):=hDD (B2'.out.trans (b4.mono (by omega)))
 clear hW4 o4 b4 q0 q1 q2
 go_loopw [6,7] (fun vo i wr=> ∃q:Nat,q≤n∧i= .int .i64 q∧OwI wr (w.heap.size+2) vo ((u:Int)::delO q (u:Int))∧Below (w.heap.size+2) W wr) (fun _ i _=>n-(intOf i).toNat)
 case atStart=>exact⟨0,Nat.zero_le _,rfl,O4.out.mono (by omega),B4.out⟩
 case round=>
  obtain⟨q,hq,rfl,ho,hb⟩:=hrel
  have HO:=hDD ho
  have HB:=hDD hb
  obtain⟨wi,rfl⟩: ∃wi:World,wi=wr:=⟨_,rfl⟩
  clear ho hb
  have hwi:=HB.out.size
  obtain⟨q0,q1,q2⟩:=HCL.out wi HB.out
  have hlen:=movO_len q u
  have HDS:=hDD (movO_succ q u)
  obtain⟨Ao,co,rfl,_⟩:=OwI.form HO.out
  by_cases hlt:q<n
  ·have hqI:(q:Int)<(n:Int):=by omega
   have HK:Hid (I64 (q:Int)):=hDD (by unfold I64;omega)
   rcases e6:((q:Int) != (u:Int)) with _ | _
   ·have hqx:(q:Int)=(u:Int):=by simpa using e6
    have HD:Hid ((u:Int)::delO (q+1) (u:Int)=(u:Int)::delO q (u:Int)):=hDD (by rw[HDS.out,if_neg (by simp[hqx])])
    generalize ((u:Int)::delO q (u:Int))=lo at*
    clear hqx HDS
    go_wp2
    go_roundw
    case rel=>exact⟨q+1,by omega,by go_num,by rw[HD.out];exact HO.out,HB.out⟩
    case measure=>simp[intOf];omega
   ·have hqx:(q:Int)≠(u:Int):=by simpa using e6
    have HD:Hid ((u:Int)::delO (q+1) (u:Int)=((u:Int)::delO q (u:Int))++ [(q:Int)]):=hDD (by rw[HDS.out,if_pos hqx])
    generalize ((u:Int)::delO q (u:Int))=lo at*
    clear hqx HDS
    go_wp2_with (at_builtin;refine push_int rfl (.tmp 30) (.tmp 32) rfl _ _ _ (OwI.alloc HO.out _) rfl _ _ rfl (cell_new1 _ _ _) HK.out (by first | omega | (simp<;>omega)) (by first | omega | (simp<;>omega)) ?_;intro v9 wv9 o9 g9 p9)
    have O9:=hDD o9
    have B9:Hid (Below (w.heap.size+2) W wv9):=hDD ((HB.out.alloc (by omega) (.cells #[.int .i64 q] 3)).grown g9 (by simp<;>omega) (fun c hc=>(HO.out.1.lt c hc).1))
    clear o9 g9 p9
    go_roundw
    case rel=>exact⟨q+1,by omega,by go_num,by rw[HD.out];exact O9.out,B9.out⟩
    case measure=>simp[intOf];omega
  ·obtain rfl:q=n:=by omega
   clear HDS
   have HMO2:Hid (OrdN (q:Int) ((u:Int)::delO q (u:Int))):=HMO
   have HGM2:Hid (grB (rnG (g1,(q:Int),es) ((u:Int)::delO q (u:Int)))=true):=HGM
   have HMG2:Hid (movG (g1,(q:Int),es) u=coreG (rnG (g1,(q:Int),es) ((u:Int)::delO q (u:Int)))):=HMG
   clear HMO HGM HMG
   generalize ((u:Int)::delO q (u:Int))=lo at*
   go_wp2_with fail
   refine(part_anyN _ _ (g1,(q:Int),es) lo wi (HA.out wi HB.out) HO.out.rd HGR.out HMO2.out).mono ?_
   rintro e w5 ⟨r5,rfl,o5,b5⟩
   have hs5:=b5.size
   have B5:Hid (Below (w.heap.size+2) W w5):=hDD (HB.out.trans (b5.mono (by omega)))
   generalize rnG (g1,(q:Int),es) lo=M at*
   obtain⟨m1,m2,ms⟩:=M
   have OA5:=hDD o5.arg
   obtain⟨s5,rfl,_,_,oe5⟩:=o5
   obtain⟨A5,c5,rfl,_⟩:=oe5.form
   simp only at*
   clear oe5 b5 q0 q1 q2
   go_wp2_with fail
   refine(implCoreGraph_any _ (m1,m2,ms) w5 OA5.out HGM2.out).mono ?_
   rintro e w6 ⟨r6,rfl,o6,b6⟩
   have hs6:=b6.size
   have B6:Hid (Below (w.heap.size+2) W w6):=hDD (B5.out.trans (b6.mono (by omega)))
   generalize coreG (m1,m2,ms)=K at*
   obtain⟨k1,k2,ks⟩:=K
   obtain⟨s6,rfl,hj1,hj2,oe6⟩:=o6
   obtain⟨A6,c6,rfl,_⟩:=oe6.form
   simp only at*
   have OE6:=hDD oe6
   clear b6 oe6
   obtain⟨⟨r0,r1,r2⟩,hrf⟩:=HRC.out w6 B6.out
   have rf0:=hrf 0
   have rf1:=hrf 1
   have rf2:=hrf 2
   have HBF:=hDD (BX.out.trans (B6.out.mono (by omega)))
   have hq6:w.heap.size+1<w6.heap.size:=by omega
   clear hrf
   go_wp2
   obtain⟨e0,e1,e2⟩:=cells3F (.int .i64 k1) (.int .i64 k2) (.slice A6 ks.length c6) r0 r1 r2
   have bw:Below w.heap.size w (((w6.setCell ⟨w.heap.size+1,0,none⟩ (.int .i64 k1)).setCell ⟨w.heap.size+1,1,none⟩ (.int .i64 k2)).setCell ⟨w.heap.size+1,2,none⟩ (.slice A6 ks.length c6)):=(((HBF.out.setCell (by simp<;>omega) _).setCell (by simp<;>omega) _).setCell (by simp<;>omega) _)
   have ow:OwE (((w6.setCell ⟨w.heap.size+1,0,none⟩ (.int .i64 k1)).setCell ⟨w.heap.size+1,1,none⟩ (.int .i64 k2)).setCell ⟨w.heap.size+1,2,none⟩ (.slice A6 ks.length c6)) w.heap.size (.slice A6 ks.length c6) ks:=OwE.mono (((OE6.out.far (by show w.heap.size+1<_;omega) _).far (by show w.heap.size+1<_;omega) _).far (by show w.heap.size+1<_;omega) _) (by omega)
   generalize (((w6.setCell ⟨w.heap.size+1,0,none⟩ (.int .i64 k1)).setCell ⟨w.heap.size+1,1,none⟩ (.int .i64 k2)).setCell ⟨w.heap.size+1,2,none⟩ (.slice A6 ks.length c6))=wf at*
   rw[HMG2.out]
   exact bodyPost_ret (v:= .tuple #[.agg #[.int .i64 k1, .int .i64 k2, .slice A6 ks.length c6], .bool true]) (by simp[results,Tryz.results95,go_sem,e0,e1,e2]) rfl ⟨_,rfl,⟨.slice A6 ks.length c6,rfl,hj1,hj2,ow⟩,bw⟩
end Go.Proofs.YteobmaambgmdbaaGreat
namespace Go.Proofs.YteobmaambgmdbaaGreat
set_option maxRecDepth 20000
set_option linter.unusedVariables false
set_option linter.unusedSimpArgs false
open Go.RowKit
end Go.Proofs.YteobmaambgmdbaaGreat
namespace Go.Proofs.YteobmaambgmdbaaGreat
set_option maxRecDepth 20000
set_option linter.unusedVariables false
set_option linter.unusedSimpArgs false
open Go.RowKit
structure IsI (a b:GrD) (ls:List Int) (N P bl capl:Nat) (W wr:World) (out:Value) (o im:List Int):Prop where
 ok:OrdOk (N:Int) o
 len:im.length=N
 img: ∀y:Nat,y<N→(y:Int)∈o→im[y]? =some (imgW a b y)∧0≤imgW a b y
 fnd:OwI wr (P+1) out o
 row:OwI wr P (.slice (some ⟨P,0,none⟩) N N) im
 lets:RdI wr (.slice (some ⟨bl,0,none⟩) ls.length capl) ls
 ne:out.ownBlock≠some bl
 blt:bl<wr.heap.size
 blP:P<bl
 bel:Below P W wr
section
variable {a b:GrD} {ls:List Int} {N P bl capl:Nat} {W wr w':World} {out:Value} {o im:List Int}
theorem IsI.below (h:IsI a b ls N P bl capl W wr out o im) (hb:Below wr.heap.size wr w'):IsI a b ls N P bl capl W w' out o im:=
 ⟨h.ok,h.len,h.img,h.fnd.below hb,h.row.below hb,h.lets.below hb,h.ne,Nat.lt_of_lt_of_le h.blt hb.size,h.blP,h.bel.trans (hb.mono (by have:=h.blt;have:=h.blP;omega))⟩
theorem IsI.found (h:IsI a b ls N P bl capl W wr out o im) {y:Nat} (hy:y<N) {v9:Value} {w9:World} {ob:Obj} (hok:OrdOk (N:Int) (o++ [(y:Int)])) (o9:OwI w9 (P+1) v9 (o++ [(y:Int)])) (g9:(wr.alloc ob).grownBy w9 out.ownBlock)
  (p9:v9.ownBlock=out.ownBlock∨v9.ownBlock=some (wr.alloc ob).heap.size) {z:Int} (hz:imgW a b y=z) (hz0:0≤z) (hz64:I64 z):
  IsI a b ls N P bl capl W (w9.setCell ⟨P,y,none⟩ (.int .i64 z)) v9 (o++ [(y:Int)]) (im.set y z):=by
 have hs9:=g9.size
 have hsa:(wr.alloc ob).heap.size=wr.heap.size+1:=by simp
 have hbl:=h.blt
 have hbP:=h.blP
 have hP: ∀c,out.ownBlock=some c→P+1≤c:=fun c hc=>(h.fnd.1.lt c hc).1
 have hrow:OwI w9 P (.slice (some ⟨P,0,none⟩) N N) im:=(h.row.alloc ob).kept g9 (.inr fun e=>by have:=hP P (by rw[←e];rfl);omega)
 have hlet:RdI w9 (.slice (some ⟨bl,0,none⟩) ls.length capl) ls:=(h.lets.alloc ob).grown g9 fun b hb hb'=>by
  simp only[Value.ownBlock,Option.some.injEq] at hb
  subst hb
  exact h.ne hb'
 obtain⟨r1,r2⟩:=hrow.set y z hz64
 refine⟨hok,by rw[List.length_set];exact h.len,fun j hj hm=> ?_,o9.far (p:=⟨P,y,none⟩) (Nat.lt_succ_self _) _,r1,hlet.grown r2 fun b hb hb'=>by simp[Value.ownBlock] at hb hb';omega,?_,by simp;omega,h.blP,?_⟩
 ·by_cases e:j=y
  ·subst e
   rw[List.getElem?_set_self (by rw[h.len];exact hy),hz]
   exact⟨rfl,hz0⟩
  ·rw[List.getElem?_set_ne (Ne.symm e)]
   rcases List.mem_append.1 hm with hm | hm
   ·exact h.img j hj hm
   ·rw[List.mem_singleton] at hm;omega
 ·rcases p9 with p9 | p9
  ·rw[p9];exact h.ne
  ·rw[p9]
   intro e
   injection e with e
   omega
 ·refine Below.setCell ?_ (by show P≤P;omega) _
  exact bel_push h.bel (by omega) h.fnd.1 (by omega) g9
end
structure TreeX (f:Int→List Int) (bb P N:Nat) (w:World) (ord:Value) (o:List Int):Prop where
 ex: ∃vs:List Value,vs.length=N∧w.ownsRow bb 27 1 (.slice (some ⟨P,0,none⟩) N N) N vs∧ ∀(j:Nat) (hj:j<vs.length),
  ((j:Int)∉o∧vs[j]= .slice none 0 0)∨((j:Int)∈o∧ ∃(b cap:Nat),vs[j]= .slice (some ⟨b,0,none⟩) (f j).length cap∧(f j).length≤o.length∧OwI w P vs[j] (f j)∧P<b∧ord.ownBlock≠some b∧b<w.heap.size)
 ne:ord.ownBlock≠some P
section
variable {f:Int→List Int} {bb P N:Nat} {w w':World} {ord:Value} {o:List Int}
theorem TreeX.lt (h:TreeX f bb P N w ord o):bb≤P∧P<w.heap.size:=by
 obtain⟨vs,_,h2,_⟩:=h.ex
 exact h2.lt P rfl
theorem TreeX.at_new (h:TreeX f bb P N w ord o) {y:Nat} (hy:y<N) (hn:(y:Int)∉o):w.cell? ⟨P,y,none⟩=some (.slice none 0 0):=by
 obtain⟨vs,h1,h2,h3⟩:=h.ex
 rw[World.ownsRow.cellAt h2 y (by omega)]
 rcases h3 y (by omega) with ⟨_,h4⟩ | ⟨h4,_⟩
 ·rw[List.getElem?_eq_getElem (by omega),h4]
 ·exact absurd h4 hn
theorem TreeX.at_old (h:TreeX f bb P N w ord o) {y:Nat} (hy:y<N) (hn:(y:Int)∈o):
  ∃(b cap:Nat),w.cell? ⟨P,y,none⟩=some (.slice (some ⟨b,0,none⟩) (f y).length cap)∧(f y).length≤o.length∧RdI w (.slice (some ⟨b,0,none⟩) (f y).length cap) (f y)∧b<w.heap.size∧P<b:=by
 obtain⟨vs,h1,h2,h3⟩:=h.ex
 rw[World.ownsRow.cellAt h2 y (by omega)]
 rcases h3 y (by omega) with ⟨h4,_⟩ | ⟨_,b,cap,e1,e2,e3,e4,_,e6⟩
 ·exact absurd hn h4
 ·rw[e1] at e3
  exact⟨b,cap,by rw[List.getElem?_eq_getElem (by omega),e1],e2,e3.rd,e6,e4⟩
theorem TreeX.at_own (h:TreeX f bb P N w ord o) {y:Nat} (hy:y<N) (hn:(y:Int)∈o):
  ∃(b cap:Nat),w.cell? ⟨P,y,none⟩=some (.slice (some ⟨b,0,none⟩) (f y).length cap)∧OwI w P (.slice (some ⟨b,0,none⟩) (f y).length cap) (f y):=by
 obtain⟨vs,h1,h2,h3⟩:=h.ex
 rw[World.ownsRow.cellAt h2 y (by omega)]
 rcases h3 y (by omega) with ⟨h4,_⟩ | ⟨_,b,cap,e1,e2,e3,e4,_,e6⟩
 ·exact absurd hn h4
 ·rw[e1] at e3
  exact⟨b,cap,by rw[List.getElem?_eq_getElem (by omega),e1],e3⟩
theorem TreeX.free (h:TreeX f bb P N w ord o) (j:Nat):w.frozen? ⟨P,j,none⟩=false:=by
 obtain⟨vs,h1,h2,h3⟩:=h.ex
 exact World.ownsRow.frozenAt h2 j
theorem TreeX.below (h:TreeX f bb P N w ord o) (hb:Below w.heap.size w w'):TreeX f bb P N w' ord o:=by
 obtain⟨vs,h1,h2,h3⟩:=h.ex
 refine⟨⟨vs,h1,ownsRow_below h2 hb,fun j hj=> ?_⟩,h.ne⟩
 rcases h3 j hj with h4 | ⟨h4,b,cap,e1,e2,e3,e4,e5,e6⟩
 ·exact .inl h4
 ·exact .inr ⟨h4,b,cap,e1,e2,e3.below hb,e4,e5,by have:=hb.size;omega⟩
theorem TreeX.set (h:TreeX f bb P N w ord o) {y:Nat} (hy:y<N) {b cap:Nat} {ws:List Int} (hws:f (y:Int)=ws) (hr:OwI w P (.slice (some ⟨b,0,none⟩) ws.length cap) ws) (hl:ws.length≤o.length+1) (hb:P<b) (ho:ord.ownBlock≠some b) (hlt:b<w.heap.size):
  TreeX f bb P N (w.setCell ⟨P,y,none⟩ (.slice (some ⟨b,0,none⟩) ws.length cap)) ord (o++ [(y:Int)]):=by
 obtain⟨vs,h1,h2,h3⟩:=h.ex
 obtain⟨s1,s2⟩:=World.ownsRow.stored h2 y (.slice (some ⟨b,0,none⟩) ws.length cap)
 have hsz:(w.setCell ⟨P,y,none⟩ (.slice (some ⟨b,0,none⟩) ws.length cap)).heap.size=w.heap.size:=by simp
 have hg:w.grownBy (w.setCell ⟨P,y,none⟩ (.slice (some ⟨b,0,none⟩) ws.length cap)) (some P):=set_grown _ _ _ _
 refine⟨⟨_,by simpa using h1,s1,fun j hj=> ?_⟩,h.ne⟩
 have hj':j<vs.length:=by simpa using hj
 by_cases hjy:j=y
 ·subst hjy
  refine .inr ⟨by simp,b,cap,by rw[hws];simp,by rw[hws];simp;omega,?_,hb,ho,by omega⟩
  rw[List.getElem_set_self,hws]
  exact hr.kept hg (.inr fun q=>by simp[Value.ownBlock] at q;omega)
 ·rw[List.getElem_set_ne (Ne.symm hjy)]
  rcases h3 j hj' with ⟨h4,h5⟩ | ⟨h4,b',cap',e1,e2,e3,e4,e5,e6⟩
  ·refine .inl ⟨?_,h5⟩
   rw[List.mem_append,List.mem_singleton]
   rintro(h6 | h6)
   ·exact h4 h6
   ·omega
  ·refine .inr ⟨List.mem_append_left _ h4,b',cap',e1,by simp;omega,e3.kept hg (.inr fun hx=> ?_),e4,e5,by omega⟩
   rw[e1] at hx
   simp[Value.ownBlock] at hx
   omega
theorem TreeX.lit (h:TreeX f bb P N w (.slice none 0 0) o) (ob:Obj) (n c:Nat):TreeX f bb P N (w.alloc ob) (.slice (some ⟨w.heap.size,0,none⟩) n c) o:=by
 have hlt:=h.lt
 obtain⟨vs,h1,h2,h3⟩:=h.ex
 refine⟨⟨vs,h1,ownsRow_below h2 ((Below.refl w.heap.size w).alloc (Nat.le_refl _) ob),fun j hj=> ?_⟩,by simp[Value.ownBlock];omega⟩
 rcases h3 j hj with h4 | ⟨h4,b,cap,e1,e2,e3,e4,e5,e6⟩
 ·exact .inl h4
 ·exact .inr ⟨h4,b,cap,e1,e2,e3.alloc _,e4,by simp[Value.ownBlock];omega,by simp;omega⟩
theorem TreeX.push (h:TreeX f bb P N w ord o) {w9:World} {v9:Value} {ob:Obj} (hg:(w.alloc ob).grownBy w9 ord.ownBlock) (hp:v9.ownBlock=ord.ownBlock∨v9.ownBlock=some (w.alloc ob).heap.size):TreeX f bb P N w9 v9 o:=by
 have hlt:=h.lt
 have h':=h.below ((Below.refl w.heap.size w).alloc (Nat.le_refl _) ob)
 obtain⟨vs,h1,h2,h3⟩:=h'.ex
 have hs:(w.alloc ob).heap.size=w.heap.size+1:=by simp
 have hs9:=hg.size
 refine⟨⟨vs,h1,h2.kept hg (.inr fun e=>h.ne e.symm),fun j hj=> ?_⟩,?_⟩
 ·rcases h3 j hj with h4 | ⟨h4,b,cap,e1,e2,e3,e4,e5,e6⟩
  ·exact .inl h4
  ·refine .inr ⟨h4,b,cap,e1,e2,e3.kept hg (.inr fun hx=> ?_),e4,?_,by omega⟩
   ·rw[e1] at hx
    simp only[Value.ownBlock] at hx
    exact e5 hx.symm
   ·rcases hp with hp | hp
    ·rw[hp];exact e5
    ·rw[hp]
     intro e
     injection e with e
     omega
 ·rcases hp with hp | hp
  ·rw[hp];exact h.ne
  ·rw[hp]
   intro e
   injection e with e
   omega
end
set_option maxHeartbeats 1000000 in
theorem treeX_any (v:Value) (g:GrD) (w:World) (h:ArgG w v g) (hf:foldB g=true):
  Calls Tryz.prog 78 #[v, .int .i64 0] w fun e w'=> ∃r P,e= .returned (.tuple #[r, .slice (some ⟨P,0,none⟩) g.2.1.toNat g.2.1.toNat])∧w.heap.size≤P∧TreeX (wdO g) P P g.2.1.toNat w' r (canO g)∧OwI w' w.heap.size r (canO g)∧Below w.heap.size w w':=by
 have HG:=hDD h
 obtain⟨hg,hfol⟩:=foldB_parts hf
 have ONE:=hDD (steps_one hfol)
 have LET:=hDD (let_of_gr hg)
 obtain⟨hr13,hsz40,hl120,_⟩:=grB_parts hg
 obtain⟨A,cap,hv⟩: ∃A cap,v= .agg #[.int .i64 g.1, .int .i64 g.2.1, .slice A g.2.2.length cap]:=by
  obtain⟨s,hv,_,_,ha⟩:=h
  obtain⟨A,cap,rfl⟩:=ha.form
  exact⟨A,cap,hv⟩
 subst hv
 obtain⟨N,hN⟩: ∃N:Nat,g.2.1=(N:Int):=⟨g.2.1.toNat,by omega⟩
 obtain⟨rn,hrn⟩: ∃rn:Nat,g.1=(rn:Int):=⟨g.1.toNat,by omega⟩
 have hrn1:1≤rn:=by omega
 have hrn3:rn≤3:=by omega
 have hN1:1≤N:=by omega
 have hN2:N≤40:=by omega
 have HCO:Hid (canO g=canF g.2.2 (lettersL rn) 41 0 [0]):=hDD (by unfold canO;rw[hrn];rfl)
 have HZ:Hid (wdO g 0= []):=hDD (wd_zero hg)
 have HS0:Hid (TwS g (lettersL rn) 0 [0]):=hDD (by have h:=TwS.zero g;rwa [hrn] at h)
 have HNW:Hid (∀(k:Nat) (o:List Int) (u:Int),TwS g (lettersL rn) k o→o[k]? =some u→k<41→ ∀(m:Nat) (hm:m<(lettersL rn).length),0≤nextV g.2.2 u (lettersL rn)[m]→hasB (((lettersL rn).take m).foldl (cstep g.2.2 u) o) (nextV g.2.2 u (lettersL rn)[m])=false→wdO g (nextV g.2.2 u (lettersL rn)[m])=wdO g u++ [(lettersL rn)[m]]):=hDD fun k o u h h1 h2 m hm h3 h4=>h.new hg h1 h2 hm h3 h4
 have OK0:=hDD (OrdOk.one (n:=g.2.1) (by omega))
 have OKS:Hid (∀(u:Int) (o:List Int) (k:Nat),OrdOk g.2.1 o→OrdOk g.2.1 (((lettersL rn).take k).foldl (cstep g.2.2 u) o)):=hDD fun u o k h=>cfold_take_ok hg _ k h
 have OKL:Hid (∀o:List Int,OrdOk g.2.1 o→o.length≤40):=hDD fun o h=>h.len (by omega) (by omega)
 have OKR:Hid (∀o:List Int,OrdOk g.2.1 o→ ∀y∈o,0≤y∧y<N):=hDD fun o h y hy=>by have:=h.2.1 y hy;omega
 have NV:Hid (∀u x,nextV g.2.2 u x= -1∨(0≤nextV g.2.2 u x∧nextV g.2.2 u x<N)):=hDD fun u x=>by
  rcases nextV_range hg u x with e | e
  ·exact .inl e
  ·exact .inr ⟨e.1,by omega⟩
 have hll:=lettersL_len rn
 have HLE:Hid (∀W:World,Calls Tryz.prog 80 #[.int .i64 g.1] W fun e w'=> ∃r,e= .returned r∧OwI w' W.heap.size r (lettersL rn)∧Below W.heap.size W w'):=hDD fun W=>by
  rw[hrn]
  exact letters_any rn W (by omega)
 generalize lettersL rn=ls at*
 obtain⟨F,hF⟩: ∃F,F=wdO g:=⟨_,rfl⟩
 rw[←hF] at HZ HNW⊢
 replace hF:=hDD hF
 rw[hN] at HG
 clear hg hf hfol h hrn
 have hr1:1≤g.1∧g.1≤3:=hr13
 clear hsz40 hl120 hr13
 rw[hN]
 simp only[Int.toNat_natCast]
 have bx:Below w.heap.size w (w.alloc (Obj.cells #[Value.int IntKind.i64 g.1,Value.int IntKind.i64 N, .slice A g.2.2.length cap] 26)):=(by repeat(first | exact Below.refl _ _ | (refine Below.setCell ?_ (by first | omega | (simp<;>omega)) _) | (refine bel_drewN ?_ _) | (refine Below.drew ?_) | (refine Below.alloc ?_ (by first | omega | (simp<;>omega)) _)))
 have k0:(w.alloc (Obj.cells #[Value.int IntKind.i64 g.1,Value.int IntKind.i64 N, .slice A g.2.2.length cap] 26)).cell? ⟨w.heap.size,0,none⟩=some (.int .i64 g.1):=by simp[go_sem]
 have k1:(w.alloc (Obj.cells #[Value.int IntKind.i64 g.1,Value.int IntKind.i64 N, .slice A g.2.2.length cap] 26)).cell? ⟨w.heap.size,1,none⟩=some (.int .i64 N):=by simp[go_sem]
 have k2:(w.alloc (Obj.cells #[Value.int IntKind.i64 g.1,Value.int IntKind.i64 N, .slice A g.2.2.length cap] 26)).cell? ⟨w.heap.size,2,none⟩=some (.slice A g.2.2.length cap):=by simp[go_sem]
 have sx:w.heap.size<(w.alloc (Obj.cells #[Value.int IntKind.i64 g.1,Value.int IntKind.i64 N, .slice A g.2.2.length cap] 26)).heap.size:=by simp
 have ex:(w.alloc (Obj.cells #[Value.int IntKind.i64 g.1,Value.int IntKind.i64 N, .slice A g.2.2.length cap] 26)).heap.size=w.heap.size+1:=by simp
 have qT: ∀(w:World) (a:Option Addr) (n c n' c':Nat),(binOp .eql 27 (.slice a n c) (.slice none n' c')).run Tryz.prog w= .ok (.bool a.isNone) w:=fun w a n c n' c'=>Lib.run_eql_slice_nil w _ _ a n c n' c' Tryz.underlying27
 go_enter Tryz.func78,Tryz.ntmps78
 obtain⟨i0,hi0,hz0,hz1,hz2⟩:=info_parts ints_info'
 go_wp2_with (at_make;refine wpList_make_full _ rfl _ _ 38 rfl (w.heap.size+1) 27 i0 (.slice none 0 0) 1 Tryz.underlying38 hi0 hz0 hz1 _ _ _ _ N rfl rfl rfl rfl (by rw[hz2];omega) (by unfold maxLen;omega) (by simp) ?_)
 generalize w.alloc (Obj.cells #[Value.int IntKind.i64 g.1,Value.int IntKind.i64 N, .slice A g.2.2.length cap] 26)=w1 at bx k0 k1 k2 sx ex⊢
 rw[←ex]
 have BX:=hDD bx
 have K0:=hDD k0
 have K1:=hDD k1
 have K2:=hDD k2
 have EX:=hDD ex
 clear k0 k1 k2 bx ex
 intro w2 hown0 hgrow0
 have hP2:w1.heap.size<w2.heap.size:=(hown0.lt w1.heap.size rfl).2
 have B12:Below w1.heap.size w1 w2:=(Below.refl w1.heap.size w1).grown hgrow0 (Nat.le_refl _) (fun k h=>by cases h)
 have TW0:TreeX F w1.heap.size w1.heap.size N w2 (.slice none 0 0) []:=⟨⟨List.replicate N (.slice none 0 0),by simp,by simpa[toList_madeCells_one] using hown0,fun j hj=> .inl ⟨by simp,by simp⟩⟩,by simp[Value.ownBlock]⟩
 have TW1:TreeX F w1.heap.size w1.heap.size N (w2.alloc (.cells #[] 3)) (.slice none 0 0) []:=TW0.below ((Below.refl _ _).alloc (Nat.le_refl _) _)
 have oE:OwI (w2.alloc (.cells #[] 3)) w2.heap.size (.slice (some ⟨w2.heap.size,0,none⟩) 0 0) []:=OwI_lit w2 [] (fun _ h=>by cases h) (by simp) (Nat.le_refl _)
 have TW2:=TW1.set (y:=0) (by omega) HZ.out (b:=w2.heap.size) (cap:=0) (ws:= []) (oE.mono (by omega)) (by simp) (by omega) (by simp[Value.ownBlock]) (by simp)
 have hc0:=TW1.at_new (y:=0) (by omega) (by simp)
 have hf0:=TW1.free 0
 have j1:(0:Int)<(N:Int):=by omega
 have TWH:=hDD TW2
 have B13:Hid (Below w1.heap.size w1 ((w2.alloc (.cells #[] 3)).setCell ⟨w1.heap.size,0,none⟩ (.slice (some ⟨w2.heap.size,0,none⟩) 0 0))):=hDD ((B12.alloc (by omega) _).setCell (by show w1.heap.size≤w1.heap.size;omega) _)
 clear TW0 TW1 TW2 oE hown0 hgrow0 B12
 go_wp2
 have oO:OwI (((w2.alloc (.cells #[] 3)).setCell ⟨w1.heap.size,0,none⟩ (.slice (some ⟨w2.heap.size,0,none⟩) 0 0)).alloc (.cells #[Value.int IntKind.i64 0] 3)) (w1.heap.size+1) (.slice (some ⟨w2.heap.size+1,0,none⟩) 1 1) [0]:=OwI_litN _ [0] (w2.heap.size+1) (by simp) (fun x hx=>by simp at hx;subst hx;exact⟨by decide,by decide⟩) (by simp) (by omega)
 have TWL:=TWH.out.lit (.cells #[Value.int IntKind.i64 0] 3) 1 1
 have B14:Below w1.heap.size w1 (((w2.alloc (.cells #[] 3)).setCell ⟨w1.heap.size,0,none⟩ (.slice (some ⟨w2.heap.size,0,none⟩) 0 0)).alloc (.cells #[Value.int IntKind.i64 0] 3)):=B13.out.alloc (by simp;omega) _
 have e3:((w2.alloc (.cells #[] 3)).setCell ⟨w1.heap.size,0,none⟩ (.slice (some ⟨w2.heap.size,0,none⟩) 0 0)).heap.size=w2.heap.size+1:=by simp
 simp only[List.length_nil,List.nil_append] at TWL
 rw[e3] at TWL
 have hsw:(w2.alloc (.cells #[] 3)).setCell ⟨w1.heap.size,0,none⟩ (.slice (some ⟨w2.heap.size,0,none⟩) 0 0)=(w2.setCell ⟨w1.heap.size,0,none⟩ (.slice (some ⟨w2.heap.size,0,none⟩) 0 0)).alloc (.cells #[] 3):=World.setCell_alloc_past _ _ _ _ hP2
 rw[hsw] at oO TWL B14
 generalize ((w2.setCell ⟨w1.heap.size,0,none⟩ (.slice (some ⟨w2.heap.size,0,none⟩) 0 0)).alloc (.cells #[] 3)).alloc (.cells #[Value.int IntKind.i64 0] 3)=w3 at oO TWL B14⊢
 have OO:=hDD oO
 have TW:=hDD TWL
 have HB0:=hDD B14
 clear oO TWL B14 e3 hc0 hf0 TWH B13
 go_loopw [7,8] (fun out i wo=> ∃(k:Nat) (o:List Int),k≤o.length∧i= .int .i64 k∧OrdOk g.2.1 o∧TwS g ls k o∧canO g=canF g.2.2 ls (41-k) k o∧OwI wo (w1.heap.size+1) out o∧TreeX F w1.heap.size w1.heap.size N wo out o∧Below w1.heap.size w1 wo) (fun _ i _=>41-(intOf i).toNat)
 case atStart=>exact⟨0,[0],by simp,rfl,OK0.out,HS0.out,HCO.out,OO.out,TW.out,HB0.out⟩
 case round=>
  obtain⟨k,o,hk,rfl,hok,hts0,hco,hown,htw,hbel⟩:=hrel
  have HTS0:=hDD hts0
  clear hts0
  obtain⟨wo,rfl⟩: ∃wo:World,wo=wr:=⟨_,rfl⟩
  have hol:=OKL.out o hok
  have HOK:=hDD hok
  have HC:=hDD hco
  have HO:=hDD hown
  have HTW:=hDD htw
  have HB2:=hDD hbel
  have hsz:=hbel.size
  have q0:=(hbel.cell (p:=⟨w.heap.size,0,none⟩) sx).trans K0.out
  obtain⟨A1,cap1,rfl,_,_,_,hf2⟩:=hown.form
  clear hok hco htw hbel
  by_cases hlt:k<o.length
  ·obtain⟨u,hu⟩: ∃u,o[k]? =some u:=⟨o[k],by simp⟩
   have hku:o[k]=u:=by rw[List.getElem?_eq_getElem hlt] at hu;injection hu
   have HCF:Hid (canO g=canF g.2.2 ls (41-(k+1)) (k+1) (ls.foldl (cstep g.2.2 u) o)):=hDD (by
    rw[HC.out,show 41-k=(41-(k+1))+1 by omega,canF_step _ _ _ _ _ hlt,hku])
   have HTS1:=hDD (HTS0.out.step hu (by omega))
   have HNW1:=hDD (HNW.out k o u HTS0.out hu (by omega))
   have HPU:Hid (∀m:Nat,(((ls.take m).foldl (cstep g.2.2 u) o))[k]? =some u):=hDD fun m=>cfold_prefix _ _ _ _ _ _ hu
   have HSU:Hid (∀(m:Nat) (hm:m<ls.length),(ls.take (m+1)).foldl (cstep g.2.2 u) o=cstep g.2.2 u ((ls.take m).foldl (cstep g.2.2 u) o) ls[m]):=hDD fun m hm=>cfold_succ _ _ _ _ _ hm
   have HOKm:Hid (∀m:Nat,OrdOk g.2.1 ((ls.take m).foldl (cstep g.2.2 u) o)):=hDD fun m=>OKS.out u o m HOK.out
   obtain⟨un,hun,hunN⟩: ∃un:Nat,u=(un:Int)∧un<N:=by
    have h1:=HOK.out.2.1 u (by rw[←hku];simp)
    exact⟨u.toNat,by omega,by omega⟩
   obtain⟨b1,rfl,_,hb1⟩:=hf2 (by omega)
   have ck:=hown.cellAt k hlt
   rw[hku] at ck
   have HUN:=hDD hun
   clear hf2 hu hku hown hun
   go_wp2_with fail
   refine(HLE.out wo).mono ?_
   rintro e wl ⟨rl,rfl,ol,bl⟩
   have sl:=bl.size
   obtain⟨Al,capl,rfl,hcl,hml,_,hfl⟩:=ol.form
   obtain⟨gl,rfl,hgl1,hgl2⟩:=hfl (by omega)
   unfold maxLen at hml
   have OL:=hDD ol.rd
   have BL:=hDD bl
   have HO3:=hDD (HO.out.below bl)
   have HT3:=hDD (HTW.out.below bl)
   have hne1:b1≠gl:=by omega
   clear hfl ol bl
   go_wp2
   go_loopw [7,36] (fun out j wr=> ∃m:Nat,m≤ls.length∧j= .int .i64 m∧OwI wr (w1.heap.size+1) out ((ls.take m).foldl (cstep g.2.2 u) o)∧TreeX F w1.heap.size w1.heap.size N wr out ((ls.take m).foldl (cstep g.2.2 u) o)∧RdI wr (.slice (some ⟨gl,0,none⟩) ls.length capl) ls∧out.ownBlock≠some gl∧gl≠w1.heap.size∧gl<wr.heap.size∧Below w1.heap.size wl wr) (fun _ j _=>ls.length-(intOf j).toNat)
   case atStart=>exact⟨0,Nat.zero_le _,rfl,HO3.out,HT3.out,OL.out,by simp[Value.ownBlock];omega,by have:=HTW.out.lt;omega,hgl2,Below.refl _ _⟩
   case round=>
    obtain⟨m,hm1,rfl,hown,htw,hrd,hne,hnP,hblr,hbi⟩:=hrel
    have hsi:=hbi.size
    have HBI:=hDD hbi
    have HB4:Hid (Below w1.heap.size w1 wr):=hDD ((HB2.out.trans (BL.out.mono (by omega))).trans hbi)
    have p0:=(HB4.out.cell (p:=⟨w.heap.size,0,none⟩) sx).trans K0.out
    have p1:=(HB4.out.cell (p:=⟨w.heap.size,1,none⟩) sx).trans K1.out
    have p2:=(HB4.out.cell (p:=⟨w.heap.size,2,none⟩) sx).trans K2.out
    have HRR:=hDD hrd
    have HNR:=hDD hne
    have HTW2:=hDD htw
    clear hbi htw
    by_cases hlt2:m<ls.length
    ·have hokm:=HOKm.out m
     have hlm:=OKL.out _ hokm
     have hpu:=HPU.out m
     have HS:=hDD (HSU.out m hlt2)
     have HORm:=hDD (OKR.out _ hokm)
     obtain⟨_,_,hAl,_,hcl⟩:=hrd.at (by omega)
     obtain⟨rfl,rfl⟩:gl=_∧0=_:=by simpa using hAl
     have c0:=hcl m hlt2
     rw[Nat.zero_add] at c0
     have hx64:I64 ls[m]:=hrd.2 _ (by simp)
     have HNW2:=hDD (HNW1.out m hlt2)
     generalize ls[m]=x at c0 HS hx64 HNW2
     have HX:=hDD hx64
     generalize (ls.take m).foldl (cstep g.2.2 u) o=om at*
     have hum:u∈om:=List.mem_of_getElem? hpu
     have HUM:=hDD hum
     have HOM:=hDD hown
     have NX:=hDD (NV.out u x)
     have N0:=hDD (cstep_no (es:=g.2.2) (u:=u) (x:=x) (o:=om))
     have N1:=hDD (cstep_in (es:=g.2.2) (u:=u) (x:=x) (o:=om))
     have N2:=hDD (cstep_new (es:=g.2.2) (u:=u) (x:=x) (o:=om))
     have HNX:=hDD (implNextVertex_any _ g u x wr (HG.out.below (BX.out.trans (HB4.out.mono (by omega)))) (ONE.out u x) LET.out)
     clear hcl hAl hown hrd hpu hokm hx64 hum
     go_wp2_with fail
     refine HNX.out.mono ?_
     rintro e wq ⟨rfl,bq⟩
     clear HNX
     have sq:=bq.size
     have HQ:Hid (Below w1.heap.size wl wq):=hDD (HBI.out.trans (bq.mono (by omega)))
     have HOQ:=hDD (HOM.out.below bq)
     have HRQ:=hDD (HRR.out.below bq)
     have HTQ:=hDD (HTW2.out.below bq)
     clear bq p0 p1 p2
     generalize nextV g.2.2 u x=y at*
     rcases NX.out with hy | hy
     ·subst hy
      have F0:=hDD (N0.out (by omega))
      go_wp2
      go_roundw
      case rel=>exact⟨m+1,by omega,by go_num,by rw[HS.out,F0.out];exact HOQ.out,by rw[HS.out,F0.out];exact HTQ.out,HRQ.out,HNR.out,hnP,by omega,HQ.out⟩
      case measure=>simp[intOf];omega
     ·obtain⟨yn,rfl⟩: ∃yn:Nat,y=(yn:Int):=⟨y.toNat,by omega⟩
      have hy0:(0:Int)≤(yn:Int):=hy.1
      have hyN:(yn:Int)<(N:Int):=hy.2
      have hynN:yn<N:=by omega
      rcases h1:hasB om (yn:Int) with _ | _
      ·have F0:=hDD (N2.out hy0 h1)
       have HY:Hid (I64 (yn:Int)):=hDD ⟨by omega,by omega⟩
       have hnotin:(yn:Int)∉om:=hasB_not h1
       have HWY:=hDD (HNW2.out hy0 h1)
       have ct:=HTQ.out.at_new hynN hnotin
       have ft:=HTQ.out.free yn
       obtain⟨bu,capu,cu,hwul,hru,_⟩:=HTQ.out.at_old hunN (by rw[←HUN.out];exact HUM.out)
       have HWU:Hid (F u=F (un:Int)):=hDD (by rw[HUN.out])
       have HWY2:Hid (F (yn:Int)=F (un:Int)++ [x]):=hDD (by rw[HWY.out,HWU.out])
       generalize F (un:Int)=wu at*
       have HRU:=hDD hru
       have huN':u<(N:Int):=by rw[HUN.out];omega
       have hu0':(0:Int)≤u:=by rw[HUN.out];omega
       have cu':wq.cell? ⟨w1.heap.size,u.toNat,none⟩=some (.slice (some ⟨bu,0,none⟩) wu.length capu):=by rw[HUN.out];exact cu
       clear hru hnotin
       go_wp2_with fail
       refine(copyInts_any _ wu _ HRU.out (by omega)).mono ?_
       rintro e wc ⟨rc,rfl,oc,bc⟩
       have sc:=bc.size
       have OC:=hDD oc
       have BC:=hDD bc
       have hPq:=HTQ.out.lt.2
       have hneT:=HTQ.out.ne
       have hA2: ∀x,u7.ownBlock=some x→x<wq.heap.size:=fun x hx=>(HOQ.out.1.lt x hx).2
       have HA2:=hDD hA2
       have CT:=hDD ct
       have FT:=hDD ft
       obtain⟨Ac,capc,rfl,_⟩:=OwI.form oc
       clear oc bc ct ft hA2
       go_wp2_with (first | ((at_builtin;refine push_int rfl (.tmp 59) (.tmp 61) rfl _ _ _ (OwI.alloc OC.out _) rfl _ _ rfl (cell_new1 _ _ _) HX.out (by first | omega | (simp<;>omega)) (by first | omega | (simp<;>omega)) ?_;intro v8 wv8 o8 g8 p8);obtain⟨A8,cap8,rfl,hl8,hm8,_,hf8⟩:=OwI.form o8;obtain⟨b8,rfl,hb81,hb82⟩:=hf8 (by simp);have B8:Below wq.heap.size wq wv8:=bel_push BC.out sc OC.out.1 (Nat.le_refl _) g8;have ct3:=(B8.cell (p:=⟨w1.heap.size,yn,none⟩) hPq).trans CT.out;have ft3:=(B8.frozen (p:=⟨w1.heap.size,yn,none⟩) hPq).trans FT.out;have hts:=(HTQ.out.below B8).set hynN HWY2.out (o8.mono (by omega)) (by simp;omega) (by omega) (fun e=>by have:=HA2.out _ e;omega) hb82;have s8:=B8.size;have HB8:=hDD B8;simp only[List.length_append,List.length_cons,List.length_nil,Nat.zero_add] at hts;have HTS:=hDD hts;clear o8 g8 p8 hf8 B8 hts;have hgS:wv8.grownBy (wv8.setCell ⟨w1.heap.size,yn,none⟩ (.slice (some ⟨b8,0,none⟩) (wu.length+1) cap8)) (some w1.heap.size):=set_grown _ _ _ _;have HOS:Hid (OwI (wv8.setCell ⟨w1.heap.size,yn,none⟩ (.slice (some ⟨b8,0,none⟩) (wu.length+1) cap8)) (w1.heap.size+1) u7 om):=hDD ((HOQ.out.below HB8.out).far (p:=⟨w1.heap.size,yn,none⟩) (by show w1.heap.size<_;omega) _);have HRS:Hid (RdI (wv8.setCell ⟨w1.heap.size,yn,none⟩ (.slice (some ⟨b8,0,none⟩) (wu.length+1) cap8)) (.slice (some ⟨gl,0,none⟩) ls.length capl) ls):=hDD ((HRQ.out.below HB8.out).grown hgS fun b hb hb'=>by simp[Value.ownBlock] at hb hb';omega);have HBS:Hid (Below w1.heap.size wl (wv8.setCell ⟨w1.heap.size,yn,none⟩ (.slice (some ⟨b8,0,none⟩) (wu.length+1) cap8))):=hDD ((HQ.out.trans (HB8.out.mono (by omega))).setCell (by show w1.heap.size≤w1.heap.size;omega) _);clear hgS) | (at_builtin;refine push_int rfl (.tmp 64) (.tmp 66) rfl _ _ _ (OwI.alloc HOS.out _) rfl _ _ rfl (by simp[go_sem]) HY.out (by first | omega | (simp<;>omega)) (by first | omega | (simp<;>omega)) ?_;intro v9 wv9 o9 g9 p9))
       have hS:(wv8.setCell ⟨w1.heap.size,yn,none⟩ (.slice (some ⟨b8,0,none⟩) (wu.length+1) cap8)).heap.size=wv8.heap.size:=by simp
       have hz9:=g9.size
       simp at hz9
       go_roundw
       case rel=>
        refine⟨m+1,by omega,by go_num,by rw[HS.out,F0.out];exact o9,by rw[HS.out,F0.out];exact HTS.out.push g9 p9,(HRS.out.alloc _).grown g9 (fun b hb hb'=> ?_),fun e=> ?_,hnP,by omega,bel_push HBS.out (by omega) HOS.out.1 (by omega) g9⟩
        ·simp only[Value.ownBlock,Option.some.injEq] at hb
         subst hb
         exact HNR.out hb'
        ·rcases p9 with p9 | p9
         ·rw[p9] at e;exact HNR.out e
         ·rw[p9] at e;simp at e;omega
       case measure=>simp[intOf];omega
      ·have F0:=hDD (N1.out hy0 h1)
       obtain⟨bu,capu,cu,hwul,hru,_⟩:=HTQ.out.at_old hynN (hasB_iff.1 h1)
       clear hru
       generalize F (yn:Int)=wy at*
       go_wp2
       go_roundw
       case rel=>exact⟨m+1,by omega,by go_num,by rw[HS.out,F0.out];exact HOQ.out,by rw[HS.out,F0.out];exact HTQ.out,HRQ.out,HNR.out,hnP,by omega,HQ.out⟩
       case measure=>simp[intOf];omega
    ·obtain rfl:m=ls.length:=by omega
     rw[List.take_length] at hown HTW2
     have hokm:=HOKm.out ls.length
     rw[List.take_length] at hokm
     have HOKF:=hDD hokm
     have HOM:=hDD hown
     have hlen:k+1≤(ls.foldl (cstep g.2.2 u) o).length:=by
      have:=HPU.out ls.length
      rw[List.take_length] at this
      have:=(List.getElem?_eq_some_iff.1 this).1
      omega
     obtain⟨A2,cap2,rfl,_⟩:=hown.form
     clear hown hrd hne hokm p0 p1 p2
     go_wp2
     go_roundw
     case rel=>exact⟨k+1,_,hlen,by go_num,HOKF.out,HTS1.out,HCF.out,HOM.out,HTW2.out,HB4.out⟩
     case measure=>simp[intOf];omega
  ·obtain rfl:k=o.length:=by omega
   have F':Hid (canO g=o):=hDD (by rw[HC.out,canF_end])
   clear hown hf2
   have HBW:Hid (Below w.heap.size w wo):=hDD (BX.out.trans (HB2.out.mono (by omega)))
   have HEX:=EX.out
   have hbase:w.heap.size≤w1.heap.size+1:=by omega
   have hP0:w.heap.size≤w1.heap.size:=by omega
   clear HEX
   go_wp2
   exact bodyPost_ret (v:= .tuple #[.slice A1 o.length cap1, .slice (some ⟨w1.heap.size,0,none⟩) N N]) (by simp[results,Tryz.results78]) rfl ⟨_,w1.heap.size,rfl,hP0,by rw[F'.out];exact HTW.out,by rw[F'.out];exact HO.out.mono hbase,HBW.out⟩
theorem gboxE {w W:World} {a b c:Value} {t:TypeId} (hW:W=w.alloc (.cells #[a,b,c] t)):W.heap.size=w.heap.size+1∧Below w.heap.size w W∧
  (∀w',Below (w.heap.size+1) W w'→w'.cell? ⟨w.heap.size,0,none⟩=some a∧w'.cell? ⟨w.heap.size,1,none⟩=some b∧w'.cell? ⟨w.heap.size,2,none⟩=some c):=by
 have hs:W.heap.size=w.heap.size+1:=by rw[hW];simp
 have h0:W.cell? ⟨w.heap.size,0,none⟩=some a:=by rw[hW];simp[go_sem]
 have h1:W.cell? ⟨w.heap.size,1,none⟩=some b:=by rw[hW];simp[go_sem]
 have h2:W.cell? ⟨w.heap.size,2,none⟩=some c:=by rw[hW];simp[go_sem]
 exact⟨hs,by rw[hW];exact(Below.refl _ _).alloc (Nat.le_refl _) _,fun w' hb=>⟨(hb.cell (p:=⟨w.heap.size,0,none⟩) (Nat.lt_succ_self _)).trans h0,(hb.cell (p:=⟨w.heap.size,1,none⟩) (Nat.lt_succ_self _)).trans h1,(hb.cell (p:=⟨w.heap.size,2,none⟩) (Nat.lt_succ_self _)).trans h2⟩⟩
theorem OwLf.form {α:Type} {E:El α} {t:TypeId} {width:Nat} {w:World} {v:Value} {ds:List α} {F:List Nat} (h:OwLf E t width w v ds F): ∃A cap,v= .slice A ds.length cap:=by
 obtain⟨ess,h1,h2,h3,_⟩:=h
 obtain⟨A,cap,hv,_⟩:=owns_form h3
 exact⟨A,cap,by rw[hv,←h1];simp⟩
theorem RdI.keepB {w w':World} {b off n c:Nat} {xs:List Int} (h:RdI w (.slice (some ⟨b,off,none⟩) n c) xs) (hb:w'.heap[b]? =w.heap[b]?):RdI w' (.slice (some ⟨b,off,none⟩) n c) xs:=by
 obtain⟨⟨h1,A,cap,hv,h2,h3,h4,h5⟩,h6⟩:=h
 injection hv with e1 e2 e3
 subst e1 e3
 refine⟨⟨h1,_,_,by rw[e2],h2,h3,h4,fun h0=> ?_⟩,h6⟩
 obtain⟨b',off',cur,fr,hA,hh,hx⟩:=h5 h0
 injection hA with hA
 injection hA with hA1 hA2
 subst hA1 hA2
 exact⟨b,off,cur,fr,rfl,by rw[hb];exact hh,hx⟩
end Go.Proofs.YteobmaambgmdbaaGreat
namespace Go.Proofs.YteobmaambgmdbaaGreat
set_option maxRecDepth 20000
set_option linter.unusedVariables false
set_option linter.unusedSimpArgs false
open Go.RowKit
theorem mt_iff {v x y:Int} {e:EdD} (hx: -3≤x∧x≤3):mt v x e=some y↔(0<x∧e.2.1=x∧e.1=v∧e.2.2=y)∨(x<0∧e.2.1= -x∧e.2.2=v∧e.1=y):=by
 have hw:wrap64 (-x)= -x:=IntWalk.wrap64_in _ ⟨by omega,by omega⟩
 unfold mt
 rw[hw]
 constructor
 ·intro h
  split at h
  ·split at h
   ·rename_i p q;injection h with h;exact .inl ⟨p,q.1,q.2,h⟩
   ·cases h
  ·split at h
   ·split at h
    ·rename_i p q;injection h with h;exact .inr ⟨p,q.1,q.2,h⟩
    ·cases h
   ·cases h
 ·rintro(⟨p,q,r,s⟩ | ⟨p,q,r,s⟩)
  ·rw[if_pos p,if_pos ⟨q,r⟩,s]
  ·rw[if_neg (by omega),if_pos p,if_pos ⟨q,r⟩,s]
theorem next_iff {g:GrD} (hg:grB g=true) (hf:Fol g.2.2) {v x y:Int} (hx: -3≤x∧x≤3) (hy:0≤y):nextV g.2.2 v x=y↔(0<x∧(v,x,y)∈g.2.2)∨(x<0∧(y,-x,v)∈g.2.2):=by
 constructor
 ·intro h
  obtain⟨e,he,hm⟩:=nextV_mem (by omega:0≤nextV g.2.2 v x)
  rw[h] at hm
  rcases(mt_iff hx).1 hm with ⟨p,q,r,s⟩ | ⟨p,q,r,s⟩
  ·left
   obtain⟨a,l,b⟩:=e
   simp only at q r s
   subst q r s
   exact⟨p,he⟩
  ·right
   obtain⟨a,l,b⟩:=e
   simp only at q r s
   subst q r s
   exact⟨p,he⟩
 ·rintro(⟨p,h⟩ | ⟨p,h⟩)
  ·exact nextV_of hf h ((mt_iff hx).2 (.inl ⟨p,rfl,rfl,rfl⟩))
  ·exact nextV_of hf h ((mt_iff hx).2 (.inr ⟨p,rfl,rfl,rfl⟩))
theorem next_letter {g:GrD} (hg:grB g=true) {v x:Int} (hx: -3≤x∧x≤3) (h:0≤nextV g.2.2 v x):x∈lettersL g.1.toNat:=by
 obtain⟨e,he,hm⟩:=nextV_mem h
 have hl:=(edge_of_gr hg he).2.1
 rw[letters_mem]
 rcases(mt_iff hx).1 hm with ⟨p,q,_⟩ | ⟨p,q,_⟩<;>omega
def ov (o:List Int) (i:Int):Int:=o.getD i.toNat (-1)
theorem plv_get {o:List Int} (hd:o.Nodup): ∀(k:Nat) (hk:k<o.length),plv o o[k]=(k:Int)+1:=by
 induction o with
 | nil=>intro k hk;cases hk
 | cons u o ih=>
   rw[List.nodup_cons] at hd
   intro k hk
   cases k with
   | zero=>simp[plv]
   | succ k=>
     have hk':k<o.length:=by simpa using hk
     have hne:u≠o[k]:=fun e=>hd.1 (e▸List.getElem_mem hk')
     have:=ih hd.2 k hk'
     simp only[List.getElem_cons_succ]
     unfold plv
     rw[if_neg hne,if_neg (by omega),this]
     omega
theorem ov_get {o:List Int} {k:Nat} (hk:k<o.length):ov o k=o[k]:=by
 unfold ov
 rw[Int.toNat_natCast]
 simp[hk]
theorem plv_ov {o:List Int} (hd:o.Nodup) {i:Int} (h0:0≤i) (h1:i<o.length):plv o (ov o i)=i+1:=by
 obtain⟨k,rfl⟩: ∃k:Nat,i=(k:Int):=⟨i.toNat,by omega⟩
 rw[ov_get (by omega),plv_get hd k (by omega)]
theorem ov_mem {o:List Int} {i:Int} (h0:0≤i) (h1:i<o.length):ov o i∈o:=by
 obtain⟨k,rfl⟩: ∃k:Nat,i=(k:Int):=⟨i.toNat,by omega⟩
 rw[ov_get (by omega)]
 exact List.getElem_mem _
theorem ov_plv {o:List Int} (hd:o.Nodup) {v:Int} (h:v∈o):ov o (plv o v-1)=v:=by
 obtain⟨k,hk,rfl⟩:=List.getElem_of_mem h
 rw[plv_get hd k hk,show(k:Int)+1-1=k by omega,ov_get hk]
theorem plv_pos {o:List Int} {v:Int} (h:v∈o):0<plv o v:=by
 have:=plv_range o v
 have h0:plv o v≠0:=fun e=>plv_zero.1 e h
 omega
theorem rn_mem {g:GrD} {o:List Int} {e:EdD}:e∈(rnG g o).2.2↔ ∃a∈g.2.2,rnE o a=some e:=by
 show e∈srt cmpE (rnL g.2.2 o)↔_
 rw[(srt_spec cmpE_ord _).2]
 unfold rnL
 rw[List.mem_filterMap]
theorem rnE_iff {o:List Int} (hd:o.Nodup) {a e:EdD} (h1:0≤e.1∧e.1<o.length) (h2:0≤e.2.2∧e.2.2<o.length):rnE o a=some e↔a=(ov o e.1,e.2.1,ov o e.2.2):=by
 unfold rnE
 constructor
 ·intro h
  split at h
  ·rename_i p
   injection h with h
   subst h
   simp only
   have m1:a.1∈o:=Classical.byContradiction fun hn=>by have:=plv_zero.2 hn;omega
   have m2:a.2.2∈o:=Classical.byContradiction fun hn=>by have:=plv_zero.2 hn;omega
   rw[ov_plv hd m1,ov_plv hd m2]
  ·cases h
 ·rintro rfl
  simp only
  rw[plv_ov hd h1.1 h1.2,plv_ov hd h2.1 h2.2,if_pos ⟨by omega,by omega⟩]
  congr 1
  obtain⟨x,l,y⟩:=e
  simp only
  rw[show x+1-1=x by omega,show y+1-1=y by omega]
theorem rn_edge {g:GrD} {o:List Int} (hd:o.Nodup) {e:EdD} (h1:0≤e.1∧e.1<o.length) (h2:0≤e.2.2∧e.2.2<o.length):e∈(rnG g o).2.2↔(ov o e.1,e.2.1,ov o e.2.2)∈g.2.2:=by
 rw[rn_mem]
 constructor
 ·rintro⟨a,ha,hr⟩
  rw[(rnE_iff hd h1 h2).1 hr] at ha
  exact ha
 ·intro h
  exact⟨_,h,(rnE_iff hd h1 h2).2 rfl⟩
theorem rn_next {g:GrD} {o:List Int} (hf:foldB g=true) (ho:OrdN g.2.1 o) {i x:Int} (h0:0≤i) (h1:i<o.length) (hx: -3≤x∧x≤3):
  nextV (rnG g o).2.2 i x=if 0≤nextV g.2.2 (ov o i) x then plv o (nextV g.2.2 (ov o i) x)-1 else-1:=by
 obtain⟨hg,hfo⟩:=foldB_parts hf
 obtain⟨hg',hfo'⟩:=foldB_parts (foldB_rnGN hf ho)
 have fwd: ∀j:Int,0≤j→j<o.length→(nextV (rnG g o).2.2 i x=j↔nextV g.2.2 (ov o i) x=ov o j):=fun j j0 j1=>by
  have hoj:=(ho.2.1 _ (ov_mem j0 j1)).1
  rw[next_iff hg' hfo' hx j0,next_iff hg hfo hx hoj,rn_edge ho.1 (e:=(i,x,j)) ⟨h0,h1⟩ ⟨j0,j1⟩,rn_edge ho.1 (e:=(j,-x,i)) ⟨j0,j1⟩ ⟨h0,h1⟩]
 by_cases hy:0≤nextV g.2.2 (ov o i) x
 ·rw[if_pos hy]
  by_cases hm:nextV g.2.2 (ov o i) x∈o
  ·have hp:=plv_pos hm
   have hr:=plv_range o (nextV g.2.2 (ov o i) x)
   exact(fwd _ (by omega) (by omega)).2 (ov_plv ho.1 hm).symm
  ·rw[plv_zero.2 hm]
   rcases nextV_range hg' i x with h | h
   ·rw[h];rfl
   ·have:=(fwd _ h.1 h.2).1 rfl
    rw[this] at hm
    exact absurd (ov_mem h.1 h.2) hm
 ·rw[if_neg hy]
  rcases nextV_range hg' i x with h | h
  ·exact h
  ·have:=(fwd _ h.1 h.2).1 rfl
   have h2:=(ho.2.1 _ (ov_mem h.1 h.2)).1
   omega
theorem conn_next {es:List EdD} {u v x:Int} (hx: -3≤x∧x≤3) (h:Conn es u v) (hn:0≤nextV es v x):Conn es u (nextV es v x):=by
 obtain⟨e,he,hm⟩:=nextV_mem hn
 rcases(mt_iff hx).1 hm with ⟨_,_,r,s⟩ | ⟨_,_,r,s⟩
 ·rw[←s];exact .fwd e he (r▸h)
 ·rw[←s];exact .back e he (r▸h)
structure Sub (x g:GrD) (s:Int→Int):Prop where
 rk:x.1=g.1
 rng: ∀i,0≤i→i<x.2.1→0≤s i∧s i<g.2.1
 cn:Conn g.2.2 0 (s 0)
 fw: ∀i l,0≤i→i<x.2.1→ -3≤l∧l≤3→0≤nextV x.2.2 i l→nextV g.2.2 (s i) l=s (nextV x.2.2 i l)
 lp: ∀i w,0≤i→i<x.2.1→Conn x.2.2 0 i→(∀l∈w,-3≤l∧l≤3)→NoB w→walkF g.2.2 (s i) w=s i→walkF x.2.2 i w=i
theorem Sub.walk {x g:GrD} {s:Int→Int} (h:Sub x g s) (hx:grB x=true): ∀(w:List Int) (i:Int),0≤i→i<x.2.1→(∀l∈w,-3≤l∧l≤3)→0≤walkF x.2.2 i w→walkF g.2.2 (s i) w=s (walkF x.2.2 i w)
 | [],_,_,_,_,_=>rfl
 | l::w,i,h0,h1,hl,hw=>by
   rw[walkF_cons] at hw⊢
   split at hw
   ·exact absurd hw (by decide)
   ·rename_i hn
    have hl0:=hl l (by simp)
    have hf:=h.fw i l h0 h1 hl0 (by omega)
    rcases nextV_range hx i l with e | ⟨e1,e2⟩
    ·omega
    ·have hr:=h.rng _ e1 e2
     rw[hf,if_neg (by omega)]
     conv=>rhs;rw[walkF_cons,if_neg hn]
     exact h.walk hx w _ e1 e2 (fun l hl'=>hl l (by simp[hl'])) hw
theorem Sub.conn {x g:GrD} {s:Int→Int} (h:Sub x g s) (hx:grB x=true) (hfx:Fol x.2.2) (hg:grB g=true) {i:Int} (hc:Conn x.2.2 0 i):(0≤i∧i<x.2.1)∧Conn g.2.2 0 (s i):=by
 have hs:=(grB_parts hx).2.1
 have key: ∀e∈x.2.2,(Conn g.2.2 0 (s e.1)↔Conn g.2.2 0 (s e.2.2)):=fun e he=>by
  have hr:=edge_of_gr hx he
  have h3:=(grB_parts hx).1
  have hl: -3≤e.2.1∧e.2.1≤3:=by omega
  have n1:=nextV_out hx hfx he
  have n2:=nextV_in hx hfx he
  have f1:=h.fw e.1 e.2.1 hr.1.1 hr.1.2 hl (by rw[n1];exact hr.2.2.1)
  have f2:=h.fw e.2.2 (-e.2.1) hr.2.2.1 hr.2.2.2 (by omega) (by rw[n2];exact hr.1.1)
  rw[n1] at f1
  rw[n2] at f2
  constructor
  ·intro c
   have:=conn_next hl c (by rw[f1];exact(h.rng _ hr.2.2.1 hr.2.2.2).1)
   rwa [f1] at this
  ·intro c
   have:=conn_next (x:= -e.2.1) (by omega) c (by rw[f2];exact(h.rng _ hr.1.1 hr.1.2).1)
   rwa [f2] at this
 refine conn_of_closed (S:=fun i=>(0≤i∧i<x.2.1)∧Conn g.2.2 0 (s i)) ⟨by omega,h.cn⟩ (fun e he=> ?_) hc
 have hr:=edge_of_gr hx he
 have:=key e he
 constructor
 ·rintro⟨_,c⟩;exact⟨hr.2.2,this.1 c⟩
 ·rintro⟨_,c⟩;exact⟨hr.1,this.2 c⟩
theorem Sub.refl {g:GrD}:Sub g g id where
 rk:=rfl
 rng:=fun _ h0 h1=>⟨h0,h1⟩
 cn:= .base
 fw:=fun _ _ _ _ _ _=>rfl
 lp:=fun _ _ _ _ _ _ _ h=>h
theorem Sub.trans {x y g:GrD} {s t:Int→Int} (h:Sub x y s) (k:Sub y g t) (hx:grB x=true) (hfx:Fol x.2.2) (hy:grB y=true) (hfy:Fol y.2.2) (hg:grB g=true):Sub x g (fun i=>t (s i)) where
 rk:=h.rk.trans k.rk
 rng:=fun i h0 h1=>by have:=h.rng i h0 h1;exact k.rng _ this.1 this.2
 cn:=(k.conn hy hfy hg h.cn).2
 fw:=fun i l h0 h1 hl hn=>by
  have hr:=h.rng i h0 h1
  have f:=h.fw i l h0 h1 hl hn
  rw[←f]
  refine k.fw _ l hr.1 hr.2 hl ?_
  rw[f]
  rcases nextV_range hx i l with e | ⟨e1,e2⟩
  ·omega
  ·exact(h.rng _ e1 e2).1
 lp:=fun i w h0 h1 hc hl hn hw=>by
  have hr:=h.rng i h0 h1
  exact h.lp i w h0 h1 hc hl hn (k.lp (s i) w hr.1 hr.2 (h.conn hx hfx hy hc).2 hl hn hw)
theorem NoB.tail {a:Int} {l:List Int} (h:NoB (a::l)):NoB l:=by
 cases l with
 | nil=>trivial
 | cons b l=>exact h.2
theorem Sub.rn {g:GrD} {o:List Int} (hf:foldB g=true) (ho:OrdN g.2.1 o) (h0:Conn g.2.2 0 (ov o 0))
  (H: ∀v∈o,Conn g.2.2 0 v→ ∀l w,-3≤l∧l≤3→(∀x∈w,-3≤x∧x≤3)→NoB (l::w)→0≤nextV g.2.2 v l→nextV g.2.2 v l∉o→walkF g.2.2 (nextV g.2.2 v l) w∉o):Sub (rnG g o) g (ov o):=by
 obtain⟨hg,hfo⟩:=foldB_parts hf
 obtain⟨hg',hfo'⟩:=foldB_parts (foldB_rnGN hf ho)
 have rngs: ∀i,0≤i→i<(rnG g o).2.1→0≤ov o i∧ov o i<g.2.1:=fun i a b=>ho.2.1 _ (ov_mem a b)
 have fws: ∀i l,0≤i→i<(rnG g o).2.1→ -3≤l∧l≤3→0≤nextV (rnG g o).2.2 i l→nextV g.2.2 (ov o i) l=ov o (nextV (rnG g o).2.2 i l):=fun i l a b hl hn=>by
  have e:=rn_next hf ho a b hl
  split at e
  ·rename_i hp
   rw[e] at hn⊢
   refine(ov_plv ho.1 (Classical.byContradiction fun hm=> ?_)).symm
   have:=plv_zero.2 hm
   omega
  ·omega
 have walks: ∀(w:List Int) (v:Int),v∈o→Conn g.2.2 0 v→(∀l∈w,-3≤l∧l≤3)→NoB w→walkF g.2.2 v w∈o→walkF (rnG g o).2.2 (plv o v-1) w=plv o (walkF g.2.2 v w)-1:=by
  intro w
  induction w with
  | nil=>intro v _ _ _ _ _;rfl
  | cons l w ih=>
    intro v hv hc hl hn hw
    have hl0:=hl l (by simp)
    have hlw: ∀x∈w,-3≤x∧x≤3:=fun x hx=>hl x (by simp[hx])
    rw[walkF_cons] at hw
    split at hw
    ·have:=(ho.2.1 _ hw).1;omega
    ·rename_i hnn
     have hm:nextV g.2.2 v l∈o:=Classical.byContradiction fun hm=>H v hv hc l w hl0 hlw hn (by omega) hm hw
     have hp:=plv_pos hv
     have hr:=plv_range o v
     have hp2:=plv_pos hm
     have e:=rn_next hf ho (i:=plv o v-1) (x:=l) (by omega) (by omega) hl0
     rw[ov_plv ho.1 hv,if_pos (by omega)] at e
     rw[walkF_cons,walkF_cons,e,if_neg (by omega),if_neg hnn]
     exact ih _ hm (conn_next hl0 hc (by omega)) hlw hn.tail hw
 exact⟨rfl,rngs,h0,fws,fun i w a b hc hl hn hw=>by
  have hci:Conn g.2.2 0 (ov o i):=by
   have key: ∀e∈(rnG g o).2.2,(Conn g.2.2 0 (ov o e.1)↔Conn g.2.2 0 (ov o e.2.2)):=fun e he=>by
    have hr:=edge_of_gr hg' he
    have h3:=(grB_parts hg').1
    have hl: -3≤e.2.1∧e.2.1≤3:=by omega
    have n1:=nextV_out hg' hfo' he
    have n2:=nextV_in hg' hfo' he
    have f1:=fws e.1 e.2.1 hr.1.1 hr.1.2 hl (by rw[n1];exact hr.2.2.1)
    have f2:=fws e.2.2 (-e.2.1) hr.2.2.1 hr.2.2.2 (by omega) (by rw[n2];exact hr.1.1)
    rw[n1] at f1
    rw[n2] at f2
    constructor
    ·intro c
     have:=conn_next hl c (by rw[f1];exact(rngs _ hr.2.2.1 hr.2.2.2).1)
     rwa [f1] at this
    ·intro c
     have:=conn_next (x:= -e.2.1) (by omega) c (by rw[f2];exact(rngs _ hr.1.1 hr.1.2).1)
     rwa [f2] at this
   exact conn_of_closed (S:=fun i=>Conn g.2.2 0 (ov o i)) h0 key hc
  have hmi:=ov_mem a b
  have:=walks w (ov o i) hmi hci hl hn (by rw[hw];exact hmi)
  rw[hw,plv_ov ho.1 a b] at this
  rw[show i+1-1=i by omega] at this
  exact this⟩
theorem degE_pos {v x y:Int} {e:EdD} (hx: -3≤x∧x≤3) (h:mt v x e=some y):1≤degE v e:=by
 unfold degE
 rcases(mt_iff hx).1 h with ⟨_,_,r,_⟩ | ⟨_,_,r,_⟩
 ·rw[if_pos r];omega
 ·rw[if_pos r];omega
theorem degL_cons (e:EdD) (es:List EdD) (v:Int):degL (e::es) v=degE v e+degL es v:=by simp[degL]
theorem degL_mem {v:Int} {e:EdD}: ∀ {es:List EdD},e∈es→degE v e≤degL es v
 | a::es,h=>by
   rw[degL_cons]
   rcases List.mem_cons.1 h with rfl | h
   ·omega
   ·have:=degL_mem (v:=v) h;omega
theorem degL_two {v:Int} {e1 e2:EdD} (hne:e1≠e2): ∀ {es:List EdD},e1∈es→e2∈es→degE v e1+degE v e2≤degL es v
 | a::es,h1,h2=>by
   rw[degL_cons]
   rcases List.mem_cons.1 h1 with r1 | h1
   ·rcases List.mem_cons.1 h2 with r2 | h2
    ·exact absurd (r1.trans r2.symm) hne
    ·have:=degL_mem (v:=v) h2
     rw[r1];omega
   ·rcases List.mem_cons.1 h2 with r2 | h2
    ·have:=degL_mem (v:=v) h1
     rw[r2];omega
    ·have:=degL_two (v:=v) hne h1 h2;omega
theorem deg_uniq {es:List EdD} {v l m:Int} (hl: -3≤l∧l≤3) (hm: -3≤m∧m≤3) (hd:degL es v≤1) (h1:0≤nextV es v l) (h2:0≤nextV es v m):l=m:=by
 obtain⟨e1,he1,m1⟩:=nextV_mem h1
 obtain⟨e2,he2,m2⟩:=nextV_mem h2
 have p1:=degE_pos hl m1
 have p2:=degE_pos hm m2
 by_cases he:e1=e2
 ·subst he
  have hd1:=degL_mem (v:=v) he1
  unfold degE at hd1
  rcases(mt_iff hl).1 m1 with ⟨a1,a2,a3,a4⟩ | ⟨a1,a2,a3,a4⟩<;>rcases(mt_iff hm).1 m2 with ⟨b1,b2,b3,b4⟩ | ⟨b1,b2,b3,b4⟩
  ·omega
  ·rw[if_pos a3,if_pos b3] at hd1;omega
  ·rw[if_pos a3,if_pos b3] at hd1;omega
  ·omega
 ·have:=degL_two (v:=v) he he1 he2
  omega
theorem leafFrom_leaf (es:List EdD) (n:Nat): ∀f v:Nat,0≤leafFrom es n f v→leafB es (leafFrom es n f v).toNat=true
 | 0,v,h=>by unfold leafFrom at h;exact absurd h (by decide)
 | f+1,v,h=>by
   unfold leafFrom at h⊢
   split
   ·rename_i hv
    rw[if_pos hv] at h
    split
    ·rename_i hb;simpa using hb
    ·rename_i hb
     rw[if_neg hb] at h
     exact leafFrom_leaf es n f (v+1) h
   ·rename_i hv
    rw[if_neg hv] at h
    exact absurd h (by decide)
theorem Sub.leaf {g:GrD} (hf:foldB g=true) (hl:0≤leafV g.2.2 g.2.1.toNat):Sub (rnG g (delO g.2.1.toNat (leafV g.2.2 g.2.1.toNat))) g (ov (delO g.2.1.toNat (leafV g.2.2 g.2.1.toNat)))∧ov (delO g.2.1.toNat (leafV g.2.2 g.2.1.toNat)) 0=0:=by
 obtain⟨hg,hfo⟩:=foldB_parts hf
 have hsz:=(grB_parts hg).2.1
 have hr:=leafV_range g.2.2 g.2.1.toNat
 have hlf:=leafFrom_leaf g.2.2 g.2.1.toNat _ _ hl
 change leafB g.2.2 (leafV g.2.2 g.2.1.toNat).toNat=true at hlf
 generalize leafV g.2.2 g.2.1.toNat=u at*
 have hok:=delO_ok (n:=g.2.1.toNat) (x:=u) (by omega) (by omega)
 rw[show((g.2.1.toNat:Nat):Int)=g.2.1 by omega] at hok
 have hz:ov (delO g.2.1.toNat u) 0=0:=by
  have:=hok.2.2
  unfold ov
  simp[List.getD,this]
 refine⟨Sub.rn hf hok.toN (by rw[hz];exact .base) ?_,hz⟩
 intro v hv hc l w hll hlw hn h0 hm
 have hyu:nextV g.2.2 v l=u:=Classical.byContradiction fun hne=>by
  rcases nextV_range hg v l with e | ⟨e1,e2⟩
  ·omega
  ·exact hm (delO_mem.2 ⟨⟨e1,by omega⟩,hne⟩)
 have hcu:=conn_next hll hc h0
 rw[hyu] at hcu hm⊢
 have hd:degL g.2.2 u<2:=by
  unfold leafB at hlf
  rw[show((u.toNat:Nat):Int)=u by omega,Bool.or_eq_true,decide_eq_true_eq] at hlf
  rcases hlf with h | h
  ·exact h
  ·rw[hasB_iff.2 ((reachL_mem _ _ _).2 hcu)] at h
   cases h
 cases w with
 | nil=>exact hm
 | cons m w=>
   have hml:=hlw m (by simp)
   rw[walkF_cons]
   by_cases hnm:nextV g.2.2 u m<0
   ·rw[if_pos hnm]
    intro q
    have:=(delO_mem.1 q).1
    omega
   ·have hb:=nextV_back hg hfo hll h0
    rw[hyu] at hb
    have hv0:=(hok.2.1 v hv).1
    have:=deg_uniq hml (m:= -l) (by omega) (by omega:degL g.2.2 u≤1) (by omega) (by rw[hb];exact hv0)
    exact absurd this hn.1
theorem Sub.trimF: ∀(f:Nat) (g:GrD) (l:List Int),foldB g=true→ ∃s,Sub (trimF f g l).1 g s∧s 0=0
 | 0,g,l,_=>⟨id,Sub.refl,rfl⟩
 | f+1,g,l,hf=>by
   unfold Go.Proofs.YteobmaambgmdbaaGreat.trimF
   split
   ·exact⟨id,Sub.refl,rfl⟩
   ·rename_i hn
    obtain⟨hg,hfo⟩:=foldB_parts hf
    obtain⟨s1,z1⟩:=Sub.leaf hf (by omega)
    have hsz:=(grB_parts hg).2.1
    have hr:=leafV_range g.2.2 g.2.1.toNat
    have hok:=delO_ok (n:=g.2.1.toNat) (x:=leafV g.2.2 g.2.1.toNat) (by omega) (by omega)
    rw[show((g.2.1.toNat:Nat):Int)=g.2.1 by omega] at hok
    have hf2:=foldB_rnG hf hok
    obtain⟨s,hs,hz⟩:=Sub.trimF f _ (l.take (leafV g.2.2 g.2.1.toNat).toNat++l.drop ((leafV g.2.2 g.2.1.toNat).toNat+1)) hf2
    obtain⟨ga,fa⟩:=foldB_parts hf2
    obtain⟨gb,fb⟩:=foldB_parts (trimF_fold f _ (l.take (leafV g.2.2 g.2.1.toNat).toNat++l.drop ((leafV g.2.2 g.2.1.toNat).toNat+1)) hf2)
    exact⟨_,hs.trans s1 gb fb ga fa hg,by rw[hz,z1]⟩
theorem leafV_one (es:List EdD):leafV es 1= -1:=rfl
theorem trimF_noleaf: ∀(f:Nat) (g:GrD) (l:List Int),foldB g=true→g.2.1≤f+1→leafV (Go.Proofs.YteobmaambgmdbaaGreat.trimF f g l).1.2.2 (Go.Proofs.YteobmaambgmdbaaGreat.trimF f g l).1.2.1.toNat<0
 | 0,g,l,hf,h=>by
   have hsz:=(grB_parts (foldB_parts hf).1).2.1
   have e:g.2.1.toNat=1:=by omega
   show leafV g.2.2 g.2.1.toNat<0
   rw[e,leafV_one];decide
 | f+1,g,l,hf,h=>by
   unfold Go.Proofs.YteobmaambgmdbaaGreat.trimF
   split
   ·rename_i hn;exact hn
   ·rename_i hn
    have hsz:=(grB_parts (foldB_parts hf).1).2.1
    have hr:=leafV_range g.2.2 g.2.1.toNat
    have hok:=delO_ok (n:=g.2.1.toNat) (x:=leafV g.2.2 g.2.1.toNat) (by omega) (by omega)
    rw[show((g.2.1.toNat:Nat):Int)=g.2.1 by omega] at hok
    refine trimF_noleaf f _ _ (foldB_rnG hf hok) ?_
    rw[rnG_size,delO_len2,if_pos (by omega)]
    omega
theorem trimG_noleaf {g:GrD} (hf:foldB g=true):leafV (trimG g).1.2.2 (trimG g).1.2.1.toNat<0:=by
 have hsz:=(grB_parts (foldB_parts hf).1).2.1
 exact trimF_noleaf _ _ _ hf (by omega)
theorem cstep_sub (es:List EdD) (u:Int) (o:List Int) (x:Int) {y:Int} (h:y∈o):y∈cstep es u o x:=by
 unfold cstep
 split
 ·split
  ·exact h
  ·exact List.mem_append.2 (.inl h)
 ·exact h
theorem cfold_sub (es:List EdD) (u:Int): ∀(ls:List Int) (o:List Int) {y:Int},y∈o→y∈ls.foldl (cstep es u) o
 | [],_,_,h=>h
 | x::ls,o,_,h=>cfold_sub es u ls _ (cstep_sub es u o x h)
theorem cfold_has (es:List EdD) (u:Int): ∀(ls:List Int) (o:List Int) (x:Int),x∈ls→0≤nextV es u x→nextV es u x∈ls.foldl (cstep es u) o
 | a::ls,o,x,hx,h=>by
   rw[List.foldl_cons]
   rcases List.mem_cons.1 hx with rfl | hx
   ·refine cfold_sub es u ls _ ?_
    unfold cstep
    rw[if_pos h]
    split
    ·rename_i hb;exact hasB_iff.1 hb
    ·exact List.mem_append.2 (.inr (by simp))
   ·exact cfold_has es u ls _ x hx h
theorem canF_closed {g:GrD} (hg:grB g=true) (ls:List Int): ∀(f i:Nat) (o:List Int),OrdOk g.2.1 o→41≤f+i→
  (∀(j:Nat) (v:Int),j<i→o[j]? =some v→ ∀x∈ls,0≤nextV g.2.2 v x→nextV g.2.2 v x∈o)→
  ∀v∈canF g.2.2 ls f i o,∀x∈ls,0≤nextV g.2.2 v x→nextV g.2.2 v x∈canF g.2.2 ls f i o
 | 0,i,o,hok,hi,hc=>by
   have hl:=hok.len (grB_parts hg).2.1.2 (by have:=(grB_parts hg).2.1.1;omega)
   intro v hv x hx h0
   obtain⟨j,hj,rfl⟩:=List.getElem_of_mem hv
   exact hc j _ (by have:(canF g.2.2 ls 0 i o).length=o.length:=rfl;omega) (List.getElem?_eq_getElem hj) x hx h0
 | f+1,i,o,hok,hi,hc=>by
   have hl:=hok.len (grB_parts hg).2.1.2 (by have:=(grB_parts hg).2.1.1;omega)
   by_cases hil:i<o.length
   ·rw[canF_step _ _ _ _ _ hil]
    refine canF_closed hg ls f (i+1) _ (cfold_ok hg ls hok) (by omega) ?_
    intro j v hj hv x hx h0
    by_cases hji:j<i
    ·have hjo:j<o.length:=by omega
     have e:=cfold_prefix g.2.2 o[i] ls o j _ (List.getElem?_eq_getElem hjo)
     rw[hv] at e
     injection e with e
     subst e
     exact cfold_sub _ _ _ _ (hc j _ hji (List.getElem?_eq_getElem hjo) x hx h0)
    ·obtain rfl:j=i:=by omega
     have e:=cfold_prefix g.2.2 o[j] ls o j _ (List.getElem?_eq_getElem hil)
     rw[hv] at e
     injection e with e
     subst e
     exact cfold_has _ _ _ _ _ hx h0
   ·have e:canF g.2.2 ls (f+1) i o=o:=by
     rw[canF,List.getElem?_eq_none (by omega)]
    rw[e]
    intro v hv x hx h0
    obtain⟨j,hj,rfl⟩:=List.getElem_of_mem hv
    exact hc j _ (by omega) (List.getElem?_eq_getElem hj) x hx h0
theorem canO_closed {g:GrD} (hg:grB g=true) {v x:Int} (hv:v∈canO g) (hx: -3≤x∧x≤3) (h0:0≤nextV g.2.2 v x):nextV g.2.2 v x∈canO g:=
 canF_closed hg _ 41 0 [0] (OrdOk.one (grB_parts hg).2.1.1) (by omega) (fun j _ hj=>by omega) v hv x (next_letter hg hx h0) h0
theorem ov_zero {n:Int} {o:List Int} (h:OrdOk n o):ov o 0=0:=by
 have:=h.2.2
 unfold ov
 simp[List.getD,this]
theorem Sub.can {g:GrD} (hf:foldB g=true):Sub (canG g) g (ov (canO g)):=by
 obtain⟨hg,hfo⟩:=foldB_parts hf
 have hok:=canO_ok hg
 refine Sub.rn hf hok.toN (by rw[ov_zero hok];exact .base) ?_
 intro v hv hc l w hl hlw hn h0 hm
 exact absurd (canO_closed hg hv hl h0) hm
theorem foL_of_fol {es:List EdD} (h:Fol es):foL es= []:=by
 cases e:foL es with
 | nil=>rfl
 | cons f l=>
   obtain⟨i,k,hi,hk,hf⟩:=foL_from (show f∈foL es by rw[e];simp)
   have hc:=List.pairwise_iff_getElem.1 h i k (by omega) hk hi
   unfold clash at hc
   unfold fo2 at hf
   rw[Bool.eq_false_iff] at hc
   rcases List.mem_append.1 hf with hf | hf
   ·split at hf
    ·rename_i q
     exact absurd (by simp[q.1,q.2]) hc
    ·cases hf
   ·split at hf
    ·rename_i q
     exact absurd (by simp[q.1,q.2]) hc
    ·cases hf
theorem folA_fol {g:GrD} (hf:foldB g=true):folA g=g:=folF_nil (foL_of_fol (foldB_parts hf).2) _
theorem foldB_canG {g:GrD} (hf:foldB g=true):foldB (canG g)=true:=foldB_rnG hf (canO_ok (foldB_parts hf).1)
theorem Sub.core {g:GrD} (hf:foldB g=true): ∃s,Sub (coreG g) g s∧s 0=0:=by
 obtain⟨hg,hfo⟩:=foldB_parts hf
 unfold coreG
 rw[folA_fol hf]
 obtain⟨s,hs,hz⟩:=Sub.trimF g.2.1.toNat g ((List.range g.2.1.toNat).map fun v=>((v:Nat):Int)) hf
 have ht:=trimG_fold hf
 obtain⟨ga,fa⟩:=foldB_parts ht
 obtain⟨gb,fb⟩:=foldB_parts (foldB_canG ht)
 exact⟨_,(Sub.can ht).trans hs gb fb ga fa hg,by rw[ov_zero (canO_ok ga),hz]⟩
theorem canF_map {g h:GrD} {o:List Int} {f:Int→Int} {ls:List Int} (hinj: ∀u∈o,∀v∈o,f u=f v→u=v)
  (hst: ∀u∈o,∀x∈ls,(0≤nextV g.2.2 u x→nextV g.2.2 u x∈o∧nextV h.2.2 (f u) x=f (nextV g.2.2 u x)∧0≤f (nextV g.2.2 u x))∧(nextV g.2.2 u x<0→nextV h.2.2 (f u) x<0)):
  ∀(n i:Nat) (o1:List Int),(∀y∈o1,y∈o)→canF h.2.2 ls n i (o1.map f)=(canF g.2.2 ls n i o1).map f:=by
 have hhas: ∀(o1:List Int) (y:Int),(∀z∈o1,z∈o)→y∈o→hasB (o1.map f) (f y)=hasB o1 y:=fun o1 y ho hy=>by
  rw[Bool.eq_iff_iff,hasB_iff,hasB_iff,List.mem_map]
  constructor
  ·rintro⟨z,hz,e⟩
   rw[←hinj z (ho z hz) y hy e]
   exact hz
  ·intro h;exact⟨y,h,rfl⟩
 have step: ∀(o1:List Int) (u x:Int),(∀z∈o1,z∈o)→u∈o→x∈ls→cstep h.2.2 (f u) (o1.map f) x=(cstep g.2.2 u o1 x).map f∧ ∀z∈cstep g.2.2 u o1 x,z∈o:=fun o1 u x ho hu hx=>by
  have hs:=hst u hu x hx
  unfold cstep
  by_cases h0:0≤nextV g.2.2 u x
  ·obtain⟨a,b,c⟩:=hs.1 h0
   rw[if_pos h0,b,if_pos c,hhas o1 _ ho a]
   by_cases hb:hasB o1 (nextV g.2.2 u x)=true
   ·rw[if_pos hb,if_pos hb];exact⟨rfl,ho⟩
   ·rw[if_neg hb,if_neg hb]
    refine⟨by simp,fun z hz=> ?_⟩
    rcases List.mem_append.1 hz with hz | hz
    ·exact ho z hz
    ·rw[List.mem_singleton.1 hz];exact a
  ·have:=hs.2 (by omega)
   rw[if_neg h0,if_neg (by omega)]
   exact⟨rfl,ho⟩
 have fold: ∀(l2:List Int) (o1:List Int) (u:Int),(∀x∈l2,x∈ls)→(∀z∈o1,z∈o)→u∈o→l2.foldl (cstep h.2.2 (f u)) (o1.map f)=(l2.foldl (cstep g.2.2 u) o1).map f∧ ∀z∈l2.foldl (cstep g.2.2 u) o1,z∈o:=by
  intro l2
  induction l2 with
  | nil=>intro o1 u _ ho _;exact⟨rfl,ho⟩
  | cons x l2 ih=>
    intro o1 u hl ho hu
    have:=step o1 u x ho hu (hl x (by simp))
    rw[List.foldl_cons,List.foldl_cons,this.1]
    exact ih _ u (fun y hy=>hl y (by simp[hy])) this.2 hu
 intro n
 induction n with
 | zero=>intro i o1 _;rfl
 | succ n ih=>
   intro i o1 ho
   rw[canF,canF,List.getElem?_map]
   cases hi:o1[i]? with
   | none=>rfl
   | some u=>
     simp only[Option.map_some]
     have:=fold ls o1 u (fun _ h=>h) ho (ho u (List.mem_of_getElem? hi))
     rw[this.1]
     exact ih _ _ this.2
theorem rng_get {n k:Nat} (h:k<(rng n).length):(rng n)[k]=(k:Int):=by simp[rng]
theorem rng_nodup (n:Nat):(rng n).Nodup:=by
 unfold rng List.Nodup
 rw[List.pairwise_map]
 exact(List.nodup_range (n:=n)).imp fun hab e=>hab (by omega)
theorem plv_rng {n:Nat} {v:Int} (h:0≤v∧v<n):plv (rng n) v=v+1:=by
 obtain⟨k,rfl⟩: ∃k:Nat,v=(k:Int):=⟨v.toNat,by omega⟩
 have hk:k<(rng n).length:=by rw[rng_len];omega
 have:=plv_get (rng_nodup n) k hk
 rwa [rng_get hk] at this
theorem rnG_rng {g:GrD} (hg:grB g=true):rnG g (rng g.2.1.toNat)=g:=by
 have hs:=(grB_parts hg).2.1
 have hL:rnL g.2.2 (rng g.2.1.toNat)=g.2.2:=by
  unfold rnL
  have: ∀e∈g.2.2,rnE (rng g.2.1.toNat) e=some e:=fun e he=>by
   have hr:=edge_of_gr hg he
   unfold rnE
   rw[plv_rng ⟨hr.1.1,by omega⟩,plv_rng ⟨hr.2.2.1,by omega⟩,if_pos ⟨by omega,by omega⟩]
   obtain⟨a,l,b⟩:=e
   simp only
   rw[show a+1-1=a by omega,show b+1-1=b by omega]
  generalize g.2.2=es at*
  induction es with
  | nil=>rfl
  | cons e es ih=>
    rw[List.filterMap_cons,this e (by simp)]
    simp only
    rw[ih fun a ha=>this a (by simp[ha])]
 unfold rnG
 rw[hL,←srt_eq cmpE_ord (gr_srt hg) (fun _=>Iff.rfl),rng_len]
 obtain⟨a,b,c⟩:=g
 simp only at hs⊢
 rw[show((b.toNat:Nat):Int)=b by omega]
theorem coreB_can {h:GrD} (hf:foldB h=true) (hl:leafV h.2.2 h.2.1.toNat<0):coreB (canG h)=true:=by
 obtain⟨hg,hfo⟩:=foldB_parts hf
 have hf':=foldB_canG hf
 obtain⟨hg',hfo'⟩:=foldB_parts hf'
 have hok:=canO_ok hg
 have hsz:=(grB_parts hg).2.1
 have hsz':=(grB_parts hg').2.1
 have next: ∀u∈canO h,∀x,-3≤x∧x≤3→(0≤nextV h.2.2 u x→nextV h.2.2 u x∈canO h∧nextV (canG h).2.2 (plv (canO h) u-1) x=plv (canO h) (nextV h.2.2 u x)-1∧0≤plv (canO h) (nextV h.2.2 u x)-1)∧(nextV h.2.2 u x<0→nextV (canG h).2.2 (plv (canO h) u-1) x<0):=fun u hu x hx=>by
  have hp:=plv_pos hu
  have hr:=plv_range (canO h) u
  have e:=rn_next hf hok.toN (i:=plv (canO h) u-1) (x:=x) (by omega) (by omega) hx
  rw[ov_plv hok.1 hu] at e
  constructor
  ·intro h0
   have hm:=canO_closed hg hu hx h0
   have:=plv_pos hm
   rw[if_pos h0] at e
   exact⟨hm,e,by omega⟩
  ·intro h0
   rw[if_neg (by omega)] at e
   show nextV (rnG h (canO h)).2.2 _ x<0
   omega
 have hcan:canO (canG h)=rng (canO h).length:=by
  have hm:=canF_map (g:=h) (h:=canG h) (o:=canO h) (f:=fun u=>plv (canO h) u-1) (ls:=lettersL h.1.toNat) (fun u hu v hv e=>by
   have:=plv_pos hu
   exact plv_inj (o:=canO h) (by have e':plv (canO h) u-1=plv (canO h) v-1:=e;omega) (by omega)) (fun u hu x hx=>next u hu x (let3 hg hx)) 41 0 [0] (fun y hy=>by
   rw[List.mem_singleton.1 hy];exact List.mem_of_getElem? hok.2.2)
  have e0:plv (canO h) 0-1=0:=by
   have h0:0<(canO h).length:=(List.getElem?_eq_some_iff.1 hok.2.2).1
   have:=plv_get hok.1 0 h0
   have h1:=(List.getElem?_eq_some_iff.1 hok.2.2).2
   rw[h1] at this
   omega
  simp only[List.map_cons,List.map_nil,e0] at hm
  show canF (canG h).2.2 (lettersL h.1.toNat) 41 0 [0]=_
  rw[hm]
  show(canO h).map (fun u=>plv (canO h) u-1)=_
  apply List.ext_getElem
  ·rw[List.length_map,rng_len]
  ·intro k h1 h2
   rw[List.getElem_map,rng_get,plv_get hok.1 k (by simpa using h1)]
   omega
 have hcc:canG (canG h)=canG h:=by
  have e:(canO h).length=(canG h).2.1.toNat:=by show _=((canO h).length:Int).toNat;omega
  show rnG (canG h) (canO (canG h))=_
  rw[hcan,e,rnG_rng hg']
 have hleaf:leafV (canG h).2.2 (canG h).2.1.toNat<0:=by
  apply Classical.byContradiction
  intro hn
  have hb:=leafFrom_leaf (canG h).2.2 (canG h).2.1.toNat _ _ (by omega:0≤leafV (canG h).2.2 (canG h).2.1.toNat)
  change leafB (canG h).2.2 (leafV (canG h).2.2 (canG h).2.1.toNat).toNat=true at hb
  have hr:=leafV_range (canG h).2.2 (canG h).2.1.toNat
  generalize leafV (canG h).2.2 (canG h).2.1.toNat=u at*
  have hlen:(canG h).2.1=((canO h).length:Int):=rfl
  have hu0:0≤u:=by omega
  have hu1:u<((canO h).length:Int):=by omega
  have hov:=ov_mem hu0 hu1
  have hpo:=plv_ov hok.1 hu0 hu1
  have hovr:=hok.2.1 _ hov
  have hov0:ov (canO h) u≠0:=fun e=>by
   have h0:0<(canO h).length:=(List.getElem?_eq_some_iff.1 hok.2.2).1
   have:=plv_get hok.1 0 h0
   rw[(List.getElem?_eq_some_iff.1 hok.2.2).2] at this
   rw[e] at hpo
   omega
  have hlb:=leaf_none h.2.2 h.2.1.toNat (h.2.1.toNat-1) 1 (by omega) hl (ov (canO h) u).toNat (by omega) (by omega)
  unfold leafB at hlb hb
  rw[show((u.toNat:Nat):Int)=u by omega] at hb
  rw[show(((ov (canO h) u).toNat:Nat):Int)=ov (canO h) u by omega] at hlb
  simp only[Bool.or_eq_false_iff,decide_eq_false_iff_not,Bool.not_eq_false'] at hlb
  rw[Bool.or_eq_true,decide_eq_true_eq] at hb
  rcases hb with hb | hb
  ·--two letters at ov u
   obtain⟨l,m,hll,hmm,hlm,n1,n2⟩: ∃l m,(-3≤l∧l≤3)∧(-3≤m∧m≤3)∧l≠m∧0≤nextV h.2.2 (ov (canO h) u) l∧0≤nextV h.2.2 (ov (canO h) u) m:=by
    apply Classical.byContradiction
    intro hno
    have all: ∀l m,(-3≤l∧l≤3)→(-3≤m∧m≤3)→0≤nextV h.2.2 (ov (canO h) u) l→0≤nextV h.2.2 (ov (canO h) u) m→l=m:=fun l m a b c d=>Classical.byContradiction fun e=>hno ⟨l,m,a,b,e,c,d⟩
    have hd: ∀l0,(∀l,(-3≤l∧l≤3)→0≤nextV h.2.2 (ov (canO h) u) l→l=l0)→degL h.2.2 (ov (canO h) u)≤1:=fun l0 hl0=>deg_one (l0:=l0) hfo (let_of_gr hg) fun e he=>by
     have hre:=edge_of_gr hg he
     have h3:=(grB_parts hg).1
     constructor
     ·intro e1
      refine hl0 e.2.1 (by omega) ?_
      rw[←e1,nextV_out hg hfo he];exact hre.2.2.1
     ·intro e1
      refine hl0 (-e.2.1) (by omega) ?_
      rw[←e1,nextV_in hg hfo he];exact hre.1.1
    by_cases hex: ∃l,(-3≤l∧l≤3)∧0≤nextV h.2.2 (ov (canO h) u) l
    ·obtain⟨l0,a,b⟩:=hex
     have:=hd l0 fun l c d=>all l l0 c a d b
     omega
    ·have:=hd 0 fun l c d=>absurd ⟨l,c,d⟩ hex
     omega
   have t1:=(next _ hov l hll).1 n1
   have t2:=(next _ hov m hmm).1 n2
   rw[hpo,show u+1-1=u by omega] at t1 t2
   exact hlm (deg_uniq (es:=(canG h).2.2) (v:=u) hll hmm (by omega) (by rw[t1.2.1];exact t1.2.2) (by rw[t2.2.1];exact t2.2.2))
  ·have hc:=(reachL_mem _ _ _).1 (hasB_iff.1 hlb.2)
   have hc2:(ov (canO h) u∈canO h∧Conn (canG h).2.2 0 (plv (canO h) (ov (canO h) u)-1)):=by
    have h0:0<(canO h).length:=(List.getElem?_eq_some_iff.1 hok.2.2).1
    have hp0:=plv_get hok.1 0 h0
    rw[(List.getElem?_eq_some_iff.1 hok.2.2).2] at hp0
    refine conn_of_closed (S:=fun v=>v∈canO h∧Conn (canG h).2.2 0 (plv (canO h) v-1)) ⟨List.mem_of_getElem? hok.2.2,by rw[hp0];exact .base⟩ (fun e he=> ?_) hc
    have hre:=edge_of_gr hg he
    have h3:=(grB_parts hg).1
    have p1:=nextV_out hg hfo he
    have p2:=nextV_in hg hfo he
    constructor
    ·rintro⟨a,b⟩
     have t:=(next _ a e.2.1 (by omega)).1 (by rw[p1];exact hre.2.2.1)
     rw[p1] at t
     refine⟨t.1,?_⟩
     have:=conn_next (x:=e.2.1) (by omega) b (by rw[t.2.1];exact t.2.2)
     rwa [t.2.1] at this
    ·rintro⟨a,b⟩
     have t:=(next _ a (-e.2.1) (by omega)).1 (by rw[p2];exact hre.1.1)
     rw[p2] at t
     refine⟨t.1,?_⟩
     have:=conn_next (x:= -e.2.1) (by omega) b (by rw[t.2.1];exact t.2.2)
     rwa [t.2.1] at this
   rw[hpo,show u+1-1=u by omega] at hc2
   rw[hasB_iff.2 ((reachL_mem _ _ _).2 hc2.2)] at hb
   cases hb
 unfold coreB
 rw[hf',hcc,decide_eq_true hleaf,decide_eq_true rfl]
 rfl
theorem coreB_coreG {g:GrD} (hg:grB g=true):coreB (coreG g)=true:=by
 have h1:=trimG_fold (folA_ok hg)
 exact coreB_can h1 (trimG_noleaf (folA_ok hg))
theorem incl_hom {a b:GrD} (h:inclS a b=true): ∀(w:List Int) (u:Int),(∀x∈w,-3≤x∧x≤3)→u∈canO a→0≤walkF a.2.2 u w→walkF b.2.2 (imgW a b u) w=imgW a b (walkF a.2.2 u w):=by
 unfold inclS at h
 simp only[Bool.and_eq_true,decide_eq_true_eq] at h
 obtain⟨⟨⟨ha,hb⟩,hr⟩,H⟩:=h
 have hga:=coreB_grB ha
 intro w
 induction w with
 | nil=>intro u _ _ _;rfl
 | cons x w ih=>
   intro u hx hu hw
   rw[walkF_cons] at hw⊢
   split at hw
   ·exact absurd hw (by decide)
   ·rename_i hn
    have hs:=List.all_eq_true.1 (List.all_eq_true.1 H u hu) x (next_letter (v:=u) hga (hx x (by simp)) (Int.not_lt.1 hn))
    unfold stB at hs
    rw[decide_eq_false hn,Bool.false_or,Bool.and_eq_true,decide_eq_true_eq,decide_eq_true_eq] at hs
    rw[if_neg (by omega)]
    conv=>rhs;rw[walkF_cons,if_neg hn]
    rw[←hs.2]
    exact ih _ (fun y hy=>hx y (by simp[hy])) (canO_closed hga hu (hx x (by simp)) (Int.not_lt.1 hn)) hw
theorem incl_parts {a b:GrD} (h:inclS a b=true):coreB a=true∧coreB b=true∧a.1=b.1:=by
 unfold inclS at h
 simp only[Bool.and_eq_true,decide_eq_true_eq] at h
 exact⟨h.1.1.1,h.1.1.2,h.1.2⟩
theorem incl_zero {a b:GrD} (ha:grB a=true):imgW a b 0=0:=by unfold imgW;rw[wd_zero ha];rfl
theorem core_fold {g:GrD} (h:coreB g=true):foldB g=true:=by
 unfold coreB at h;simp only[Bool.and_eq_true] at h;exact h.1.1
theorem bas_let3 {g:GrD} (hg:grB g=true) {e:EdD} (he:e∈g.2.2) (h1:e.1∈canO g) (h2:e.2.2∈canO g): ∀x∈basW g e,-3≤x∧x≤3:=fun y hy=>by
 unfold basW at hy
 rcases List.mem_append.1 hy with hy | hy
 ·rcases List.mem_append.1 hy with hy | hy
  ·exact wd_let3 hg h1 y hy
  ·rw[List.mem_singleton.1 hy]
   have:=(edge_of_gr hg he).2.1
   have:=(grB_parts hg).1
   omega
 ·have:=wd_let3 hg h2 _ (invN_mem hy)
  omega
theorem conn_walk {es:List EdD} {u:Int}: ∀(w:List Int) (v:Int),(∀x∈w,-3≤x∧x≤3)→Conn es u v→0≤walkF es v w→Conn es u (walkF es v w)
 | [],_,_,h,_=>h
 | x::w,v,hx,h,h0=>by
   rw[walkF_cons] at h0⊢
   split at h0
   ·exact absurd h0 (by decide)
   ·rename_i hn
    rw[if_neg hn]
    exact conn_walk w _ (fun y hy=>hx y (by simp[hy])) (conn_next (hx x (by simp)) h (by omega)) h0
theorem core_conn {g:GrD} (h:coreB g=true) {v:Int} (hv:0≤v∧v<g.2.1):Conn g.2.2 0 v:=by
 have hg:=coreB_grB h
 have hc:=core_all h hv
 have:=conn_walk (es:=g.2.2) (u:=0) (wdO g v) 0 (wd_let3 hg hc) .base (by rw[wd_walk hg hc];omega)
 rwa [wd_walk hg hc] at this
theorem Sub.mov {g:GrD} (hf:foldB g=true) {u:Nat} (hu:(u:Int)<g.2.1) (hc:Conn g.2.2 0 u): ∃s,Sub (movG g u) g s∧s 0=u:=by
 obtain⟨hg,hfo⟩:=foldB_parts hf
 have hsz:=(grB_parts hg).2.1
 have hok:=movO_ok (n:=g.2.1.toNat) (u:=u) (by omega)
 rw[show((g.2.1.toNat:Nat):Int)=g.2.1 by omega] at hok
 have hz:ov (movO g.2.1.toNat u) 0=u:=rfl
 have s1:=Sub.rn hf hok (by rw[hz];exact hc) (by
  intro v hv hc l w hl hlw hn h0 hm
  refine absurd ?_ hm
  unfold movO
  rcases nextV_range hg v l with e | ⟨e1,e2⟩
  ·omega
  ·by_cases hx:nextV g.2.2 v l=u
   ·rw[hx];simp
   ·exact List.mem_cons.2 (.inr (delO_mem.2 ⟨⟨e1,by omega⟩,hx⟩)))
 have hf2:=foldB_rnGN hf hok
 obtain⟨s,hs,hz2⟩:=Sub.core hf2
 obtain⟨ga,fa⟩:=foldB_parts hf2
 obtain⟨gb,fb⟩:=foldB_parts (core_fold (coreB_coreG ga))
 exact⟨_,hs.trans s1 gb fb ga fa hg,by rw[hz2,hz]⟩
theorem movG_core {g:GrD} (hf:foldB g=true) {u:Nat} (hu:(u:Int)<g.2.1):coreB (movG g u)=true:=by
 obtain⟨hg,hfo⟩:=foldB_parts hf
 have hok:=movO_ok (n:=g.2.1.toNat) (u:=u) (by omega)
 have hsz:=(grB_parts hg).2.1
 rw[show((g.2.1.toNat:Nat):Int)=g.2.1 by omega] at hok
 exact coreB_coreG (foldB_parts (foldB_rnGN hf hok)).1
theorem nextV_nil (v x:Int):nextV [] v x= -1:=rfl
theorem core_nil {a:GrD} (ha:coreB a=true) (h:a.2.2= []):a.2.1=1:=by
 have hg:=coreB_grB ha
 have hsz:=(grB_parts hg).2.1
 apply Classical.byContradiction
 intro hn
 have:=core_deg ha (v:=1) (by omega)
 rw[h] at this
 simp[degL] at this
structure GBx (w:World) (p base:Nat) (A:Option Addr) (c:Nat) (g:GrD):Prop where
 c0:w.cell? ⟨p,0,none⟩=some (.int .i64 g.1)
 c1:w.cell? ⟨p,1,none⟩=some (.int .i64 g.2.1)
 c2:w.cell? ⟨p,2,none⟩=some (.slice A g.2.2.length c)
 fz: ∀j,w.frozen? ⟨p,j,none⟩=false
 ow:OwE w base (.slice A g.2.2.length c) g.2.2
 ne: ∀b,(Value.slice A g.2.2.length c).ownBlock=some b→b≠p
 i1:I64 g.1
 i2:I64 g.2.1
 lt:p<w.heap.size
theorem GBx.below {w w':World} {p base:Nat} {A:Option Addr} {c:Nat} {g:GrD} (h:GBx w p base A c g) (hb:Below w.heap.size w w'):GBx w' p base A c g:=
 ⟨(hb.cell (p:=⟨p,0,none⟩) h.lt).trans h.c0,(hb.cell (p:=⟨p,1,none⟩) h.lt).trans h.c1,(hb.cell (p:=⟨p,2,none⟩) h.lt).trans h.c2,fun j=>(hb.frozen (p:=⟨p,j,none⟩) h.lt).trans (h.fz j),h.ow.below hb,h.ne,h.i1,h.i2,Nat.lt_of_lt_of_le h.lt hb.size⟩
theorem GBx.keep {w w':World} {p base:Nat} {A:Option Addr} {c:Nat} {g:GrD} (h:GBx w p base A c g) (hs:w.heap.size≤w'.heap.size) (hk: ∀b,b=p∨(Value.slice A g.2.2.length c).ownBlock=some b→w'.heap[b]? =w.heap[b]?):GBx w' p base A c g:=by
 have hp:=hk p (.inl rfl)
 exact⟨(World.cell?_of_block (w:=w) hp).trans h.c0,(World.cell?_of_block (w:=w) hp).trans h.c1,(World.cell?_of_block (w:=w) hp).trans h.c2,fun j=>(World.frozen?_of_block (w:=w) hp).trans (h.fz j),h.ow.keep fun b hb=>hk b (.inr hb),h.ne,h.i1,h.i2,Nat.lt_of_lt_of_le h.lt hs⟩
theorem GBx.grown {w w':World} {p base:Nat} {A:Option Addr} {c:Nat} {g:GrD} {row:Option Nat} (h:GBx w p base A c g) (hg:w.grownBy w' row) (h1: ∀b,row=some b→b≠p∧(Value.slice A g.2.2.length c).ownBlock≠some b):GBx w' p base A c g:=by
 refine h.keep hg.size fun b hb=> ?_
 have hlt:b<w.heap.size:=by
  rcases hb with rfl | hb
  ·exact h.lt
  ·exact(h.ow.1.lt b hb).2
 refine hg.block b hlt fun e=> ?_
 have:=h1 b e.symm
 rcases hb with rfl | hb
 ·exact this.1 rfl
 ·exact this.2 hb
theorem GBx.arg {w:World} {p base:Nat} {A:Option Addr} {c:Nat} {g:GrD} (h:GBx w p base A c g):ArgG w (.agg #[.int .i64 g.1, .int .i64 g.2.1, .slice A g.2.2.length c]) g:=⟨_,rfl,h.i1,h.i2,h.ow.arg⟩
theorem OwI.keepB {w w':World} {base:Nat} {s:Value} {xs:List Int} (h:OwI w base s xs) (hb: ∀b,s.ownBlock=some b→w'.heap[b]? =w.heap[b]?):OwI w' base s xs:=by
 refine⟨⟨h.1.1,?_⟩,h.2⟩
 rcases h.1.2 with h0 | ⟨g,cap,cur,hv,hg,hh,r⟩
 ·exact .inl h0
 ·exact .inr ⟨g,cap,cur,hv,hg,by rw[hb g (by rw[hv];rfl)];exact hh,r⟩
theorem GBx.set {w:World} {p base base':Nat} {A A':Option Addr} {c c':Nat} {g m:GrD} (h:GBx w p base A c g) (o:OwE w base' (.slice A' m.2.2.length c') m.2.2) (hn: ∀b,(Value.slice A' m.2.2.length c').ownBlock=some b→b≠p) (h1:I64 m.1) (h2:I64 m.2.1):
  GBx (((w.setCell ⟨p,0,none⟩ (.int .i64 m.1)).setCell ⟨p,1,none⟩ (.int .i64 m.2.1)).setCell ⟨p,2,none⟩ (.slice A' m.2.2.length c')) p base' A' c' m:=by
 obtain⟨e0,e1,e2⟩:=cells3F (.int .i64 m.1) (.int .i64 m.2.1) (.slice A' m.2.2.length c') h.c0 h.c1 h.c2
 refine⟨e0,e1,e2,fun j=>by rw[World.frozen?_setCell,World.frozen?_setCell,World.frozen?_setCell];exact h.fz j,?_,hn,h1,h2,by simpa using h.lt⟩
 refine o.keep fun b hb=> ?_
 have:=hn b hb
 rw[Below.heap_setCell _ _ _ b this,Below.heap_setCell _ _ _ b this,Below.heap_setCell _ _ _ b this]
structure CBx (w:World) (p:Nat) (x y z:Value):Prop where
 c0:w.cell? ⟨p,0,none⟩=some x
 c1:w.cell? ⟨p,1,none⟩=some y
 c2:w.cell? ⟨p,2,none⟩=some z
 fz: ∀j,w.frozen? ⟨p,j,none⟩=false
 lt:p<w.heap.size
theorem CBx.below {w w':World} {p:Nat} {x y z:Value} (h:CBx w p x y z) (hb:Below w.heap.size w w'):CBx w' p x y z:=
 ⟨(hb.cell (p:=⟨p,0,none⟩) h.lt).trans h.c0,(hb.cell (p:=⟨p,1,none⟩) h.lt).trans h.c1,(hb.cell (p:=⟨p,2,none⟩) h.lt).trans h.c2,fun j=>(hb.frozen (p:=⟨p,j,none⟩) h.lt).trans (h.fz j),Nat.lt_of_lt_of_le h.lt hb.size⟩
theorem CBx.belowAt {w w':World} {p n:Nat} {x y z:Value} (h:CBx w p x y z) (hb:Below n w w') (hn:p<n):CBx w' p x y z:=
 ⟨(hb.cell (p:=⟨p,0,none⟩) hn).trans h.c0,(hb.cell (p:=⟨p,1,none⟩) hn).trans h.c1,(hb.cell (p:=⟨p,2,none⟩) hn).trans h.c2,fun j=>(hb.frozen (p:=⟨p,j,none⟩) hn).trans (h.fz j),Nat.lt_of_lt_of_le h.lt hb.size⟩
theorem CBx.other {w:World} {p q:Nat} {x y z a b c:Value} (h:CBx w p x y z) (hne:p≠q):CBx (((w.setCell ⟨q,0,none⟩ a).setCell ⟨q,1,none⟩ b).setCell ⟨q,2,none⟩ c) p x y z:=by
 have hp:(((w.setCell ⟨q,0,none⟩ a).setCell ⟨q,1,none⟩ b).setCell ⟨q,2,none⟩ c).heap[p]? =w.heap[p]? :=by
  rw[Below.heap_setCell _ _ _ p hne,Below.heap_setCell _ _ _ p hne,Below.heap_setCell _ _ _ p hne]
 exact⟨(World.cell?_of_block (w:=w) hp).trans h.c0,(World.cell?_of_block (w:=w) hp).trans h.c1,(World.cell?_of_block (w:=w) hp).trans h.c2,fun j=>(World.frozen?_of_block (w:=w) hp).trans (h.fz j),by simpa using h.lt⟩
theorem CBx.set {w:World} {p base':Nat} {x y z:Value} {A':Option Addr} {c':Nat} {m:GrD} (h:CBx w p x y z) (o:OwE w base' (.slice A' m.2.2.length c') m.2.2) (hn: ∀b,(Value.slice A' m.2.2.length c').ownBlock=some b→b≠p) (h1:I64 m.1) (h2:I64 m.2.1):
  GBx (((w.setCell ⟨p,0,none⟩ (.int .i64 m.1)).setCell ⟨p,1,none⟩ (.int .i64 m.2.1)).setCell ⟨p,2,none⟩ (.slice A' m.2.2.length c')) p base' A' c' m:=by
 obtain⟨e0,e1,e2⟩:=cells3F (.int .i64 m.1) (.int .i64 m.2.1) (.slice A' m.2.2.length c') h.c0 h.c1 h.c2
 refine⟨e0,e1,e2,fun j=>by rw[World.frozen?_setCell,World.frozen?_setCell,World.frozen?_setCell];exact h.fz j,?_,hn,h1,h2,by simpa using h.lt⟩
 refine o.keep fun b hb=> ?_
 have:=hn b hb
 rw[Below.heap_setCell _ _ _ b this,Below.heap_setCell _ _ _ b this,Below.heap_setCell _ _ _ b this]
theorem CBx.new {w W:World} {x y z:Value} {t:TypeId} (hW:W=w.alloc (.cells #[x,y,z] t)):CBx W w.heap.size x y z∧Below w.heap.size w W∧W.heap.size=w.heap.size+1:=by
 refine⟨⟨by rw[hW];simp[go_sem],by rw[hW];simp[go_sem],by rw[hW];simp[go_sem],fun j=>by rw[hW];simp[go_sem],by rw[hW];simp⟩,by rw[hW];exact(Below.refl _ _).alloc (Nat.le_refl _) _,by rw[hW];simp⟩
theorem GBx.cbx {w:World} {p base:Nat} {A:Option Addr} {c:Nat} {g:GrD} (h:GBx w p base A c g):CBx w p (.int .i64 g.1) (.int .i64 g.2.1) (.slice A g.2.2.length c):=⟨h.c0,h.c1,h.c2,h.fz,h.lt⟩
theorem GBx.belowAt {w w':World} {p n base:Nat} {A:Option Addr} {c:Nat} {g:GrD} (h:GBx w p base A c g) (hb:Below n w w') (hn:p<n) (hr: ∀b,(Value.slice A g.2.2.length c).ownBlock=some b→b<n):GBx w' p base A c g:=by
 have h2:=h.cbx.belowAt hb hn
 exact⟨h2.c0,h2.c1,h2.c2,h2.fz,h.ow.keep fun b hb'=>hb.block b (hr b hb'),h.ne,h.i1,h.i2,h2.lt⟩
theorem set3_heap (w:World) (p:Nat) (x y z:Value) {b:Nat} (h:b≠p):(((w.setCell ⟨p,0,none⟩ x).setCell ⟨p,1,none⟩ y).setCell ⟨p,2,none⟩ z).heap[b]? =w.heap[b]? :=by
 rw[Below.heap_setCell _ _ _ b h,Below.heap_setCell _ _ _ b h,Below.heap_setCell _ _ _ b h]
theorem set3_below {w0 w:World} {n p:Nat} (x y z:Value) (h:Below n w0 w) (hp:n≤p):Below n w0 (((w.setCell ⟨p,0,none⟩ x).setCell ⟨p,1,none⟩ y).setCell ⟨p,2,none⟩ z):=((h.setCell hp _).setCell hp _).setCell hp _
theorem set3_size (w:World) (p:Nat) (x y z:Value):(((w.setCell ⟨p,0,none⟩ x).setCell ⟨p,1,none⟩ y).setCell ⟨p,2,none⟩ z).heap.size=w.heap.size:=by simp
theorem GBx.new {w W:World} {base:Nat} {A:Option Addr} {c:Nat} {m:GrD} {t:TypeId} (o:OwE w base (.slice A m.2.2.length c) m.2.2) (h1:I64 m.1) (h2:I64 m.2.1) (hW:W=w.alloc (.cells #[.int .i64 m.1, .int .i64 m.2.1, .slice A m.2.2.length c] t)):
  GBx W w.heap.size base A c m:=by
 have hb:Below w.heap.size w W:=by rw[hW];exact(Below.refl _ _).alloc (Nat.le_refl _) _
 exact⟨by rw[hW];simp[go_sem],by rw[hW];simp[go_sem],by rw[hW];simp[go_sem],fun j=>by rw[hW];simp[go_sem],o.below hb,fun b hb=>by have:=(o.1.lt b hb).2;omega,h1,h2,by rw[hW];simp⟩
theorem GBx.mono {w:World} {p base base':Nat} {A:Option Addr} {c:Nat} {g:GrD} (h:GBx w p base A c g) (hb:base'≤base):GBx w p base' A c g:=
 ⟨h.c0,h.c1,h.c2,h.fz,h.ow.mono hb,h.ne,h.i1,h.i2,h.lt⟩
theorem stp_in {x y:GrD} (h:inclS x y=true) {u l:Int} (hu:u∈canO x) (hl: -3≤l∧l≤3) (h0:0≤nextV x.2.2 u l):0≤nextV y.2.2 (imgW x y u) l∧imgW x y (nextV x.2.2 u l)=nextV y.2.2 (imgW x y u) l:=by
 have hga:=coreB_grB (incl_parts h).1
 unfold inclS at h
 simp only[Bool.and_eq_true] at h
 have hs:=List.all_eq_true.1 (List.all_eq_true.1 h.2 u hu) l (next_letter hga hl h0)
 unfold stB at hs
 rw[decide_eq_false (by omega: ¬nextV x.2.2 u l<0),Bool.false_or,Bool.and_eq_true,decide_eq_true_eq,decide_eq_true_eq] at hs
 exact hs
theorem imgW_range {x y:GrD} (h:inclS x y=true) {u:Int} (hu:u∈canO x):0≤imgW x y u∧imgW x y u<y.2.1:=by
 have hgx:=coreB_grB (incl_parts h).1
 have hgy:=coreB_grB (incl_parts h).2.1
 have hsy:=(grB_parts hgy).2.1
 have hr:=walkF_range hgy (wdO x u) 0 (by omega)
 have h0:0≤imgW x y u:=by
  have:=incl_hom h (wdO x u) 0 (wd_let3 hgx hu) (List.mem_of_getElem? (canO_ok hgx).2.2) (by rw[wd_walk hgx hu];exact((canO_ok hgx).2.1 u hu).1)
  rw[wd_walk hgx hu,incl_zero hgx] at this
  have hI:=h
  rw[incl_eq] at hI
  unfold inclI at hI
  simp only[Bool.and_eq_true,decide_eq_true_eq] at hI
  exact img_read (incl_parts h).1 (incl_parts h).2.1 (fun e he=>by
   have:=List.all_eq_true.1 hI.2 (basW x e) (by unfold basF;rw[if_pos (incl_parts h).1];exact List.mem_map.2 ⟨e,he,rfl⟩)
   simpa using this) 40 hu (by omega)
 unfold imgW at*
 omega
set_option maxHeartbeats 1000000 in
theorem implIsTrivial_any (v:Value) (g:GrD) (w:World) (h:ArgG w v g):
  Calls Tryz.prog 99 #[v] w fun e w'=>e= .returned (.bool (coreB g&&((g.2.1==1)&&((g.2.2.length:Int)==0))))∧Below w.heap.size w w':=by
 have HG:=hDD h
 obtain⟨s,rfl,hi1,hi2,ha⟩:=h
 obtain⟨A,cap,rfl⟩:=ha.form
 obtain⟨g1,N,es⟩:=g
 simp only at*
 clear ha
 go_enter Tryz.func99,Tryz.ntmps99
 go_wp2_with fail
 obtain⟨W,hW⟩: ∃W,W=w.alloc (Obj.cells #[Value.int IntKind.i64 g1,Value.int IntKind.i64 N, .slice A es.length cap] 26):=⟨_,rfl⟩
 obtain⟨x1,b1,hsW⟩:=CBx.new hW
 rw[←hW]
 have XA:=hDD x1
 have BX:=hDD b1
 clear hW b1 x1
 refine(implIsCore_any _ (g1,N,es) W (HG.out.below BX.out)).mono ?_
 rintro e w2 ⟨rfl,b2⟩
 have hs2:=b2.size
 have XA2:=hDD (XA.out.below b2)
 have HBF:Hid (Below w.heap.size w w2):=hDD (BX.out.trans (b2.mono (by omega)))
 clear b2
 have q1:=XA2.out.c1
 have q2:=XA2.out.c2
 rcases ec:coreB (g1,N,es) with _ | _
 ·have F:Hid ((coreB (g1,N,es)&&((N==1)&&((es.length:Int)==0)))=false):=hDD (by rw[ec];rfl)
  clear ec
  go_wp2
  go_ret
  exact⟨ret_bool F.out.symm,HBF.out⟩
 ·rcases e1:(N==1) with _ | _
  ·have F:Hid ((coreB (g1,N,es)&&((N==1)&&((es.length:Int)==0)))=false):=hDD (by rw[ec,e1];rfl)
   clear ec
   go_wp2
   go_ret
   exact⟨ret_bool F.out.symm,HBF.out⟩
  ·rcases e2:((es.length:Int)==0) with _ | _
   ·have F:Hid ((coreB (g1,N,es)&&((N==1)&&((es.length:Int)==0)))=false):=hDD (by rw[ec,e1,e2];rfl)
    clear ec
    go_wp2
    go_ret
    exact⟨ret_bool F.out.symm,HBF.out⟩
   ·have F:Hid ((coreB (g1,N,es)&&((N==1)&&((es.length:Int)==0)))=true):=hDD (by rw[ec,e1,e2];rfl)
    clear ec
    go_wp2
    go_ret
    exact⟨ret_bool F.out.symm,HBF.out⟩
end Go.Proofs.YteobmaambgmdbaaGreat
namespace Go.Proofs.YteobmaambgmdbaaGreat
set_option maxRecDepth 20000
set_option linter.unusedVariables false
set_option linter.unusedSimpArgs false
open Go.RowKit
structure Two (a b:GrD) (A B:Nat):Prop where
 ga:grB a=true
 gb:grB b=true
 fa:Fol a.2.2
 fb:Fol b.2.2
 sa:a.2.1=(A:Int)
 sb:b.2.1=(B:Int)
section
variable {a b:GrD} {A B:Nat} {p q:Nat} {x:Int} {o:List Nat} {ls:List Int}
theorem Two.bd (h:Two a b A B):(1≤A∧A≤40)∧(1≤B∧B≤40):=by
 have h1:=(grB_parts h.ga).2.1
 have h2:=(grB_parts h.gb).2.1
 have h3:=h.sa
 have h4:=h.sb
 omega
end
def ns (o:List Nat):List Int:=o.map fun v=>((v:Nat):Int)
section
variable {a b:GrD} {u v:Nat}
end
theorem GBx.put {w:World} {p base base':Nat} {A A':Option Addr} {c c':Nat} {g:GrD} {ms:List EdD} (h:GBx w p base A c g) (o:OwE w base' (.slice A' ms.length c') ms) (hn: ∀b,(Value.slice A' ms.length c').ownBlock=some b→b≠p):
  GBx (w.setCell ⟨p,2,none⟩ (.slice A' ms.length c')) p base' A' c' (g.1,g.2.1,ms):=by
 refine⟨(World.cell?_setCell_other _ _ _ _ (by simp)).trans h.c0,(World.cell?_setCell_other _ _ _ _ (by simp)).trans h.c1,World.cell?_setCell_same _ _ _ h.c2,fun j=>by rw[World.frozen?_setCell];exact h.fz j,?_,hn,h.i1,h.i2,by simpa using h.lt⟩
 exact o.keep fun b hb=>Below.heap_setCell _ _ _ b (hn b hb)
structure MatI (X bb P A B:Nat) (w:World) (Q:Nat→Nat) (f:Nat→Nat→Int):Prop where
 outer:w.ownsRow bb 27 1 (.slice (some ⟨P,0,none⟩) A A) A ((List.range A).map fun i=> .slice (some ⟨Q i,0,none⟩) B B)
 rows: ∀i,i<A→OwI w bb (.slice (some ⟨Q i,0,none⟩) B B) ((List.range B).map (f i))
 inj: ∀i j,i<A→j<A→Q i=Q j→i=j
 neP: ∀i,i<A→Q i≠P
 ltP:P<X
 ltQ: ∀i,i<A→Q i<X
section
variable {X bb P A B:Nat} {w w':World} {Q:Nat→Nat} {f:Nat→Nat→Int}
theorem MatI.free (h:MatI X bb P A B w Q f) {i:Nat} (hi:i<A) (j:Nat):w.frozen? ⟨Q i,j,none⟩=false:=(h.rows i hi).free j
theorem owns_keep {base:Nat} {e:TypeId} {sz n:Nat} {v:Value} {cs:List Value} (h:w.ownsRow base e sz v n cs) (hb: ∀b,v.ownBlock=some b→w'.heap[b]? =w.heap[b]?):w'.ownsRow base e sz v n cs:=by
 refine⟨h.1,?_⟩
 rcases h.2 with h0 | ⟨g,cap,cur,hv,hg,hh,r⟩
 ·exact .inl h0
 ·exact .inr ⟨g,cap,cur,hv,hg,by rw[hb g (by rw[hv];rfl)];exact hh,r⟩
theorem MatI.keep (h:MatI X bb P A B w Q f) (hb: ∀b,b<X→w'.heap[b]? =w.heap[b]?):MatI X bb P A B w' Q f:=by
 refine⟨owns_keep h.outer fun b e=> ?_,fun i hi=>⟨owns_keep (h.rows i hi).1 fun b e=> ?_,(h.rows i hi).2⟩,h.inj,h.neP,h.ltP,h.ltQ⟩
 ·simp only[Value.ownBlock,Option.some.injEq] at e
  subst e
  exact hb _ h.ltP
 ·simp only[Value.ownBlock,Option.some.injEq] at e
  subst e
  exact hb _ (h.ltQ i hi)
def upd (f:Nat→Nat→Int) (i j:Nat) (z:Int):Nat→Nat→Int:=fun i' j'=>if i'=i∧j'=j then z else f i' j'
theorem MatI.set (h:MatI X bb P A B w Q f) {i j:Nat} (hi:i<A) (hj:j<B) {z:Int} (hz:I64 z):MatI X bb P A B (w.setCell ⟨Q i,j,none⟩ (.int .i64 z)) Q (upd f i j z):=by
 have hs: ∀b,b≠Q i→(w.setCell ⟨Q i,j,none⟩ (.int .i64 z)).heap[b]? =w.heap[b]? :=fun b hb=>Below.heap_setCell w _ _ b hb
 refine⟨owns_keep h.outer fun b e=> ?_,fun i' hi'=> ?_,h.inj,h.neP,h.ltP,h.ltQ⟩
 ·simp only[Value.ownBlock,Option.some.injEq] at e
  subst e
  exact hs _ (fun e=>h.neP i hi e.symm)
 ·by_cases hii:i'=i
  ·subst hii
   have h1:=((h.rows i' hi).set j z hz).1
   have e:((List.range B).map (f i')).set j z=(List.range B).map (upd f i' j z i'):=by
    refine List.ext_getElem (by simp) fun k h1 h2=> ?_
    rw[List.getElem_set]
    simp only[List.getElem_map,List.getElem_range]
    unfold upd
    by_cases hk:j=k
    ·subst hk;simp
    ·rw[if_neg hk,if_neg (fun h=>hk h.2.symm)]
   rwa [e] at h1
  ·have h1:OwI (w.setCell ⟨Q i,j,none⟩ (.int .i64 z)) bb (.slice (some ⟨Q i',0,none⟩) B B) ((List.range B).map (f i')):=
    ⟨owns_keep (h.rows i' hi').1 fun b e=>by
     simp only[Value.ownBlock,Option.some.injEq] at e
     subst e
     exact hs _ (fun e=>hii (h.inj _ _ hi' hi e)),(h.rows i' hi').2⟩
   have e:(List.range B).map (f i')=(List.range B).map (upd f i j z i'):=by
    refine List.map_congr_left fun k _=> ?_
    unfold upd
    rw[if_neg (fun h=>hii h.1)]
   rwa [e] at h1
end
theorem CBx.put {w:World} {p base':Nat} {z:Value} {A':Option Addr} {c':Nat} {r n:Int} {ms:List EdD} (h:CBx w p (.int .i64 r) (.int .i64 n) z) (o:OwE w base' (.slice A' ms.length c') ms) (hn: ∀b,(Value.slice A' ms.length c').ownBlock=some b→b≠p) (h1:I64 r) (h2:I64 n):
  GBx (w.setCell ⟨p,2,none⟩ (.slice A' ms.length c')) p base' A' c' (r,n,ms):=
 ⟨(World.cell?_setCell_other _ _ _ _ (by simp)).trans h.c0,(World.cell?_setCell_other _ _ _ _ (by simp)).trans h.c1,World.cell?_setCell_same _ _ _ h.c2,fun j=>by rw[World.frozen?_setCell];exact h.fz j,o.keep fun b hb=>Below.heap_setCell _ _ _ b (hn b hb),hn,h1,h2,by simpa using h.lt⟩
end Go.Proofs.YteobmaambgmdbaaGreat
namespace Go.Proofs.YteobmaambgmdbaaGreat
set_option maxRecDepth 20000
set_option linter.unusedVariables false
set_option linter.unusedSimpArgs false
open Go.RowKit
theorem GBx.sz {w:World} {p base:Nat} {A:Option Addr} {c:Nat} {g:GrD} (h:GBx w p base A c g) {z:Int} (hz:I64 z):GBx (w.setCell ⟨p,1,none⟩ (.int .i64 z)) p base A c (g.1,z,g.2.2):=
 ⟨(World.cell?_setCell_other _ _ _ _ (by simp)).trans h.c0,World.cell?_setCell_same _ _ _ h.c1,(World.cell?_setCell_other _ _ _ _ (by simp)).trans h.c2,fun j=>by rw[World.frozen?_setCell];exact h.fz j,h.ow.keep fun b hb=>Below.heap_setCell _ _ _ b (h.ne b hb),h.ne,h.i1,hz,by simpa using h.lt⟩
theorem put_e {v:Value} {es:List EdD} {w:World} (e:EdD) (x y z:Int) (h:ArgE w v es) (he:E64 e) (hl:es.length≤268435456) (hq:e=(x,y,z)):
  Calls Tryz.prog 136 #[v, .agg #[.int .i64 x, .int .i64 y, .int .i64 z]] w fun e' w'=> ∃r,e'= .returned r∧OwE w' w.heap.size r (insF cmpE es e)∧Below w.heap.size w w':=by
 subst hq
 exact l4Put_any v es (x,y,z) w h he hl
set_option maxHeartbeats 4000000 in
theorem specAddPath_any (v y:Value) (g:GrD) (a b:Int) (t:List Int) (w:World) (h:ArgG w v g) (ht:RdI w y t) (hg:grB g=true) (ha:0≤a∧a<g.2.1) (hb:0≤b∧b<g.2.1) (hw:wordB g.1 t=true) (h0:t.length≠0) (hl:t.length≤1073741824):
  Calls Tryz.prog 103 #[v, .int .i64 a,y, .int .i64 b] w fun x w'=> ∃r,x= .returned (.tuple #[r, .bool (addOk g t)])∧OwG w' w.heap.size r (if addOk g t=true then addG g a b t else g)∧Below w.heap.size w w':=by
 have HG:=hDD h
 have HY:=hDD ht
 have HGR:=hDD hg
 have HW:=hDD hw
 have HA:=hDD ha
 have HBV:=hDD hb
 obtain⟨h13,h40,h120,_⟩:=grB_parts hg
 obtain⟨s,rfl,hi1,hi2,hga⟩:=h
 obtain⟨A,cap,rfl⟩:=hga.form
 obtain⟨T,tc,rfl,_⟩:=ht.arg
 obtain⟨g1,N,es⟩:=g
 simp only at*
 clear hga hg hw ha hb
 obtain⟨OK,hOK⟩: ∃o,o=addOk (g1,N,es) t:=⟨_,rfl⟩
 rw[←hOK]
 obtain⟨RES,hRES⟩: ∃R,R=(if OK=true then addG (g1,N,es) a b t else(g1,N,es)):=⟨_,rfl⟩
 rw[←hRES]
 have HOK:=hDD hOK
 have HRES:=hDD hRES
 clear hRES hOK
 go_enter Tryz.func103,Tryz.ntmps103
 go_wp2_with fail
 obtain⟨W1,hW1⟩: ∃W,W=w.alloc (Obj.cells #[Value.int IntKind.i64 g1,Value.int IntKind.i64 N, .slice A es.length cap] 26):=⟨_,rfl⟩
 rw[←hW1]
 obtain⟨hs1,b1,hc1,_⟩:=gbox hW1
 obtain⟨W,hW⟩: ∃W,W=W1.alloc (Obj.cells #[Value.int IntKind.i64 0,Value.int IntKind.i64 0, .slice none 0 0] 26):=⟨_,rfl⟩
 rw[←hW]
 obtain⟨hs2,b2,hc2,hf2⟩:=gbox hW
 have hsW:W.heap.size=w.heap.size+2:=by omega
 have HC1:=hDD hc1
 have HC2:=hDD hc2
 have HF2:=hDD hf2
 have BX1:=hDD b1
 have BX2:=hDD b2
 have BX:Hid (Below w.heap.size w W):=hDD (b1.trans (b2.mono (by omega)))
 have HCL:Hid (∀w',Below (w.heap.size+2) W w'→w'.cell? ⟨w.heap.size,0,none⟩=some (.int .i64 g1)∧w'.cell? ⟨w.heap.size,1,none⟩=some (.int .i64 N)∧w'.cell? ⟨w.heap.size,2,none⟩=some (.slice A es.length cap)):=hDD fun w' hb=>HC1.out w' ((BX2.out.mono (by omega)).trans (hb.mono (by omega)))
 have HRC:Hid (∀w',Below (w.heap.size+2) W w'→(w'.cell? ⟨w.heap.size+1,0,none⟩=some (.int .i64 0)∧w'.cell? ⟨w.heap.size+1,1,none⟩=some (.int .i64 0)∧w'.cell? ⟨w.heap.size+1,2,none⟩=some (.slice none 0 0))∧ ∀j,w'.frozen? ⟨w.heap.size+1,j,none⟩=false):=hDD fun w' hb=>by
  have e:Below (W1.heap.size+1) W w':=hb.mono (by omega)
  have h1:=HC2.out w' e
  have h2:=fun j=>HF2.out j w' e
  rw[hs1] at h1 h2
  exact⟨h1,h2⟩
 have HAG:Hid (∀w',Below (w.heap.size+2) W w'→ArgG w' (.agg #[.int .i64 g1, .int .i64 N, .slice A es.length cap]) (g1,N,es)):=hDD fun w' hb=>HG.out.below (BX.out.trans (hb.mono (by omega)))
 have HAT:Hid (∀w',Below (w.heap.size+2) W w'→RdI w' (.slice T t.length tc) t):=hDD fun w' hb=>HY.out.below (BX.out.trans (hb.mono (by omega)))
 clear hW1 hW hc1 hc2 hf2 b1 b2 HC1 HC2 HF2 BX1 BX2 hs1 hs2
 obtain⟨q0,q1,q2⟩:=HCL.out W ((Below.refl W.heap.size W).mono (by omega))
 refine(l4Copy_any _ (g1,N,es) W (HAG.out W ((Below.refl W.heap.size W).mono (by omega))) (by simp only;omega)).mono ?_
 clear q0 q1 q2
 rintro e w5 ⟨r,rfl,o5,b5⟩
 have hs5:=b5.size
 have B5:Hid (Below (w.heap.size+2) W w5):=hDD (b5.mono (by omega))
 obtain⟨s1,rfl,_,_,oe5⟩:=o5
 obtain⟨A1,c1,rfl,_⟩:=oe5.form
 simp only at*
 clear b5
 have b6':Below w5.heap.size w5 (w5.alloc (Obj.cells #[Value.int IntKind.i64 g1,Value.int IntKind.i64 N, .slice A1 es.length c1] 26)):=(Below.refl _ _).alloc (Nat.le_refl _) _
 obtain⟨q0,q1,q2⟩:=HCL.out _ (B5.out.trans (b6'.mono (by omega)))
 clear b6'
 go_wp2_with fail
 clear q0 q1 q2
 obtain⟨W6,hW6⟩: ∃W,W=w5.alloc (Obj.cells #[Value.int IntKind.i64 g1,Value.int IntKind.i64 N, .slice A1 es.length c1] 26):=⟨_,rfl⟩
 have GB6:=hDD (GBx.new (m:=(g1,N,es)) oe5 hi1 hi2 hW6)
 obtain⟨hs6,b6,_,_⟩:=gbox hW6
 rw[←hW6]
 have B6:Hid (Below (w.heap.size+2) W W6):=hDD (B5.out.trans (b6.mono (by omega)))
 clear hW6 b6 oe5
 obtain⟨p,hp⟩: ∃p,p=w5.heap.size:=⟨_,rfl⟩
 rw[←hp] at GB6⊢
 have hpw:w.heap.size+2≤p:=by omega
 have hp6:p<W6.heap.size:=by omega
 clear hp hs6 hs5
 have HIG:=hDD (specIsGraph_any _ (g1,N,es) W6 (HAG.out W6 B6.out))
 rw[HGR.out] at HIG
 refine HIG.out.mono ?_
 clear HIG
 rintro e w7 ⟨rfl,b7⟩
 have B7:=hDD (B6.out.trans (b7.mono (by have:=B6.out.size;omega)))
 have GB7:=hDD (GB6.out.below b7)
 clear b7
 obtain⟨q0,q1,q2⟩:=HCL.out w7 B7.out
 have E1:inB a 0 (N-1)=true:=by unfold inB;simp;have:=HA.out;omega
 have E2:inB b 0 (N-1)=true:=by unfold inB;simp;have:=HBV.out;omega
 have EW:=hDD (specIsWord_any g1 _ t w7 (HAT.out w7 B7.out).arg (by omega))
 rw[HW.out] at EW
 go_wp2_with (go_at_call 68;refine(l1In_any _ _ _ _).mono ?_;rintro e w' ⟨rfl,rfl⟩)
 refine EW.out.mono ?_
 clear EW E1 E2 q0 q1 q2
 rintro e w8 ⟨rfl,nd,rfl⟩
 obtain⟨w8,hw8⟩: ∃W,W=w7.drewN nd:=⟨_,rfl⟩
 rw[←hw8]
 have B8:Hid (Below (w.heap.size+2) W w8):=hDD (by rw[hw8];exact bel_drewN B7.out _)
 have GB8:Hid (GBx w8 p W.heap.size A1 c1 (g1,N,es)):=hDD (by rw[hw8];exact GB7.out.below (bel_drewN (Below.refl _ _) _))
 clear hw8
 obtain⟨q0,q1,q2⟩:=HCL.out w8 B8.out
 have z0:=GB8.out.c0
 have z1:=GB8.out.c1
 have z2:=GB8.out.c2
 simp only at z0 z1 z2
 obtain⟨⟨r0,r1,r2⟩,hrf⟩:=HRC.out w8 B8.out
 have rf0:=hrf 0
 have rf1:=hrf 1
 have rf2:=hrf 2
 have h0I: ¬(t.length:Int)=0:=by omega
 have h0N: ¬t= []:=fun q=>h0 (by rw[q];rfl)
 clear hrf
 by_cases hA:N+t.length-1≤40
 ·by_cases hE:(es.length:Int)+t.length≤120
  ·have hok:addOk (g1,N,es) t=true:=decide_eq_true ⟨hA,hE⟩
   have HK:Hid (OK=true∧RES=addG (g1,N,es) a b t):=hDD (by have:=HOK.out.trans hok;exact⟨this,by rw[HRES.out,this];rfl⟩)
   clear hok
   obtain⟨n,rfl⟩: ∃n:Nat,N=(n:Int):=⟨N.toNat,by omega⟩
   have hes0:srt cmpE es=es:=srt_self (gr_srt HGR.out)
   have HS0:=hDD hes0
   clear hes0
   have h0B:((t.length:Int)==0)=false:=beq_eq_false_iff_ne.2 h0I
   have hA': ¬40<(n:Int)+t.length-1:=by omega
   have hE': ¬120<(es.length:Int)+t.length:=by omega
   go_wp2_with fail
   clear q0 q1 q2 r0 r1 r2 rf0 rf1 rf2 z0 z1 z2 h0I h0N h0B hA' hE'
   go_loopw [11,12] (fun q i wr=> ∃(k:Nat) (L:List EdD) (A2:Option Addr) (c2:Nat),k≤t.length∧i= .int .i64 k∧q= .int .i64 (atP n t.length a b k)∧Hid (L=srt cmpE (es++pthL n a b t k))∧L.length≤es.length+k∧GBx wr p (w.heap.size+2) A2 c2 (g1,((szP n t.length k:Nat):Int),L)∧Below (w.heap.size+2) W wr) (fun _ i _=>t.length-(intOf i).toNat)
   case atStart=>
    refine⟨0,es,A1,c1,Nat.zero_le _,rfl,rfl,hDD ?_,Nat.le_refl _,?_,B8.out⟩
    ·show es=srt cmpE (es++ [])
     rw[List.append_nil,HS0.out]
    ·exact GB8.out.mono (by omega)
   case round=>
    obtain⟨k,L,A2,c2,hk,rfl,rfl,hL,hLl,hgb,hbr⟩:=hrel
    obtain⟨wk,rfl⟩: ∃wk:World,wk=wr:=⟨_,rfl⟩
    have HT:=hDD (HAT.out wk hbr)
    have HGB:=hDD hgb
    have HBR:=hDD hbr
    have hwk:=hgb.lt
    have z0:=hgb.c0
    have z1:=hgb.c1
    have z2:=hgb.c2
    have zf1:=hgb.fz 1
    have zf2:=hgb.fz 2
    simp only at z0 z1 z2
    clear hgb hbr
    rcases Nat.lt_or_ge k t.length with hlt | hge
    ·have hzz:=wordB_get HW.out k hlt
     obtain⟨bt,off,rfl,hbt,hct⟩:=HY.out.at (by omega)
     have HTC:Hid (∀W',Below (w.heap.size+2) W W'→W'.cell? ⟨bt,off+k,none⟩=some (.int .i64 t[k])):=hDD fun W' hb=>((BX.out.trans (hb.mono (by omega))).cell (p:=⟨bt,off+k,none⟩) hbt).trans (hct k hlt)
     have cz:=HTC.out wk HBR.out
     have HPS:Hid (pthL n a b t (k+1)=pthL n a b t k++ [stpE (atP n t.length a b k) t[k] (nxP n t.length b k)]):=hDD (by rw[pthL_succ];unfold pthE;rw[getD_at hlt])
     have har:=atP_range (N:=n) (len:=t.length) (j:=k) HA.out HBV.out
     have hnr:=nxP_range (N:=n) (len:=t.length) (j:=k) HBV.out
     have HSZ:=hDD (szP_succ (N:=n) hlt)
     have HSK:=hDD (fun q=>szP_at (N:=n) (len:=t.length) (j:=k) q)
     have HNX:Hid (nxP n t.length b k=if k+1<t.length then((n+k:Nat):Int) else b):=hDD rfl
     have hso:(srt cmpE (es++pthL n a b t k)).length≤es.length+k:=by rw[←hL];exact hLl
     have HAT1:Hid (atP n t.length a b (k+1)=nxP n t.length b k):=hDD rfl
     generalize t[k]=z at*
     generalize atP n t.length a b k=q at*
     generalize nxP n t.length b k=m at*
     have HL:Hid (srt cmpE (es++pthL n a b t (k+1))=insF cmpE L (stpE q z m)):=hDD (by rw[HPS.out,←List.append_assoc,srt_snocP,hL.out])
     have HLL:Hid ((insF cmpE L (stpE q z m)).length≤es.length+(k+1)):=hDD (by have:=insF_len (c:=cmpE) L (stpE q z m);omega)
     clear hct HT HPS hso
     generalize hs1:szP n t.length k=S1 at*
     have hSb:S1≤n+24:=by rw[←hs1];unfold szP;have:=wordB_len HW.out;omega
     clear hs1
     have hk24:=wordB_len HW.out
     have hpw':p<wk.heap.size:=hwk
     obtain⟨S2,hS2⟩: ∃S,S=szP n t.length (k+1):=⟨_,rfl⟩
     rw[←hS2] at HSZ
     have HS2:=hDD hS2
     clear hS2
     have hneg:IntKind.i64.wrap (-z)= -z:=by rw[IntKind.wrap_i64];omega
     have hinc:IntKind.i64.wrap ((S1:Int)+1)=(S1:Int)+1:=by rw[IntKind.wrap_i64];omega
     have HE64:Hid (E64 (stpE q z m)):=hDD (by unfold stpE;split<;>exact⟨⟨by simp only;omega,by simp only;omega⟩,⟨by simp only;omega,by simp only;omega⟩,⟨by simp only;omega,by simp only;omega⟩⟩)
     have hLb:L.length≤268435456:=by omega
     have HLN:Hid (L.length≤es.length+k):=hDD hLl
     have HLE:=hDD hL.out
     have HKL:=hDD hk
     have HZZ:=hDD (And.intro hzz (And.intro har hnr))
     have hI2:I64 ((S2:Nat):Int):=by
      have:S2≤S1+1:=by rw[HSZ.out];split<;>omega
      exact⟨by omega,by omega⟩
     have HI2:=hDD hI2
     clear hL hLl hzz har hnr hI2
     by_cases h1:k+1<t.length<;>by_cases h2:0<z
     all_goals
      have HHH:=hDD (And.intro h1 h2)
      go_wp2_with fail
      have hk0:=HKL.out
      first
       | (have h1':k+1<t.length:=HHH.out.1
          obtain⟨wn,hwn⟩: ∃W,W=wk.setCell ⟨p,1,none⟩ (.int .i64 ((S1:Int)+1)):=⟨_,rfl⟩
          rw[←hwn]
          have HM:Hid (m=(S1:Int)):=hDD (by rw[HNX.out,if_pos h1'];have:=HSK.out h1';omega)
          have GBN:Hid (GBx wn p (w.heap.size+2) A2 c2 (g1,((S2:Nat):Int),L)):=hDD (by
           have e:(S2:Int)=(S1:Int)+1:=by rw[HSZ.out,if_pos h1'];rfl
           have hi:=HI2.out
           rw[e] at hi
           rw[hwn,e]
           exact HGB.out.sz hi)
          have BN:Hid (Below (w.heap.size+2) W wn):=hDD (by rw[hwn];exact HBR.out.setCell hpw _)
          clear hwn)
       | (have h1': ¬k+1<t.length:=HHH.out.1
          obtain⟨wn,rfl⟩: ∃W,W=wk:=⟨_,rfl⟩
          have HM:Hid (m=b):=hDD (by rw[HNX.out,if_neg h1'])
          have GBN:Hid (GBx wn p (w.heap.size+2) A2 c2 (g1,((S2:Nat):Int),L)):=hDD (by rw[show S2=S1 by rw[HSZ.out,if_neg h1']];exact HGB.out)
          have BN:Hid (Below (w.heap.size+2) W wn):=hDD HBR.out)
      clear h1 hk0 z0 z1 z2 cz zf1 zf2 hwk
      have z2:=GBN.out.c2
      simp only at z2
      have cz:=HTC.out wn BN.out
      have hpn:=GBN.out.lt
      have hbn:bt<wn.heap.size:=by omega
      have f0:=BelW.cell z2 hpn
      have f1:=BelW.cell cz hbn
      have hnn: ¬((k:Int)<0):=by omega
      have hkl:(k:Int)<(t.length:Int):=by omega
      first | (have h2':0<z:=HHH.out.2;clear h2';(refine wp_region_call3 9 (by kernel_rfl) (by kernel_rfl) (by kernel_rfl) (by kernel_rfl) (by rfl) (by rfl) ?_;dsimp only[dum3,dumO];(repeat(go_big_quiet_step (fail)));refine wpQuiet_nil ?_;refine⟨⟨_,fun _=>by rfl⟩,?_⟩;intro wq hw';obtain⟨pq,hw''⟩:=hw';have bq:=pq.h;rw[←hw''] at bq;clear hw'' pq;refine⟨_,_,by rfl,?_⟩)) | (refine wp_region_call3 10 (by kernel_rfl) (by kernel_rfl) (by kernel_rfl) (by kernel_rfl) (by rfl) (by rfl) ?_;dsimp only[dum3,dumO];(repeat(go_big_quiet_step (fail)));refine wpQuiet_nil ?_;refine⟨⟨_,fun _=>by rfl⟩,?_⟩;intro wq hw';obtain⟨pq,hw''⟩:=hw';have bq:=pq.h;rw[←hw''] at bq;clear hw'' pq;refine⟨_,_,by rfl,?_⟩)
      clear f0 f1
      try simp only[hneg]
      simp only[List.map_toArray,List.map_cons,List.map_nil,Array.empty_append,Array.append_empty]
      refine(show Calls Tryz.prog 136 #[.slice A2 L.length c2, .agg #[.int .i64 _, .int .i64 _, .int .i64 _]] wq _ from ?_)
      refine(put_e (stpE q z m) _ _ _ (GBN.out.ow.below bq).arg HE64.out hLb (by unfold stpE;rw[HM.out];have hh:=HHH.out.2;first | rw[if_pos (by omega)] | rw[if_neg (by omega)])).mono ?_
      rintro e' w9 ⟨r9,rfl,o9,b9⟩
      have B9:=hDD (bq.trans (b9.mono bq.size))
      have qx:=(B9.out.cell (p:=⟨p,2,none⟩) hpn).trans z2
      have qf:=(B9.out.frozen (p:=⟨p,2,none⟩) hpn).trans (GBN.out.fz 2)
      have s9:wn.heap.size≤w9.heap.size:=B9.out.size
      have hq9:=bq.size
      have O9:=hDD o9
      obtain⟨A9,c9,rfl,_⟩:=o9.form
      clear o9 b9 z2 cz
      refine⟨_,rfl,?_⟩
      simp only[Act.put,List.setIfInBounds_toArray,List.set_cons_zero,List.set_cons_succ]
      go_wp2
      go_roundw
      case rel=>
       exact⟨k+1,insF cmpE L (stpE q z m),A9,c9,by have:=HKL.out;omega,by go_num,by rw[HAT1.out,HM.out],hDD HL.out.symm,HLL.out,by rw[←HS2.out];exact(GBN.out.below B9.out).put (O9.out.mono (by omega)) (fun y hy=>by have:=(O9.out.1.lt y hy).1;omega),(BN.out.trans (B9.out.mono (by omega))).setCell hpw _⟩
      case measure=>simp[intOf];omega
    ·have hkt:k=t.length:=by omega
     subst hkt
     obtain⟨⟨r0,r1,r2⟩,hrf⟩:=HRC.out wk HBR.out
     have rf0:=hrf 0
     have rf1:=hrf 1
     have rf2:=hrf 2
     have hpne:w.heap.size+1≠p:=by omega
     clear hrf
     have hR:RES=(g1,((szP n t.length t.length:Nat):Int),L):=by
      rw[HK.out.2,hL.out]
      show(g1,(((n:Int).toNat+(t.length-1):Nat):Int),srt cmpE (es++pthL (n:Int).toNat a b t t.length))=_
      rw[Int.toNat_natCast,show szP n t.length t.length=n+(t.length-1) by unfold szP;omega]
     have HR:=hDD hR
     clear hR
     go_wp2
     obtain⟨e0,e1,e2⟩:=cells3F (.int .i64 g1) (.int .i64 ((szP n t.length t.length:Nat):Int)) (.slice A2 L.length c2) r0 r1 r2
     have bw:Below w.heap.size w (((wk.setCell ⟨w.heap.size+1,0,none⟩ (.int .i64 g1)).setCell ⟨w.heap.size+1,1,none⟩ (.int .i64 ((szP n t.length t.length:Nat):Int))).setCell ⟨w.heap.size+1,2,none⟩ (.slice A2 L.length c2)):=set3_below _ _ _ (BX.out.trans (HBR.out.mono (by omega))) (by omega)
     have ow:OwE (((wk.setCell ⟨w.heap.size+1,0,none⟩ (.int .i64 g1)).setCell ⟨w.heap.size+1,1,none⟩ (.int .i64 ((szP n t.length t.length:Nat):Int))).setCell ⟨w.heap.size+1,2,none⟩ (.slice A2 L.length c2)) (w.heap.size+2) (.slice A2 L.length c2) L:=HGB.out.ow.keep fun b hb=>set3_heap _ _ _ _ _ (by have:=(HGB.out.ow.1.lt b hb).1;omega)
     exact bodyPost_ret (v:= .tuple #[.agg #[.int .i64 g1, .int .i64 ((szP n t.length t.length:Nat):Int), .slice A2 L.length c2], .bool true]) (by simp[results,Tryz.results103,go_sem,e0,e1,e2]) rfl ⟨_,by rw[HK.out.1],by rw[HR.out];exact⟨.slice A2 L.length c2,rfl,hi1,HGB.out.i2,ow.mono (by omega)⟩,bw⟩
  ·have hok:addOk (g1,N,es) t=false:=decide_eq_false fun q=>hE q.2
   have HK:Hid (OK=false∧RES=(g1,N,es)):=hDD (by have:=HOK.out.trans hok;exact⟨this,by rw[HRES.out,this];rfl⟩)
   clear hok
   go_wp2
   obtain⟨e0,e1,e2⟩:=cells3F (.int .i64 g1) (.int .i64 N) (.slice A1 es.length c1) r0 r1 r2
   have bw:Below w.heap.size w (((w8.setCell ⟨w.heap.size+1,0,none⟩ (.int .i64 g1)).setCell ⟨w.heap.size+1,1,none⟩ (.int .i64 N)).setCell ⟨w.heap.size+1,2,none⟩ (.slice A1 es.length c1)):=set3_below _ _ _ (BX.out.trans (B8.out.mono (by omega))) (by omega)
   have ow:OwE (((w8.setCell ⟨w.heap.size+1,0,none⟩ (.int .i64 g1)).setCell ⟨w.heap.size+1,1,none⟩ (.int .i64 N)).setCell ⟨w.heap.size+1,2,none⟩ (.slice A1 es.length c1)) W.heap.size (.slice A1 es.length c1) es:=GB8.out.ow.keep fun b hb=>set3_heap _ _ _ _ _ (by have:=(GB8.out.ow.1.lt b hb).1;omega)
   exact bodyPost_ret (v:= .tuple #[.agg #[.int .i64 g1, .int .i64 N, .slice A1 es.length c1], .bool false]) (by simp[results,Tryz.results103,go_sem,e0,e1,e2]) rfl ⟨_,by rw[HK.out.1],by rw[HK.out.2];exact⟨.slice A1 es.length c1,rfl,hi1,hi2,ow.mono (by omega)⟩,bw⟩
 ·have hok:addOk (g1,N,es) t=false:=decide_eq_false fun q=>hA q.1
  have HK:Hid (OK=false∧RES=(g1,N,es)):=hDD (by have:=HOK.out.trans hok;exact⟨this,by rw[HRES.out,this];rfl⟩)
  clear hok
  go_wp2
  obtain⟨e0,e1,e2⟩:=cells3F (.int .i64 g1) (.int .i64 N) (.slice A1 es.length c1) r0 r1 r2
  have bw:Below w.heap.size w (((w8.setCell ⟨w.heap.size+1,0,none⟩ (.int .i64 g1)).setCell ⟨w.heap.size+1,1,none⟩ (.int .i64 N)).setCell ⟨w.heap.size+1,2,none⟩ (.slice A1 es.length c1)):=set3_below _ _ _ (BX.out.trans (B8.out.mono (by omega))) (by omega)
  have ow:OwE (((w8.setCell ⟨w.heap.size+1,0,none⟩ (.int .i64 g1)).setCell ⟨w.heap.size+1,1,none⟩ (.int .i64 N)).setCell ⟨w.heap.size+1,2,none⟩ (.slice A1 es.length c1)) W.heap.size (.slice A1 es.length c1) es:=GB8.out.ow.keep fun b hb=>set3_heap _ _ _ _ _ (by have:=(GB8.out.ow.1.lt b hb).1;omega)
  exact bodyPost_ret (v:= .tuple #[.agg #[.int .i64 g1, .int .i64 N, .slice A1 es.length c1], .bool false]) (by simp[results,Tryz.results103,go_sem,e0,e1,e2]) rfl ⟨_,by rw[HK.out.1],by rw[HK.out.2];exact⟨.slice A1 es.length c1,rfl,hi1,hi2,ow.mono (by omega)⟩,bw⟩
end Go.Proofs.YteobmaambgmdbaaGreat
namespace Go.Proofs.YteobmaambgmdbaaGreat
set_option maxRecDepth 20000
set_option linter.unusedVariables false
set_option linter.unusedSimpArgs false
open Go.RowKit
def Lt3 (x:Int):Prop:= -3≤x∧x≤3∧x≠0
theorem Lt3.neg {x:Int} (h:Lt3 x):Lt3 (-x):=⟨by have:=h.2.1;omega,by have:=h.1;omega,by have:=h.2.2;omega⟩
theorem Lt3.b3 {x:Int} (h:Lt3 x): -3≤x∧x≤3:=⟨h.1,h.2.1⟩
theorem Lt3.inv {l x:Int} (h:Lt3 l):invB l x=true↔x= -l:=by
 unfold invB
 have:=h.1;have:=h.2.2
 simp
 omega
def actS (es:List EdD) (s:Int×List Int) (x:Int):Int×List Int:=
 match s.2 with
 | []=>if nextV es s.1 x<0 then(s.1,[x]) else(nextV es s.1 x,[])
 | y::r=>if y= -x then(s.1,r) else(s.1,x::y::r)
def runS (es:List EdD) (s:Int×List Int) (w:List Int):Int×List Int:=w.foldl (actS es) s
def okR (es:List EdD) (v:Int):List Int→Prop
 | []=>True
 | [y]=>nextV es v y<0∧Lt3 y
 | y::z::r=>y≠ -z∧Lt3 y∧okR es v (z::r)
def okS (g:GrD) (s:Int×List Int):Prop:=(0≤s.1∧s.1<g.2.1)∧okR g.2.2 s.1 s.2
theorem okR_tail {es:List EdD} {v y:Int}: ∀ {r:List Int},okR es v (y::r)→okR es v r
 | [],_=>trivial
 | _::_,h=>h.2.2
theorem okR_lt {es:List EdD} {v y:Int}: ∀ {r:List Int},okR es v (y::r)→Lt3 y
 | [],h=>h.2
 | _::_,h=>h.2.1
theorem runS_app (es:List EdD) (s:Int×List Int) (a b:List Int):runS es s (a++b)=runS es (runS es s a) b:=List.foldl_append
theorem runS_cons (es:List EdD) (s:Int×List Int) (x:Int) (b:List Int):runS es s (x::b)=runS es (actS es s x) b:=rfl
section
variable {g:GrD} (hg:grB g=true) (hf:Fol g.2.2)
include hg
theorem act_ok {s:Int×List Int} {x:Int} (h:okS g s) (hx:Lt3 x):okS g (actS g.2.2 s x):=by
 obtain⟨v,r⟩:=s
 obtain⟨hv,hr⟩:=h
 simp only at hv hr
 unfold actS
 match r with
 | []=>
   simp only
   rcases nextV_range hg v x with q | q
   ·rw[if_pos (by omega)];exact⟨hv,(show nextV g.2.2 v x<0 by omega),hx⟩
   ·rw[if_neg (by omega)];exact⟨q,trivial⟩
 | y::r=>
   simp only
   by_cases e:y= -x
   ·rw[if_pos e];exact⟨hv,okR_tail hr⟩
   ·rw[if_neg e];exact⟨hv,fun q=>e (by have q':x= -y:=q;omega),hx,hr⟩
include hf
theorem act_back {s:Int×List Int} {x:Int} (h:okS g s) (hx:Lt3 x):actS g.2.2 (actS g.2.2 s x) (-x)=s:=by
 obtain⟨v,r⟩:=s
 obtain⟨hv,hr⟩:=h
 simp only at hv hr
 match r with
 | []=>
   by_cases q:nextV g.2.2 v x<0
   ·have e:actS g.2.2 (v,[]) x=(v,[x]):=by unfold actS;simp only;rw[if_pos q]
    rw[e]
    show(if x= - -x then(v,[]) else _)=_
    rw[if_pos (by omega)]
   ·have e:actS g.2.2 (v,[]) x=(nextV g.2.2 v x,[]):=by unfold actS;simp only;rw[if_neg q]
    rw[e]
    have hb:=nextV_back hg hf hx.b3 (by omega:0≤nextV g.2.2 v x)
    show(if nextV g.2.2 (nextV g.2.2 v x) (-x)<0 then _ else(nextV g.2.2 (nextV g.2.2 v x) (-x),[]))=_
    rw[hb,if_neg (by omega)]
 | [y]=>
   by_cases q:y= -x
   ·have e:actS g.2.2 (v,[y]) x=(v,[]):=by unfold actS;simp only;rw[if_pos q]
    rw[e]
    show(if nextV g.2.2 v (-x)<0 then(v,[-x]) else _)=_
    rw[←q,if_pos hr.1]
   ·have e:actS g.2.2 (v,[y]) x=(v,[x,y]):=by unfold actS;simp only;rw[if_neg q]
    rw[e]
    show(if x= - -x then(v,[y]) else _)=_
    rw[if_pos (by omega)]
 | y::z::r=>
   by_cases q:y= -x
   ·have e:actS g.2.2 (v,y::z::r) x=(v,z::r):=by unfold actS;simp only;rw[if_pos q]
    rw[e]
    show(if z= - -x then(v,r) else(v,-x::z::r))=_
    have:=hr.1
    rw[if_neg (by omega),q]
   ·have e:actS g.2.2 (v,y::z::r) x=(v,x::y::z::r):=by unfold actS;simp only;rw[if_neg q]
    rw[e]
    show(if x= - -x then(v,y::z::r) else _)=_
    rw[if_pos (by omega)]
omit hf in
theorem run_ok: ∀ {w:List Int} {s:Int×List Int},okS g s→(∀x∈w,Lt3 x)→okS g (runS g.2.2 s w)
 | [],_,h,_=>h
 | x::w,s,h,hw=>run_ok (w:=w) (act_ok hg h (hw x (by simp))) fun y hy=>hw y (by simp[hy])
theorem run_red1 {s:Int×List Int} {acc:List Int} {x:Int} (h:okS g s) (ha: ∀y∈acc,Lt3 y) (hx:Lt3 x):runS g.2.2 s (red1 acc x)=actS g.2.2 (runS g.2.2 s acc) x:=by
 unfold red1
 split
 ·rename_i q
  obtain⟨q0,q1⟩:=q
  obtain⟨b,l,rfl⟩: ∃b l,acc=b++ [l]:=⟨acc.dropLast,acc.getLast (List.ne_nil_of_length_pos q0),(List.dropLast_concat_getLast (List.ne_nil_of_length_pos q0)).symm⟩
  rw[getLastD_snoc] at q1
  have hl:=ha l (by simp)
  have e:=(Lt3.inv hl).1 q1
  subst e
  rw[List.dropLast_concat,runS_app]
  show _=actS g.2.2 (actS g.2.2 _ l) (-l)
  rw[act_back hg hf (run_ok hg h fun y hy=>ha y (by simp[hy])) hl]
 ·rw[runS_app];rfl
theorem run_redA: ∀ {xs acc:List Int} {s:Int×List Int},okS g s→(∀y∈acc,Lt3 y)→(∀y∈xs,Lt3 y)→runS g.2.2 s (redL acc xs)=runS g.2.2 (runS g.2.2 s acc) xs
 | [],_,_,_,_,_=>rfl
 | x::xs,acc,s,h,ha,hx=>by
   have hr: ∀y∈red1 acc x,Lt3 y:=fun y hy=>by
    unfold red1 at hy
    split at hy
    ·exact ha y (List.dropLast_subset _ hy)
    ·rcases List.mem_append.1 hy with q | q
     ·exact ha y q
     ·exact hx y (by simp at q;simp[q])
   show runS g.2.2 s (redL (red1 acc x) xs)=_
   rw[run_redA (xs:=xs) h hr fun y hy=>hx y (by simp[hy]),run_red1 hg hf h ha (hx x (by simp))]
   rfl
theorem run_red {w:List Int} {s:Int×List Int} (h:okS g s) (hw: ∀y∈w,Lt3 y):runS g.2.2 s (redL [] w)=runS g.2.2 s w:=
 run_redA hg hf h (fun y hy=>by cases hy) hw
theorem run_inv: ∀ {w:List Int} {s:Int×List Int},okS g s→(∀y∈w,Lt3 y)→runS g.2.2 (runS g.2.2 s w) (invN w)=s
 | [],_,_,_=>rfl
 | x::w,s,h,hw=>by
   have e:invN (x::w)=invN w++ [-x]:=by simp[invN]
   have hx:=hw x (by simp)
   rw[e,runS_app,runS_cons g.2.2 s,run_inv (w:=w) (act_ok hg h hx) fun y hy=>hw y (by simp[hy])]
   exact act_back hg hf h hx
omit hf
omit hg in
theorem red_lt3 {w:List Int} (hw: ∀y∈w,Lt3 y): ∀y∈redL [] w,Lt3 y:=fun y hy=>by
 have: ∀(xs acc:List Int),(∀y∈acc,Lt3 y)→(∀y∈xs,Lt3 y)→ ∀y∈redL acc xs,Lt3 y:=by
  intro xs
  induction xs with
  | nil=>exact fun acc ha _=>ha
  | cons x xs ih=>
    intro acc ha hx
    refine ih (red1 acc x) (fun z hz=> ?_) fun z hz=>hx z (by simp[hz])
    unfold red1 at hz
    split at hz
    ·exact ha z (List.dropLast_subset _ hz)
    ·rcases List.mem_append.1 hz with q | q
     ·exact ha z q
     ·exact hx z (by simp at q;simp[q])
 exact this w [] (fun z hz=>by cases hz) hw y hy
omit hg in
theorem run_walk: ∀ {w:List Int} {v:Int},0≤walkF g.2.2 v w→runS g.2.2 (v,[]) w=(walkF g.2.2 v w,[])
 | [],_,_=>rfl
 | x::w,v,h=>by
   rw[walkF_cons] at h⊢
   split at h
   ·exact absurd h (by decide)
   ·rename_i q
    rw[if_neg q,runS_cons]
    have e:actS g.2.2 (v,[]) x=(nextV g.2.2 v x,[]):=by unfold actS;simp only;rw[if_neg q]
    rw[e,run_walk h]
omit hg in
theorem run_push: ∀ {w:List Int} {v y:Int} {r:List Int},NoB (y::w)→runS g.2.2 (v,y::r) w=(v,w.reverse++y::r)
 | [],_,_,_,_=>rfl
 | x::w,v,y,r,h=>by
   have e:actS g.2.2 (v,y::r) x=(v,x::y::r):=by unfold actS;simp only;rw[if_neg (by have:=h.1;omega)]
   rw[runS_cons,e,run_push h.2]
   simp
theorem run_stop: ∀ {w:List Int} {v:Int},NoB w→(0≤v∧v<g.2.1)→walkF g.2.2 v w<0→(runS g.2.2 (v,[]) w).2≠ []
 | [],v,_,hv,h=>by exfalso;have:walkF g.2.2 v []=v:=rfl;omega
 | x::w,v,hn,hv,h=>by
   rw[walkF_cons] at h
   rw[runS_cons]
   by_cases q:nextV g.2.2 v x<0
   ·have e:actS g.2.2 (v,[]) x=(v,[x]):=by unfold actS;simp only;rw[if_pos q]
    rw[e,run_push hn]
    simp
   ·have e:actS g.2.2 (v,[]) x=(nextV g.2.2 v x,[]):=by unfold actS;simp only;rw[if_neg q]
    rw[if_neg q] at h
    rw[e]
    refine run_stop (w:=w) ?_ (by rcases nextV_range hg v x with z | z<;>omega) h
    cases w with
    | nil=>trivial
    | cons z w=>exact hn.2
omit hg in
theorem noB_of_red {w:List Int} (h:redP w) (hw: ∀y∈w,Lt3 y):NoB w:=by
 induction w with
 | nil=>trivial
 | cons x w ih=>
   cases w with
   | nil=>trivial
   | cons y w=>
     refine⟨fun e=> ?_,ih (fun i hi=> ?_) fun z hz=>hw z (by simp[hz])⟩
     ·have:=h 0 (by simp)
      have h2:invB x y=true:=(Lt3.inv (hw x (by simp))).2 e
      rw[show invB x y=false from this] at h2
      cases h2
     ·have:=h (i+1) (by simpa using hi)
      simpa using this
omit hg in
theorem red_noB {w:List Int} (hw: ∀y∈w,Lt3 y):NoB (redL [] w):=noB_of_red (redL_red redP_nil) (red_lt3 hw)
include hf
theorem loop_iff {w:List Int} (hw: ∀y∈w,Lt3 y) {v:Int} (hv:0≤v∧v<g.2.1) {u:Int} (hu:0≤u):walkF g.2.2 v (redL [] w)=u↔runS g.2.2 (v,[]) w=(u,[]):=by
 rw[←run_red hg hf (s:=(v,[])) ⟨hv,trivial⟩ hw]
 constructor
 ·intro e
  rw[run_walk (by omega),e]
 ·intro e
  rcases Int.lt_or_le (walkF g.2.2 v (redL [] w)) 0 with q | q
  ·have:=run_stop hg (red_noB hw) hv q
   rw[e] at this
   exact absurd rfl this
  ·rw[run_walk q] at e
   injection e
end
end Go.Proofs.YteobmaambgmdbaaGreat
namespace Go.Proofs.YteobmaambgmdbaaGreat
set_option maxRecDepth 20000
set_option linter.unusedVariables false
set_option linter.unusedSimpArgs false
open Go.RowKit
theorem wordB_lt3 {r:Int} {t:List Int} (h:wordB r t=true): ∀x∈t,Lt3 x:=fun x hx=>by
 obtain⟨i,hi,rfl⟩:=List.mem_iff_getElem.1 hx
 have h1:=wordB_get h i hi
 have h2:=wordB_rank h
 exact⟨by omega,by omega,by omega⟩
theorem wordB_inv {r:Int} {t:List Int} (h:wordB r t=true) {i:Nat} (hi:i+1<t.length):t[i+1]≠ -t[i]:=fun e=>by
 have h1:=wordB_ok h (i+1) hi
 have h2:=wordB_lt3 h t[i] (by simp)
 unfold okAt at h1
 rw[Bool.and_eq_true,Bool.not_eq_true',Bool.and_eq_false_iff] at h1
 rcases h1.2 with q | q
 ·simp at q
 ·rw[show i+1-1=i by omega,getD_at (by omega),getD_at hi,(Lt3.inv h2).2 e] at q
  cases q
theorem wordB_redP {r:Int} {t:List Int} (h:wordB r t=true):redP t:=fun i hi=>by
 rw[getD_at (by omega),getD_at hi,Bool.eq_false_iff]
 exact fun e=>wordB_inv h hi ((Lt3.inv (wordB_lt3 h _ (by simp))).1 e)
theorem wordB_drop {r:Int} {t:List Int} (h:wordB r t=true) (n:Nat):wordB r (t.drop n)=true:=by
 refine wordB_true ?_ (by have:=wordB_len h;simp;omega) fun i hi=> ?_
 ·have:=wordB_rank h
  exact inB_iff.2 this
 ·rw[List.length_drop] at hi
  have h1:=wordB_ok h (n+i) (by omega)
  unfold okAt at h1⊢
  rw[Bool.and_eq_true] at h1⊢
  rw[getD_at (by omega)] at h1
  rw[getD_at (by simp;omega),List.getElem_drop]
  refine⟨h1.1,?_⟩
  rcases Nat.eq_zero_or_pos i with rfl | h0
  ·rfl
  ·rw[getD_at (by simp;omega),List.getElem_drop]
   have h2:=h1.2
   rw[getD_at (by omega)] at h2
   have e:n+(i-1)=n+i-1:=by omega
   simp only[e,decide_eq_true h0,decide_eq_true (show 0<n+i by omega)] at h2⊢
   exact h2
def hE (e:EdD) (p x:Int):Prop:=(e.1=p∧e.2.1=x)∨(e.2.2=p∧e.2.1= -x)
theorem fol_half {L:List EdD} (h: ∀a∈L,∀b∈L,∀p x,hE a p x→hE b p x→a=b):Fol (srt cmpE L):=by
 have hsp:=srt_spec cmpE_ord L
 unfold Fol
 refine hsp.1.imp_of_mem fun {a b} ha hb hab=> ?_
 have hne:a≠b:=fun e=>by
  rw[e,cmpE_zero.2 rfl] at hab
  omega
 rw[Bool.eq_false_iff]
 intro hc
 unfold clash at hc
 simp only[Bool.and_eq_true,Bool.or_eq_true,beq_iff_eq] at hc
 obtain⟨hl,hor⟩:=hc
 rcases hor with q | q
 ·exact hne (h a ((hsp.2 a).1 ha) b ((hsp.2 b).1 hb) a.1 a.2.1 (.inl ⟨rfl,rfl⟩) (.inl ⟨q.symm,hl.symm⟩))
 ·exact hne (h a ((hsp.2 a).1 ha) b ((hsp.2 b).1 hb) a.2.2 (-a.2.1) (.inr ⟨rfl,by omega⟩) (.inr ⟨q.symm,by omega⟩))
theorem half_read {g:GrD} (hf:foldB g=true) {e:EdD} (he:e∈g.2.2) {p x:Int} (h:hE e p x):0≤nextV g.2.2 p x∧(0≤p∧p<g.2.1):=by
 obtain⟨h1,h2⟩:=foldB_parts hf
 have hr:=edge_of_gr h1 he
 rcases h with ⟨rfl,rfl⟩ | ⟨rfl,q⟩
 ·rw[nextV_out h1 h2 he];omega
 ·rw[show x= -e.2.1 by omega,nextV_in h1 h2 he];omega
theorem half_one {g:GrD} (hf:foldB g=true) {a b:EdD} (ha:a∈g.2.2) (hb:b∈g.2.2) {p x:Int} (h:hE a p x) (h':hE b p x):a=b:=by
 obtain⟨h1,h2⟩:=foldB_parts hf
 have hra:=edge_of_gr h1 ha
 have hrb:=edge_of_gr h1 hb
 rcases h with ⟨q1,q2⟩ | ⟨q1,q2⟩<;>rcases h' with ⟨q3,q4⟩ | ⟨q3,q4⟩
 ·have e1:=nextV_out h1 h2 ha
  have e2:=nextV_out h1 h2 hb
  rw[q1,q2] at e1
  rw[q3,q4] at e2
  exact Prod.ext (q1.trans q3.symm) (Prod.ext (q2.trans q4.symm) (e1.symm.trans e2))
 ·omega
 ·omega
 ·have e1:=nextV_in h1 h2 ha
  have e2:=nextV_in h1 h2 hb
  rw[q1,show-a.2.1=x by omega] at e1
  rw[q3,show-b.2.1=x by omega] at e2
  exact Prod.ext (e1.symm.trans e2) (Prod.ext (q2.trans q4.symm) (q1.trans q3.symm))
theorem stp_half {u x v p y:Int} (hx:x≠0):hE (stpE u x v) p y↔(p=u∧y=x)∨(p=v∧y= -x):=by
 unfold hE stpE
 by_cases h:0<x
 ·rw[if_pos h];simp only;omega
 ·rw[if_neg h];simp only;omega
section
variable {g:GrD} {u v:Int} {t:List Int}
theorem pth_mem {N:Nat} {e:EdD}:e∈pthL N u v t t.length↔ ∃j,j<t.length∧e=pthE N u v t j:=by
 unfold pthL
 rw[List.mem_map]
 exact⟨fun ⟨j,h1,h2⟩=>⟨j,List.mem_range.1 h1,h2.symm⟩,fun ⟨j,h1,h2⟩=>⟨j,List.mem_range.2 h1,h2.symm⟩⟩
theorem addOk_parts (h:addOk g t=true):g.2.1+t.length-1≤40∧(g.2.2.length:Int)+t.length≤120:=by
 unfold addOk at h
 exact of_decide_eq_true h
theorem pth_range (hg:grB g=true) (hu:0≤u∧u<g.2.1) (hv:0≤v∧v<g.2.1) (hw:wordB g.1 t=true) (h0:t.length≠0) {e:EdD} (he:e∈pthL g.2.1.toNat u v t t.length):
  (0≤e.1∧e.1<g.2.1+t.length-1)∧(1≤e.2.1∧e.2.1≤g.1)∧(0≤e.2.2∧e.2.2<g.2.1+t.length-1):=by
 obtain⟨j,hj,rfl⟩:=pth_mem.1 he
 have hN:=(grB_parts hg).2.1
 have hx:=wordB_get hw j hj
 have ha:0≤atP g.2.1.toNat t.length u v j∧atP g.2.1.toNat t.length u v j<g.2.1+t.length-1:=by
  cases j with
  | zero=>show 0≤u∧u<_;omega
  | succ j=>rw[atP_succ];unfold nxP;split<;>omega
 have hn:0≤nxP g.2.1.toNat t.length v j∧nxP g.2.1.toNat t.length v j<g.2.1+t.length-1:=by
  unfold nxP;split<;>omega
 unfold pthE stpE
 rw[getD_at hj]
 split<;>(simp only;omega)
theorem addG_gr (hg:grB g=true) (hu:0≤u∧u<g.2.1) (hv:0≤v∧v<g.2.1) (hw:wordB g.1 t=true) (h0:t.length≠0) (hok:addOk g t=true):grB (addG g u v t)=true:=by
 obtain⟨k1,k2⟩:=addOk_parts hok
 obtain⟨h1,h2,h3,_⟩:=grB_parts hg
 have hsp:=srt_spec cmpE_ord (g.2.2++pthL g.2.1.toNat u v t t.length)
 have hs:(addG g u v t).2.1=g.2.1+t.length-1:=by unfold addG;simp only;omega
 refine grB_of h1 (by rw[hs];omega) ?_ hsp.1 fun e he=> ?_
 ·have:=srt_len (c:=cmpE) (g.2.2++pthL g.2.1.toNat u v t t.length)
  rw[List.length_append,pthL_len] at this
  show(srt cmpE (g.2.2++pthL g.2.1.toNat u v t t.length)).length≤120
  omega
 ·rw[hs]
  rcases List.mem_append.1 ((hsp.2 e).1 he) with q | q
  ·have:=edge_of_gr hg q
   exact⟨by omega,this.2.1,by omega⟩
  ·exact pth_range hg hu hv hw h0 q
theorem at_inj (hu:0≤u∧u<g.2.1) {j k:Nat} (hj:j<t.length) (hk:k<t.length) (h:atP g.2.1.toNat t.length u v j=atP g.2.1.toNat t.length u v k):j=k:=by
 cases j with
 | zero=>
   cases k with
   | zero=>rfl
   | succ k=>
     rw[atP_succ,atP_zero,nxP,if_pos hk] at h
     omega
 | succ j=>
   cases k with
   | zero=>
     rw[atP_succ,atP_zero,nxP,if_pos hj] at h
     omega
   | succ k=>
     rw[atP_succ,atP_succ,nxP,nxP,if_pos hj,if_pos hk] at h
     omega
theorem nx_inj (hv:0≤v∧v<g.2.1) {j k:Nat} (hj:j<t.length) (hk:k<t.length) (h:nxP g.2.1.toNat t.length v j=nxP g.2.1.toNat t.length v k):j=k:=by
 unfold nxP at h
 split at h<;>split at h<;>omega
theorem addG_fold (hf:foldB g=true) (hu:0≤u∧u<g.2.1) (hv:0≤v∧v<g.2.1) (hw:wordB g.1 t=true) (h0:t.length≠0) (hok:addOk g t=true)
  (hnu:nextV g.2.2 u (t[0]'(by omega))<0) (hnv:nextV g.2.2 v (-(t[t.length-1]'(by omega)))<0) (huv:u=v→t[0]'(by omega)≠ -(t[t.length-1]'(by omega))):foldB (addG g u v t)=true:=by
 have hg:=(foldB_parts hf).1
 have hN:=(grB_parts hg).2.1
 unfold foldB
 rw[addG_gr hg hu hv hw h0 hok,Bool.true_and,decide_eq_true_eq]
 refine fol_half fun a ha b hb p x h h'=> ?_
 have old: ∀j,(hj:j<t.length)→ ∀e∈g.2.2,hE (pthE g.2.1.toNat u v t j) p x→hE e p x→False:=fun j hj e he h h'=>by
  have hr:=half_read hf he h'
  have hx:=wordB_get hw j hj
  unfold pthE at h
  rw[getD_at hj] at h
  rcases(stp_half hx.1).1 h with ⟨q1,q2⟩ | ⟨q1,q2⟩
  ·cases j with
   | zero=>
     have:atP g.2.1.toNat t.length u v 0=u:=rfl
     rw[q1,q2,this] at hr
     omega
   | succ j=>
     rw[atP_succ,nxP,if_pos hj] at q1
     omega
  ·unfold nxP at q1
   split at q1
   ·omega
   ·obtain rfl:j=t.length-1:=by omega
    rw[q1,q2] at hr
    omega
 have mix: ∀j k,(hj:j<t.length)→(hk:k<t.length)→p=atP g.2.1.toNat t.length u v j→x=t[j]→p=nxP g.2.1.toNat t.length v k→x= -t[k]→False:=fun j k hj hk e1 e2 e3 e4=>by
  cases j with
  | zero=>
    have:atP g.2.1.toNat t.length u v 0=u:=rfl
    rw[this] at e1
    unfold nxP at e3
    split at e3
    ·omega
    ·obtain rfl:k=t.length-1:=by omega
     exact huv (by omega) (by rw[←e2,e4])
  | succ j=>
    rw[atP_succ,nxP,if_pos hj] at e1
    unfold nxP at e3
    split at e3
    ·obtain rfl:k=j:=by omega
     exact wordB_inv hw hj (by rw[←e2,e4])
    ·omega
 rcases List.mem_append.1 ha with qa | qa<;>rcases List.mem_append.1 hb with qb | qb
 ·exact half_one hf qa qb h h'
 ·obtain⟨j,hj,rfl⟩:=pth_mem.1 qb
  exact(old j hj a qa h' h).elim
 ·obtain⟨j,hj,rfl⟩:=pth_mem.1 qa
  exact(old j hj b qb h h').elim
 ·obtain⟨j,hj,rfl⟩:=pth_mem.1 qa
  obtain⟨k,hk,rfl⟩:=pth_mem.1 qb
  have xj:=wordB_get hw j hj
  have xk:=wordB_get hw k hk
  unfold pthE at h h'
  rw[getD_at hj] at h
  rw[getD_at hk] at h'
  rcases(stp_half xj.1).1 h with ⟨q1,q2⟩ | ⟨q1,q2⟩<;>rcases(stp_half xk.1).1 h' with ⟨q3,q4⟩ | ⟨q3,q4⟩
  ·rw[at_inj hu hj hk (q1.symm.trans q3)]
  ·exact(mix j k hj hk q1 q2 q3 q4).elim
  ·exact(mix k j hk hj q3 q4 q1 q2).elim
  ·rw[nx_inj hv hj hk (q1.symm.trans q3)]
end
end Go.Proofs.YteobmaambgmdbaaGreat
