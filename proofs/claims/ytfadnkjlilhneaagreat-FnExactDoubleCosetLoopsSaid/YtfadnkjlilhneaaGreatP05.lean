/- Parts of the proof: FoldK, Mov, Word, IsWord, CycP, Prod, Parts, Core, InsI, IdxI. -/
import Derived.Test.YtfadnkjlilhneaaGreatP04
import Derived.Test.YtfadnkjlilhneaaGreatP01
import Derived.Outline
import Derived.Test.YtfadnkjlilhneaaGreatP02
import Derived.Deep.RegionHeld3
import Derived.Test.YtfadnkjlilhneaaGreatP03
namespace Go.Proofs.YtfadnkjlilhneaaGreat
set_option maxRecDepth 20000
set_option linter.unusedVariables false
set_option linter.unusedSimpArgs false
open Go.RowKit
def sLen:Value→Nat
 | .slice _ n _=>n
 | _=>0
set_option maxHeartbeats 1000000 in
theorem implFoldOnce_any (v:Value) (g:GrD) (w:World) (h:ArgG w v g) (hg:grB g=true):
  Calls Tryz.prog 141 #[v] w fun e w'=> ∃r,e= .returned (.tuple #[r, .agg #[.int .i64 (firF g).1.1, .int .i64 (firF g).1.2], .bool (firF g).2])∧OwG w' w.heap.size r (onceG g)∧Below w.heap.size w w':=by
 have HG:=hD h
 have HGR:=hD hg
 have HFK:=hD fun f (hf:f∈foL g.2.2)=>foL_ok hg hf
 have h120:=(grB_parts hg).2.2.1
 obtain⟨s,rfl,hi1,hi2,ha⟩:=h
 obtain⟨A,cap,rfl⟩:=ha.form
 obtain⟨g1,N,es⟩:=g
 simp only at*
 clear ha hg
 go_enter Tryz.func141,Tryz.ntmps141
 have bx:Below w.heap.size w (((w.alloc (Obj.cells #[Value.int IntKind.i64 g1,Value.int IntKind.i64 N, .slice A es.length cap] 31)).alloc (Obj.cells #[Value.int IntKind.i64 0,Value.int IntKind.i64 0, .slice none 0 0] 31)).alloc (Obj.cells #[Value.int IntKind.i64 0,Value.int IntKind.i64 0] 128)):=(by repeat(first | exact Below.refl _ _ | (refine Below.setCell ?_ (by first | omega | (simp<;>omega)) _) | (refine bel_drewN ?_ _) | (refine Below.drew ?_) | (refine Below.alloc ?_ (by first | omega | (simp<;>omega)) _)))
 go_wp2_with fail
 obtain⟨W,hW⟩: ∃W,W=(((w.alloc (Obj.cells #[Value.int IntKind.i64 g1,Value.int IntKind.i64 N, .slice A es.length cap] 31)).alloc (Obj.cells #[Value.int IntKind.i64 0,Value.int IntKind.i64 0, .slice none 0 0] 31)).alloc (Obj.cells #[Value.int IntKind.i64 0,Value.int IntKind.i64 0] 128)):=⟨_,rfl⟩
 rw[←hW] at bx⊢
 have hsW:W.heap.size=w.heap.size+3:=by rw[hW];simp
 have L0:Hid (W.cell? ⟨w.heap.size,0,none⟩=some (.int .i64 g1)):=hD (by rw[hW];simp[go_sem])
 have L1:Hid (W.cell? ⟨w.heap.size,1,none⟩=some (.int .i64 N)):=hD (by rw[hW];simp[go_sem])
 have L2:Hid (W.cell? ⟨w.heap.size,2,none⟩=some (.slice A es.length cap)):=hD (by rw[hW];simp[go_sem])
 have R0:Hid (W.cell? ⟨w.heap.size+1,0,none⟩=some (.int .i64 0)):=hD (by rw[hW];simp[go_sem])
 have R1:Hid (W.cell? ⟨w.heap.size+1,1,none⟩=some (.int .i64 0)):=hD (by rw[hW];simp[go_sem])
 have R2:Hid (W.cell? ⟨w.heap.size+1,2,none⟩=some (.slice none 0 0)):=hD (by rw[hW];simp[go_sem])
 have S0:Hid (W.cell? ⟨w.heap.size+1+1,0,none⟩=some (.int .i64 0)):=hD (by rw[hW];simp[go_sem])
 have S1:Hid (W.cell? ⟨w.heap.size+1+1,1,none⟩=some (.int .i64 0)):=hD (by rw[hW];simp[go_sem])
 have RF:Hid (∀j,W.frozen? ⟨w.heap.size+1,j,none⟩=false):=hD fun j=>by rw[hW];simp[go_sem]
 have SF:Hid (∀j,W.frozen? ⟨w.heap.size+1+1,j,none⟩=false):=hD fun j=>by rw[hW];simp[go_sem]
 have BX:=hD bx
 have HA:Hid (∀w',Below W.heap.size W w'→ArgG w' (.agg #[.int .i64 g1, .int .i64 N, .slice A es.length cap]) (g1,N,es)):=hD fun w' hb=>HG.out.below (BX.out.trans (hb.mono BX.out.size))
 have HCL:Hid (∀w',Below W.heap.size W w'→w'.cell? ⟨w.heap.size,0,none⟩=some (.int .i64 g1)∧w'.cell? ⟨w.heap.size,1,none⟩=some (.int .i64 N)∧w'.cell? ⟨w.heap.size,2,none⟩=some (.slice A es.length cap)):=hD fun w' hb=>
  ⟨(hb.cell (p:=⟨w.heap.size,0,none⟩) (by show w.heap.size<_;omega)).trans L0.out,(hb.cell (p:=⟨w.heap.size,1,none⟩) (by show w.heap.size<_;omega)).trans L1.out,(hb.cell (p:=⟨w.heap.size,2,none⟩) (by show w.heap.size<_;omega)).trans L2.out⟩
 have HCR:Hid (∀w',Below W.heap.size W w'→w'.cell? ⟨w.heap.size+1,0,none⟩=some (.int .i64 0)∧w'.cell? ⟨w.heap.size+1,1,none⟩=some (.int .i64 0)∧w'.cell? ⟨w.heap.size+1,2,none⟩=some (.slice none 0 0)∧w'.cell? ⟨w.heap.size+1+1,0,none⟩=some (.int .i64 0)∧w'.cell? ⟨w.heap.size+1+1,1,none⟩=some (.int .i64 0)∧(∀j,w'.frozen? ⟨w.heap.size+1,j,none⟩=false)∧(∀j,w'.frozen? ⟨w.heap.size+1+1,j,none⟩=false)):=hD fun w' hb=>
  ⟨(hb.cell (p:=⟨w.heap.size+1,0,none⟩) (by show w.heap.size+1<_;omega)).trans R0.out,(hb.cell (p:=⟨w.heap.size+1,1,none⟩) (by show w.heap.size+1<_;omega)).trans R1.out,(hb.cell (p:=⟨w.heap.size+1,2,none⟩) (by show w.heap.size+1<_;omega)).trans R2.out,(hb.cell (p:=⟨w.heap.size+1+1,0,none⟩) (by show w.heap.size+1+1<_;omega)).trans S0.out,(hb.cell (p:=⟨w.heap.size+1+1,1,none⟩) (by show w.heap.size+1+1<_;omega)).trans S1.out,fun j=>(hb.frozen (p:=⟨w.heap.size+1,j,none⟩) (by show w.heap.size+1<_;omega)).trans (RF.out j),fun j=>(hb.frozen (p:=⟨w.heap.size+1+1,j,none⟩) (by show w.heap.size+1+1<_;omega)).trans (SF.out j)⟩
 clear hW bx L0 L1 L2 R0 R1 R2 S0 S1 RF SF
 refine(implFirstFold_any _ (g1,N,es) W (HA.out _ (Below.refl _ _))).mono ?_
 rintro e w1 ⟨rfl,b1⟩
 have B1:=hD b1
 have hs1:=b1.size
 clear b1
 rcases ef:foL es with _ | ⟨f,l⟩
 ·have F:Hid (firF (g1,N,es)=((0,0),false)):=hD (by unfold firF;rw[if_pos HGR.out];simp only[ef])
  have FO:Hid (onceG (g1,N,es)=(g1,N,es)):=hD (by unfold onceG;simp only[ef])
  clear ef
  rw[F.out]
  simp only
  have bA:Below w1.heap.size w1 (w1.alloc (Obj.cells #[Value.int IntKind.i64 0,Value.int IntKind.i64 0] 128)):=(Below.refl _ _).alloc (Nat.le_refl _) _
  have BA:=hD (B1.out.trans (bA.mono hs1))
  obtain⟨q0,q1,q2⟩:=HCL.out _ BA.out
  go_wp2_with fail
  refine(copyGraph_any _ (g1,N,es) _ (HA.out _ BA.out) (by simp only;omega)).mono ?_
  rintro e w2 ⟨r,rfl,o2,b2⟩
  have B2:=hD (BA.out.trans (b2.mono BA.out.size))
  have O2:=hD o2
  obtain⟨s2,rfl,_,_,oe2⟩:=o2
  obtain⟨A2,c2,rfl,_⟩:=oe2.form
  have OE2:=hD oe2
  have hsA:=BA.out.size
  obtain⟨r0,r1,r2,s0,s1,rf,sf⟩:=HCR.out w2 B2.out
  have rf0:=rf 0
  have rf1:=rf 1
  have rf2:=rf 2
  have sf0:=sf 0
  have sf1:=sf 1
  have HBF:=hD (BX.out.trans (B2.out.mono BX.out.size))
  clear b2 oe2 rf sf q0 q1 q2 bA
  go_wp2
  obtain⟨c0,c1,c2'⟩:=cells3F (.int .i64 g1) (.int .i64 N) (.slice A2 es.length c2) r0 r1 r2
  have hne1:w.heap.size+1≠w.heap.size+1+1:=by omega
  have hne2:w.heap.size+1+1≠w.heap.size+1:=by omega
  have d0:=setc_other (o':=1) (u:= .int .i64 0) hne1 (setc_other (o':=0) (u:= .int .i64 0) hne1 c0)
  have d1:=setc_other (o':=1) (u:= .int .i64 0) hne1 (setc_other (o':=0) (u:= .int .i64 0) hne1 c1)
  have d2:=setc_other (o':=1) (u:= .int .i64 0) hne1 (setc_other (o':=0) (u:= .int .i64 0) hne1 c2')
  obtain⟨e0,e1⟩:=cells2 (.int .i64 0) (.int .i64 0) (setc_other (o':=2) (u:= .slice A2 es.length c2) hne2 (setc_other (o':=1) (u:= .int .i64 N) hne2 (setc_other (o':=0) (u:= .int .i64 g1) hne2 s0))) (setc_other (o':=2) (u:= .slice A2 es.length c2) hne2 (setc_other (o':=1) (u:= .int .i64 N) hne2 (setc_other (o':=0) (u:= .int .i64 g1) hne2 s1)))
  have bw:Below w.heap.size w (((((w2.setCell ⟨w.heap.size+1,0,none⟩ (.int .i64 g1)).setCell ⟨w.heap.size+1,1,none⟩ (.int .i64 N)).setCell ⟨w.heap.size+1,2,none⟩ (.slice A2 es.length c2)).setCell ⟨w.heap.size+1+1,0,none⟩ (.int .i64 0)).setCell ⟨w.heap.size+1+1,1,none⟩ (.int .i64 0)):=(((((HBF.out.setCell (by simp<;>omega) _).setCell (by simp<;>omega) _).setCell (by simp<;>omega) _).setCell (by simp<;>omega) _).setCell (by simp<;>omega) _)
  have ow:OwE (((((w2.setCell ⟨w.heap.size+1,0,none⟩ (.int .i64 g1)).setCell ⟨w.heap.size+1,1,none⟩ (.int .i64 N)).setCell ⟨w.heap.size+1,2,none⟩ (.slice A2 es.length c2)).setCell ⟨w.heap.size+1+1,0,none⟩ (.int .i64 0)).setCell ⟨w.heap.size+1+1,1,none⟩ (.int .i64 0)) _ (.slice A2 es.length c2) es:=(((((OE2.out.far (by show w.heap.size+1<_;omega) _).far (by show w.heap.size+1<_;omega) _).far (by show w.heap.size+1<_;omega) _).far (by show w.heap.size+1+1<_;omega) _).far (by show w.heap.size+1+1<_;omega) _)
  generalize (((((w2.setCell ⟨w.heap.size+1,0,none⟩ (.int .i64 g1)).setCell ⟨w.heap.size+1,1,none⟩ (.int .i64 N)).setCell ⟨w.heap.size+1,2,none⟩ (.slice A2 es.length c2)).setCell ⟨w.heap.size+1+1,0,none⟩ (.int .i64 0)).setCell ⟨w.heap.size+1+1,1,none⟩ (.int .i64 0))=wf at*
  rw[FO.out,F.out]
  exact bodyPost_ret (v:= .tuple #[.agg #[.int .i64 g1, .int .i64 N, .slice A2 es.length c2], .agg #[.int .i64 0, .int .i64 0], .bool false]) (by simp[results,Tryz.results141,go_sem,d0,d1,d2,e0,e1]) rfl ⟨_,rfl,⟨.slice A2 es.length c2,rfl,hi1,hi2,ow.mono (by omega)⟩,bw⟩
 ·have F:Hid (firF (g1,N,es)=(f,true)):=hD (by unfold firF;rw[if_pos HGR.out];simp only[ef])
  have FO:Hid (onceG (g1,N,es)=merG (g1,N,es) f):=hD (by unfold onceG;simp only[ef])
  have hfk:=HFK.out f (by rw[ef];simp)
  clear ef
  rw[F.out]
  obtain⟨fa,fb⟩:=f
  simp only
  have bA:Below w1.heap.size w1 (w1.alloc (Obj.cells #[Value.int IntKind.i64 fa,Value.int IntKind.i64 fb] 128)):=(Below.refl _ _).alloc (Nat.le_refl _) _
  have BA:=hD (B1.out.trans (bA.mono hs1))
  obtain⟨q0,q1,q2⟩:=HCL.out _ BA.out
  go_wp2_with fail
  obtain⟨WA,hWA⟩: ∃W,W=w1.alloc (Obj.cells #[Value.int IntKind.i64 fa,Value.int IntKind.i64 fb] 128):=⟨_,rfl⟩
  have k0:Hid (WA.cell? ⟨w1.heap.size,0,none⟩=some (.int .i64 fa)):=hD (by rw[hWA];simp[go_sem])
  have k1:Hid (WA.cell? ⟨w1.heap.size,1,none⟩=some (.int .i64 fb)):=hD (by rw[hWA];simp[go_sem])
  have hsA:WA.heap.size=w1.heap.size+1:=by rw[hWA];simp
  rw[←hWA] at BA q0 q1 q2⊢
  clear hWA bA
  refine(implMergeVertices_any _ (g1,N,es) (fa,fb) WA (HA.out _ BA.out) HGR.out hfk).mono ?_
  rintro e w2 ⟨r,rfl,o2,b2⟩
  have B2:=hD (BA.out.trans (b2.mono BA.out.size))
  have hs2:=b2.size
  obtain⟨s2,rfl,hj1,hj2,oe2⟩:=o2
  obtain⟨A2,c2,rfl,_⟩:=oe2.form
  have OE2:=hD oe2
  have l0:=(b2.cell (p:=⟨w1.heap.size,0,none⟩) (by show w1.heap.size<_;omega)).trans k0.out
  have l1:=(b2.cell (p:=⟨w1.heap.size,1,none⟩) (by show w1.heap.size<_;omega)).trans k1.out
  clear b2 oe2 q0 q1 q2
  generalize hmg:merG (g1,N,es) (fa,fb)=M at*
  obtain⟨m1,m2,ms⟩:=M
  simp only at hj1 hj2
  have HMG:=hD hmg
  clear hmg
  go_wp2_with fail
  have bB:Below w2.heap.size w2 (w2.alloc (Obj.cells #[Value.int IntKind.i64 m1,Value.int IntKind.i64 m2, .slice A2 ms.length c2] 31)):=(Below.refl _ _).alloc (Nat.le_refl _) _
  obtain⟨WB,hWB⟩: ∃W,W=w2.alloc (Obj.cells #[Value.int IntKind.i64 m1,Value.int IntKind.i64 m2, .slice A2 ms.length c2] 31):=⟨_,rfl⟩
  have x0:WB.cell? ⟨w2.heap.size,0,none⟩=some (.int .i64 m1):=by rw[hWB];simp[go_sem]
  have x1:WB.cell? ⟨w2.heap.size,1,none⟩=some (.int .i64 m2):=by rw[hWB];simp[go_sem]
  have x2:WB.cell? ⟨w2.heap.size,2,none⟩=some (.slice A2 ms.length c2):=by rw[hWB];simp[go_sem]
  have hsB:WB.heap.size=w2.heap.size+1:=by rw[hWB];simp
  rw[←hWB] at bB⊢
  clear hWB
  have y0:=(bB.cell (p:=⟨w1.heap.size,0,none⟩) (by show w1.heap.size<_;omega)).trans l0
  have y1:=(bB.cell (p:=⟨w1.heap.size,1,none⟩) (by show w1.heap.size<_;omega)).trans l1
  have BB:=hD (B2.out.trans (bB.mono B2.out.size))
  have OEB:=hD (OE2.out.below bB)
  obtain⟨r0,r1,r2,s0,s1,rf,sf⟩:=HCR.out WB BB.out
  have rf0:=rf 0
  have rf1:=rf 1
  have rf2:=rf 2
  have sf0:=sf 0
  have sf1:=sf 1
  have hne1:w.heap.size+1≠w2.heap.size:=by omega
  have hne2:w.heap.size+1+1≠w2.heap.size:=by omega
  have hne3:w.heap.size+1≠w1.heap.size:=by omega
  have hne4:w.heap.size+1+1≠w1.heap.size:=by omega
  have HBF:=hD (BX.out.trans (BB.out.mono BX.out.size))
  clear rf sf l0 l1 bB
  go_region_held3 (fun w'=>w'.cell? ⟨w2.heap.size,0,none⟩=some (.int .i64 m1)∧w'.cell? ⟨w2.heap.size,1,none⟩=some (.int .i64 m2)∧w'.cell? ⟨w2.heap.size,2,none⟩=some (.slice A2 ms.length c2)∧w'.cell? ⟨w1.heap.size,0,none⟩=some (.int .i64 fa)∧w'.cell? ⟨w1.heap.size,1,none⟩=some (.int .i64 fb))
   (first | go_keep | (simp[go_sem, *];done))
   (fail)
  go_wp2
  obtain⟨c0,c1,c2'⟩:=cells3F (.int .i64 m1) (.int .i64 m2) (.slice A2 ms.length c2) r0 r1 r2
  have hnf1:w.heap.size+1≠w.heap.size+1+1:=by omega
  have hnf2:w.heap.size+1+1≠w.heap.size+1:=by omega
  have d0:=setc_other (o':=1) (u:= .int .i64 fb) hnf1 (setc_other (o':=0) (u:= .int .i64 fa) hnf1 c0)
  have d1:=setc_other (o':=1) (u:= .int .i64 fb) hnf1 (setc_other (o':=0) (u:= .int .i64 fa) hnf1 c1)
  have d2:=setc_other (o':=1) (u:= .int .i64 fb) hnf1 (setc_other (o':=0) (u:= .int .i64 fa) hnf1 c2')
  obtain⟨e0,e1⟩:=cells2 (.int .i64 fa) (.int .i64 fb) (setc_other (o':=2) (u:= .slice A2 ms.length c2) hnf2 (setc_other (o':=1) (u:= .int .i64 m2) hnf2 (setc_other (o':=0) (u:= .int .i64 m1) hnf2 s0))) (setc_other (o':=2) (u:= .slice A2 ms.length c2) hnf2 (setc_other (o':=1) (u:= .int .i64 m2) hnf2 (setc_other (o':=0) (u:= .int .i64 m1) hnf2 s1)))
  have bw:Below w.heap.size w (((((WB.setCell ⟨w.heap.size+1,0,none⟩ (.int .i64 m1)).setCell ⟨w.heap.size+1,1,none⟩ (.int .i64 m2)).setCell ⟨w.heap.size+1,2,none⟩ (.slice A2 ms.length c2)).setCell ⟨w.heap.size+1+1,0,none⟩ (.int .i64 fa)).setCell ⟨w.heap.size+1+1,1,none⟩ (.int .i64 fb)).drew:=(((((HBF.out.setCell (by simp<;>omega) _).setCell (by simp<;>omega) _).setCell (by simp<;>omega) _).setCell (by simp<;>omega) _).setCell (by simp<;>omega) _).drew
  have ow:OwE (((((WB.setCell ⟨w.heap.size+1,0,none⟩ (.int .i64 m1)).setCell ⟨w.heap.size+1,1,none⟩ (.int .i64 m2)).setCell ⟨w.heap.size+1,2,none⟩ (.slice A2 ms.length c2)).setCell ⟨w.heap.size+1+1,0,none⟩ (.int .i64 fa)).setCell ⟨w.heap.size+1+1,1,none⟩ (.int .i64 fb)).drew _ (.slice A2 ms.length c2) ms:=(((((OEB.out.far (by show w.heap.size+1<_;omega) _).far (by show w.heap.size+1<_;omega) _).far (by show w.heap.size+1<_;omega) _).far (by show w.heap.size+1+1<_;omega) _).far (by show w.heap.size+1+1<_;omega) _).drew
  generalize (((((WB.setCell ⟨w.heap.size+1,0,none⟩ (.int .i64 m1)).setCell ⟨w.heap.size+1,1,none⟩ (.int .i64 m2)).setCell ⟨w.heap.size+1,2,none⟩ (.slice A2 ms.length c2)).setCell ⟨w.heap.size+1+1,0,none⟩ (.int .i64 fa)).setCell ⟨w.heap.size+1+1,1,none⟩ (.int .i64 fb))=wf at*
  have d0':wf.drew.cell? ⟨w.heap.size+1,0,none⟩=some (.int .i64 m1):=d0
  have d1':wf.drew.cell? ⟨w.heap.size+1,1,none⟩=some (.int .i64 m2):=d1
  have d2':wf.drew.cell? ⟨w.heap.size+1,2,none⟩=some (.slice A2 ms.length c2):=d2
  have e0':wf.drew.cell? ⟨w.heap.size+1+1,0,none⟩=some (.int .i64 fa):=e0
  have e1':wf.drew.cell? ⟨w.heap.size+1+1,1,none⟩=some (.int .i64 fb):=e1
  generalize wf.drew=wg at*
  rw[FO.out,F.out]
  exact bodyPost_ret (v:= .tuple #[.agg #[.int .i64 m1, .int .i64 m2, .slice A2 ms.length c2], .agg #[.int .i64 fa, .int .i64 fb], .bool true]) (by simp[results,Tryz.results141,go_sem,d0',d1',d2',e0',e1']) rfl ⟨_,rfl,⟨.slice A2 ms.length c2,rfl,hj1,hj2,ow.mono (by omega)⟩,bw⟩
set_option maxHeartbeats 4000000 in
theorem implFoldAll_any (v:Value) (g:GrD) (w:World) (h:ArgG w v g) (hg:grB g=true):
  Calls Tryz.prog 123 #[v] w fun e w'=> ∃r o,e= .returned (.tuple #[r,o])∧OwG w' w.heap.size r (folA g)∧Below w.heap.size w w':=by
 have HG:=hD h
 have HGR:=hD hg
 obtain⟨h13,h40,h120,_⟩:=grB_parts hg
 obtain⟨s,rfl,hi1,hi2,ha⟩:=h
 obtain⟨A,cap,rfl⟩:=ha.form
 obtain⟨g1,N,es⟩:=g
 simp only at*
 clear ha hg
 go_enter Tryz.func123,Tryz.ntmps123
 have bx:Below w.heap.size w ((w.alloc (Obj.cells #[Value.int IntKind.i64 g1,Value.int IntKind.i64 N, .slice A es.length cap] 31)).alloc (Obj.cells #[Value.int IntKind.i64 0,Value.int IntKind.i64 0, .slice none 0 0] 31)):=(by repeat(first | exact Below.refl _ _ | (refine Below.setCell ?_ (by first | omega | (simp<;>omega)) _) | (refine bel_drewN ?_ _) | (refine Below.drew ?_) | (refine Below.alloc ?_ (by first | omega | (simp<;>omega)) _)))
 go_wp2_with fail
 obtain⟨W,hW⟩: ∃W,W=((w.alloc (Obj.cells #[Value.int IntKind.i64 g1,Value.int IntKind.i64 N, .slice A es.length cap] 31)).alloc (Obj.cells #[Value.int IntKind.i64 0,Value.int IntKind.i64 0, .slice none 0 0] 31)):=⟨_,rfl⟩
 rw[←hW] at bx⊢
 have hsW:W.heap.size=w.heap.size+2:=by rw[hW];simp
 have R0:Hid (W.cell? ⟨w.heap.size+1,0,none⟩=some (.int .i64 0)):=hD (by rw[hW];simp[go_sem])
 have R1:Hid (W.cell? ⟨w.heap.size+1,1,none⟩=some (.int .i64 0)):=hD (by rw[hW];simp[go_sem])
 have R2:Hid (W.cell? ⟨w.heap.size+1,2,none⟩=some (.slice none 0 0)):=hD (by rw[hW];simp[go_sem])
 have RF:Hid (∀j,W.frozen? ⟨w.heap.size+1,j,none⟩=false):=hD fun j=>by rw[hW];simp[go_sem]
 have BX:=hD bx
 clear hW bx
 refine(copyGraph_any _ (g1,N,es) W (HG.out.below BX.out) (by simp only;omega)).mono ?_
 rintro e w1 ⟨r,rfl,o1,b1⟩
 have B1:=hD b1
 have hs1:=b1.size
 obtain⟨s1,rfl,_,_,oe1⟩:=o1
 obtain⟨A1,c1,rfl,_⟩:=oe1.form
 simp only at*
 have OE1:=hD oe1
 clear b1 oe1
 have HOU:Hid (OwFo ((w1.alloc (Obj.cells #[Value.int IntKind.i64 g1,Value.int IntKind.i64 N, .slice A1 es.length c1] 31)).alloc (.cells #[] 128)) (w1.heap.size+1) (.slice (some ⟨w1.heap.size+1,0,none⟩) 0 0) []):=hD (by
  have:=OwFo_lit (base:=w1.heap.size+1) (w1.alloc (Obj.cells #[Value.int IntKind.i64 g1,Value.int IntKind.i64 N, .slice A1 es.length c1] 31)) (by simp)
  simpa using this)
 have bX:Below w1.heap.size w1 ((w1.alloc (Obj.cells #[Value.int IntKind.i64 g1,Value.int IntKind.i64 N, .slice A1 es.length c1] 31)).alloc (.cells #[] 128)):=(by repeat(first | exact Below.refl _ _ | (refine Below.setCell ?_ (by first | omega | (simp<;>omega)) _) | (refine bel_drewN ?_ _) | (refine Below.drew ?_) | (refine Below.alloc ?_ (by first | omega | (simp<;>omega)) _)))
 go_wp2
 obtain⟨W2,hW2⟩: ∃W,W=(w1.alloc (Obj.cells #[Value.int IntKind.i64 g1,Value.int IntKind.i64 N, .slice A1 es.length c1] 31)).alloc (.cells #[] 128):=⟨_,rfl⟩
 rw[←hW2] at bX HOU⊢
 have hsW2:W2.heap.size=w1.heap.size+2:=by rw[hW2];simp
 have X0:Hid (W2.cell? ⟨w1.heap.size,0,none⟩=some (.int .i64 g1)):=hD (by rw[hW2];simp[go_sem])
 have X1:Hid (W2.cell? ⟨w1.heap.size,1,none⟩=some (.int .i64 N)):=hD (by rw[hW2];simp[go_sem])
 have X2:Hid (W2.cell? ⟨w1.heap.size,2,none⟩=some (.slice A1 es.length c1)):=hD (by rw[hW2];simp[go_sem])
 have XF:Hid (∀j,W2.frozen? ⟨w1.heap.size,j,none⟩=false):=hD fun j=>by rw[hW2];simp[go_sem]
 have BX2:=hD bX
 have OEX:Hid (OwE W2 (w.heap.size+2) (.slice A1 es.length c1) es):=hD ((OE1.out.below bX).mono (by omega))
 have HNX:Hid (∀b,(Value.slice A1 es.length c1).ownBlock=some b→b≠w1.heap.size):=hD fun b hb=>by have:=(OE1.out.1.lt b hb).2;omega
 clear hW2 bX OE1
 go_loopw [5] (fun out wr=> ∃(k:Nat) (gk:GrD) (A2:Option Addr) (c2:Nat) (lo:List FoD),k≤40∧(∃Ao co,out= .slice Ao lo.length co)∧lo.length=k∧grB gk=true∧folA gk=folA (g1,N,es)∧gk.2.1+k≤N∧wr.cell? ⟨w1.heap.size,0,none⟩=some (.int .i64 gk.1)∧wr.cell? ⟨w1.heap.size,1,none⟩=some (.int .i64 gk.2.1)∧wr.cell? ⟨w1.heap.size,2,none⟩=some (.slice A2 gk.2.2.length c2)∧
   (∀j,wr.frozen? ⟨w1.heap.size,j,none⟩=false)∧OwE wr (w.heap.size+2) (.slice A2 gk.2.2.length c2) gk.2.2∧(∀b,(Value.slice A2 gk.2.2.length c2).ownBlock=some b→b≠w1.heap.size)∧OwFo wr (w1.heap.size+1) out lo∧Below w1.heap.size w1 wr∧w1.heap.size<wr.heap.size) (fun o _=>40-sLen o)
 case atStart=>exact⟨0,(g1,N,es),A1,c1,[],Nat.zero_le _,⟨_,_,rfl⟩,rfl,HGR.out,rfl,by simp,X0.out,X1.out,X2.out,XF.out,OEX.out,HNX.out,HOU.out,BX2.out,by omega⟩
 case round=>
  obtain⟨k,gk,A2,c2,lo,hk,⟨Ao,co,rfl⟩,hlo,hgk,hfa,hsz,hx0,hx1,hx2,hxf,hoe,hnx,hof,hbr,hxr⟩:=hrel
  obtain⟨k13,k40,k120,_⟩:=grB_parts hgk
  have HGK:=hD hgk
  have HFA:=hD hfa
  have HOE:=hD hoe
  have HNX2:=hD hnx
  have HOF:=hD hof
  have HBR:=hD hbr
  have B4:=hD (B1.out.trans (hbr.mono hs1))
  have HAK:Hid (ArgG wr (.agg #[.int .i64 gk.1, .int .i64 gk.2.1, .slice A2 gk.2.2.length c2]) gk):=hD ⟨_,rfl,(by unfold I64;omega),(by unfold I64;omega),hoe.arg⟩
  obtain⟨wk,rfl⟩: ∃wk:World,wk=wr:=⟨_,rfl⟩
  clear hgk hfa hoe hnx hof hbr
  have hk40:k<40:=by omega
  go_wp2_with fail
  refine(implFoldOnce_any _ gk wk HAK.out HGK.out).mono ?_
  rintro e w5 ⟨r,rfl,o5,b5⟩
  have hs5:=b5.size
  have B5:=hD (HBR.out.trans (b5.mono (by omega)))
  have z0:=(b5.cell (p:=⟨w1.heap.size,0,none⟩) hxr).trans hx0
  have z1:=(b5.cell (p:=⟨w1.heap.size,1,none⟩) hxr).trans hx1
  have z2:=(b5.cell (p:=⟨w1.heap.size,2,none⟩) hxr).trans hx2
  have ZF:Hid (∀j,w5.frozen? ⟨w1.heap.size,j,none⟩=false):=hD fun j=>(b5.frozen (p:=⟨w1.heap.size,j,none⟩) hxr).trans (hxf j)
  have HOE5:=hD (HOE.out.below b5)
  have HOF5:=hD (HOF.out.below b5)
  clear hx0 hx1 hx2 hxf b5
  rcases ef:foL gk.2.2 with _ | ⟨f,l⟩
  ·have F:Hid (firF gk=((0,0),false)):=hD (by unfold firF;rw[if_pos HGK.out];simp only[ef])
   have FO:Hid (onceG gk=gk):=hD (by unfold onceG;simp only[ef])
   have FAG:Hid (folA (g1,N,es)=gk):=hD (by rw[←HFA.out];exact folA_nil ef)
   clear ef
   rw[FO.out] at o5
   rw[F.out]
   simp only
   obtain⟨s5,rfl,hj1,hj2,oe5⟩:=o5
   obtain⟨A5,c5,rfl,_⟩:=oe5.form
   have bY:Below w5.heap.size w5 ((w5.alloc (Obj.cells #[Value.int IntKind.i64 gk.1,Value.int IntKind.i64 gk.2.1, .slice A5 gk.2.2.length c5] 31)).alloc (Obj.cells #[Value.int IntKind.i64 0,Value.int IntKind.i64 0] 128)):=(by repeat(first | exact Below.refl _ _ | (refine Below.setCell ?_ (by first | omega | (simp<;>omega)) _) | (refine bel_drewN ?_ _) | (refine Below.drew ?_) | (refine Below.alloc ?_ (by first | omega | (simp<;>omega)) _)))
   obtain⟨WY,hWY⟩: ∃W,W=(w5.alloc (Obj.cells #[Value.int IntKind.i64 gk.1,Value.int IntKind.i64 gk.2.1, .slice A5 gk.2.2.length c5] 31)).alloc (Obj.cells #[Value.int IntKind.i64 0,Value.int IntKind.i64 0] 128):=⟨_,rfl⟩
   rw[←hWY] at bY
   have BY:=hD (B5.out.trans (bY.mono (by omega)))
   have BYW:=hD (B1.out.trans (BY.out.mono hs1))
   have y0:=(bY.cell (p:=⟨w1.heap.size,0,none⟩) (by show w1.heap.size<_;omega)).trans z0
   have y1:=(bY.cell (p:=⟨w1.heap.size,1,none⟩) (by show w1.heap.size<_;omega)).trans z1
   have y2:=(bY.cell (p:=⟨w1.heap.size,2,none⟩) (by show w1.heap.size<_;omega)).trans z2
   have r0:=(BYW.out.cell (p:=⟨w.heap.size+1,0,none⟩) (by show w.heap.size+1<_;omega)).trans R0.out
   have r1:=(BYW.out.cell (p:=⟨w.heap.size+1,1,none⟩) (by show w.heap.size+1<_;omega)).trans R1.out
   have r2:=(BYW.out.cell (p:=⟨w.heap.size+1,2,none⟩) (by show w.heap.size+1<_;omega)).trans R2.out
   have rf0:=(BYW.out.frozen (p:=⟨w.heap.size+1,0,none⟩) (by show w.heap.size+1<_;omega)).trans (RF.out 0)
   have rf1:=(BYW.out.frozen (p:=⟨w.heap.size+1,1,none⟩) (by show w.heap.size+1<_;omega)).trans (RF.out 1)
   have rf2:=(BYW.out.frozen (p:=⟨w.heap.size+1,2,none⟩) (by show w.heap.size+1<_;omega)).trans (RF.out 2)
   have hne1:w.heap.size+1≠w1.heap.size:=by omega
   have HBF:=hD (BX.out.trans (BYW.out.mono BX.out.size))
   have OEY:=hD (HOE5.out.below bY)
   rw[hWY] at y0 y1 y2 r0 r1 r2 rf0 rf1 rf2
   clear z0 z1 z2 oe5 bY
   go_wp2
   rw[←hWY] at y0 y1 y2 r0 r1 r2 rf0 rf1 rf2⊢
   obtain⟨e0,e1,e2⟩:=cells3F (.int .i64 gk.1) (.int .i64 gk.2.1) (.slice A2 gk.2.2.length c2) r0 r1 r2
   have bw:Below w.heap.size w (((WY.setCell ⟨w.heap.size+1,0,none⟩ (.int .i64 gk.1)).setCell ⟨w.heap.size+1,1,none⟩ (.int .i64 gk.2.1)).setCell ⟨w.heap.size+1,2,none⟩ (.slice A2 gk.2.2.length c2)):=(((HBF.out.setCell (by simp<;>omega) _).setCell (by simp<;>omega) _).setCell (by simp<;>omega) _)
   have ow:OwE (((WY.setCell ⟨w.heap.size+1,0,none⟩ (.int .i64 gk.1)).setCell ⟨w.heap.size+1,1,none⟩ (.int .i64 gk.2.1)).setCell ⟨w.heap.size+1,2,none⟩ (.slice A2 gk.2.2.length c2)) (w.heap.size+2) (.slice A2 gk.2.2.length c2) gk.2.2:=((OEY.out.far (by show w.heap.size+1<_;omega) _).far (by show w.heap.size+1<_;omega) _).far (by show w.heap.size+1<_;omega) _
   generalize (((WY.setCell ⟨w.heap.size+1,0,none⟩ (.int .i64 gk.1)).setCell ⟨w.heap.size+1,1,none⟩ (.int .i64 gk.2.1)).setCell ⟨w.heap.size+1,2,none⟩ (.slice A2 gk.2.2.length c2))=wf at*
   rw[FAG.out]
   exact bodyPost_ret (v:= .tuple #[.agg #[.int .i64 gk.1, .int .i64 gk.2.1, .slice A2 gk.2.2.length c2], .slice Ao lo.length co]) (by simp[results,Tryz.results123,go_sem,e0,e1,e2]) rfl ⟨_,_,rfl,⟨.slice A2 gk.2.2.length c2,rfl,hj1,hj2,ow.mono (by omega)⟩,bw⟩
  ·have F:Hid (firF gk=(f,true)):=hD (by unfold firF;rw[if_pos HGK.out];simp only[ef])
   have FO:Hid (onceG gk=merG gk f):=hD (by unfold onceG;simp only[ef])
   have hfk:=foL_ok HGK.out (f:=f) (by rw[ef];simp)
   have HGM:=hD (grB_merG HGK.out hfk)
   have HFM:=hD ((once_folA HGK.out ef).trans HFA.out)
   have hm2:(merG gk f).2.1=gk.2.1-1:=rfl
   clear ef
   rw[FO.out] at o5
   rw[F.out]
   obtain⟨fa,fb⟩:=f
   simp only
   generalize merG gk (fa,fb)=M at*
   obtain⟨m1,m2,ms⟩:=M
   simp only at hm2
   obtain⟨s5,rfl,hj1,hj2,oe5⟩:=o5
   obtain⟨A5,c5,rfl,_⟩:=oe5.form
   simp only at hj1 hj2 oe5
   have HM2:=hD hm2
   clear hm2
   have bY:Below w5.heap.size w5 ((w5.alloc (Obj.cells #[Value.int IntKind.i64 m1,Value.int IntKind.i64 m2, .slice A5 ms.length c5] 31)).alloc (Obj.cells #[Value.int IntKind.i64 fa,Value.int IntKind.i64 fb] 128)):=(by repeat(first | exact Below.refl _ _ | (refine Below.setCell ?_ (by first | omega | (simp<;>omega)) _) | (refine bel_drewN ?_ _) | (refine Below.drew ?_) | (refine Below.alloc ?_ (by first | omega | (simp<;>omega)) _)))
   obtain⟨WY,hWY⟩: ∃W,W=(w5.alloc (Obj.cells #[Value.int IntKind.i64 m1,Value.int IntKind.i64 m2, .slice A5 ms.length c5] 31)).alloc (Obj.cells #[Value.int IntKind.i64 fa,Value.int IntKind.i64 fb] 128):=⟨_,rfl⟩
   have a0:WY.cell? ⟨w5.heap.size,0,none⟩=some (.int .i64 m1):=by rw[hWY];simp[go_sem]
   have a1:WY.cell? ⟨w5.heap.size,1,none⟩=some (.int .i64 m2):=by rw[hWY];simp[go_sem]
   have a2:WY.cell? ⟨w5.heap.size,2,none⟩=some (.slice A5 ms.length c5):=by rw[hWY];simp[go_sem]
   have a3:WY.cell? ⟨w5.heap.size+1,0,none⟩=some (.int .i64 fa):=by rw[hWY];simp[go_sem]
   have a4:WY.cell? ⟨w5.heap.size+1,1,none⟩=some (.int .i64 fb):=by rw[hWY];simp[go_sem]
   have hsY:WY.heap.size=w5.heap.size+2:=by rw[hWY];simp
   rw[←hWY] at bY
   have BY:=hD (B5.out.trans (bY.mono (by omega)))
   have y0:=(bY.cell (p:=⟨w1.heap.size,0,none⟩) (by show w1.heap.size<_;omega)).trans z0
   have y1:=(bY.cell (p:=⟨w1.heap.size,1,none⟩) (by show w1.heap.size<_;omega)).trans z1
   have y2:=(bY.cell (p:=⟨w1.heap.size,2,none⟩) (by show w1.heap.size<_;omega)).trans z2
   have YF:Hid (∀j,WY.frozen? ⟨w1.heap.size,j,none⟩=false):=hD fun j=>(bY.frozen (p:=⟨w1.heap.size,j,none⟩) (by show w1.heap.size<_;omega)).trans (ZF.out j)
   have yf0:=YF.out 0
   have yf1:=YF.out 1
   have yf2:=YF.out 2
   have OEM:=hD (oe5.below bY)
   have OFY:=hD (HOF5.out.below bY)
   obtain⟨e0,e1,e2⟩:=cells3F (.int .i64 m1) (.int .i64 m2) (.slice A5 ms.length c5) y0 y1 y2
   have e3:=setc_other (b':=w1.heap.size) (o':=2) (u:= .slice A5 ms.length c5) (show w5.heap.size+1≠w1.heap.size by omega) (setc_other (b':=w1.heap.size) (o':=1) (u:= .int .i64 m2) (show w5.heap.size+1≠w1.heap.size by omega) (setc_other (b':=w1.heap.size) (o':=0) (u:= .int .i64 m1) (show w5.heap.size+1≠w1.heap.size by omega) a3))
   have e4:=setc_other (b':=w1.heap.size) (o':=2) (u:= .slice A5 ms.length c5) (show w5.heap.size+1≠w1.heap.size by omega) (setc_other (b':=w1.heap.size) (o':=1) (u:= .int .i64 m2) (show w5.heap.size+1≠w1.heap.size by omega) (setc_other (b':=w1.heap.size) (o':=0) (u:= .int .i64 m1) (show w5.heap.size+1≠w1.heap.size by omega) a4))
   have BS:Hid (Below w1.heap.size w1 (((WY.setCell ⟨w1.heap.size,0,none⟩ (.int .i64 m1)).setCell ⟨w1.heap.size,1,none⟩ (.int .i64 m2)).setCell ⟨w1.heap.size,2,none⟩ (.slice A5 ms.length c5))):=hD (((BY.out.setCell (Nat.le_refl _) _).setCell (Nat.le_refl _) _).setCell (Nat.le_refl _) _)
   have OES:Hid (OwE (((WY.setCell ⟨w1.heap.size,0,none⟩ (.int .i64 m1)).setCell ⟨w1.heap.size,1,none⟩ (.int .i64 m2)).setCell ⟨w1.heap.size,2,none⟩ (.slice A5 ms.length c5)) wk.heap.size (.slice A5 ms.length c5) ms):=hD (((OEM.out.far (by show w1.heap.size<_;omega) _).far (by show w1.heap.size<_;omega) _).far (by show w1.heap.size<_;omega) _)
   have OFS:Hid (OwFo (((WY.setCell ⟨w1.heap.size,0,none⟩ (.int .i64 m1)).setCell ⟨w1.heap.size,1,none⟩ (.int .i64 m2)).setCell ⟨w1.heap.size,2,none⟩ (.slice A5 ms.length c5)) (w1.heap.size+1) (.slice Ao lo.length co) lo):=hD (ownsRow_setCell_below (ownsRow_setCell_below (ownsRow_setCell_below OFY.out (by show w1.heap.size<_;omega) _) (by show w1.heap.size<_;omega) _) (by show w1.heap.size<_;omega) _)
   have ESF:Hid (∀j,((((WY.setCell ⟨w1.heap.size,0,none⟩ (.int .i64 m1)).setCell ⟨w1.heap.size,1,none⟩ (.int .i64 m2)).setCell ⟨w1.heap.size,2,none⟩ (.slice A5 ms.length c5))).frozen? ⟨w1.heap.size,j,none⟩=false):=hD fun j=>by rw[World.frozen?_setCell,World.frozen?_setCell,World.frozen?_setCell];exact YF.out j
   have hsS:((((WY.setCell ⟨w1.heap.size,0,none⟩ (.int .i64 m1)).setCell ⟨w1.heap.size,1,none⟩ (.int .i64 m2)).setCell ⟨w1.heap.size,2,none⟩ (.slice A5 ms.length c5))).heap.size=WY.heap.size:=by simp
   clear z0 z1 z2 oe5 bY
   have E0:=hD e0
   have E1:=hD e1
   have E2:=hD e2
   have E3:=hD e3
   have E4:=hD e4
   have HSS:=hD hsS
   clear e0 e1 e2 a3 a4 hsS
   rw[hWY] at y0 y1 y2 yf0 yf1 yf2 a0 a1 a2 e3 e4
   have HWY:=hD hWY
   clear hWY
   have hw5x:w1.heap.size≠w5.heap.size:=by omega
   have hw5y:w1.heap.size≠w5.heap.size+1:=by omega
   go_wp2_with (at_builtin;rw[←HWY.out];refine push_fold rfl (.tmp 23) (.tmp 25) rfl (w1.heap.size+1) _ lo (OFS.out.alloc _) rfl _ (fa,fb) rfl (fo_litN _ _ (by simp<;>omega) _ _ _) (by omega) (by simp<;>omega) ?_;intro v6 w6 o6 g6 p6;have O6:=hD o6;have G6:=hD g6;clear o6 g6 p6)
   have e0:=E0.out
   have e1:=E1.out
   have e2:=E2.out
   have bL:Below ((((WY.setCell ⟨w1.heap.size,0,none⟩ (.int .i64 m1)).setCell ⟨w1.heap.size,1,none⟩ (.int .i64 m2)).setCell ⟨w1.heap.size,2,none⟩ (.slice A5 ms.length c5))).heap.size (((WY.setCell ⟨w1.heap.size,0,none⟩ (.int .i64 m1)).setCell ⟨w1.heap.size,1,none⟩ (.int .i64 m2)).setCell ⟨w1.heap.size,2,none⟩ (.slice A5 ms.length c5)) ((((WY.setCell ⟨w1.heap.size,0,none⟩ (.int .i64 m1)).setCell ⟨w1.heap.size,1,none⟩ (.int .i64 m2)).setCell ⟨w1.heap.size,2,none⟩ (.slice A5 ms.length c5)).alloc (Obj.cells #[Value.int IntKind.i64 fa,Value.int IntKind.i64 fb] 128)):=(Below.refl _ _).alloc (Nat.le_refl _) _
   have hxL:w1.heap.size<((((WY.setCell ⟨w1.heap.size,0,none⟩ (.int .i64 m1)).setCell ⟨w1.heap.size,1,none⟩ (.int .i64 m2)).setCell ⟨w1.heap.size,2,none⟩ (.slice A5 ms.length c5))).heap.size:=by simp<;>omega
   have hxG:w1.heap.size<((((WY.setCell ⟨w1.heap.size,0,none⟩ (.int .i64 m1)).setCell ⟨w1.heap.size,1,none⟩ (.int .i64 m2)).setCell ⟨w1.heap.size,2,none⟩ (.slice A5 ms.length c5)).alloc (Obj.cells #[Value.int IntKind.i64 fa,Value.int IntKind.i64 fb] 128)).heap.size:=by simp<;>omega
   have hGO: ∀c,(Value.slice Ao lo.length co).ownBlock=some c→w1.heap.size+1≤c∧c<wk.heap.size:=fun c hc=>HOF.out.lt c hc
   have n0:=(grown_cellF (o:=0) G6.out hxG (fun c hc=>by have:=(hGO c hc).1;omega)).trans ((bL.cell (p:=⟨w1.heap.size,0,none⟩) hxL).trans e0)
   have n1:=(grown_cellF (o:=1) G6.out hxG (fun c hc=>by have:=(hGO c hc).1;omega)).trans ((bL.cell (p:=⟨w1.heap.size,1,none⟩) hxL).trans e1)
   have n2:=(grown_cellF (o:=2) G6.out hxG (fun c hc=>by have:=(hGO c hc).1;omega)).trans ((bL.cell (p:=⟨w1.heap.size,2,none⟩) hxL).trans e2)
   have nf: ∀j,w6.frozen? ⟨w1.heap.size,j,none⟩=false:=fun j=>(World.frozen?_of_block (G6.out.block w1.heap.size hxG fun e=>by have:=(hGO w1.heap.size e.symm).1;omega)).trans ((bL.frozen (p:=⟨w1.heap.size,j,none⟩) hxL).trans (ESF.out j))
   have NE:Hid (OwE w6 (w.heap.size+2) (.slice A5 ms.length c5) ms):=hD (OwE.mono (OwE.keep OES.out fun b hb=>by
    have hb2:=OES.out.1.lt b hb
    exact(G6.out.block b (by have:=bL.size;omega) fun e=>by have:=(hGO b e.symm).2;omega).trans (bL.block b hb2.2)) (by omega))
   have NX:Hid (∀b,(Value.slice A5 ms.length c5).ownBlock=some b→b≠w1.heap.size):=hD fun b hb=>by have:=(OES.out.1.lt b hb).1;omega
   have NB:Hid (Below w1.heap.size w1 w6):=hD ((BS.out.trans (bL.mono (by omega))).grown G6.out (by omega) (fun c hc=>by have:=(hGO c hc).1;omega))
   have hs6:=G6.out.size
   have O6F:Hid (∃Ao co,v6= .slice Ao (lo++ [(fa,fb)]).length co):=hD (by obtain⟨Ao',co',h,_⟩:=O6.out.form;exact⟨Ao',co',h⟩)
   go_roundw
   case rel=>exact⟨k+1,(m1,m2,ms),A5,c5,lo++ [(fa,fb)],by omega,O6F.out,by rw[List.length_append];simp only[List.length_singleton];omega,HGM.out,HFM.out,by have:=HM2.out;simp only;omega,n0,n1,n2,nf,NE.out,NX.out,O6.out,NB.out,by omega⟩
   case measure=>
    obtain⟨Ao',co',h⟩:=O6F.out
    rw[h]
    show 40-(lo++ [(fa,fb)]).length<40-lo.length
    rw[List.length_append]
    simp only[List.length_singleton]
    omega
set_option maxHeartbeats 1000000 in
theorem implCoreGraph_any (v:Value) (g:GrD) (w:World) (h:ArgG w v g) (hg:grB g=true):
  Calls Tryz.prog 85 #[v] w fun e w'=> ∃r,e= .returned r∧OwG w' w.heap.size r (coreG g)∧Below w.heap.size w w':=by
 have HG:=hD h
 have HFA:=hD (folA_ok hg)
 have HFB:=hD (foldB_parts HFA.out).1
 have HTB:=hD (trimG_fold HFA.out)
 have HCG:Hid (coreG g=canG (trimG (folA g)).1):=hD rfl
 have HFO:=hD (fun W h=>implFoldAll_any v g W h hg)
 have HTR:=hD (fun u W h=>(trimGraph_any u (folA g) W h HFB.out).mono (R':=fun e w'=> ∃r o,e= .returned (.tuple #[r,o])∧OwG w' W.heap.size r (trimG (folA g)).1∧Below W.heap.size W w') fun e w' ⟨r,l,h1,h2,_,h4⟩=>⟨r,l,h1,h2,h4⟩)
 have HCA:=hD (fun u W h=>canonicalGraph_any u (trimG (folA g)).1 W h HTB.out)
 generalize canG (trimG (folA g)).1=CG at*
 generalize (trimG (folA g)).1=TG at*
 generalize folA g=FG at*
 obtain⟨s,rfl,hi1,hi2,ha⟩:=h
 obtain⟨A,cap,rfl⟩:=ha.form
 obtain⟨g1,N,es⟩:=g
 simp only at*
 clear ha hg
 go_enter Tryz.func85,Tryz.ntmps85
 have bx:Below w.heap.size w ((w.alloc (Obj.cells #[Value.int IntKind.i64 g1,Value.int IntKind.i64 N, .slice A es.length cap] 31)).alloc (Obj.cells #[Value.int IntKind.i64 0,Value.int IntKind.i64 0, .slice none 0 0] 31)):=(by repeat(first | exact Below.refl _ _ | (refine Below.setCell ?_ (by first | omega | (simp<;>omega)) _) | (refine bel_drewN ?_ _) | (refine Below.drew ?_) | (refine Below.alloc ?_ (by first | omega | (simp<;>omega)) _)))
 go_wp2_with fail
 obtain⟨W,hW⟩: ∃W,W=((w.alloc (Obj.cells #[Value.int IntKind.i64 g1,Value.int IntKind.i64 N, .slice A es.length cap] 31)).alloc (Obj.cells #[Value.int IntKind.i64 0,Value.int IntKind.i64 0, .slice none 0 0] 31)):=⟨_,rfl⟩
 rw[←hW] at bx⊢
 have hsW:W.heap.size=w.heap.size+2:=by rw[hW];simp
 have R0:Hid (W.cell? ⟨w.heap.size+1,0,none⟩=some (.int .i64 0)):=hD (by rw[hW];simp[go_sem])
 have R1:Hid (W.cell? ⟨w.heap.size+1,1,none⟩=some (.int .i64 0)):=hD (by rw[hW];simp[go_sem])
 have R2:Hid (W.cell? ⟨w.heap.size+1,2,none⟩=some (.slice none 0 0)):=hD (by rw[hW];simp[go_sem])
 have RF:Hid (∀j,W.frozen? ⟨w.heap.size+1,j,none⟩=false):=hD fun j=>by rw[hW];simp[go_sem]
 have BX:=hD bx
 clear hW bx
 refine(HFO.out W (HG.out.below BX.out)).mono ?_
 rintro e w1 ⟨r,o,rfl,o1,b1⟩
 have B1:=hD b1
 have hs1:=b1.size
 have O1:=hD o1
 obtain⟨f1,f2,fs⟩:=FG
 obtain⟨s1,rfl,_,_,oe1⟩:=o1
 obtain⟨A1,c1,rfl,_⟩:=oe1.form
 simp only at*
 clear b1 oe1
 have bf:Below w1.heap.size w1 (w1.alloc (Obj.cells #[Value.int IntKind.i64 f1,Value.int IntKind.i64 f2, .slice A1 fs.length c1] 31)):=(Below.refl _ _).alloc (Nat.le_refl _) _
 go_wp2_with fail
 refine(HTR.out _ _ (O1.out.arg.below bf)).mono ?_
 rintro e w3 ⟨r3,o3,rfl,o3',b3⟩
 have hsf:=bf.size
 have B3:=hD (B1.out.trans ((bf.trans (b3.mono hsf)).mono hs1))
 have hs3:=b3.size
 have O3:=hD o3'
 obtain⟨t1,t2,ts⟩:=TG
 obtain⟨s3,rfl,_,_,oe3⟩:=o3'
 obtain⟨A3,c3,rfl,_⟩:=oe3.form
 simp only at*
 clear b3 oe3 bf
 have bt:Below w3.heap.size w3 (w3.alloc (Obj.cells #[Value.int IntKind.i64 t1,Value.int IntKind.i64 t2, .slice A3 ts.length c3] 31)):=(Below.refl _ _).alloc (Nat.le_refl _) _
 go_wp2_with fail
 refine(HCA.out _ _ (O3.out.arg.below bt)).mono ?_
 rintro e w5 ⟨r5,rfl,o5,b5⟩
 have hst:=bt.size
 have hs33:=B3.out.size
 have B5:=hD (B3.out.trans ((bt.trans (b5.mono hst)).mono hs33))
 have hs5:=B5.out.size
 have hb5:=b5.size
 obtain⟨c1',c2',cs⟩:=CG
 obtain⟨s5,rfl,hj1,hj2,oe5⟩:=o5
 obtain⟨A5,k5,rfl,_⟩:=oe5.form
 simp only at*
 have OE5:=hD oe5
 have r0:=(B5.out.cell (p:=⟨w.heap.size+1,0,none⟩) (by show w.heap.size+1<_;omega)).trans R0.out
 have r1:=(B5.out.cell (p:=⟨w.heap.size+1,1,none⟩) (by show w.heap.size+1<_;omega)).trans R1.out
 have r2:=(B5.out.cell (p:=⟨w.heap.size+1,2,none⟩) (by show w.heap.size+1<_;omega)).trans R2.out
 have rf0:=(B5.out.frozen (p:=⟨w.heap.size+1,0,none⟩) (by show w.heap.size+1<_;omega)).trans (RF.out 0)
 have rf1:=(B5.out.frozen (p:=⟨w.heap.size+1,1,none⟩) (by show w.heap.size+1<_;omega)).trans (RF.out 1)
 have rf2:=(B5.out.frozen (p:=⟨w.heap.size+1,2,none⟩) (by show w.heap.size+1<_;omega)).trans (RF.out 2)
 have HBF:=hD (BX.out.trans (B5.out.mono BX.out.size))
 clear b5 oe5 bt
 go_wp2
 obtain⟨e0,e1,e2⟩:=cells3F (.int .i64 c1') (.int .i64 c2') (.slice A5 cs.length k5) r0 r1 r2
 have bw:Below w.heap.size w (((w5.setCell ⟨w.heap.size+1,0,none⟩ (.int .i64 c1')).setCell ⟨w.heap.size+1,1,none⟩ (.int .i64 c2')).setCell ⟨w.heap.size+1,2,none⟩ (.slice A5 cs.length k5)):=(((HBF.out.setCell (by simp<;>omega) _).setCell (by simp<;>omega) _).setCell (by simp<;>omega) _)
 have ow:OwE (((w5.setCell ⟨w.heap.size+1,0,none⟩ (.int .i64 c1')).setCell ⟨w.heap.size+1,1,none⟩ (.int .i64 c2')).setCell ⟨w.heap.size+1,2,none⟩ (.slice A5 cs.length k5)) w.heap.size (.slice A5 cs.length k5) cs:=OwE.mono (((OE5.out.far (by show w.heap.size+1<_;omega) _).far (by show w.heap.size+1<_;omega) _).far (by show w.heap.size+1<_;omega) _) (by omega)
 generalize (((w5.setCell ⟨w.heap.size+1,0,none⟩ (.int .i64 c1')).setCell ⟨w.heap.size+1,1,none⟩ (.int .i64 c2')).setCell ⟨w.heap.size+1,2,none⟩ (.slice A5 cs.length k5))=wf at*
 rw[HCG.out]
 exact bodyPost_ret (v:= .agg #[.int .i64 c1', .int .i64 c2', .slice A5 cs.length k5]) (by simp[results,Tryz.results85,go_sem,e0,e1,e2]) rfl ⟨_,rfl,⟨.slice A5 cs.length k5,rfl,hj1,hj2,ow⟩,bw⟩
end Go.Proofs.YtfadnkjlilhneaaGreat
namespace Go.Proofs.YtfadnkjlilhneaaGreat
set_option maxRecDepth 20000
set_option linter.unusedVariables false
set_option linter.unusedSimpArgs false
open Go.RowKit
def movO (n u:Nat):List Int:=(u:Int)::delO n (u:Int)
def movG (g:GrD) (u:Nat):GrD:=coreG (rnG g (movO g.2.1.toNat u))
theorem movO_ok {n u:Nat} (hu:u<n):OrdN (n:Int) (movO n u):=by
 refine⟨List.nodup_cons.2 ⟨fun h=>(delO_mem.1 h).2 rfl,delO_nodup _ _⟩,fun y hy=> ?_,by simp[movO]⟩
 rcases List.mem_cons.1 hy with rfl | hy
 ·omega
 ·exact(delO_mem.1 hy).1
theorem movO_succ (n u:Nat):(u:Int)::delO (n+1) (u:Int)=if(n:Int)≠(u:Int) then((u:Int)::delO n (u:Int))++ [(n:Int)] else(u:Int)::delO n (u:Int):=by
 rw[delO_succ]
 split<;>rfl
theorem movO_len (n u:Nat):((u:Int)::delO n (u:Int)).length≤n+1:=by
 have h1:(delO n (u:Int)).length≤n:=by
  unfold delO
  refine Nat.le_trans (List.length_filter_le _ _) ?_
  simp
 rw[List.length_cons];omega
set_option maxHeartbeats 2000000 in
theorem specMoveBase_any (v:Value) (g:GrD) (u:Nat) (w:World) (h:ArgG w v g) (hf:foldB g=true) (hu:(u:Int)<g.2.1):
  Calls Tryz.prog 82 #[v, .int .i64 (u:Int)] w fun e w'=> ∃r,e= .returned (.tuple #[r, .bool true])∧OwG w' w.heap.size r (movG g u)∧Below w.heap.size w w':=by
 have HG:=hD h
 have HF:=hD hf
 have hgr:=(foldB_parts hf).1
 obtain⟨h13,h40,h120,_⟩:=grB_parts hgr
 obtain⟨n,hn⟩: ∃n:Nat,g.2.1=(n:Int):=⟨g.2.1.toNat,by omega⟩
 have hun:u<n:=by omega
 have HMO:=hD (movO_ok hun)
 have HGM:Hid (grB (rnG g (movO n u))=true):=hD (grB_rnGN hgr (by rw[hn];exact movO_ok hun))
 have HMG:Hid (movG g u=coreG (rnG g (movO n u))):=hD (by unfold movG;rw[hn];rfl)
 have HGR:=hD hgr
 obtain⟨s,rfl,hi1,hi2,ha⟩:=h
 obtain⟨A,cap,rfl⟩:=ha.form
 obtain⟨g1,N,es⟩:=g
 simp only at*
 subst hn
 clear ha hf hgr
 go_enter Tryz.func82,Tryz.ntmps82
 go_wp2_with fail
 obtain⟨W1,hW1⟩: ∃W,W=w.alloc (Obj.cells #[Value.int IntKind.i64 g1,Value.int IntKind.i64 (n:Int), .slice A es.length cap] 31):=⟨_,rfl⟩
 rw[←hW1]
 obtain⟨hs1,b1,hc1,_⟩:=gbox hW1
 obtain⟨W,hW⟩: ∃W,W=W1.alloc (Obj.cells #[Value.int IntKind.i64 0,Value.int IntKind.i64 0, .slice none 0 0] 31):=⟨_,rfl⟩
 rw[←hW]
 obtain⟨hs2,b2,hc2,hf2⟩:=gbox hW
 have HC1:=hD hc1
 have HC2:=hD hc2
 have HF2:=hD hf2
 have BX1:=hD b1
 have BX2:=hD b2
 have hsW:W.heap.size=w.heap.size+2:=by omega
 have BX:Hid (Below w.heap.size w W):=hD (b1.trans (b2.mono (by omega)))
 have HCL:Hid (∀w',Below (w.heap.size+2) W w'→w'.cell? ⟨w.heap.size,0,none⟩=some (.int .i64 g1)∧w'.cell? ⟨w.heap.size,1,none⟩=some (.int .i64 (n:Int))∧w'.cell? ⟨w.heap.size,2,none⟩=some (.slice A es.length cap)):=hD fun w' hb=>HC1.out w' ((BX2.out.mono (by omega)).trans (hb.mono (by omega)))
 have HRC:Hid (∀w',Below (w.heap.size+2) W w'→(w'.cell? ⟨w.heap.size+1,0,none⟩=some (.int .i64 0)∧w'.cell? ⟨w.heap.size+1,1,none⟩=some (.int .i64 0)∧w'.cell? ⟨w.heap.size+1,2,none⟩=some (.slice none 0 0))∧ ∀j,w'.frozen? ⟨w.heap.size+1,j,none⟩=false):=hD fun w' hb=>by
  have e:Below (W1.heap.size+1) W w':=by rw[hs1];exact hb
  have h1:=HC2.out w' e
  have h2:=fun j=>HF2.out j w' e
  rw[hs1] at h1 h2
  exact⟨h1,h2⟩
 have HA:Hid (∀w',Below (w.heap.size+2) W w'→ArgG w' (.agg #[.int .i64 g1, .int .i64 (n:Int), .slice A es.length cap]) (g1,(n:Int),es)):=hD fun w' hb=>HG.out.below (BX.out.trans (hb.mono (by omega)))
 clear hW1 hW hc1 hc2 hf2 b1 b2 HC1 HC2 HF2 BX1 BX2 hs1 hs2
 have hfo:=specIsFolded_any _ (g1,(n:Int),es) W (HA.out W ((Below.refl W.heap.size W).mono (by omega)))
 rw[HF.out] at hfo
 refine hfo.mono ?_
 clear hfo
 rintro e w2 ⟨rfl,b2⟩
 have hs2:=b2.size
 have B2:Hid (Below (w.heap.size+2) W w2):=hD (b2.mono (by omega))
 clear b2
 obtain⟨q0,q1,q2⟩:=HCL.out w2 B2.out
 have hw1:IntKind.i64.wrap ((n:Int)-1)=(n:Int)-1:=by rw[IntKind.wrap_i64];omega
 have hin:inB (u:Int) 0 ((n:Int)-1)=true:=inB_iff.2 ⟨by omega,by omega⟩
 have HIN:=hD hin
 clear hin
 go_wp2_with (go_at_call 57;refine(l1In_any _ _ _ _).mono ?_;rintro e w' ⟨rfl,rfl⟩;rw[HIN.out])
 obtain⟨W4,hW4⟩: ∃W4,W4=w2.alloc (.cells #[.int .i64 (u:Int)] 3):=⟨_,rfl⟩
 have o4:OwI (w2.alloc (.cells #[.int .i64 (u:Int)] 3)) w2.heap.size (.slice (some ⟨w2.heap.size,0,none⟩) 1 1) [(u:Int)]:=OwI_lit w2 [(u:Int)] (fun x hx=>by simp at hx;subst hx;unfold I64;omega) (by simp) (Nat.le_refl _)
 have b4:Below w2.heap.size w2 (w2.alloc (.cells #[.int .i64 (u:Int)] 3)):=(Below.refl _ _).alloc (Nat.le_refl _) _
 rw[←hW4] at o4 b4⊢
 have hs4:W4.heap.size=w2.heap.size+1:=by rw[hW4];simp
 have O4:=hD o4
 have B4:Hid (Below (w.heap.size+2) W W4):=hD (B2.out.trans (b4.mono (by omega)))
 clear hW4 o4 b4 q0 q1 q2
 go_loopw [6,7] (fun vo i wr=> ∃q:Nat,q≤n∧i= .int .i64 q∧OwI wr (w.heap.size+2) vo ((u:Int)::delO q (u:Int))∧Below (w.heap.size+2) W wr) (fun _ i _=>n-(intOf i).toNat)
 case atStart=>exact⟨0,Nat.zero_le _,rfl,O4.out.mono (by omega),B4.out⟩
 case round=>
  obtain⟨q,hq,rfl,ho,hb⟩:=hrel
  have HO:=hD ho
  have HB:=hD hb
  obtain⟨wi,rfl⟩: ∃wi:World,wi=wr:=⟨_,rfl⟩
  clear ho hb
  have hwi:=HB.out.size
  obtain⟨q0,q1,q2⟩:=HCL.out wi HB.out
  have hlen:=movO_len q u
  have HDS:=hD (movO_succ q u)
  obtain⟨Ao,co,rfl,_⟩:=OwI.form HO.out
  by_cases hlt:q<n
  ·have hqI:(q:Int)<(n:Int):=by omega
   have HK:Hid (I64 (q:Int)):=hD (by unfold I64;omega)
   rcases e6:((q:Int) != (u:Int)) with _ | _
   ·have hqx:(q:Int)=(u:Int):=by simpa using e6
    have HD:Hid ((u:Int)::delO (q+1) (u:Int)=(u:Int)::delO q (u:Int)):=hD (by rw[HDS.out,if_neg (by simp[hqx])])
    generalize ((u:Int)::delO q (u:Int))=lo at*
    clear hqx HDS
    go_wp2
    go_roundw
    case rel=>exact⟨q+1,by omega,by go_num,by rw[HD.out];exact HO.out,HB.out⟩
    case measure=>simp[intOf];omega
   ·have hqx:(q:Int)≠(u:Int):=by simpa using e6
    have HD:Hid ((u:Int)::delO (q+1) (u:Int)=((u:Int)::delO q (u:Int))++ [(q:Int)]):=hD (by rw[HDS.out,if_pos hqx])
    generalize ((u:Int)::delO q (u:Int))=lo at*
    clear hqx HDS
    go_wp2_with (at_builtin;refine push_int rfl (.tmp 34) (.tmp 36) rfl _ _ _ (OwI.alloc HO.out _) rfl _ _ rfl (cell_new1 _ _ _) HK.out (by first | omega | (simp<;>omega)) (by first | omega | (simp<;>omega)) ?_;intro v9 wv9 o9 g9 p9)
    have O9:=hD o9
    have B9:Hid (Below (w.heap.size+2) W wv9):=hD ((HB.out.alloc (by omega) (.cells #[.int .i64 q] 3)).grown g9 (by simp<;>omega) (fun c hc=>(HO.out.1.lt c hc).1))
    clear o9 g9 p9
    go_roundw
    case rel=>exact⟨q+1,by omega,by go_num,by rw[HD.out];exact O9.out,B9.out⟩
    case measure=>simp[intOf];omega
  ·obtain rfl:q=n:=by omega
   clear HDS
   have HMO2:Hid (OrdN (q:Int) ((u:Int)::delO q (u:Int))):=HMO
   have HGM2:Hid (grB (rnG (g1,(q:Int),es) ((u:Int)::delO q (u:Int)))=true):=HGM
   have HMG2:Hid (movG (g1,(q:Int),es) u=coreG (rnG (g1,(q:Int),es) ((u:Int)::delO q (u:Int)))):=HMG
   clear HMO HGM HMG
   generalize ((u:Int)::delO q (u:Int))=lo at*
   go_wp2_with fail
   refine(specRenumber_anyN _ _ (g1,(q:Int),es) lo wi (HA.out wi HB.out) HO.out.rd HGR.out HMO2.out).mono ?_
   rintro e w5 ⟨r5,rfl,o5,b5⟩
   have hs5:=b5.size
   have B5:Hid (Below (w.heap.size+2) W w5):=hD (HB.out.trans (b5.mono (by omega)))
   generalize rnG (g1,(q:Int),es) lo=M at*
   obtain⟨m1,m2,ms⟩:=M
   have OA5:=hD o5.arg
   obtain⟨s5,rfl,_,_,oe5⟩:=o5
   obtain⟨A5,c5,rfl,_⟩:=oe5.form
   simp only at*
   clear oe5 b5 q0 q1 q2
   go_wp2_with fail
   obtain⟨WX,hWX⟩: ∃WX,WX=w5.alloc (Obj.cells #[Value.int IntKind.i64 m1,Value.int IntKind.i64 m2, .slice A5 ms.length c5] 31):=⟨_,rfl⟩
   obtain⟨hsX,bX,_,_⟩:=gbox hWX
   rw[←hWX]
   have BXX:Hid (Below (w.heap.size+2) W WX):=hD (B5.out.trans (bX.mono (by omega)))
   refine(specCoreGraph_any _ (m1,m2,ms) WX (OA5.out.below bX) HGM2.out).mono ?_
   clear hWX bX
   rintro e w6 ⟨r6,rfl,o6,b6⟩
   have hs6:=b6.size
   have B6:Hid (Below (w.heap.size+2) W w6):=hD (BXX.out.trans (b6.mono (by omega)))
   generalize coreG (m1,m2,ms)=K at*
   obtain⟨k1,k2,ks⟩:=K
   obtain⟨s6,rfl,hj1,hj2,oe6⟩:=o6
   obtain⟨A6,c6,rfl,_⟩:=oe6.form
   simp only at*
   have OE6:=hD oe6
   clear b6 oe6
   obtain⟨⟨r0,r1,r2⟩,hrf⟩:=HRC.out w6 B6.out
   have rf0:=hrf 0
   have rf1:=hrf 1
   have rf2:=hrf 2
   have HBF:=hD (BX.out.trans (B6.out.mono (by omega)))
   have hq6:w.heap.size+1<w6.heap.size:=by omega
   clear hrf
   go_wp2
   obtain⟨e0,e1,e2⟩:=cells3F (.int .i64 k1) (.int .i64 k2) (.slice A6 ks.length c6) r0 r1 r2
   have bw:Below w.heap.size w (((w6.setCell ⟨w.heap.size+1,0,none⟩ (.int .i64 k1)).setCell ⟨w.heap.size+1,1,none⟩ (.int .i64 k2)).setCell ⟨w.heap.size+1,2,none⟩ (.slice A6 ks.length c6)):=(((HBF.out.setCell (by simp<;>omega) _).setCell (by simp<;>omega) _).setCell (by simp<;>omega) _)
   have ow:OwE (((w6.setCell ⟨w.heap.size+1,0,none⟩ (.int .i64 k1)).setCell ⟨w.heap.size+1,1,none⟩ (.int .i64 k2)).setCell ⟨w.heap.size+1,2,none⟩ (.slice A6 ks.length c6)) w.heap.size (.slice A6 ks.length c6) ks:=OwE.mono (((OE6.out.far (by show w.heap.size+1<_;omega) _).far (by show w.heap.size+1<_;omega) _).far (by show w.heap.size+1<_;omega) _) (by omega)
   generalize (((w6.setCell ⟨w.heap.size+1,0,none⟩ (.int .i64 k1)).setCell ⟨w.heap.size+1,1,none⟩ (.int .i64 k2)).setCell ⟨w.heap.size+1,2,none⟩ (.slice A6 ks.length c6))=wf at*
   rw[HMG2.out]
   exact bodyPost_ret (v:= .tuple #[.agg #[.int .i64 k1, .int .i64 k2, .slice A6 ks.length c6], .bool true]) (by simp[results,Tryz.results82,go_sem,e0,e1,e2]) rfl ⟨_,rfl,⟨.slice A6 ks.length c6,rfl,hj1,hj2,ow⟩,bw⟩
set_option maxHeartbeats 2000000 in
theorem implMoveBase_any (v:Value) (g:GrD) (u:Nat) (w:World) (h:ArgG w v g) (hf:foldB g=true) (hu:(u:Int)<g.2.1):
  Calls Tryz.prog 90 #[v, .int .i64 (u:Int)] w fun e w'=> ∃r,e= .returned (.tuple #[r, .bool true])∧OwG w' w.heap.size r (movG g u)∧Below w.heap.size w w':=by
 have HG:=hD h
 have HF:=hD hf
 have hgr:=(foldB_parts hf).1
 obtain⟨h13,h40,h120,_⟩:=grB_parts hgr
 obtain⟨n,hn⟩: ∃n:Nat,g.2.1=(n:Int):=⟨g.2.1.toNat,by omega⟩
 have hun:u<n:=by omega
 have HMO:=hD (movO_ok hun)
 have HGM:Hid (grB (rnG g (movO n u))=true):=hD (grB_rnGN hgr (by rw[hn];exact movO_ok hun))
 have HMG:Hid (movG g u=coreG (rnG g (movO n u))):=hD (by unfold movG;rw[hn];rfl)
 have HGR:=hD hgr
 obtain⟨s,rfl,hi1,hi2,ha⟩:=h
 obtain⟨A,cap,rfl⟩:=ha.form
 obtain⟨g1,N,es⟩:=g
 simp only at*
 subst hn
 clear ha hf hgr
 go_enter Tryz.func90,Tryz.ntmps90
 go_wp2_with fail
 obtain⟨W1,hW1⟩: ∃W,W=w.alloc (Obj.cells #[Value.int IntKind.i64 g1,Value.int IntKind.i64 (n:Int), .slice A es.length cap] 31):=⟨_,rfl⟩
 rw[←hW1]
 obtain⟨hs1,b1,hc1,_⟩:=gbox hW1
 obtain⟨W,hW⟩: ∃W,W=W1.alloc (Obj.cells #[Value.int IntKind.i64 0,Value.int IntKind.i64 0, .slice none 0 0] 31):=⟨_,rfl⟩
 rw[←hW]
 obtain⟨hs2,b2,hc2,hf2⟩:=gbox hW
 have HC1:=hD hc1
 have HC2:=hD hc2
 have HF2:=hD hf2
 have BX1:=hD b1
 have BX2:=hD b2
 have hsW:W.heap.size=w.heap.size+2:=by omega
 have BX:Hid (Below w.heap.size w W):=hD (b1.trans (b2.mono (by omega)))
 have HCL:Hid (∀w',Below (w.heap.size+2) W w'→w'.cell? ⟨w.heap.size,0,none⟩=some (.int .i64 g1)∧w'.cell? ⟨w.heap.size,1,none⟩=some (.int .i64 (n:Int))∧w'.cell? ⟨w.heap.size,2,none⟩=some (.slice A es.length cap)):=hD fun w' hb=>HC1.out w' ((BX2.out.mono (by omega)).trans (hb.mono (by omega)))
 have HRC:Hid (∀w',Below (w.heap.size+2) W w'→(w'.cell? ⟨w.heap.size+1,0,none⟩=some (.int .i64 0)∧w'.cell? ⟨w.heap.size+1,1,none⟩=some (.int .i64 0)∧w'.cell? ⟨w.heap.size+1,2,none⟩=some (.slice none 0 0))∧ ∀j,w'.frozen? ⟨w.heap.size+1,j,none⟩=false):=hD fun w' hb=>by
  have e:Below (W1.heap.size+1) W w':=by rw[hs1];exact hb
  have h1:=HC2.out w' e
  have h2:=fun j=>HF2.out j w' e
  rw[hs1] at h1 h2
  exact⟨h1,h2⟩
 have HA:Hid (∀w',Below (w.heap.size+2) W w'→ArgG w' (.agg #[.int .i64 g1, .int .i64 (n:Int), .slice A es.length cap]) (g1,(n:Int),es)):=hD fun w' hb=>HG.out.below (BX.out.trans (hb.mono (by omega)))
 clear hW1 hW hc1 hc2 hf2 b1 b2 HC1 HC2 HF2 BX1 BX2 hs1 hs2
 have hfo:=implIsFolded_any _ (g1,(n:Int),es) W (HA.out W ((Below.refl W.heap.size W).mono (by omega)))
 rw[HF.out] at hfo
 refine hfo.mono ?_
 clear hfo
 rintro e w2 ⟨rfl,b2⟩
 have hs2:=b2.size
 have B2:Hid (Below (w.heap.size+2) W w2):=hD (b2.mono (by omega))
 clear b2
 obtain⟨q0,q1,q2⟩:=HCL.out w2 B2.out
 have hin:inB (u:Int) 0 (wrap64 ((n:Int)-1))=true:=by rw[show wrap64 ((n:Int)-1)=(n:Int)-1 by unfold wrap64;omega];exact inB_iff.2 ⟨by omega,by omega⟩
 have HIN:=hD hin
 clear hin
 go_wp2_with fail
 refine(grHas_any _ _ _ _ _ _ _).mono ?_
 rintro e w3 ⟨rfl,b3⟩
 rw[HIN.out]
 have hs3:=b3.size
 have B2':Hid (Below (w.heap.size+2) W w3):=hD (B2.out.trans (b3.mono (by omega)))
 clear b3 q0 q1 q2 B2
 obtain⟨q0,q1,q2⟩:=HCL.out w3 B2'.out
 go_wp2
 obtain⟨W4,hW4⟩: ∃W4,W4=w3.alloc (.cells #[.int .i64 (u:Int)] 3):=⟨_,rfl⟩
 have o4:OwI (w3.alloc (.cells #[.int .i64 (u:Int)] 3)) w3.heap.size (.slice (some ⟨w3.heap.size,0,none⟩) 1 1) [(u:Int)]:=OwI_lit w3 [(u:Int)] (fun x hx=>by simp at hx;subst hx;unfold I64;omega) (by simp) (Nat.le_refl _)
 have b4:Below w3.heap.size w3 (w3.alloc (.cells #[.int .i64 (u:Int)] 3)):=(Below.refl _ _).alloc (Nat.le_refl _) _
 rw[←hW4] at o4 b4⊢
 have hs4:W4.heap.size=w3.heap.size+1:=by rw[hW4];simp
 have O4:=hD o4
 have B4:Hid (Below (w.heap.size+2) W W4):=hD (B2'.out.trans (b4.mono (by omega)))
 clear hW4 o4 b4 q0 q1 q2
 go_loopw [6,7] (fun vo i wr=> ∃q:Nat,q≤n∧i= .int .i64 q∧OwI wr (w.heap.size+2) vo ((u:Int)::delO q (u:Int))∧Below (w.heap.size+2) W wr) (fun _ i _=>n-(intOf i).toNat)
 case atStart=>exact⟨0,Nat.zero_le _,rfl,O4.out.mono (by omega),B4.out⟩
 case round=>
  obtain⟨q,hq,rfl,ho,hb⟩:=hrel
  have HO:=hD ho
  have HB:=hD hb
  obtain⟨wi,rfl⟩: ∃wi:World,wi=wr:=⟨_,rfl⟩
  clear ho hb
  have hwi:=HB.out.size
  obtain⟨q0,q1,q2⟩:=HCL.out wi HB.out
  have hlen:=movO_len q u
  have HDS:=hD (movO_succ q u)
  obtain⟨Ao,co,rfl,_⟩:=OwI.form HO.out
  by_cases hlt:q<n
  ·have hqI:(q:Int)<(n:Int):=by omega
   have HK:Hid (I64 (q:Int)):=hD (by unfold I64;omega)
   rcases e6:((q:Int) != (u:Int)) with _ | _
   ·have hqx:(q:Int)=(u:Int):=by simpa using e6
    have HD:Hid ((u:Int)::delO (q+1) (u:Int)=(u:Int)::delO q (u:Int)):=hD (by rw[HDS.out,if_neg (by simp[hqx])])
    generalize ((u:Int)::delO q (u:Int))=lo at*
    clear hqx HDS
    go_wp2
    go_roundw
    case rel=>exact⟨q+1,by omega,by go_num,by rw[HD.out];exact HO.out,HB.out⟩
    case measure=>simp[intOf];omega
   ·have hqx:(q:Int)≠(u:Int):=by simpa using e6
    have HD:Hid ((u:Int)::delO (q+1) (u:Int)=((u:Int)::delO q (u:Int))++ [(q:Int)]):=hD (by rw[HDS.out,if_pos hqx])
    generalize ((u:Int)::delO q (u:Int))=lo at*
    clear hqx HDS
    go_wp2_with (at_builtin;refine push_int rfl (.tmp 30) (.tmp 32) rfl _ _ _ (OwI.alloc HO.out _) rfl _ _ rfl (cell_new1 _ _ _) HK.out (by first | omega | (simp<;>omega)) (by first | omega | (simp<;>omega)) ?_;intro v9 wv9 o9 g9 p9)
    have O9:=hD o9
    have B9:Hid (Below (w.heap.size+2) W wv9):=hD ((HB.out.alloc (by omega) (.cells #[.int .i64 q] 3)).grown g9 (by simp<;>omega) (fun c hc=>(HO.out.1.lt c hc).1))
    clear o9 g9 p9
    go_roundw
    case rel=>exact⟨q+1,by omega,by go_num,by rw[HD.out];exact O9.out,B9.out⟩
    case measure=>simp[intOf];omega
  ·obtain rfl:q=n:=by omega
   clear HDS
   have HMO2:Hid (OrdN (q:Int) ((u:Int)::delO q (u:Int))):=HMO
   have HGM2:Hid (grB (rnG (g1,(q:Int),es) ((u:Int)::delO q (u:Int)))=true):=HGM
   have HMG2:Hid (movG (g1,(q:Int),es) u=coreG (rnG (g1,(q:Int),es) ((u:Int)::delO q (u:Int)))):=HMG
   clear HMO HGM HMG
   generalize ((u:Int)::delO q (u:Int))=lo at*
   go_wp2_with fail
   refine(part_anyN _ _ (g1,(q:Int),es) lo wi (HA.out wi HB.out) HO.out.rd HGR.out HMO2.out).mono ?_
   rintro e w5 ⟨r5,rfl,o5,b5⟩
   have hs5:=b5.size
   have B5:Hid (Below (w.heap.size+2) W w5):=hD (HB.out.trans (b5.mono (by omega)))
   generalize rnG (g1,(q:Int),es) lo=M at*
   obtain⟨m1,m2,ms⟩:=M
   have OA5:=hD o5.arg
   obtain⟨s5,rfl,_,_,oe5⟩:=o5
   obtain⟨A5,c5,rfl,_⟩:=oe5.form
   simp only at*
   clear oe5 b5 q0 q1 q2
   go_wp2_with fail
   refine(implCoreGraph_any _ (m1,m2,ms) w5 OA5.out HGM2.out).mono ?_
   rintro e w6 ⟨r6,rfl,o6,b6⟩
   have hs6:=b6.size
   have B6:Hid (Below (w.heap.size+2) W w6):=hD (B5.out.trans (b6.mono (by omega)))
   generalize coreG (m1,m2,ms)=K at*
   obtain⟨k1,k2,ks⟩:=K
   obtain⟨s6,rfl,hj1,hj2,oe6⟩:=o6
   obtain⟨A6,c6,rfl,_⟩:=oe6.form
   simp only at*
   have OE6:=hD oe6
   clear b6 oe6
   obtain⟨⟨r0,r1,r2⟩,hrf⟩:=HRC.out w6 B6.out
   have rf0:=hrf 0
   have rf1:=hrf 1
   have rf2:=hrf 2
   have HBF:=hD (BX.out.trans (B6.out.mono (by omega)))
   have hq6:w.heap.size+1<w6.heap.size:=by omega
   clear hrf
   go_wp2
   obtain⟨e0,e1,e2⟩:=cells3F (.int .i64 k1) (.int .i64 k2) (.slice A6 ks.length c6) r0 r1 r2
   have bw:Below w.heap.size w (((w6.setCell ⟨w.heap.size+1,0,none⟩ (.int .i64 k1)).setCell ⟨w.heap.size+1,1,none⟩ (.int .i64 k2)).setCell ⟨w.heap.size+1,2,none⟩ (.slice A6 ks.length c6)):=(((HBF.out.setCell (by simp<;>omega) _).setCell (by simp<;>omega) _).setCell (by simp<;>omega) _)
   have ow:OwE (((w6.setCell ⟨w.heap.size+1,0,none⟩ (.int .i64 k1)).setCell ⟨w.heap.size+1,1,none⟩ (.int .i64 k2)).setCell ⟨w.heap.size+1,2,none⟩ (.slice A6 ks.length c6)) w.heap.size (.slice A6 ks.length c6) ks:=OwE.mono (((OE6.out.far (by show w.heap.size+1<_;omega) _).far (by show w.heap.size+1<_;omega) _).far (by show w.heap.size+1<_;omega) _) (by omega)
   generalize (((w6.setCell ⟨w.heap.size+1,0,none⟩ (.int .i64 k1)).setCell ⟨w.heap.size+1,1,none⟩ (.int .i64 k2)).setCell ⟨w.heap.size+1,2,none⟩ (.slice A6 ks.length c6))=wf at*
   rw[HMG2.out]
   exact bodyPost_ret (v:= .tuple #[.agg #[.int .i64 k1, .int .i64 k2, .slice A6 ks.length c6], .bool true]) (by simp[results,Tryz.results90,go_sem,e0,e1,e2]) rfl ⟨_,rfl,⟨.slice A6 ks.length c6,rfl,hj1,hj2,ow⟩,bw⟩
end Go.Proofs.YtfadnkjlilhneaaGreat
namespace Go.Proofs.YtfadnkjlilhneaaGreat
set_option maxRecDepth 20000
set_option linter.unusedVariables false
set_option linter.unusedSimpArgs false
open Go.RowKit
end Go.Proofs.YtfadnkjlilhneaaGreat
namespace Go.Proofs.YtfadnkjlilhneaaGreat
set_option maxRecDepth 20000
set_option linter.unusedVariables false
set_option linter.unusedSimpArgs false
open Go.RowKit
def okAt (r:Int) (xs:List Int) (i:Nat):Bool:=letB r (xs.getD i 0)&& !(decide (0<i)&&invB (xs.getD (i-1) 0) (xs.getD i 0))
def wordB (r:Int) (xs:List Int):Bool:=inB r 1 3&&decide (xs.length≤24)&&(List.range xs.length).all (okAt r xs)
theorem wordB_true {r:Int} {xs:List Int} (h1:inB r 1 3=true) (h2:xs.length≤24) (h: ∀i,i<xs.length→okAt r xs i=true):wordB r xs=true:=by
 unfold wordB
 rw[h1]
 simp[h2]
 exact h
theorem wordB_false {r:Int} {xs:List Int} (i:Nat) (hi:i<xs.length) (h:inB r 1 3=true→okAt r xs i=false):wordB r xs=false:=by
 unfold wordB
 rcases h1:inB r 1 3 with _ | _
 ·rfl
 ·have h2:=h h1
  simp
  intro _
  exact⟨i,hi,h2⟩
theorem wordB_rank {r:Int} {xs:List Int} (h:wordB r xs=true):1≤r∧r≤3:=by
 unfold wordB at h
 simp only[Bool.and_eq_true] at h
 exact inB_iff.1 h.1.1
theorem wordB_len {r:Int} {xs:List Int} (h:wordB r xs=true):xs.length≤24:=by
 unfold wordB at h
 simp only[Bool.and_eq_true,decide_eq_true_eq] at h
 exact h.1.2
theorem wordB_ok {r:Int} {xs:List Int} (h:wordB r xs=true) (i:Nat) (hi:i<xs.length):okAt r xs i=true:=by
 unfold wordB at h
 simp only[Bool.and_eq_true,List.all_eq_true,List.mem_range] at h
 exact h.2 i hi
theorem wordB_get {r:Int} {xs:List Int} (h:wordB r xs=true) (i:Nat) (hi:i<xs.length):xs[i]≠0∧ -r≤xs[i]∧xs[i]≤r:=by
 have h1:=wordB_ok h i hi
 unfold okAt at h1
 simp only[Bool.and_eq_true] at h1
 have h2:=h1.1
 rw[letB_iff (inB_iff.2 (wordB_rank h))] at h2
 simpa[List.getD,hi] using h2
theorem okAt_zero {r:Int} {xs:List Int} (h:0<xs.length):okAt r xs 0=letB r xs[0]:=by
 simp[okAt,List.getD,h]
theorem okAt_pos {r:Int} {xs:List Int} {k:Nat} (h0:0<k) (h:k<xs.length):okAt r xs k=(letB r xs[k]&& !invB xs[k-1] xs[k]):=by
 have:k-1<xs.length:=by omega
 simp[okAt,List.getD,h,h0,this]
theorem invB_small {a b:Int} (ha:a≠0) (h1: -3≤a) (h2:a≤3):invB a b=(b==wrap64 (-a)):=by
 have:wrap64 (-a)= -a:=IntWalk.wrap64_in _ ⟨by omega,by omega⟩
 rw[this]
 unfold invB
 rw[Bool.eq_iff_iff]
 simp
 omega
set_option maxHeartbeats 2000000 in
theorem specIsWord_any (r:Int) (v:Value) (xs:List Int) (w:World) (h:ArgI w v xs) (hl:xs.length≤1073741824):
  Calls Tryz.prog 112 #[.int .i64 r,v] w fun e w'=>e= .returned (.bool (wordB r xs))∧ ∃n,w'=w.drewN n:=by
 obtain⟨A,cap,rfl,hcap,hm,hr,hb⟩:=h
 have HR:=hD hr
 have HB:=hD hb
 clear hr hb
 go_enter Tryz.func112,Tryz.ntmps112
 go_wp2
 go_loopw [5] (fun i wr=> ∃k:Nat,k≤xs.length∧i= .int .i64 k∧(inB r 1 3=true→ ∀j,j<k→okAt r xs j=true)∧ ∃n,wr=w.drewN n) (fun i _=>xs.length-(intOf i).toNat)
 case atStart=>exact⟨0,Nat.zero_le _,rfl,fun _ j hj=>absurd hj (by omega),0,rfl⟩
 case round=>
  obtain⟨k,hk,rfl,hok,n,rfl⟩:=hrel
  have HOK:=hD hok
  clear hok
  by_cases hlt:k<xs.length
  ·obtain⟨b,off,rfl,hc⟩:=HB.out (by omega)
   have hcell:=hc k hlt
   by_cases h0:0<k
   ·have hcell2:=hc (k-1) (by omega)
    have HZ:=hD (okAt_pos (r:=r) h0 hlt)
    have HP:Hid (inB r 1 3=true→xs[k-1]≠0∧ -3≤xs[k-1]∧xs[k-1]≤3):=fun hr3=>by
     have h1:=HOK.out hr3 (k-1) (by omega)
     unfold okAt at h1
     simp only[Bool.and_eq_true] at h1
     have h2:=h1.1
     rw[letB_iff hr3] at h2
     have h3:=inB_iff.1 hr3
     have h4:xs.getD (k-1) 0=xs[k-1]:=by simp[List.getD,show k-1<xs.length by omega]
     rw[h4] at h2
     omega
    have hd0:decide ((0:Int)<(k:Int))=true:=by simp;omega
    clear hc
    generalize xs[k-1]=y at hcell2 HZ HP
    generalize hx:xs[k]=x at hcell HZ
    clear hx
    have key:Hid (∀(b:Bool),(letB r x&& !(x==wrap64 (-y)))=b→inB r 1 3=true→okAt r xs k=b):=fun b hb hr3=>by
     rw[HZ.out,invB_small (HP.out hr3).1 (HP.out hr3).2.1 (HP.out hr3).2.2];exact hb
    rcases e1:(x==0) with _ | _
    ·have e1':(x != 0)=true:=by simpa using e1
     rcases e2:inB x (wrap64 (-r)) r with _ | _
     ·have F:=hD (key.out false (by unfold letB;rw[e1',e2];rfl))
      clear e1'
      go_wp2
      go_quiet ((go_at_call 57;first | exact quiet_left (l1In_any _ _ _ _) | exact quiet_add_left (l1In_any _ _ _ _)))
      go_wp2
      go_ret
      exact⟨ret_bool (wordB_false k hlt F.out).symm,_,World.drewN_drewN _ _ _⟩
     ·rcases e3:(x==wrap64 (-y)) with _ | _
      ·have F:=hD (key.out true (by unfold letB;rw[e1',e2,e3];rfl))
       clear e1'
       go_wp2
       go_quiet ((go_at_call 57;first | exact quiet_left (l1In_any _ _ _ _) | exact quiet_add_left (l1In_any _ _ _ _)))
       go_wp2
       go_roundw
       case rel=>exact⟨k+1,by omega,by go_num,fun hr3 j hj=>by
        rcases Nat.lt_or_eq_of_le (Nat.le_of_lt_succ hj) with hj | rfl
        ·exact HOK.out hr3 j hj
        ·exact F.out hr3,_,rfl⟩
       case measure=>simp[intOf];omega
      ·have F:=hD (key.out false (by rw[e3];simp))
       clear e1'
       go_wp2
       go_quiet ((go_at_call 57;first | exact quiet_left (l1In_any _ _ _ _) | exact quiet_add_left (l1In_any _ _ _ _)))
       go_wp2
       go_ret
       exact⟨ret_bool (wordB_false k hlt F.out).symm,_,World.drewN_drewN _ _ _⟩
    ·have e1':(x != 0)=false:=by simpa using e1
     have F:=hD (key.out false (by unfold letB;rw[e1'];rfl))
     clear e1'
     go_wp2
     go_quiet (fail)
     go_wp2
     go_ret
     exact⟨ret_bool (wordB_false k hlt F.out).symm,_,World.drewN_drewN _ _ _⟩
   ·obtain rfl:k=0:=by omega
    rw[Nat.add_zero] at hcell
    have HZ:=hD (okAt_zero (r:=r) hlt)
    clear hc
    generalize hx:xs[0]=x at hcell HZ
    clear hx
    rcases e1:(x==0) with _ | _
    ·have e1':(x != 0)=true:=by simpa using e1
     rcases e2:inB x (wrap64 (-r)) r with _ | _
     ·have F:Hid (okAt r xs 0=false):=hD (by rw[HZ.out];unfold letB;rw[e2,Bool.and_false])
      clear e1'
      go_wp2
      go_quiet ((go_at_call 57;first | exact quiet_left (l1In_any _ _ _ _) | exact quiet_add_left (l1In_any _ _ _ _)))
      go_wp2
      go_ret
      exact⟨ret_bool (wordB_false 0 hlt fun _=>F.out).symm,_,World.drewN_drewN _ _ _⟩
     ·have F:Hid (okAt r xs 0=true):=hD (by rw[HZ.out];unfold letB;rw[e1',e2];rfl)
      clear e1'
      go_wp2
      go_quiet ((go_at_call 57;first | exact quiet_left (l1In_any _ _ _ _) | exact quiet_add_left (l1In_any _ _ _ _)))
      go_wp2
      go_roundw
      case rel=>exact⟨1,by omega,by go_num,fun hr3 j hj=>by
       obtain rfl:j=0:=by omega
       exact F.out,_,rfl⟩
      case measure=>simp[intOf];omega
    ·have e1':(x != 0)=false:=by simpa using e1
     have F:Hid (okAt r xs 0=false):=hD (by rw[HZ.out];unfold letB;rw[e1'];rfl)
     clear e1'
     go_wp2
     go_quiet (fail)
     go_wp2
     go_ret
     exact⟨ret_bool (wordB_false 0 hlt fun _=>F.out).symm,_,World.drewN_drewN _ _ _⟩
  ·obtain rfl:k=xs.length:=by omega
   rcases e1:inB r 1 3 with _ | _
   ·have F:Hid (wordB r xs=false):=hD (by unfold wordB;rw[e1];rfl)
    go_wp2_with (go_at_call 57;refine(l1In_any _ _ _ _).mono ?_;rintro e w' ⟨rfl,rfl⟩)
    go_ret
    exact⟨ret_bool F.out.symm,n,rfl⟩
   ·by_cases h24:xs.length≤24
    ·have F:=hD (wordB_true e1 h24 (HOK.out e1))
     go_wp2_with (go_at_call 57;refine(l1In_any _ _ _ _).mono ?_;rintro e w' ⟨rfl,rfl⟩)
     go_ret
     exact⟨ret_bool (by rw[F.out];simp;omega),n,rfl⟩
    ·have F:Hid (wordB r xs=false):=hD (by unfold wordB;rw[decide_eq_false h24];simp)
     go_wp2_with (go_at_call 57;refine(l1In_any _ _ _ _).mono ?_;rintro e w' ⟨rfl,rfl⟩)
     go_ret
     exact⟨ret_bool (by rw[F.out];simp;omega),n,rfl⟩
set_option maxHeartbeats 2000000 in
theorem implIsWord_any (r:Int) (v:Value) (xs:List Int) (w:World) (h:ArgI w v xs) (hl:xs.length≤1073741824):
  Calls Tryz.prog 117 #[.int .i64 r,v] w fun e w'=>e= .returned (.bool (wordB r xs))∧w=w':=by
 obtain⟨A,cap,rfl,hcap,hm,hr,hb⟩:=h
 have HR:=hD hr
 have HB:=hD hb
 clear hr hb
 rcases e1:inB r 1 3 with _ | _
 ·have F:Hid (wordB r xs=false):=hD (by unfold wordB;rw[e1];rfl)
  go_enter Tryz.func117,Tryz.ntmps117
  go_wp2_with (go_at_call 106;refine(within_any _ _ _ _).mono ?_;rintro e w' ⟨rfl,rfl⟩)
  go_ret
  exact⟨ret_bool F.out.symm,rfl⟩
 ·by_cases h24:xs.length≤24
  ·go_enter Tryz.func117,Tryz.ntmps117
   go_wp2_with (go_at_call 106;refine(within_any _ _ _ _).mono ?_;rintro e w' ⟨rfl,rfl⟩)
   go_loop [17] (fun i=> ∃k:Nat,k≤xs.length∧i= .int .i64 k∧(∀j,j<k→okAt r xs j=true)) (fun i=>xs.length-(intOf i).toNat)
   case atStart=>exact⟨0,Nat.zero_le _,rfl,fun j hj=>absurd hj (by omega)⟩
   case round=>
    obtain⟨k,hk,rfl,hok⟩:=hrel
    have HOK:=hD hok
    clear hok
    by_cases hlt:k<xs.length
    ·obtain⟨b,off,rfl,hc⟩:=HB.out (by omega)
     have hcell:=hc k hlt
     have step: ∀(F:okAt r xs k=true),∀j,j<k+1→okAt r xs j=true:=fun F j hj=>by
      rcases Nat.lt_or_eq_of_le (Nat.le_of_lt_succ hj) with hj | rfl
      ·exact HOK.out j hj
      ·exact F
     have ST:=hD step
     clear step
     by_cases h0:0<k
     ·have hcell2:=hc (k-1) (by omega)
      have HZ:=hD (okAt_pos (r:=r) h0 hlt)
      have HY:=hD (HR.out xs[k-1] (by simp))
      clear hc
      generalize xs[k-1]=y at hcell2 HZ HY
      generalize hx:xs[k]=x at hcell HZ
      clear hx
      rcases e2:letB r x with _ | _
      ·have F:Hid (okAt r xs k=false):=hD (by rw[HZ.out,e2];rfl)
       go_wp2_with (go_at_call 137;refine(isLetter_any _ _ _).mono ?_;rintro e w' ⟨rfl,rfl⟩)
       go_ret
       exact⟨ret_bool (wordB_false k hlt fun _=>F.out).symm,rfl⟩
      ·rcases e3:invB y x with _ | _
       ·have F:Hid (okAt r xs k=true):=hD (by rw[HZ.out,e2,e3];rfl)
        go_wp2_with (first | (go_at_call 137;refine(isLetter_any _ _ _).mono ?_;rintro e w' ⟨rfl,rfl⟩) | (go_at_call 72;refine(areInverse_any _ _ _ HY.out).mono ?_;rintro e w' ⟨rfl,rfl⟩))
        go_round
        case rel=>exact⟨k+1,by omega,by go_num,ST.out F.out⟩
        case measure=>simp[intOf];omega
       ·have F:Hid (okAt r xs k=false):=hD (by rw[HZ.out,e2,e3];rfl)
        go_wp2_with (first | (go_at_call 137;refine(isLetter_any _ _ _).mono ?_;rintro e w' ⟨rfl,rfl⟩) | (go_at_call 72;refine(areInverse_any _ _ _ HY.out).mono ?_;rintro e w' ⟨rfl,rfl⟩))
        go_ret
        exact⟨ret_bool (wordB_false k hlt fun _=>F.out).symm,rfl⟩
     ·obtain rfl:k=0:=by omega
      rw[Nat.add_zero] at hcell
      have HZ:=hD (okAt_zero (r:=r) hlt)
      clear hc
      generalize hx:xs[0]=x at hcell HZ
      clear hx
      rcases e2:letB r x with _ | _
      ·have F:Hid (okAt r xs 0=false):=hD (by rw[HZ.out,e2])
       go_wp2_with (go_at_call 137;refine(isLetter_any _ _ _).mono ?_;rintro e w' ⟨rfl,rfl⟩)
       go_ret
       exact⟨ret_bool (wordB_false 0 hlt fun _=>F.out).symm,rfl⟩
      ·have F:Hid (okAt r xs 0=true):=hD (by rw[HZ.out,e2])
       go_wp2_with (go_at_call 137;refine(isLetter_any _ _ _).mono ?_;rintro e w' ⟨rfl,rfl⟩)
       go_round
       case rel=>exact⟨1,by omega,by go_num,ST.out F.out⟩
       case measure=>simp[intOf];omega
    ·obtain rfl:k=xs.length:=by omega
     have F:=hD (wordB_true e1 h24 HOK.out)
     go_wp2
     go_ret
     exact⟨ret_bool F.out.symm,rfl⟩
  ·have F:Hid (wordB r xs=false):=hD (by unfold wordB;rw[decide_eq_false h24];simp)
   go_enter Tryz.func117,Tryz.ntmps117
   go_wp2_with (go_at_call 106;refine(within_any _ _ _ _).mono ?_;rintro e w' ⟨rfl,rfl⟩)
   go_ret
   exact⟨ret_bool F.out.symm,rfl⟩
end Go.Proofs.YtfadnkjlilhneaaGreat
namespace Go.Proofs.YtfadnkjlilhneaaGreat
set_option maxRecDepth 20000
set_option linter.unusedVariables false
set_option linter.unusedSimpArgs false
open Go.RowKit
end Go.Proofs.YtfadnkjlilhneaaGreat
namespace Go.Proofs.YtfadnkjlilhneaaGreat
set_option maxRecDepth 20000
set_option linter.unusedVariables false
set_option linter.unusedSimpArgs false
open Go.RowKit
end Go.Proofs.YtfadnkjlilhneaaGreat
namespace Go.Proofs.YtfadnkjlilhneaaGreat
set_option maxRecDepth 20000
set_option linter.unusedVariables false
set_option linter.unusedSimpArgs false
open Go.RowKit
end Go.Proofs.YtfadnkjlilhneaaGreat
namespace Go.Proofs.YtfadnkjlilhneaaGreat
set_option maxRecDepth 20000
set_option linter.unusedVariables false
set_option linter.unusedSimpArgs false
open Go.RowKit
end Go.Proofs.YtfadnkjlilhneaaGreat
namespace Go.Proofs.YtfadnkjlilhneaaGreat
set_option maxRecDepth 20000
set_option linter.unusedVariables false
set_option linter.unusedSimpArgs false
open Go.RowKit
structure IsI (a b:GrD) (ls:List Int) (N P bl capl:Nat) (W wr:World) (out:Value) (o im:List Int):Prop where
 ok:OrdOk (N:Int) o
 len:im.length=N
 img: ∀y:Nat,y<N→(y:Int)∈o→im[y]? =some (imgW a b y)∧0≤imgW a b y
 fnd:OwI wr (P+1) out o
 row:OwI wr P (.slice (some ⟨P,0,none⟩) N N) im
 lets:RdI wr (.slice (some ⟨bl,0,none⟩) ls.length capl) ls
 ne:out.ownBlock≠some bl
 blt:bl<wr.heap.size
 blP:P<bl
 bel:Below P W wr
section
variable {a b:GrD} {ls:List Int} {N P bl capl:Nat} {W wr w':World} {out:Value} {o im:List Int}
theorem IsI.below (h:IsI a b ls N P bl capl W wr out o im) (hb:Below wr.heap.size wr w'):IsI a b ls N P bl capl W w' out o im:=
 ⟨h.ok,h.len,h.img,h.fnd.below hb,h.row.below hb,h.lets.below hb,h.ne,Nat.lt_of_lt_of_le h.blt hb.size,h.blP,h.bel.trans (hb.mono (by have:=h.blt;have:=h.blP;omega))⟩
theorem IsI.found (h:IsI a b ls N P bl capl W wr out o im) {y:Nat} (hy:y<N) {v9:Value} {w9:World} {ob:Obj} (hok:OrdOk (N:Int) (o++ [(y:Int)])) (o9:OwI w9 (P+1) v9 (o++ [(y:Int)])) (g9:(wr.alloc ob).grownBy w9 out.ownBlock)
  (p9:v9.ownBlock=out.ownBlock∨v9.ownBlock=some (wr.alloc ob).heap.size) {z:Int} (hz:imgW a b y=z) (hz0:0≤z) (hz64:I64 z):
  IsI a b ls N P bl capl W (w9.setCell ⟨P,y,none⟩ (.int .i64 z)) v9 (o++ [(y:Int)]) (im.set y z):=by
 have hs9:=g9.size
 have hsa:(wr.alloc ob).heap.size=wr.heap.size+1:=by simp
 have hbl:=h.blt
 have hbP:=h.blP
 have hP: ∀c,out.ownBlock=some c→P+1≤c:=fun c hc=>(h.fnd.1.lt c hc).1
 have hrow:OwI w9 P (.slice (some ⟨P,0,none⟩) N N) im:=(h.row.alloc ob).kept g9 (.inr fun e=>by have:=hP P (by rw[←e];rfl);omega)
 have hlet:RdI w9 (.slice (some ⟨bl,0,none⟩) ls.length capl) ls:=(h.lets.alloc ob).grown g9 fun b hb hb'=>by
  simp only[Value.ownBlock,Option.some.injEq] at hb
  subst hb
  exact h.ne hb'
 obtain⟨r1,r2⟩:=hrow.set y z hz64
 refine⟨hok,by rw[List.length_set];exact h.len,fun j hj hm=> ?_,o9.far (p:=⟨P,y,none⟩) (Nat.lt_succ_self _) _,r1,hlet.grown r2 fun b hb hb'=>by simp[Value.ownBlock] at hb hb';omega,?_,by simp;omega,h.blP,?_⟩
 ·by_cases e:j=y
  ·subst e
   rw[List.getElem?_set_self (by rw[h.len];exact hy),hz]
   exact⟨rfl,hz0⟩
  ·rw[List.getElem?_set_ne (Ne.symm e)]
   rcases List.mem_append.1 hm with hm | hm
   ·exact h.img j hj hm
   ·rw[List.mem_singleton] at hm;omega
 ·rcases p9 with p9 | p9
  ·rw[p9];exact h.ne
  ·rw[p9]
   intro e
   injection e with e
   omega
 ·refine Below.setCell ?_ (by show P≤P;omega) _
  exact bel_push h.bel (by omega) h.fnd.1 (by omega) g9
end
structure TreeX (f:Int→List Int) (bb P N:Nat) (w:World) (ord:Value) (o:List Int):Prop where
 ex: ∃vs:List Value,vs.length=N∧w.ownsRow bb 26 1 (.slice (some ⟨P,0,none⟩) N N) N vs∧ ∀(j:Nat) (hj:j<vs.length),
  ((j:Int)∉o∧vs[j]= .slice none 0 0)∨((j:Int)∈o∧ ∃(b cap:Nat),vs[j]= .slice (some ⟨b,0,none⟩) (f j).length cap∧(f j).length≤o.length∧RdI w vs[j] (f j)∧P<b∧ord.ownBlock≠some b∧b<w.heap.size)
 ne:ord.ownBlock≠some P
section
variable {f:Int→List Int} {bb P N:Nat} {w w':World} {ord:Value} {o:List Int}
theorem TreeX.lt (h:TreeX f bb P N w ord o):bb≤P∧P<w.heap.size:=by
 obtain⟨vs,_,h2,_⟩:=h.ex
 exact h2.lt P rfl
theorem TreeX.at_new (h:TreeX f bb P N w ord o) {y:Nat} (hy:y<N) (hn:(y:Int)∉o):w.cell? ⟨P,y,none⟩=some (.slice none 0 0):=by
 obtain⟨vs,h1,h2,h3⟩:=h.ex
 rw[World.ownsRow.cellAt h2 y (by omega)]
 rcases h3 y (by omega) with ⟨_,h4⟩ | ⟨h4,_⟩
 ·rw[List.getElem?_eq_getElem (by omega),h4]
 ·exact absurd h4 hn
theorem TreeX.at_old (h:TreeX f bb P N w ord o) {y:Nat} (hy:y<N) (hn:(y:Int)∈o):
  ∃(b cap:Nat),w.cell? ⟨P,y,none⟩=some (.slice (some ⟨b,0,none⟩) (f y).length cap)∧(f y).length≤o.length∧RdI w (.slice (some ⟨b,0,none⟩) (f y).length cap) (f y)∧b<w.heap.size∧P<b:=by
 obtain⟨vs,h1,h2,h3⟩:=h.ex
 rw[World.ownsRow.cellAt h2 y (by omega)]
 rcases h3 y (by omega) with ⟨h4,_⟩ | ⟨_,b,cap,e1,e2,e3,e4,_,e6⟩
 ·exact absurd hn h4
 ·rw[e1] at e3
  exact⟨b,cap,by rw[List.getElem?_eq_getElem (by omega),e1],e2,e3,e6,e4⟩
theorem TreeX.free (h:TreeX f bb P N w ord o) (j:Nat):w.frozen? ⟨P,j,none⟩=false:=by
 obtain⟨vs,h1,h2,h3⟩:=h.ex
 exact World.ownsRow.frozenAt h2 j
theorem TreeX.below (h:TreeX f bb P N w ord o) (hb:Below w.heap.size w w'):TreeX f bb P N w' ord o:=by
 obtain⟨vs,h1,h2,h3⟩:=h.ex
 refine⟨⟨vs,h1,ownsRow_below h2 hb,fun j hj=> ?_⟩,h.ne⟩
 rcases h3 j hj with h4 | ⟨h4,b,cap,e1,e2,e3,e4,e5,e6⟩
 ·exact .inl h4
 ·exact .inr ⟨h4,b,cap,e1,e2,e3.below hb,e4,e5,by have:=hb.size;omega⟩
theorem TreeX.set (h:TreeX f bb P N w ord o) {y:Nat} (hy:y<N) {b cap:Nat} {ws:List Int} (hws:f (y:Int)=ws) (hr:RdI w (.slice (some ⟨b,0,none⟩) ws.length cap) ws) (hl:ws.length≤o.length+1) (hb:P<b) (ho:ord.ownBlock≠some b) (hlt:b<w.heap.size):
  TreeX f bb P N (w.setCell ⟨P,y,none⟩ (.slice (some ⟨b,0,none⟩) ws.length cap)) ord (o++ [(y:Int)]):=by
 obtain⟨vs,h1,h2,h3⟩:=h.ex
 obtain⟨s1,s2⟩:=World.ownsRow.stored h2 y (.slice (some ⟨b,0,none⟩) ws.length cap)
 have hsz:(w.setCell ⟨P,y,none⟩ (.slice (some ⟨b,0,none⟩) ws.length cap)).heap.size=w.heap.size:=by simp
 have hg:w.grownBy (w.setCell ⟨P,y,none⟩ (.slice (some ⟨b,0,none⟩) ws.length cap)) (some P):=set_grown _ _ _ _
 refine⟨⟨_,by simpa using h1,s1,fun j hj=> ?_⟩,h.ne⟩
 have hj':j<vs.length:=by simpa using hj
 by_cases hjy:j=y
 ·subst hjy
  refine .inr ⟨by simp,b,cap,by rw[hws];simp,by rw[hws];simp;omega,?_,hb,ho,by omega⟩
  rw[List.getElem_set_self,hws]
  exact hr.grown hg fun x hx hx'=>by simp[Value.ownBlock] at hx hx';omega
 ·rw[List.getElem_set_ne (Ne.symm hjy)]
  rcases h3 j hj' with ⟨h4,h5⟩ | ⟨h4,b',cap',e1,e2,e3,e4,e5,e6⟩
  ·refine .inl ⟨?_,h5⟩
   rw[List.mem_append,List.mem_singleton]
   rintro(h6 | h6)
   ·exact h4 h6
   ·omega
  ·refine .inr ⟨List.mem_append_left _ h4,b',cap',e1,by simp;omega,e3.grown hg fun x hx hx'=> ?_,e4,e5,by omega⟩
   rw[e1] at hx
   simp[Value.ownBlock] at hx hx'
   omega
theorem TreeX.lit (h:TreeX f bb P N w (.slice none 0 0) o) (ob:Obj) (n c:Nat):TreeX f bb P N (w.alloc ob) (.slice (some ⟨w.heap.size,0,none⟩) n c) o:=by
 have hlt:=h.lt
 obtain⟨vs,h1,h2,h3⟩:=h.ex
 refine⟨⟨vs,h1,ownsRow_below h2 ((Below.refl w.heap.size w).alloc (Nat.le_refl _) ob),fun j hj=> ?_⟩,by simp[Value.ownBlock];omega⟩
 rcases h3 j hj with h4 | ⟨h4,b,cap,e1,e2,e3,e4,e5,e6⟩
 ·exact .inl h4
 ·exact .inr ⟨h4,b,cap,e1,e2,e3.alloc _,e4,by simp[Value.ownBlock];omega,by simp;omega⟩
theorem TreeX.push (h:TreeX f bb P N w ord o) {w9:World} {v9:Value} {ob:Obj} (hg:(w.alloc ob).grownBy w9 ord.ownBlock) (hp:v9.ownBlock=ord.ownBlock∨v9.ownBlock=some (w.alloc ob).heap.size):TreeX f bb P N w9 v9 o:=by
 have hlt:=h.lt
 have h':=h.below ((Below.refl w.heap.size w).alloc (Nat.le_refl _) ob)
 obtain⟨vs,h1,h2,h3⟩:=h'.ex
 have hs:(w.alloc ob).heap.size=w.heap.size+1:=by simp
 have hs9:=hg.size
 refine⟨⟨vs,h1,h2.kept hg (.inr fun e=>h.ne e.symm),fun j hj=> ?_⟩,?_⟩
 ·rcases h3 j hj with h4 | ⟨h4,b,cap,e1,e2,e3,e4,e5,e6⟩
  ·exact .inl h4
  ·refine .inr ⟨h4,b,cap,e1,e2,e3.grown hg fun x hx hx'=> ?_,e4,?_,by omega⟩
   ·rw[e1] at hx
    simp only[Value.ownBlock,Option.some.injEq] at hx
    subst hx
    exact e5 hx'
   ·rcases hp with hp | hp
    ·rw[hp];exact e5
    ·rw[hp]
     intro e
     injection e with e
     omega
 ·rcases hp with hp | hp
  ·rw[hp];exact h.ne
  ·rw[hp]
   intro e
   injection e with e
   omega
end
def stE (u x v:Int):EdD:=if x<0 then(v,-x,u) else(u,x,v)
set_option maxHeartbeats 400000 in
theorem step_any (u x v:Int) (w:World) (hx: -3≤x∧x≤3):
  Calls Tryz.prog 69 #[.int .i64 u, .int .i64 x, .int .i64 v] w fun e w'=>e= .returned (edV (stE u x v))∧Below w.heap.size w w':=by
 have hn:IntKind.i64.wrap (-x)= -x:=by rw[IntKind.wrap_i64];omega
 by_cases h:x<0
 ·have F:Hid (stE u x v=(v,-x,u)):=hD (by unfold stE;rw[if_pos h])
  go_enter Tryz.func69,Tryz.ntmps69
  go_wp2
  refine bodyPost_ret (v:= .agg #[.int .i64 v, .int .i64 (-x), .int .i64 u]) (by simp[results,Tryz.results69,go_sem]) rfl ⟨by rw[F.out];rfl,(by repeat(first | exact Below.refl _ _ | (refine Below.setCell ?_ (by first | omega | (simp<;>omega)) _) | (refine bel_drewN ?_ _) | (refine Below.drew ?_) | (refine Below.alloc ?_ (by first | omega | (simp<;>omega)) _)))⟩
 ·have F:Hid (stE u x v=(u,x,v)):=hD (by unfold stE;rw[if_neg h])
  go_enter Tryz.func69,Tryz.ntmps69
  go_wp2
  refine bodyPost_ret (v:= .agg #[.int .i64 u, .int .i64 x, .int .i64 v]) (by simp[results,Tryz.results69,go_sem]) rfl ⟨by rw[F.out];rfl,(by repeat(first | exact Below.refl _ _ | (refine Below.setCell ?_ (by first | omega | (simp<;>omega)) _) | (refine bel_drewN ?_ _) | (refine Below.drew ?_) | (refine Below.alloc ?_ (by first | omega | (simp<;>omega)) _)))⟩
theorem RdI.keepB {w w':World} {b off n c:Nat} {xs:List Int} (h:RdI w (.slice (some ⟨b,off,none⟩) n c) xs) (hb:w'.heap[b]? =w.heap[b]?):RdI w' (.slice (some ⟨b,off,none⟩) n c) xs:=by
 obtain⟨⟨h1,A,cap,hv,h2,h3,h4,h5⟩,h6⟩:=h
 injection hv with e1 e2 e3
 subst e1 e3
 refine⟨⟨h1,_,_,by rw[e2],h2,h3,h4,fun h0=> ?_⟩,h6⟩
 obtain⟨b',off',cur,fr,hA,hh,hx⟩:=h5 h0
 injection hA with hA
 injection hA with hA1 hA2
 subst hA1 hA2
 exact⟨b,off,cur,fr,rfl,by rw[hb];exact hh,hx⟩
end Go.Proofs.YtfadnkjlilhneaaGreat
namespace Go.Proofs.YtfadnkjlilhneaaGreat
set_option maxRecDepth 20000
set_option linter.unusedVariables false
set_option linter.unusedSimpArgs false
open Go.RowKit
theorem mt_iff {v x y:Int} {e:EdD} (hx: -3≤x∧x≤3):mt v x e=some y↔(0<x∧e.2.1=x∧e.1=v∧e.2.2=y)∨(x<0∧e.2.1= -x∧e.2.2=v∧e.1=y):=by
 have hw:wrap64 (-x)= -x:=IntWalk.wrap64_in _ ⟨by omega,by omega⟩
 unfold mt
 rw[hw]
 constructor
 ·intro h
  split at h
  ·split at h
   ·rename_i p q;injection h with h;exact .inl ⟨p,q.1,q.2,h⟩
   ·cases h
  ·split at h
   ·split at h
    ·rename_i p q;injection h with h;exact .inr ⟨p,q.1,q.2,h⟩
    ·cases h
   ·cases h
 ·rintro(⟨p,q,r,s⟩ | ⟨p,q,r,s⟩)
  ·rw[if_pos p,if_pos ⟨q,r⟩,s]
  ·rw[if_neg (by omega),if_pos p,if_pos ⟨q,r⟩,s]
theorem next_iff {g:GrD} (hg:grB g=true) (hf:Fol g.2.2) {v x y:Int} (hx: -3≤x∧x≤3) (hy:0≤y):nextV g.2.2 v x=y↔(0<x∧(v,x,y)∈g.2.2)∨(x<0∧(y,-x,v)∈g.2.2):=by
 constructor
 ·intro h
  obtain⟨e,he,hm⟩:=nextV_mem (by omega:0≤nextV g.2.2 v x)
  rw[h] at hm
  rcases(mt_iff hx).1 hm with ⟨p,q,r,s⟩ | ⟨p,q,r,s⟩
  ·left
   obtain⟨a,l,b⟩:=e
   simp only at q r s
   subst q r s
   exact⟨p,he⟩
  ·right
   obtain⟨a,l,b⟩:=e
   simp only at q r s
   subst q r s
   exact⟨p,he⟩
 ·rintro(⟨p,h⟩ | ⟨p,h⟩)
  ·exact nextV_of hf h ((mt_iff hx).2 (.inl ⟨p,rfl,rfl,rfl⟩))
  ·exact nextV_of hf h ((mt_iff hx).2 (.inr ⟨p,rfl,rfl,rfl⟩))
theorem next_letter {g:GrD} (hg:grB g=true) {v x:Int} (hx: -3≤x∧x≤3) (h:0≤nextV g.2.2 v x):x∈lettersL g.1.toNat:=by
 obtain⟨e,he,hm⟩:=nextV_mem h
 have hl:=(edge_of_gr hg he).2.1
 rw[letters_mem]
 rcases(mt_iff hx).1 hm with ⟨p,q,_⟩ | ⟨p,q,_⟩<;>omega
def ov (o:List Int) (i:Int):Int:=o.getD i.toNat (-1)
theorem plv_get {o:List Int} (hd:o.Nodup): ∀(k:Nat) (hk:k<o.length),plv o o[k]=(k:Int)+1:=by
 induction o with
 | nil=>intro k hk;cases hk
 | cons u o ih=>
   rw[List.nodup_cons] at hd
   intro k hk
   cases k with
   | zero=>simp[plv]
   | succ k=>
     have hk':k<o.length:=by simpa using hk
     have hne:u≠o[k]:=fun e=>hd.1 (e▸List.getElem_mem hk')
     have:=ih hd.2 k hk'
     simp only[List.getElem_cons_succ]
     unfold plv
     rw[if_neg hne,if_neg (by omega),this]
     omega
theorem ov_get {o:List Int} {k:Nat} (hk:k<o.length):ov o k=o[k]:=by
 unfold ov
 rw[Int.toNat_natCast]
 simp[hk]
theorem plv_ov {o:List Int} (hd:o.Nodup) {i:Int} (h0:0≤i) (h1:i<o.length):plv o (ov o i)=i+1:=by
 obtain⟨k,rfl⟩: ∃k:Nat,i=(k:Int):=⟨i.toNat,by omega⟩
 rw[ov_get (by omega),plv_get hd k (by omega)]
theorem ov_mem {o:List Int} {i:Int} (h0:0≤i) (h1:i<o.length):ov o i∈o:=by
 obtain⟨k,rfl⟩: ∃k:Nat,i=(k:Int):=⟨i.toNat,by omega⟩
 rw[ov_get (by omega)]
 exact List.getElem_mem _
theorem ov_plv {o:List Int} (hd:o.Nodup) {v:Int} (h:v∈o):ov o (plv o v-1)=v:=by
 obtain⟨k,hk,rfl⟩:=List.getElem_of_mem h
 rw[plv_get hd k hk,show(k:Int)+1-1=k by omega,ov_get hk]
theorem plv_pos {o:List Int} {v:Int} (h:v∈o):0<plv o v:=by
 have:=plv_range o v
 have h0:plv o v≠0:=fun e=>plv_zero.1 e h
 omega
theorem rn_mem {g:GrD} {o:List Int} {e:EdD}:e∈(rnG g o).2.2↔ ∃a∈g.2.2,rnE o a=some e:=by
 show e∈srt cmpE (rnL g.2.2 o)↔_
 rw[(srt_spec cmpE_ord _).2]
 unfold rnL
 rw[List.mem_filterMap]
theorem rnE_iff {o:List Int} (hd:o.Nodup) {a e:EdD} (h1:0≤e.1∧e.1<o.length) (h2:0≤e.2.2∧e.2.2<o.length):rnE o a=some e↔a=(ov o e.1,e.2.1,ov o e.2.2):=by
 unfold rnE
 constructor
 ·intro h
  split at h
  ·rename_i p
   injection h with h
   subst h
   simp only
   have m1:a.1∈o:=Classical.byContradiction fun hn=>by have:=plv_zero.2 hn;omega
   have m2:a.2.2∈o:=Classical.byContradiction fun hn=>by have:=plv_zero.2 hn;omega
   rw[ov_plv hd m1,ov_plv hd m2]
  ·cases h
 ·rintro rfl
  simp only
  rw[plv_ov hd h1.1 h1.2,plv_ov hd h2.1 h2.2,if_pos ⟨by omega,by omega⟩]
  congr 1
  obtain⟨x,l,y⟩:=e
  simp only
  rw[show x+1-1=x by omega,show y+1-1=y by omega]
theorem rn_edge {g:GrD} {o:List Int} (hd:o.Nodup) {e:EdD} (h1:0≤e.1∧e.1<o.length) (h2:0≤e.2.2∧e.2.2<o.length):e∈(rnG g o).2.2↔(ov o e.1,e.2.1,ov o e.2.2)∈g.2.2:=by
 rw[rn_mem]
 constructor
 ·rintro⟨a,ha,hr⟩
  rw[(rnE_iff hd h1 h2).1 hr] at ha
  exact ha
 ·intro h
  exact⟨_,h,(rnE_iff hd h1 h2).2 rfl⟩
theorem rn_next {g:GrD} {o:List Int} (hf:foldB g=true) (ho:OrdN g.2.1 o) {i x:Int} (h0:0≤i) (h1:i<o.length) (hx: -3≤x∧x≤3):
  nextV (rnG g o).2.2 i x=if 0≤nextV g.2.2 (ov o i) x then plv o (nextV g.2.2 (ov o i) x)-1 else-1:=by
 obtain⟨hg,hfo⟩:=foldB_parts hf
 obtain⟨hg',hfo'⟩:=foldB_parts (foldB_rnGN hf ho)
 have fwd: ∀j:Int,0≤j→j<o.length→(nextV (rnG g o).2.2 i x=j↔nextV g.2.2 (ov o i) x=ov o j):=fun j j0 j1=>by
  have hoj:=(ho.2.1 _ (ov_mem j0 j1)).1
  rw[next_iff hg' hfo' hx j0,next_iff hg hfo hx hoj,rn_edge ho.1 (e:=(i,x,j)) ⟨h0,h1⟩ ⟨j0,j1⟩,rn_edge ho.1 (e:=(j,-x,i)) ⟨j0,j1⟩ ⟨h0,h1⟩]
 by_cases hy:0≤nextV g.2.2 (ov o i) x
 ·rw[if_pos hy]
  by_cases hm:nextV g.2.2 (ov o i) x∈o
  ·have hp:=plv_pos hm
   have hr:=plv_range o (nextV g.2.2 (ov o i) x)
   exact(fwd _ (by omega) (by omega)).2 (ov_plv ho.1 hm).symm
  ·rw[plv_zero.2 hm]
   rcases nextV_range hg' i x with h | h
   ·rw[h];rfl
   ·have:=(fwd _ h.1 h.2).1 rfl
    rw[this] at hm
    exact absurd (ov_mem h.1 h.2) hm
 ·rw[if_neg hy]
  rcases nextV_range hg' i x with h | h
  ·exact h
  ·have:=(fwd _ h.1 h.2).1 rfl
   have h2:=(ho.2.1 _ (ov_mem h.1 h.2)).1
   omega
theorem conn_next {es:List EdD} {u v x:Int} (hx: -3≤x∧x≤3) (h:Conn es u v) (hn:0≤nextV es v x):Conn es u (nextV es v x):=by
 obtain⟨e,he,hm⟩:=nextV_mem hn
 rcases(mt_iff hx).1 hm with ⟨_,_,r,s⟩ | ⟨_,_,r,s⟩
 ·rw[←s];exact .fwd e he (r▸h)
 ·rw[←s];exact .back e he (r▸h)
structure Sub (x g:GrD) (s:Int→Int):Prop where
 rk:x.1=g.1
 rng: ∀i,0≤i→i<x.2.1→0≤s i∧s i<g.2.1
 cn:Conn g.2.2 0 (s 0)
 fw: ∀i l,0≤i→i<x.2.1→ -3≤l∧l≤3→0≤nextV x.2.2 i l→nextV g.2.2 (s i) l=s (nextV x.2.2 i l)
 lp: ∀i w,0≤i→i<x.2.1→Conn x.2.2 0 i→(∀l∈w,-3≤l∧l≤3)→NoB w→walkF g.2.2 (s i) w=s i→walkF x.2.2 i w=i
theorem Sub.walk {x g:GrD} {s:Int→Int} (h:Sub x g s) (hx:grB x=true): ∀(w:List Int) (i:Int),0≤i→i<x.2.1→(∀l∈w,-3≤l∧l≤3)→0≤walkF x.2.2 i w→walkF g.2.2 (s i) w=s (walkF x.2.2 i w)
 | [],_,_,_,_,_=>rfl
 | l::w,i,h0,h1,hl,hw=>by
   rw[walkF_cons] at hw⊢
   split at hw
   ·exact absurd hw (by decide)
   ·rename_i hn
    have hl0:=hl l (by simp)
    have hf:=h.fw i l h0 h1 hl0 (by omega)
    rcases nextV_range hx i l with e | ⟨e1,e2⟩
    ·omega
    ·have hr:=h.rng _ e1 e2
     rw[hf,if_neg (by omega)]
     conv=>rhs;rw[walkF_cons,if_neg hn]
     exact h.walk hx w _ e1 e2 (fun l hl'=>hl l (by simp[hl'])) hw
theorem Sub.conn {x g:GrD} {s:Int→Int} (h:Sub x g s) (hx:grB x=true) (hfx:Fol x.2.2) (hg:grB g=true) {i:Int} (hc:Conn x.2.2 0 i):(0≤i∧i<x.2.1)∧Conn g.2.2 0 (s i):=by
 have hs:=(grB_parts hx).2.1
 have key: ∀e∈x.2.2,(Conn g.2.2 0 (s e.1)↔Conn g.2.2 0 (s e.2.2)):=fun e he=>by
  have hr:=edge_of_gr hx he
  have h3:=(grB_parts hx).1
  have hl: -3≤e.2.1∧e.2.1≤3:=by omega
  have n1:=nextV_out hx hfx he
  have n2:=nextV_in hx hfx he
  have f1:=h.fw e.1 e.2.1 hr.1.1 hr.1.2 hl (by rw[n1];exact hr.2.2.1)
  have f2:=h.fw e.2.2 (-e.2.1) hr.2.2.1 hr.2.2.2 (by omega) (by rw[n2];exact hr.1.1)
  rw[n1] at f1
  rw[n2] at f2
  constructor
  ·intro c
   have:=conn_next hl c (by rw[f1];exact(h.rng _ hr.2.2.1 hr.2.2.2).1)
   rwa [f1] at this
  ·intro c
   have:=conn_next (x:= -e.2.1) (by omega) c (by rw[f2];exact(h.rng _ hr.1.1 hr.1.2).1)
   rwa [f2] at this
 refine conn_of_closed (S:=fun i=>(0≤i∧i<x.2.1)∧Conn g.2.2 0 (s i)) ⟨by omega,h.cn⟩ (fun e he=> ?_) hc
 have hr:=edge_of_gr hx he
 have:=key e he
 constructor
 ·rintro⟨_,c⟩;exact⟨hr.2.2,this.1 c⟩
 ·rintro⟨_,c⟩;exact⟨hr.1,this.2 c⟩
theorem Sub.refl {g:GrD}:Sub g g id where
 rk:=rfl
 rng:=fun _ h0 h1=>⟨h0,h1⟩
 cn:= .base
 fw:=fun _ _ _ _ _ _=>rfl
 lp:=fun _ _ _ _ _ _ _ h=>h
theorem Sub.trans {x y g:GrD} {s t:Int→Int} (h:Sub x y s) (k:Sub y g t) (hx:grB x=true) (hfx:Fol x.2.2) (hy:grB y=true) (hfy:Fol y.2.2) (hg:grB g=true):Sub x g (fun i=>t (s i)) where
 rk:=h.rk.trans k.rk
 rng:=fun i h0 h1=>by have:=h.rng i h0 h1;exact k.rng _ this.1 this.2
 cn:=(k.conn hy hfy hg h.cn).2
 fw:=fun i l h0 h1 hl hn=>by
  have hr:=h.rng i h0 h1
  have f:=h.fw i l h0 h1 hl hn
  rw[←f]
  refine k.fw _ l hr.1 hr.2 hl ?_
  rw[f]
  rcases nextV_range hx i l with e | ⟨e1,e2⟩
  ·omega
  ·exact(h.rng _ e1 e2).1
 lp:=fun i w h0 h1 hc hl hn hw=>by
  have hr:=h.rng i h0 h1
  exact h.lp i w h0 h1 hc hl hn (k.lp (s i) w hr.1 hr.2 (h.conn hx hfx hy hc).2 hl hn hw)
theorem NoB.tail {a:Int} {l:List Int} (h:NoB (a::l)):NoB l:=by
 cases l with
 | nil=>trivial
 | cons b l=>exact h.2
theorem Sub.rn {g:GrD} {o:List Int} (hf:foldB g=true) (ho:OrdN g.2.1 o) (h0:Conn g.2.2 0 (ov o 0))
  (H: ∀v∈o,Conn g.2.2 0 v→ ∀l w,-3≤l∧l≤3→(∀x∈w,-3≤x∧x≤3)→NoB (l::w)→0≤nextV g.2.2 v l→nextV g.2.2 v l∉o→walkF g.2.2 (nextV g.2.2 v l) w∉o):Sub (rnG g o) g (ov o):=by
 obtain⟨hg,hfo⟩:=foldB_parts hf
 obtain⟨hg',hfo'⟩:=foldB_parts (foldB_rnGN hf ho)
 have rngs: ∀i,0≤i→i<(rnG g o).2.1→0≤ov o i∧ov o i<g.2.1:=fun i a b=>ho.2.1 _ (ov_mem a b)
 have fws: ∀i l,0≤i→i<(rnG g o).2.1→ -3≤l∧l≤3→0≤nextV (rnG g o).2.2 i l→nextV g.2.2 (ov o i) l=ov o (nextV (rnG g o).2.2 i l):=fun i l a b hl hn=>by
  have e:=rn_next hf ho a b hl
  split at e
  ·rename_i hp
   rw[e] at hn⊢
   refine(ov_plv ho.1 (Classical.byContradiction fun hm=> ?_)).symm
   have:=plv_zero.2 hm
   omega
  ·omega
 have walks: ∀(w:List Int) (v:Int),v∈o→Conn g.2.2 0 v→(∀l∈w,-3≤l∧l≤3)→NoB w→walkF g.2.2 v w∈o→walkF (rnG g o).2.2 (plv o v-1) w=plv o (walkF g.2.2 v w)-1:=by
  intro w
  induction w with
  | nil=>intro v _ _ _ _ _;rfl
  | cons l w ih=>
    intro v hv hc hl hn hw
    have hl0:=hl l (by simp)
    have hlw: ∀x∈w,-3≤x∧x≤3:=fun x hx=>hl x (by simp[hx])
    rw[walkF_cons] at hw
    split at hw
    ·have:=(ho.2.1 _ hw).1;omega
    ·rename_i hnn
     have hm:nextV g.2.2 v l∈o:=Classical.byContradiction fun hm=>H v hv hc l w hl0 hlw hn (by omega) hm hw
     have hp:=plv_pos hv
     have hr:=plv_range o v
     have hp2:=plv_pos hm
     have e:=rn_next hf ho (i:=plv o v-1) (x:=l) (by omega) (by omega) hl0
     rw[ov_plv ho.1 hv,if_pos (by omega)] at e
     rw[walkF_cons,walkF_cons,e,if_neg (by omega),if_neg hnn]
     exact ih _ hm (conn_next hl0 hc (by omega)) hlw hn.tail hw
 exact⟨rfl,rngs,h0,fws,fun i w a b hc hl hn hw=>by
  have hci:Conn g.2.2 0 (ov o i):=by
   have key: ∀e∈(rnG g o).2.2,(Conn g.2.2 0 (ov o e.1)↔Conn g.2.2 0 (ov o e.2.2)):=fun e he=>by
    have hr:=edge_of_gr hg' he
    have h3:=(grB_parts hg').1
    have hl: -3≤e.2.1∧e.2.1≤3:=by omega
    have n1:=nextV_out hg' hfo' he
    have n2:=nextV_in hg' hfo' he
    have f1:=fws e.1 e.2.1 hr.1.1 hr.1.2 hl (by rw[n1];exact hr.2.2.1)
    have f2:=fws e.2.2 (-e.2.1) hr.2.2.1 hr.2.2.2 (by omega) (by rw[n2];exact hr.1.1)
    rw[n1] at f1
    rw[n2] at f2
    constructor
    ·intro c
     have:=conn_next hl c (by rw[f1];exact(rngs _ hr.2.2.1 hr.2.2.2).1)
     rwa [f1] at this
    ·intro c
     have:=conn_next (x:= -e.2.1) (by omega) c (by rw[f2];exact(rngs _ hr.1.1 hr.1.2).1)
     rwa [f2] at this
   exact conn_of_closed (S:=fun i=>Conn g.2.2 0 (ov o i)) h0 key hc
  have hmi:=ov_mem a b
  have:=walks w (ov o i) hmi hci hl hn (by rw[hw];exact hmi)
  rw[hw,plv_ov ho.1 a b] at this
  rw[show i+1-1=i by omega] at this
  exact this⟩
theorem degE_pos {v x y:Int} {e:EdD} (hx: -3≤x∧x≤3) (h:mt v x e=some y):1≤degE v e:=by
 unfold degE
 rcases(mt_iff hx).1 h with ⟨_,_,r,_⟩ | ⟨_,_,r,_⟩
 ·rw[if_pos r];omega
 ·rw[if_pos r];omega
theorem degL_cons (e:EdD) (es:List EdD) (v:Int):degL (e::es) v=degE v e+degL es v:=by simp[degL]
theorem degL_mem {v:Int} {e:EdD}: ∀ {es:List EdD},e∈es→degE v e≤degL es v
 | a::es,h=>by
   rw[degL_cons]
   rcases List.mem_cons.1 h with rfl | h
   ·omega
   ·have:=degL_mem (v:=v) h;omega
theorem degL_two {v:Int} {e1 e2:EdD} (hne:e1≠e2): ∀ {es:List EdD},e1∈es→e2∈es→degE v e1+degE v e2≤degL es v
 | a::es,h1,h2=>by
   rw[degL_cons]
   rcases List.mem_cons.1 h1 with r1 | h1
   ·rcases List.mem_cons.1 h2 with r2 | h2
    ·exact absurd (r1.trans r2.symm) hne
    ·have:=degL_mem (v:=v) h2
     rw[r1];omega
   ·rcases List.mem_cons.1 h2 with r2 | h2
    ·have:=degL_mem (v:=v) h1
     rw[r2];omega
    ·have:=degL_two (v:=v) hne h1 h2;omega
theorem deg_uniq {es:List EdD} {v l m:Int} (hl: -3≤l∧l≤3) (hm: -3≤m∧m≤3) (hd:degL es v≤1) (h1:0≤nextV es v l) (h2:0≤nextV es v m):l=m:=by
 obtain⟨e1,he1,m1⟩:=nextV_mem h1
 obtain⟨e2,he2,m2⟩:=nextV_mem h2
 have p1:=degE_pos hl m1
 have p2:=degE_pos hm m2
 by_cases he:e1=e2
 ·subst he
  have hd1:=degL_mem (v:=v) he1
  unfold degE at hd1
  rcases(mt_iff hl).1 m1 with ⟨a1,a2,a3,a4⟩ | ⟨a1,a2,a3,a4⟩<;>rcases(mt_iff hm).1 m2 with ⟨b1,b2,b3,b4⟩ | ⟨b1,b2,b3,b4⟩
  ·omega
  ·rw[if_pos a3,if_pos b3] at hd1;omega
  ·rw[if_pos a3,if_pos b3] at hd1;omega
  ·omega
 ·have:=degL_two (v:=v) he he1 he2
  omega
theorem leafFrom_leaf (es:List EdD) (n:Nat): ∀f v:Nat,0≤leafFrom es n f v→leafB es (leafFrom es n f v).toNat=true
 | 0,v,h=>by unfold leafFrom at h;exact absurd h (by decide)
 | f+1,v,h=>by
   unfold leafFrom at h⊢
   split
   ·rename_i hv
    rw[if_pos hv] at h
    split
    ·rename_i hb;simpa using hb
    ·rename_i hb
     rw[if_neg hb] at h
     exact leafFrom_leaf es n f (v+1) h
   ·rename_i hv
    rw[if_neg hv] at h
    exact absurd h (by decide)
theorem Sub.leaf {g:GrD} (hf:foldB g=true) (hl:0≤leafV g.2.2 g.2.1.toNat):Sub (rnG g (delO g.2.1.toNat (leafV g.2.2 g.2.1.toNat))) g (ov (delO g.2.1.toNat (leafV g.2.2 g.2.1.toNat)))∧ov (delO g.2.1.toNat (leafV g.2.2 g.2.1.toNat)) 0=0:=by
 obtain⟨hg,hfo⟩:=foldB_parts hf
 have hsz:=(grB_parts hg).2.1
 have hr:=leafV_range g.2.2 g.2.1.toNat
 have hlf:=leafFrom_leaf g.2.2 g.2.1.toNat _ _ hl
 change leafB g.2.2 (leafV g.2.2 g.2.1.toNat).toNat=true at hlf
 generalize leafV g.2.2 g.2.1.toNat=u at*
 have hok:=delO_ok (n:=g.2.1.toNat) (x:=u) (by omega) (by omega)
 rw[show((g.2.1.toNat:Nat):Int)=g.2.1 by omega] at hok
 have hz:ov (delO g.2.1.toNat u) 0=0:=by
  have:=hok.2.2
  unfold ov
  simp[List.getD,this]
 refine⟨Sub.rn hf hok.toN (by rw[hz];exact .base) ?_,hz⟩
 intro v hv hc l w hll hlw hn h0 hm
 have hyu:nextV g.2.2 v l=u:=Classical.byContradiction fun hne=>by
  rcases nextV_range hg v l with e | ⟨e1,e2⟩
  ·omega
  ·exact hm (delO_mem.2 ⟨⟨e1,by omega⟩,hne⟩)
 have hcu:=conn_next hll hc h0
 rw[hyu] at hcu hm⊢
 have hd:degL g.2.2 u<2:=by
  unfold leafB at hlf
  rw[show((u.toNat:Nat):Int)=u by omega,Bool.or_eq_true,decide_eq_true_eq] at hlf
  rcases hlf with h | h
  ·exact h
  ·rw[hasB_iff.2 ((reachL_mem _ _ _).2 hcu)] at h
   cases h
 cases w with
 | nil=>exact hm
 | cons m w=>
   have hml:=hlw m (by simp)
   rw[walkF_cons]
   by_cases hnm:nextV g.2.2 u m<0
   ·rw[if_pos hnm]
    intro q
    have:=(delO_mem.1 q).1
    omega
   ·have hb:=nextV_back hg hfo hll h0
    rw[hyu] at hb
    have hv0:=(hok.2.1 v hv).1
    have:=deg_uniq hml (m:= -l) (by omega) (by omega:degL g.2.2 u≤1) (by omega) (by rw[hb];exact hv0)
    exact absurd this hn.1
theorem Sub.trimF: ∀(f:Nat) (g:GrD) (l:List Int),foldB g=true→ ∃s,Sub (trimF f g l).1 g s∧s 0=0
 | 0,g,l,_=>⟨id,Sub.refl,rfl⟩
 | f+1,g,l,hf=>by
   unfold Go.Proofs.YtfadnkjlilhneaaGreat.trimF
   split
   ·exact⟨id,Sub.refl,rfl⟩
   ·rename_i hn
    obtain⟨hg,hfo⟩:=foldB_parts hf
    obtain⟨s1,z1⟩:=Sub.leaf hf (by omega)
    have hsz:=(grB_parts hg).2.1
    have hr:=leafV_range g.2.2 g.2.1.toNat
    have hok:=delO_ok (n:=g.2.1.toNat) (x:=leafV g.2.2 g.2.1.toNat) (by omega) (by omega)
    rw[show((g.2.1.toNat:Nat):Int)=g.2.1 by omega] at hok
    have hf2:=foldB_rnG hf hok
    obtain⟨s,hs,hz⟩:=Sub.trimF f _ (l.take (leafV g.2.2 g.2.1.toNat).toNat++l.drop ((leafV g.2.2 g.2.1.toNat).toNat+1)) hf2
    obtain⟨ga,fa⟩:=foldB_parts hf2
    obtain⟨gb,fb⟩:=foldB_parts (trimF_fold f _ (l.take (leafV g.2.2 g.2.1.toNat).toNat++l.drop ((leafV g.2.2 g.2.1.toNat).toNat+1)) hf2)
    exact⟨_,hs.trans s1 gb fb ga fa hg,by rw[hz,z1]⟩
theorem cstep_sub (es:List EdD) (u:Int) (o:List Int) (x:Int) {y:Int} (h:y∈o):y∈cstep es u o x:=by
 unfold cstep
 split
 ·split
  ·exact h
  ·exact List.mem_append.2 (.inl h)
 ·exact h
theorem cfold_sub (es:List EdD) (u:Int): ∀(ls:List Int) (o:List Int) {y:Int},y∈o→y∈ls.foldl (cstep es u) o
 | [],_,_,h=>h
 | x::ls,o,_,h=>cfold_sub es u ls _ (cstep_sub es u o x h)
theorem cfold_has (es:List EdD) (u:Int): ∀(ls:List Int) (o:List Int) (x:Int),x∈ls→0≤nextV es u x→nextV es u x∈ls.foldl (cstep es u) o
 | a::ls,o,x,hx,h=>by
   rw[List.foldl_cons]
   rcases List.mem_cons.1 hx with rfl | hx
   ·refine cfold_sub es u ls _ ?_
    unfold cstep
    rw[if_pos h]
    split
    ·rename_i hb;exact hasB_iff.1 hb
    ·exact List.mem_append.2 (.inr (by simp))
   ·exact cfold_has es u ls _ x hx h
theorem canF_closed {g:GrD} (hg:grB g=true) (ls:List Int): ∀(f i:Nat) (o:List Int),OrdOk g.2.1 o→41≤f+i→
  (∀(j:Nat) (v:Int),j<i→o[j]? =some v→ ∀x∈ls,0≤nextV g.2.2 v x→nextV g.2.2 v x∈o)→
  ∀v∈canF g.2.2 ls f i o,∀x∈ls,0≤nextV g.2.2 v x→nextV g.2.2 v x∈canF g.2.2 ls f i o
 | 0,i,o,hok,hi,hc=>by
   have hl:=hok.len (grB_parts hg).2.1.2 (by have:=(grB_parts hg).2.1.1;omega)
   intro v hv x hx h0
   obtain⟨j,hj,rfl⟩:=List.getElem_of_mem hv
   exact hc j _ (by have:(canF g.2.2 ls 0 i o).length=o.length:=rfl;omega) (List.getElem?_eq_getElem hj) x hx h0
 | f+1,i,o,hok,hi,hc=>by
   have hl:=hok.len (grB_parts hg).2.1.2 (by have:=(grB_parts hg).2.1.1;omega)
   by_cases hil:i<o.length
   ·rw[canF_step _ _ _ _ _ hil]
    refine canF_closed hg ls f (i+1) _ (cfold_ok hg ls hok) (by omega) ?_
    intro j v hj hv x hx h0
    by_cases hji:j<i
    ·have hjo:j<o.length:=by omega
     have e:=cfold_prefix g.2.2 o[i] ls o j _ (List.getElem?_eq_getElem hjo)
     rw[hv] at e
     injection e with e
     subst e
     exact cfold_sub _ _ _ _ (hc j _ hji (List.getElem?_eq_getElem hjo) x hx h0)
    ·obtain rfl:j=i:=by omega
     have e:=cfold_prefix g.2.2 o[j] ls o j _ (List.getElem?_eq_getElem hil)
     rw[hv] at e
     injection e with e
     subst e
     exact cfold_has _ _ _ _ _ hx h0
   ·have e:canF g.2.2 ls (f+1) i o=o:=by
     rw[canF,List.getElem?_eq_none (by omega)]
    rw[e]
    intro v hv x hx h0
    obtain⟨j,hj,rfl⟩:=List.getElem_of_mem hv
    exact hc j _ (by omega) (List.getElem?_eq_getElem hj) x hx h0
theorem canO_closed {g:GrD} (hg:grB g=true) {v x:Int} (hv:v∈canO g) (hx: -3≤x∧x≤3) (h0:0≤nextV g.2.2 v x):nextV g.2.2 v x∈canO g:=
 canF_closed hg _ 41 0 [0] (OrdOk.one (grB_parts hg).2.1.1) (by omega) (fun j _ hj=>by omega) v hv x (next_letter hg hx h0) h0
theorem ov_zero {n:Int} {o:List Int} (h:OrdOk n o):ov o 0=0:=by
 have:=h.2.2
 unfold ov
 simp[List.getD,this]
theorem Sub.can {g:GrD} (hf:foldB g=true):Sub (canG g) g (ov (canO g)):=by
 obtain⟨hg,hfo⟩:=foldB_parts hf
 have hok:=canO_ok hg
 refine Sub.rn hf hok.toN (by rw[ov_zero hok];exact .base) ?_
 intro v hv hc l w hl hlw hn h0 hm
 exact absurd (canO_closed hg hv hl h0) hm
theorem foL_of_fol {es:List EdD} (h:Fol es):foL es= []:=by
 cases e:foL es with
 | nil=>rfl
 | cons f l=>
   obtain⟨i,k,hi,hk,hf⟩:=foL_from (show f∈foL es by rw[e];simp)
   have hc:=List.pairwise_iff_getElem.1 h i k (by omega) hk hi
   unfold clash at hc
   unfold fo2 at hf
   rw[Bool.eq_false_iff] at hc
   rcases List.mem_append.1 hf with hf | hf
   ·split at hf
    ·rename_i q
     exact absurd (by simp[q.1,q.2]) hc
    ·cases hf
   ·split at hf
    ·rename_i q
     exact absurd (by simp[q.1,q.2]) hc
    ·cases hf
theorem folA_fol {g:GrD} (hf:foldB g=true):folA g=g:=folF_nil (foL_of_fol (foldB_parts hf).2) _
theorem foldB_canG {g:GrD} (hf:foldB g=true):foldB (canG g)=true:=foldB_rnG hf (canO_ok (foldB_parts hf).1)
theorem Sub.core {g:GrD} (hf:foldB g=true): ∃s,Sub (coreG g) g s∧s 0=0:=by
 obtain⟨hg,hfo⟩:=foldB_parts hf
 unfold coreG
 rw[folA_fol hf]
 obtain⟨s,hs,hz⟩:=Sub.trimF g.2.1.toNat g ((List.range g.2.1.toNat).map fun v=>((v:Nat):Int)) hf
 have ht:=trimG_fold hf
 obtain⟨ga,fa⟩:=foldB_parts ht
 obtain⟨gb,fb⟩:=foldB_parts (foldB_canG ht)
 exact⟨_,(Sub.can ht).trans hs gb fb ga fa hg,by rw[ov_zero (canO_ok ga),hz]⟩
theorem core_fold {g:GrD} (h:coreB g=true):foldB g=true:=by
 unfold coreB at h;simp only[Bool.and_eq_true] at h;exact h.1.1
structure GBx (w:World) (p base:Nat) (A:Option Addr) (c:Nat) (g:GrD):Prop where
 c0:w.cell? ⟨p,0,none⟩=some (.int .i64 g.1)
 c1:w.cell? ⟨p,1,none⟩=some (.int .i64 g.2.1)
 c2:w.cell? ⟨p,2,none⟩=some (.slice A g.2.2.length c)
 fz: ∀j,w.frozen? ⟨p,j,none⟩=false
 ow:OwE w base (.slice A g.2.2.length c) g.2.2
 ne: ∀b,(Value.slice A g.2.2.length c).ownBlock=some b→b≠p
 i1:I64 g.1
 i2:I64 g.2.1
 lt:p<w.heap.size
theorem GBx.below {w w':World} {p base:Nat} {A:Option Addr} {c:Nat} {g:GrD} (h:GBx w p base A c g) (hb:Below w.heap.size w w'):GBx w' p base A c g:=
 ⟨(hb.cell (p:=⟨p,0,none⟩) h.lt).trans h.c0,(hb.cell (p:=⟨p,1,none⟩) h.lt).trans h.c1,(hb.cell (p:=⟨p,2,none⟩) h.lt).trans h.c2,fun j=>(hb.frozen (p:=⟨p,j,none⟩) h.lt).trans (h.fz j),h.ow.below hb,h.ne,h.i1,h.i2,Nat.lt_of_lt_of_le h.lt hb.size⟩
theorem GBx.keep {w w':World} {p base:Nat} {A:Option Addr} {c:Nat} {g:GrD} (h:GBx w p base A c g) (hs:w.heap.size≤w'.heap.size) (hk: ∀b,b=p∨(Value.slice A g.2.2.length c).ownBlock=some b→w'.heap[b]? =w.heap[b]?):GBx w' p base A c g:=by
 have hp:=hk p (.inl rfl)
 exact⟨(World.cell?_of_block (w:=w) hp).trans h.c0,(World.cell?_of_block (w:=w) hp).trans h.c1,(World.cell?_of_block (w:=w) hp).trans h.c2,fun j=>(World.frozen?_of_block (w:=w) hp).trans (h.fz j),h.ow.keep fun b hb=>hk b (.inr hb),h.ne,h.i1,h.i2,Nat.lt_of_lt_of_le h.lt hs⟩
theorem GBx.grown {w w':World} {p base:Nat} {A:Option Addr} {c:Nat} {g:GrD} {row:Option Nat} (h:GBx w p base A c g) (hg:w.grownBy w' row) (h1: ∀b,row=some b→b≠p∧(Value.slice A g.2.2.length c).ownBlock≠some b):GBx w' p base A c g:=by
 refine h.keep hg.size fun b hb=> ?_
 have hlt:b<w.heap.size:=by
  rcases hb with rfl | hb
  ·exact h.lt
  ·exact(h.ow.1.lt b hb).2
 refine hg.block b hlt fun e=> ?_
 have:=h1 b e.symm
 rcases hb with rfl | hb
 ·exact this.1 rfl
 ·exact this.2 hb
theorem GBx.arg {w:World} {p base:Nat} {A:Option Addr} {c:Nat} {g:GrD} (h:GBx w p base A c g):ArgG w (.agg #[.int .i64 g.1, .int .i64 g.2.1, .slice A g.2.2.length c]) g:=⟨_,rfl,h.i1,h.i2,h.ow.arg⟩
theorem OwI.keepB {w w':World} {base:Nat} {s:Value} {xs:List Int} (h:OwI w base s xs) (hb: ∀b,s.ownBlock=some b→w'.heap[b]? =w.heap[b]?):OwI w' base s xs:=by
 refine⟨⟨h.1.1,?_⟩,h.2⟩
 rcases h.1.2 with h0 | ⟨g,cap,cur,hv,hg,hh,r⟩
 ·exact .inl h0
 ·exact .inr ⟨g,cap,cur,hv,hg,by rw[hb g (by rw[hv];rfl)];exact hh,r⟩
theorem GBx.set {w:World} {p base base':Nat} {A A':Option Addr} {c c':Nat} {g m:GrD} (h:GBx w p base A c g) (o:OwE w base' (.slice A' m.2.2.length c') m.2.2) (hn: ∀b,(Value.slice A' m.2.2.length c').ownBlock=some b→b≠p) (h1:I64 m.1) (h2:I64 m.2.1):
  GBx (((w.setCell ⟨p,0,none⟩ (.int .i64 m.1)).setCell ⟨p,1,none⟩ (.int .i64 m.2.1)).setCell ⟨p,2,none⟩ (.slice A' m.2.2.length c')) p base' A' c' m:=by
 obtain⟨e0,e1,e2⟩:=cells3F (.int .i64 m.1) (.int .i64 m.2.1) (.slice A' m.2.2.length c') h.c0 h.c1 h.c2
 refine⟨e0,e1,e2,fun j=>by rw[World.frozen?_setCell,World.frozen?_setCell,World.frozen?_setCell];exact h.fz j,?_,hn,h1,h2,by simpa using h.lt⟩
 refine o.keep fun b hb=> ?_
 have:=hn b hb
 rw[Below.heap_setCell _ _ _ b this,Below.heap_setCell _ _ _ b this,Below.heap_setCell _ _ _ b this]
structure CBx (w:World) (p:Nat) (x y z:Value):Prop where
 c0:w.cell? ⟨p,0,none⟩=some x
 c1:w.cell? ⟨p,1,none⟩=some y
 c2:w.cell? ⟨p,2,none⟩=some z
 fz: ∀j,w.frozen? ⟨p,j,none⟩=false
 lt:p<w.heap.size
theorem CBx.below {w w':World} {p:Nat} {x y z:Value} (h:CBx w p x y z) (hb:Below w.heap.size w w'):CBx w' p x y z:=
 ⟨(hb.cell (p:=⟨p,0,none⟩) h.lt).trans h.c0,(hb.cell (p:=⟨p,1,none⟩) h.lt).trans h.c1,(hb.cell (p:=⟨p,2,none⟩) h.lt).trans h.c2,fun j=>(hb.frozen (p:=⟨p,j,none⟩) h.lt).trans (h.fz j),Nat.lt_of_lt_of_le h.lt hb.size⟩
theorem CBx.other {w:World} {p q:Nat} {x y z a b c:Value} (h:CBx w p x y z) (hne:p≠q):CBx (((w.setCell ⟨q,0,none⟩ a).setCell ⟨q,1,none⟩ b).setCell ⟨q,2,none⟩ c) p x y z:=by
 have hp:(((w.setCell ⟨q,0,none⟩ a).setCell ⟨q,1,none⟩ b).setCell ⟨q,2,none⟩ c).heap[p]? =w.heap[p]? :=by
  rw[Below.heap_setCell _ _ _ p hne,Below.heap_setCell _ _ _ p hne,Below.heap_setCell _ _ _ p hne]
 exact⟨(World.cell?_of_block (w:=w) hp).trans h.c0,(World.cell?_of_block (w:=w) hp).trans h.c1,(World.cell?_of_block (w:=w) hp).trans h.c2,fun j=>(World.frozen?_of_block (w:=w) hp).trans (h.fz j),by simpa using h.lt⟩
theorem CBx.set {w:World} {p base':Nat} {x y z:Value} {A':Option Addr} {c':Nat} {m:GrD} (h:CBx w p x y z) (o:OwE w base' (.slice A' m.2.2.length c') m.2.2) (hn: ∀b,(Value.slice A' m.2.2.length c').ownBlock=some b→b≠p) (h1:I64 m.1) (h2:I64 m.2.1):
  GBx (((w.setCell ⟨p,0,none⟩ (.int .i64 m.1)).setCell ⟨p,1,none⟩ (.int .i64 m.2.1)).setCell ⟨p,2,none⟩ (.slice A' m.2.2.length c')) p base' A' c' m:=by
 obtain⟨e0,e1,e2⟩:=cells3F (.int .i64 m.1) (.int .i64 m.2.1) (.slice A' m.2.2.length c') h.c0 h.c1 h.c2
 refine⟨e0,e1,e2,fun j=>by rw[World.frozen?_setCell,World.frozen?_setCell,World.frozen?_setCell];exact h.fz j,?_,hn,h1,h2,by simpa using h.lt⟩
 refine o.keep fun b hb=> ?_
 have:=hn b hb
 rw[Below.heap_setCell _ _ _ b this,Below.heap_setCell _ _ _ b this,Below.heap_setCell _ _ _ b this]
theorem CBx.new {w W:World} {x y z:Value} {t:TypeId} (hW:W=w.alloc (.cells #[x,y,z] t)):CBx W w.heap.size x y z∧Below w.heap.size w W∧W.heap.size=w.heap.size+1:=by
 refine⟨⟨by rw[hW];simp[go_sem],by rw[hW];simp[go_sem],by rw[hW];simp[go_sem],fun j=>by rw[hW];simp[go_sem],by rw[hW];simp⟩,by rw[hW];exact(Below.refl _ _).alloc (Nat.le_refl _) _,by rw[hW];simp⟩
theorem GBx.cbx {w:World} {p base:Nat} {A:Option Addr} {c:Nat} {g:GrD} (h:GBx w p base A c g):CBx w p (.int .i64 g.1) (.int .i64 g.2.1) (.slice A g.2.2.length c):=⟨h.c0,h.c1,h.c2,h.fz,h.lt⟩
theorem set3_heap (w:World) (p:Nat) (x y z:Value) {b:Nat} (h:b≠p):(((w.setCell ⟨p,0,none⟩ x).setCell ⟨p,1,none⟩ y).setCell ⟨p,2,none⟩ z).heap[b]? =w.heap[b]? :=by
 rw[Below.heap_setCell _ _ _ b h,Below.heap_setCell _ _ _ b h,Below.heap_setCell _ _ _ b h]
theorem set3_below {w0 w:World} {n p:Nat} (x y z:Value) (h:Below n w0 w) (hp:n≤p):Below n w0 (((w.setCell ⟨p,0,none⟩ x).setCell ⟨p,1,none⟩ y).setCell ⟨p,2,none⟩ z):=((h.setCell hp _).setCell hp _).setCell hp _
theorem GBx.new {w W:World} {base:Nat} {A:Option Addr} {c:Nat} {m:GrD} {t:TypeId} (o:OwE w base (.slice A m.2.2.length c) m.2.2) (h1:I64 m.1) (h2:I64 m.2.1) (hW:W=w.alloc (.cells #[.int .i64 m.1, .int .i64 m.2.1, .slice A m.2.2.length c] t)):
  GBx W w.heap.size base A c m:=by
 have hb:Below w.heap.size w W:=by rw[hW];exact(Below.refl _ _).alloc (Nat.le_refl _) _
 exact⟨by rw[hW];simp[go_sem],by rw[hW];simp[go_sem],by rw[hW];simp[go_sem],fun j=>by rw[hW];simp[go_sem],o.below hb,fun b hb=>by have:=(o.1.lt b hb).2;omega,h1,h2,by rw[hW];simp⟩
theorem GBx.mono {w:World} {p base base':Nat} {A:Option Addr} {c:Nat} {g:GrD} (h:GBx w p base A c g) (hb:base'≤base):GBx w p base' A c g:=
 ⟨h.c0,h.c1,h.c2,h.fz,h.ow.mono hb,h.ne,h.i1,h.i2,h.lt⟩
end Go.Proofs.YtfadnkjlilhneaaGreat
