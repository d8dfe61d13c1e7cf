/- Parts of the proof: FoldK, Mov, Core, InsI. -/
import Derived.Test.YtnjpoljbagfdnaaGreatP05
import Derived.Test.YtnjpoljbagfdnaaGreatP02
import Derived.Deep.RegionHeld3
import Derived.Outline
import Derived.Test.YtnjpoljbagfdnaaGreatP04
import Derived.Test.YtnjpoljbagfdnaaGreatP03
import Derived.Test.YtnjpoljbagfdnaaGreatP01
set_option maxRecDepth 100000
set_option maxHeartbeats 16000000
set_option linter.unusedVariables false
set_option linter.unusedSimpArgs false
namespace Go.Proofs.YtnjpoljbagfdnaaGreat
open Go.RowKit
open _root_.Nat renaming le_refl→zaa,lt_succ_self→zaj,zero_le→zak,le_trans→zaz,zero_add→zaB
open Go.RowKit.Below renaming refl→zab,drew→zao
open _root_.List renaming getElem?_eq_getElem→zac,take_length→zaf,take_succ_eq_append_getElem→zag,getElem_mem→zah,all_eq_true→zai,length_append→zal,mem_singleton→zam,length_singleton→zan,length_filter_le→zaq,mem_of_getElem?→zar,mem_append→zas,getElem?_eq_some_iff→zat,mem_filter→zav,length_map→zaC,replicate→zaD,getElem_of_mem→zaE,length_cons→zaG,length_take→zaH,length_nil→zaI
open Go.Value renaming ownBlock→zad,slice→zap
open Go.World renaming cell?_of_block→zae,frozen?_setCell→zau,ownsRow→zaw
open _root_.Bool renaming eq_false_iff→zax,and_eq_true→zaA
open _root_.Int renaming toNat_natCast→zay,le_refl→zaF
open _root_.Option renaming some→zaJ
def sLen:Value→Nat
 | .slice _ n _=>n
 | _=>0
theorem qFW (v:Value) (g:GrD) (w:World) (h:ArgG w v g) (hg:grB g=true):
  Calls Tryz.prog 228 #[v] w fun e w'=> ∃r,e= .returned (.tuple #[r, .agg #[.int .i64 (firF g).1.1, .int .i64 (firF g).1.2], .bool (firF g).2])∧OwG w' w.heap.size r (qDL g)∧Below w.heap.size w w':=by
 have HG:=qA h;have aH:=qA hg;have uo:=qA fun f (hf:f∈foL g.2.2)=>qHC hg hf;have aQ:=(qB hg).2.2.1;obtain⟨s,rfl,aT,aS,ha⟩:=h;obtain⟨A,cap,rfl⟩:=ha.form;obtain⟨g1,N,es⟩:=g;simp only at*
 clear ha hg;go_enter Tryz.func228,Tryz.ntmps228
 have bx:Below w.heap.size w (((w.alloc (.cells #[.int .i64 g1,.int .i64 N, .slice A es.length cap] 26)).alloc (.cells #[.int .i64 0,.int .i64 0, .slice none 0 0] 26)).alloc (.cells #[.int .i64 0,.int .i64 0] 106)):=(by repeat(first | exact .refl _ _ | (refine BxS ?_ _) | (refine qD ?_ _) | (refine zao ?_) | (refine BxA ?_ _)));go_wp2_with fail;obtain⟨W,hW⟩: ∃W,W=(((w.alloc (.cells #[.int .i64 g1,.int .i64 N, .slice A es.length cap] 26)).alloc (.cells #[.int .i64 0,.int .i64 0, .slice none 0 0] 26)).alloc (.cells #[.int .i64 0,.int .i64 0] 106)):=⟨_,rfl⟩;rw[←hW] at bx⊢;have aW:W.heap.size=w.heap.size+3:=by rw[hW];simp
 have L0:Hid (W.cell? ⟨w.heap.size,0,none⟩=some (.int .i64 g1)):=qA (by rw[hW];simp[go_sem]);have L1:Hid (W.cell? ⟨w.heap.size,1,none⟩=some (.int .i64 N)):=qA (by rw[hW];simp[go_sem]);have L2:Hid (W.cell? ⟨w.heap.size,2,none⟩=some (.slice A es.length cap)):=qA (by rw[hW];simp[go_sem]);have R0:Hid (W.cell? ⟨w.heap.size+1,0,none⟩=some (.int .i64 0)):=qA (by rw[hW];simp[go_sem]);have R1:Hid (W.cell? ⟨w.heap.size+1,1,none⟩=some (.int .i64 0)):=qA (by rw[hW];simp[go_sem]);have R2:Hid (W.cell? ⟨w.heap.size+1,2,none⟩=some (.slice none 0 0)):=qA (by rw[hW];simp[go_sem]);have S0:Hid (W.cell? ⟨w.heap.size+1+1,0,none⟩=some (.int .i64 0)):=qA (by rw[hW];simp[go_sem]);have S1:Hid (W.cell? ⟨w.heap.size+1+1,1,none⟩=some (.int .i64 0)):=qA (by rw[hW];simp[go_sem]);have RF:Hid (∀j,W.frozen? ⟨w.heap.size+1,j,none⟩=false):=qA fun j=>by rw[hW];simp[go_sem]
 have SF:Hid (∀j,W.frozen? ⟨w.heap.size+1+1,j,none⟩=false):=qA fun j=>by rw[hW];simp[go_sem]
 have BX:=qA bx;have HA:Hid (∀w',Below W.heap.size W w'→ArgG w' (.agg #[.int .i64 g1, .int .i64 N, .slice A es.length cap]) (g1,N,es)):=qA fun w' hb=>HG.out.below (BX.out.trans (hb.mono BX.out.size));have bH:Hid (∀w',Below W.heap.size W w'→w'.cell? ⟨w.heap.size,0,none⟩=some (.int .i64 g1)∧w'.cell? ⟨w.heap.size,1,none⟩=some (.int .i64 N)∧w'.cell? ⟨w.heap.size,2,none⟩=some (.slice A es.length cap)):=qA fun w' hb=>
  ⟨(hb.cell (p:=⟨w.heap.size,0,none⟩) (by show w.heap.size<_;omega)).trans L0.out,(hb.cell (p:=⟨w.heap.size,1,none⟩) (by show w.heap.size<_;omega)).trans L1.out,(hb.cell (p:=⟨w.heap.size,2,none⟩) (by show w.heap.size<_;omega)).trans L2.out⟩
 have pT:Hid (∀w',Below W.heap.size W w'→w'.cell? ⟨w.heap.size+1,0,none⟩=some (.int .i64 0)∧w'.cell? ⟨w.heap.size+1,1,none⟩=some (.int .i64 0)∧w'.cell? ⟨w.heap.size+1,2,none⟩=some (.slice none 0 0)∧w'.cell? ⟨w.heap.size+1+1,0,none⟩=some (.int .i64 0)∧w'.cell? ⟨w.heap.size+1+1,1,none⟩=some (.int .i64 0)∧(∀j,w'.frozen? ⟨w.heap.size+1,j,none⟩=false)∧(∀j,w'.frozen? ⟨w.heap.size+1+1,j,none⟩=false)):=qA fun w' hb=>
  ⟨(hb.cell (p:=⟨w.heap.size+1,0,none⟩) (by show w.heap.size+1<_;omega)).trans R0.out,(hb.cell (p:=⟨w.heap.size+1,1,none⟩) (by show w.heap.size+1<_;omega)).trans R1.out,(hb.cell (p:=⟨w.heap.size+1,2,none⟩) (by show w.heap.size+1<_;omega)).trans R2.out,(hb.cell (p:=⟨w.heap.size+1+1,0,none⟩) (by show w.heap.size+1+1<_;omega)).trans S0.out,(hb.cell (p:=⟨w.heap.size+1+1,1,none⟩) (by show w.heap.size+1+1<_;omega)).trans S1.out,fun j=>(hb.frozen (p:=⟨w.heap.size+1,j,none⟩) (by show w.heap.size+1<_;omega)).trans (RF.out j),fun j=>(hb.frozen (p:=⟨w.heap.size+1+1,j,none⟩) (by show w.heap.size+1+1<_;omega)).trans (SF.out j)⟩
 clear hW bx L0 L1 L2 R0 R1 R2 S0 S1 RF SF;refine(qFD _ (g1,N,es) W (HA.out _ (zab _ _))).mono ?_
 rintro e w1 ⟨rfl,b1⟩;have B1:=qA b1;have aw:=b1.size;clear b1;rcases ef:foL es with _ | ⟨f,l⟩
 ·have F:Hid (firF (g1,N,es)=((0,0),false)):=qA (by unfold firF;rw[if_pos aH.out];simp only[ef]);have FO:Hid (qDL (g1,N,es)=(g1,N,es)):=qA (by unfold qDL;simp only[ef]);clear ef;rw[F.out];simp only
  have bA:Below w1.heap.size w1 (w1.alloc (.cells #[.int .i64 0,.int .i64 0] 106)):=(zab _ _).alloc (zaa _) _;have BA:=qA (B1.out.trans (bA.mono aw));obtain⟨q0,q1,q2⟩:=bH.out _ BA.out;go_wp2_with fail;refine(qBL _ (g1,N,es) _ (HA.out _ BA.out) (by simp only;omega)).mono ?_
  rintro e w2 ⟨r,rfl,o2,b2⟩;have B2:=qA (BA.out.trans (b2.mono BA.out.size));have O2:=qA o2;obtain⟨s2,rfl,_,_,cB⟩:=o2;obtain⟨A2,c2,rfl,_⟩:=cB.form;have eK:=qA cB;have tf:=BA.out.size;obtain⟨r0,r1,r2,s0,s1,rf,sf⟩:=pT.out w2 B2.out;have eu:=rf 0;have eE:=rf 1;have eG:=rf 2;have Dz:=sf 0;have Em:=sf 1;have aj:=qA (BX.out.trans (B2.out.mono BX.out.size));clear b2 cB rf sf q0 q1 q2 bA;go_wp2;obtain⟨c0,c1,gS⟩:=qi (.int .i64 g1) (.int .i64 N) (.slice A2 es.length c2) r0 r1 r2;have bU:w.heap.size+1≠w.heap.size+1+1:=tO;have eB:w.heap.size+1+1≠w.heap.size+1:=tO;have d0:=qJ (o':=1) (u:= .int .i64 0) bU (qJ (o':=0) (u:= .int .i64 0) bU c0);have d1:=qJ (o':=1) (u:= .int .i64 0) bU (qJ (o':=0) (u:= .int .i64 0) bU c1);have d2:=qJ (o':=1) (u:= .int .i64 0) bU (qJ (o':=0) (u:= .int .i64 0) bU gS);obtain⟨e0,e1⟩:=qEB (.int .i64 0) (.int .i64 0) (qJ (o':=2) (u:= .slice A2 es.length c2) eB (qJ (o':=1) (u:= .int .i64 N) eB (qJ (o':=0) (u:= .int .i64 g1) eB s0))) (qJ (o':=2) (u:= .slice A2 es.length c2) eB (qJ (o':=1) (u:= .int .i64 N) eB (qJ (o':=0) (u:= .int .i64 g1) eB s1)));have bw:Below w.heap.size w (((((w2.setCell ⟨w.heap.size+1,0,none⟩ (.int .i64 g1)).setCell ⟨w.heap.size+1,1,none⟩ (.int .i64 N)).setCell ⟨w.heap.size+1,2,none⟩ (.slice A2 es.length c2)).setCell ⟨w.heap.size+1+1,0,none⟩ (.int .i64 0)).setCell ⟨w.heap.size+1+1,1,none⟩ (.int .i64 0)):=(((((aj.out.setCell (by simp<;>omega) _).setCell (by simp<;>omega) _).setCell (by simp<;>omega) _).setCell (by simp<;>omega) _).setCell (by simp<;>omega) _);have ow:OwE (((((w2.setCell ⟨w.heap.size+1,0,none⟩ (.int .i64 g1)).setCell ⟨w.heap.size+1,1,none⟩ (.int .i64 N)).setCell ⟨w.heap.size+1,2,none⟩ (.slice A2 es.length c2)).setCell ⟨w.heap.size+1+1,0,none⟩ (.int .i64 0)).setCell ⟨w.heap.size+1+1,1,none⟩ (.int .i64 0)) _ (.slice A2 es.length c2) es:=(((((eK.out.far (by show w.heap.size+1<_;omega) _).far (by show w.heap.size+1<_;omega) _).far (by show w.heap.size+1<_;omega) _).far (by show w.heap.size+1+1<_;omega) _).far (by show w.heap.size+1+1<_;omega) _);generalize (((((w2.setCell ⟨w.heap.size+1,0,none⟩ (.int .i64 g1)).setCell ⟨w.heap.size+1,1,none⟩ (.int .i64 N)).setCell ⟨w.heap.size+1,2,none⟩ (.slice A2 es.length c2)).setCell ⟨w.heap.size+1+1,0,none⟩ (.int .i64 0)).setCell ⟨w.heap.size+1+1,1,none⟩ (.int .i64 0))=wf at*;rw[FO.out,F.out];exact bodyPost_ret (v:= .tuple #[.agg #[.int .i64 g1, .int .i64 N, .slice A2 es.length c2], .agg #[.int .i64 0, .int .i64 0], .bool false]) (by simp[results,Tryz.results228,go_sem,d0,d1,d2,e0,e1]) rfl ⟨_,rfl,⟨.slice A2 es.length c2,rfl,aT,aS,ow.mono tO⟩,bw⟩
 ·have F:Hid (firF (g1,N,es)=(f,true)):=qA (by unfold firF;rw[if_pos aH.out];simp only[ef]);have FO:Hid (qDL (g1,N,es)=merG (g1,N,es) f):=qA (by unfold qDL;simp only[ef]);have fQ:=uo.out f (by rw[ef];simp);clear ef;rw[F.out];obtain⟨fa,fb⟩:=f;simp only
  have bA:Below w1.heap.size w1 (w1.alloc (.cells #[.int .i64 fa,.int .i64 fb] 106)):=(zab _ _).alloc (zaa _) _;have BA:=qA (B1.out.trans (bA.mono aw));obtain⟨q0,q1,q2⟩:=bH.out _ BA.out;go_wp2_with fail;obtain⟨WA,dK⟩: ∃W,W=w1.alloc (.cells #[.int .i64 fa,.int .i64 fb] 106):=⟨_,rfl⟩;have k0:Hid (WA.cell? ⟨w1.heap.size,0,none⟩=some (.int .i64 fa)):=qA (by rw[dK];simp[go_sem]);have k1:Hid (WA.cell? ⟨w1.heap.size,1,none⟩=some (.int .i64 fb)):=qA (by rw[dK];simp[go_sem]);have tf:WA.heap.size=w1.heap.size+1:=by rw[dK];simp
  rw[←dK] at BA q0 q1 q2⊢;clear dK bA;refine(qDY _ (g1,N,es) (fa,fb) WA (HA.out _ BA.out) aH.out fQ).mono ?_
  rintro e w2 ⟨r,rfl,o2,b2⟩;have B2:=qA (BA.out.trans (b2.mono BA.out.size));have cT:=b2.size;obtain⟨s2,rfl,bV,ce,cB⟩:=o2;obtain⟨A2,c2,rfl,_⟩:=cB.form;have eK:=qA cB;have l0:=(b2.cell (p:=⟨w1.heap.size,0,none⟩) (by show w1.heap.size<_;omega)).trans k0.out;have l1:=(b2.cell (p:=⟨w1.heap.size,1,none⟩) (by show w1.heap.size<_;omega)).trans k1.out;clear b2 cB q0 q1 q2;generalize Bj:merG (g1,N,es) (fa,fb)=M at*;obtain⟨m1,m2,ms⟩:=M;simp only at bV ce
  have nr:=qA Bj;clear Bj;go_wp2_with fail;have bB:Below w2.heap.size w2 (w2.alloc (.cells #[.int .i64 m1,.int .i64 m2, .slice A2 ms.length c2] 26)):=(zab _ _).alloc (zaa _) _;obtain⟨WB,dY⟩: ∃W,W=w2.alloc (.cells #[.int .i64 m1,.int .i64 m2, .slice A2 ms.length c2] 26):=⟨_,rfl⟩;have x0:WB.cell? ⟨w2.heap.size,0,none⟩=some (.int .i64 m1):=by rw[dY];simp[go_sem]
  have x1:WB.cell? ⟨w2.heap.size,1,none⟩=some (.int .i64 m2):=by rw[dY];simp[go_sem]
  have x2:WB.cell? ⟨w2.heap.size,2,none⟩=some (.slice A2 ms.length c2):=by rw[dY];simp[go_sem]
  have Me:WB.heap.size=w2.heap.size+1:=by rw[dY];simp
  rw[←dY] at bB⊢;clear dY;have y0:=(bB.cell (p:=⟨w1.heap.size,0,none⟩) (by show w1.heap.size<_;omega)).trans l0;have y1:=(bB.cell (p:=⟨w1.heap.size,1,none⟩) (by show w1.heap.size<_;omega)).trans l1;have BB:=qA (B2.out.trans (bB.mono B2.out.size));have OEB:=qA (eK.out.below bB);obtain⟨r0,r1,r2,s0,s1,rf,sf⟩:=pT.out WB BB.out;have eu:=rf 0;have eE:=rf 1;have eG:=rf 2;have Dz:=sf 0;have Em:=sf 1;have bU:w.heap.size+1≠w2.heap.size:=tO;have eB:w.heap.size+1+1≠w2.heap.size:=tO;have Gj:w.heap.size+1≠w1.heap.size:=tO;have GR:w.heap.size+1+1≠w1.heap.size:=tO;have aj:=qA (BX.out.trans (BB.out.mono BX.out.size));clear rf sf l0 l1 bB;go_region_held3 (fun w'=>w'.cell? ⟨w2.heap.size,0,none⟩=some (.int .i64 m1)∧w'.cell? ⟨w2.heap.size,1,none⟩=some (.int .i64 m2)∧w'.cell? ⟨w2.heap.size,2,none⟩=some (.slice A2 ms.length c2)∧w'.cell? ⟨w1.heap.size,0,none⟩=some (.int .i64 fa)∧w'.cell? ⟨w1.heap.size,1,none⟩=some (.int .i64 fb))
   (first | go_keep | (simp[go_sem, *];done))
   (fail)
  go_wp2;obtain⟨c0,c1,gS⟩:=qi (.int .i64 m1) (.int .i64 m2) (.slice A2 ms.length c2) r0 r1 r2;have fv:w.heap.size+1≠w.heap.size+1+1:=tO;have fo:w.heap.size+1+1≠w.heap.size+1:=tO;have d0:=qJ (o':=1) (u:= .int .i64 fb) fv (qJ (o':=0) (u:= .int .i64 fa) fv c0);have d1:=qJ (o':=1) (u:= .int .i64 fb) fv (qJ (o':=0) (u:= .int .i64 fa) fv c1);have d2:=qJ (o':=1) (u:= .int .i64 fb) fv (qJ (o':=0) (u:= .int .i64 fa) fv gS);obtain⟨e0,e1⟩:=qEB (.int .i64 fa) (.int .i64 fb) (qJ (o':=2) (u:= .slice A2 ms.length c2) fo (qJ (o':=1) (u:= .int .i64 m2) fo (qJ (o':=0) (u:= .int .i64 m1) fo s0))) (qJ (o':=2) (u:= .slice A2 ms.length c2) fo (qJ (o':=1) (u:= .int .i64 m2) fo (qJ (o':=0) (u:= .int .i64 m1) fo s1)));have bw:Below w.heap.size w (((((WB.setCell ⟨w.heap.size+1,0,none⟩ (.int .i64 m1)).setCell ⟨w.heap.size+1,1,none⟩ (.int .i64 m2)).setCell ⟨w.heap.size+1,2,none⟩ (.slice A2 ms.length c2)).setCell ⟨w.heap.size+1+1,0,none⟩ (.int .i64 fa)).setCell ⟨w.heap.size+1+1,1,none⟩ (.int .i64 fb)).drew:=(((((aj.out.setCell (by simp<;>omega) _).setCell (by simp<;>omega) _).setCell (by simp<;>omega) _).setCell (by simp<;>omega) _).setCell (by simp<;>omega) _).drew;have ow:OwE (((((WB.setCell ⟨w.heap.size+1,0,none⟩ (.int .i64 m1)).setCell ⟨w.heap.size+1,1,none⟩ (.int .i64 m2)).setCell ⟨w.heap.size+1,2,none⟩ (.slice A2 ms.length c2)).setCell ⟨w.heap.size+1+1,0,none⟩ (.int .i64 fa)).setCell ⟨w.heap.size+1+1,1,none⟩ (.int .i64 fb)).drew _ (.slice A2 ms.length c2) ms:=(((((OEB.out.far (by show w.heap.size+1<_;omega) _).far (by show w.heap.size+1<_;omega) _).far (by show w.heap.size+1<_;omega) _).far (by show w.heap.size+1+1<_;omega) _).far (by show w.heap.size+1+1<_;omega) _).drew;generalize (((((WB.setCell ⟨w.heap.size+1,0,none⟩ (.int .i64 m1)).setCell ⟨w.heap.size+1,1,none⟩ (.int .i64 m2)).setCell ⟨w.heap.size+1,2,none⟩ (.slice A2 ms.length c2)).setCell ⟨w.heap.size+1+1,0,none⟩ (.int .i64 fa)).setCell ⟨w.heap.size+1+1,1,none⟩ (.int .i64 fb))=wf at*;have F8:wf.drew.cell? ⟨w.heap.size+1,0,none⟩=some (.int .i64 m1):=d0;have Gd:wf.drew.cell? ⟨w.heap.size+1,1,none⟩=some (.int .i64 m2):=d1;have Gk:wf.drew.cell? ⟨w.heap.size+1,2,none⟩=some (.slice A2 ms.length c2):=d2;have xA:wf.drew.cell? ⟨w.heap.size+1+1,0,none⟩=some (.int .i64 fa):=e0;have gh:wf.drew.cell? ⟨w.heap.size+1+1,1,none⟩=some (.int .i64 fb):=e1;generalize wf.drew=wg at*;rw[FO.out,F.out];exact bodyPost_ret (v:= .tuple #[.agg #[.int .i64 m1, .int .i64 m2, .slice A2 ms.length c2], .agg #[.int .i64 fa, .int .i64 fb], .bool true]) (by simp[results,Tryz.results228,go_sem,F8,Gd,Gk,xA,gh]) rfl ⟨_,rfl,⟨.slice A2 ms.length c2,rfl,bV,ce,ow.mono tO⟩,bw⟩
theorem qGp (v:Value) (g:GrD) (w:World) (h:ArgG w v g) (hg:grB g=true):
  Calls Tryz.prog 189 #[v] w fun e w'=> ∃r o,e= .returned (.tuple #[r,o])∧OwG w' w.heap.size r (folA g)∧Below w.heap.size w w':=by
 have HG:=qA h;have aH:=qA hg;obtain⟨li,fG,aQ,_⟩:=qB hg;obtain⟨s,rfl,aT,aS,ha⟩:=h;obtain⟨A,cap,rfl⟩:=ha.form;obtain⟨g1,N,es⟩:=g;simp only at*
 clear ha hg;go_enter Tryz.func189,Tryz.ntmps189
 have bx:Below w.heap.size w ((w.alloc (.cells #[.int .i64 g1,.int .i64 N, .slice A es.length cap] 26)).alloc (.cells #[.int .i64 0,.int .i64 0, .slice none 0 0] 26)):=(by repeat(first | exact .refl _ _ | (refine BxS ?_ _) | (refine qD ?_ _) | (refine zao ?_) | (refine BxA ?_ _)));go_wp2_with fail;obtain⟨W,hW⟩: ∃W,W=((w.alloc (.cells #[.int .i64 g1,.int .i64 N, .slice A es.length cap] 26)).alloc (.cells #[.int .i64 0,.int .i64 0, .slice none 0 0] 26)):=⟨_,rfl⟩;rw[←hW] at bx⊢;have aW:W.heap.size=w.heap.size+2:=by rw[hW];simp
 have R0:Hid (W.cell? ⟨w.heap.size+1,0,none⟩=some (.int .i64 0)):=qA (by rw[hW];simp[go_sem]);have R1:Hid (W.cell? ⟨w.heap.size+1,1,none⟩=some (.int .i64 0)):=qA (by rw[hW];simp[go_sem]);have R2:Hid (W.cell? ⟨w.heap.size+1,2,none⟩=some (.slice none 0 0)):=qA (by rw[hW];simp[go_sem]);have RF:Hid (∀j,W.frozen? ⟨w.heap.size+1,j,none⟩=false):=qA fun j=>by rw[hW];simp[go_sem]
 have BX:=qA bx;clear hW bx;refine(qBL _ (g1,N,es) W (HG.out.below BX.out) (by simp only;omega)).mono ?_
 rintro e w1 ⟨r,rfl,o1,b1⟩;have B1:=qA b1;have aw:=b1.size;obtain⟨s1,rfl,_,_,dG⟩:=o1;obtain⟨A1,c1,rfl,_⟩:=dG.form;simp only at*
 have gP:=qA dG;clear b1 dG;have lG:Hid (OwFo ((w1.alloc (.cells #[.int .i64 g1,.int .i64 N, .slice A1 es.length c1] 26)).alloc (.cells #[] 106)) (w1.heap.size+1) (.slice (some ⟨w1.heap.size+1,0,none⟩) 0 0) []):=qA (by
  have:=qFg (base:=w1.heap.size+1) (w1.alloc (.cells #[.int .i64 g1,.int .i64 N, .slice A1 es.length c1] 26)) (by simp)
  simpa using this)
 have bX:Below w1.heap.size w1 ((w1.alloc (.cells #[.int .i64 g1,.int .i64 N, .slice A1 es.length c1] 26)).alloc (.cells #[] 106)):=(by repeat(first | exact .refl _ _ | (refine BxS ?_ _) | (refine qD ?_ _) | (refine zao ?_) | (refine BxA ?_ _)));go_wp2;obtain⟨W2,aD⟩: ∃W,W=(w1.alloc (.cells #[.int .i64 g1,.int .i64 N, .slice A1 es.length c1] 26)).alloc (.cells #[] 106):=⟨_,rfl⟩;rw[←aD] at bX lG⊢;have vq:W2.heap.size=w1.heap.size+2:=by rw[aD];simp
 have X0:Hid (W2.cell? ⟨w1.heap.size,0,none⟩=some (.int .i64 g1)):=qA (by rw[aD];simp[go_sem]);have X1:Hid (W2.cell? ⟨w1.heap.size,1,none⟩=some (.int .i64 N)):=qA (by rw[aD];simp[go_sem]);have X2:Hid (W2.cell? ⟨w1.heap.size,2,none⟩=some (.slice A1 es.length c1)):=qA (by rw[aD];simp[go_sem]);have XF:Hid (∀j,W2.frozen? ⟨w1.heap.size,j,none⟩=false):=qA fun j=>by rw[aD];simp[go_sem]
 have fH:=qA bX;have OEX:Hid (OwE W2 (w.heap.size+2) (.slice A1 es.length c1) es):=qA ((gP.out.below bX).mono tO);have cS:Hid (∀b,(zap A1 es.length c1).ownBlock=some b→b≠w1.heap.size):=qA fun b hb=>by have:=(gP.out.1.lt b hb).2;omega
 clear aD bX gP;go_loopw [5] (fun out wr=> ∃(k:Nat) (gk:GrD) (A2:Option Addr) (c2:Nat) (lo:List FoD),k≤40∧(∃Ao co,out= .slice Ao lo.length co)∧lo.length=k∧grB gk=true∧folA gk=folA (g1,N,es)∧gk.2.1+k≤N∧wr.cell? ⟨w1.heap.size,0,none⟩=some (.int .i64 gk.1)∧wr.cell? ⟨w1.heap.size,1,none⟩=some (.int .i64 gk.2.1)∧wr.cell? ⟨w1.heap.size,2,none⟩=some (.slice A2 gk.2.2.length c2)∧
   (∀j,wr.frozen? ⟨w1.heap.size,j,none⟩=false)∧OwE wr (w.heap.size+2) (.slice A2 gk.2.2.length c2) gk.2.2∧(∀b,(zap A2 gk.2.2.length c2).ownBlock=some b→b≠w1.heap.size)∧OwFo wr (w1.heap.size+1) out lo∧Below w1.heap.size w1 wr∧w1.heap.size<wr.heap.size) (fun o _=>40-sLen o)
 case atStart=>exact⟨0,(g1,N,es),A1,c1,[],zak _,⟨_,_,rfl⟩,rfl,aH.out,rfl,by simp,X0.out,X1.out,X2.out,XF.out,OEX.out,cS.out,lG.out,fH.out,tO⟩
 case round=>
  obtain⟨k,gk,A2,c2,lo,hk,⟨Ao,co,rfl⟩,kj,fB,cY,aq,fJ,fi,eP,jZ,kf,dN,sw,aZ,fj⟩:=hrel;obtain⟨yc,CR,pY,_⟩:=qB fB;have jL:=qA fB;have fd:=qA cY;have kE:=qA kf;have yU:=qA dN;have ki:=qA sw;have dV:=qA aZ;have B4:=qA (B1.out.trans (aZ.mono aw));have xo:Hid (ArgG wr (.agg #[.int .i64 gk.1, .int .i64 gk.2.1, .slice A2 gk.2.2.length c2]) gk):=qA ⟨_,rfl,(by unfold I64;omega),(by unfold I64;omega),kf.arg⟩;obtain⟨wk,rfl⟩: ∃wk:World,wk=wr:=⟨_,rfl⟩;clear fB cY kf dN sw aZ;have EN:k<40:=tO;go_wp2_with fail;refine(qFW _ gk wk xo.out jL.out).mono ?_
  rintro e w5 ⟨r,rfl,o5,b5⟩;have gW:=b5.size;have B5:=qA (dV.out.trans (b5.mono tO));have z0:=(b5.cell (p:=⟨w1.heap.size,0,none⟩) fj).trans fJ;have z1:=(b5.cell (p:=⟨w1.heap.size,1,none⟩) fj).trans fi;have z2:=(b5.cell (p:=⟨w1.heap.size,2,none⟩) fj).trans eP;have ZF:Hid (∀j,w5.frozen? ⟨w1.heap.size,j,none⟩=false):=qA fun j=>(b5.frozen (p:=⟨w1.heap.size,j,none⟩) fj).trans (jZ j);have vJ:=qA (kE.out.below b5);have rR:=qA (ki.out.below b5);clear fJ fi eP jZ b5;rcases ef:foL gk.2.2 with _ | ⟨f,l⟩
  ·have F:Hid (firF gk=((0,0),false)):=qA (by unfold firF;rw[if_pos jL.out];simp only[ef]);have FO:Hid (qDL gk=gk):=qA (by unfold qDL;simp only[ef]);have FAG:Hid (folA (g1,N,es)=gk):=qA (by rw[←fd.out];exact qKZ ef);clear ef;rw[FO.out] at o5;rw[F.out];simp only
   obtain⟨s5,rfl,bV,ce,bg⟩:=o5;obtain⟨A5,c5,rfl,_⟩:=bg.form;have bY:Below w5.heap.size w5 ((w5.alloc (.cells #[.int .i64 gk.1,.int .i64 gk.2.1, .slice A5 gk.2.2.length c5] 26)).alloc (.cells #[.int .i64 0,.int .i64 0] 106)):=(by repeat(first | exact .refl _ _ | (refine BxS ?_ _) | (refine qD ?_ _) | (refine zao ?_) | (refine BxA ?_ _)));obtain⟨WY,eY⟩: ∃W,W=(w5.alloc (.cells #[.int .i64 gk.1,.int .i64 gk.2.1, .slice A5 gk.2.2.length c5] 26)).alloc (.cells #[.int .i64 0,.int .i64 0] 106):=⟨_,rfl⟩;rw[←eY] at bY;have BY:=qA (B5.out.trans (bY.mono tO));have BYW:=qA (B1.out.trans (BY.out.mono aw));have y0:=(bY.cell (p:=⟨w1.heap.size,0,none⟩) (by show w1.heap.size<_;omega)).trans z0;have y1:=(bY.cell (p:=⟨w1.heap.size,1,none⟩) (by show w1.heap.size<_;omega)).trans z1;have y2:=(bY.cell (p:=⟨w1.heap.size,2,none⟩) (by show w1.heap.size<_;omega)).trans z2;have r0:=(BYW.out.cell (p:=⟨w.heap.size+1,0,none⟩) (by show w.heap.size+1<_;omega)).trans R0.out;have r1:=(BYW.out.cell (p:=⟨w.heap.size+1,1,none⟩) (by show w.heap.size+1<_;omega)).trans R1.out;have r2:=(BYW.out.cell (p:=⟨w.heap.size+1,2,none⟩) (by show w.heap.size+1<_;omega)).trans R2.out;have eu:=(BYW.out.frozen (p:=⟨w.heap.size+1,0,none⟩) (by show w.heap.size+1<_;omega)).trans (RF.out 0);have eE:=(BYW.out.frozen (p:=⟨w.heap.size+1,1,none⟩) (by show w.heap.size+1<_;omega)).trans (RF.out 1);have eG:=(BYW.out.frozen (p:=⟨w.heap.size+1,2,none⟩) (by show w.heap.size+1<_;omega)).trans (RF.out 2);have bU:w.heap.size+1≠w1.heap.size:=tO;have aj:=qA (BX.out.trans (BYW.out.mono BX.out.size));have OEY:=qA (vJ.out.below bY);rw[eY] at y0 y1 y2 r0 r1 r2 eu eE eG;clear z0 z1 z2 bg bY;go_wp2;rw[←eY] at y0 y1 y2 r0 r1 r2 eu eE eG⊢;obtain⟨e0,e1,e2⟩:=qi (.int .i64 gk.1) (.int .i64 gk.2.1) (.slice A2 gk.2.2.length c2) r0 r1 r2;have bw:Below w.heap.size w (((WY.setCell ⟨w.heap.size+1,0,none⟩ (.int .i64 gk.1)).setCell ⟨w.heap.size+1,1,none⟩ (.int .i64 gk.2.1)).setCell ⟨w.heap.size+1,2,none⟩ (.slice A2 gk.2.2.length c2)):=(((aj.out.setCell (by simp<;>omega) _).setCell (by simp<;>omega) _).setCell (by simp<;>omega) _);have ow:OwE (((WY.setCell ⟨w.heap.size+1,0,none⟩ (.int .i64 gk.1)).setCell ⟨w.heap.size+1,1,none⟩ (.int .i64 gk.2.1)).setCell ⟨w.heap.size+1,2,none⟩ (.slice A2 gk.2.2.length c2)) (w.heap.size+2) (.slice A2 gk.2.2.length c2) gk.2.2:=((OEY.out.far (by show w.heap.size+1<_;omega) _).far (by show w.heap.size+1<_;omega) _).far (by show w.heap.size+1<_;omega) _;generalize (((WY.setCell ⟨w.heap.size+1,0,none⟩ (.int .i64 gk.1)).setCell ⟨w.heap.size+1,1,none⟩ (.int .i64 gk.2.1)).setCell ⟨w.heap.size+1,2,none⟩ (.slice A2 gk.2.2.length c2))=wf at*;rw[FAG.out];exact bodyPost_ret (v:= .tuple #[.agg #[.int .i64 gk.1, .int .i64 gk.2.1, .slice A2 gk.2.2.length c2], .slice Ao lo.length co]) (by simp[results,Tryz.results189,go_sem,e0,e1,e2]) rfl ⟨_,_,rfl,⟨.slice A2 gk.2.2.length c2,rfl,bV,ce,ow.mono tO⟩,bw⟩
  ·have F:Hid (firF gk=(f,true)):=qA (by unfold firF;rw[if_pos jL.out];simp only[ef]);have FO:Hid (qDL gk=merG gk f):=qA (by unfold qDL;simp only[ef]);have fQ:=qHC jL.out (f:=f) (by rw[ef];simp);have rm:=qA (qHt jL.out fQ);have DY:=qA ((qIW jL.out ef).trans fd.out);have fF:(merG gk f).2.1=gk.2.1-1:=rfl;clear ef;rw[FO.out] at o5;rw[F.out];obtain⟨fa,fb⟩:=f;simp only
   generalize merG gk (fa,fb)=M at*;obtain⟨m1,m2,ms⟩:=M;simp only at fF
   obtain⟨s5,rfl,bV,ce,bg⟩:=o5;obtain⟨A5,c5,rfl,_⟩:=bg.form;simp only at bV ce bg
   have mX:=qA fF;clear fF;have bY:Below w5.heap.size w5 ((w5.alloc (.cells #[.int .i64 m1,.int .i64 m2, .slice A5 ms.length c5] 26)).alloc (.cells #[.int .i64 fa,.int .i64 fb] 106)):=(by repeat(first | exact .refl _ _ | (refine BxS ?_ _) | (refine qD ?_ _) | (refine zao ?_) | (refine BxA ?_ _)));obtain⟨WY,eY⟩: ∃W,W=(w5.alloc (.cells #[.int .i64 m1,.int .i64 m2, .slice A5 ms.length c5] 26)).alloc (.cells #[.int .i64 fa,.int .i64 fb] 106):=⟨_,rfl⟩;have a0:WY.cell? ⟨w5.heap.size,0,none⟩=some (.int .i64 m1):=by rw[eY];simp[go_sem]
   have a1:WY.cell? ⟨w5.heap.size,1,none⟩=some (.int .i64 m2):=by rw[eY];simp[go_sem]
   have a2:WY.cell? ⟨w5.heap.size,2,none⟩=some (.slice A5 ms.length c5):=by rw[eY];simp[go_sem]
   have a3:WY.cell? ⟨w5.heap.size+1,0,none⟩=some (.int .i64 fa):=by rw[eY];simp[go_sem]
   have a4:WY.cell? ⟨w5.heap.size+1,1,none⟩=some (.int .i64 fb):=by rw[eY];simp[go_sem]
   have Pp:WY.heap.size=w5.heap.size+2:=by rw[eY];simp
   rw[←eY] at bY;have BY:=qA (B5.out.trans (bY.mono tO));have y0:=(bY.cell (p:=⟨w1.heap.size,0,none⟩) (by show w1.heap.size<_;omega)).trans z0;have y1:=(bY.cell (p:=⟨w1.heap.size,1,none⟩) (by show w1.heap.size<_;omega)).trans z1;have y2:=(bY.cell (p:=⟨w1.heap.size,2,none⟩) (by show w1.heap.size<_;omega)).trans z2;have YF:Hid (∀j,WY.frozen? ⟨w1.heap.size,j,none⟩=false):=qA fun j=>(bY.frozen (p:=⟨w1.heap.size,j,none⟩) (by show w1.heap.size<_;omega)).trans (ZF.out j);have F7:=YF.out 0;have BG:=YF.out 1;have CJ:=YF.out 2;have OEM:=qA (bg.below bY);have OFY:=qA (rR.out.below bY);obtain⟨e0,e1,e2⟩:=qi (.int .i64 m1) (.int .i64 m2) (.slice A5 ms.length c5) y0 y1 y2;have e3:=qJ (b':=w1.heap.size) (o':=2) (u:= .slice A5 ms.length c5) (show w5.heap.size+1≠w1.heap.size by omega) (qJ (b':=w1.heap.size) (o':=1) (u:= .int .i64 m2) (show w5.heap.size+1≠w1.heap.size by omega) (qJ (b':=w1.heap.size) (o':=0) (u:= .int .i64 m1) (show w5.heap.size+1≠w1.heap.size by omega) a3));have e4:=qJ (b':=w1.heap.size) (o':=2) (u:= .slice A5 ms.length c5) (show w5.heap.size+1≠w1.heap.size by omega) (qJ (b':=w1.heap.size) (o':=1) (u:= .int .i64 m2) (show w5.heap.size+1≠w1.heap.size by omega) (qJ (b':=w1.heap.size) (o':=0) (u:= .int .i64 m1) (show w5.heap.size+1≠w1.heap.size by omega) a4));have BS:Hid (Below w1.heap.size w1 (((WY.setCell ⟨w1.heap.size,0,none⟩ (.int .i64 m1)).setCell ⟨w1.heap.size,1,none⟩ (.int .i64 m2)).setCell ⟨w1.heap.size,2,none⟩ (.slice A5 ms.length c5))):=qA (((BY.out.setCell (zaa _) _).setCell (zaa _) _).setCell (zaa _) _);have OES:Hid (OwE (((WY.setCell ⟨w1.heap.size,0,none⟩ (.int .i64 m1)).setCell ⟨w1.heap.size,1,none⟩ (.int .i64 m2)).setCell ⟨w1.heap.size,2,none⟩ (.slice A5 ms.length c5)) wk.heap.size (.slice A5 ms.length c5) ms):=qA (((OEM.out.far (by show w1.heap.size<_;omega) _).far (by show w1.heap.size<_;omega) _).far (by show w1.heap.size<_;omega) _);have OFS:Hid (OwFo (((WY.setCell ⟨w1.heap.size,0,none⟩ (.int .i64 m1)).setCell ⟨w1.heap.size,1,none⟩ (.int .i64 m2)).setCell ⟨w1.heap.size,2,none⟩ (.slice A5 ms.length c5)) (w1.heap.size+1) (.slice Ao lo.length co) lo):=qA (ownsRow_setCell_below (ownsRow_setCell_below (ownsRow_setCell_below OFY.out (by show w1.heap.size<_;omega) _) (by show w1.heap.size<_;omega) _) (by show w1.heap.size<_;omega) _);have ESF:Hid (∀j,((((WY.setCell ⟨w1.heap.size,0,none⟩ (.int .i64 m1)).setCell ⟨w1.heap.size,1,none⟩ (.int .i64 m2)).setCell ⟨w1.heap.size,2,none⟩ (.slice A5 ms.length c5))).frozen? ⟨w1.heap.size,j,none⟩=false):=qA fun j=>by rw[zau,zau,zau];exact YF.out j
   have n8:((((WY.setCell ⟨w1.heap.size,0,none⟩ (.int .i64 m1)).setCell ⟨w1.heap.size,1,none⟩ (.int .i64 m2)).setCell ⟨w1.heap.size,2,none⟩ (.slice A5 ms.length c5))).heap.size=WY.heap.size:=by simp
   clear z0 z1 z2 bg bY;have E0:=qA e0;have E1:=qA e1;have E2:=qA e2;have E3:=qA e3;have E4:=qA e4;have i8:=qA n8;clear e0 e1 e2 a3 a4 n8;rw[eY] at y0 y1 y2 F7 BG CJ a0 a1 a2 e3 e4;have yl:=qA eY;clear eY;have Fg:w1.heap.size≠w5.heap.size:=tO;have Dw:w1.heap.size≠w5.heap.size+1:=tO;go_wp2_with (at_builtin;rw[←yl.out];refine qAx rfl (.tmp 23) (.tmp 25) rfl (w1.heap.size+1) _ lo (OFS.out.alloc _) rfl _ (fa,fb) rfl (qCU _ _ (by simp<;>omega) _ _ _) tO (by simp<;>omega) ?_;intro v6 w6 o6 g6 p6;have O6:=qA o6;have G6:=qA g6;clear o6 g6 p6)
   have e0:=E0.out;have e1:=E1.out;have e2:=E2.out;have bL:Below ((((WY.setCell ⟨w1.heap.size,0,none⟩ (.int .i64 m1)).setCell ⟨w1.heap.size,1,none⟩ (.int .i64 m2)).setCell ⟨w1.heap.size,2,none⟩ (.slice A5 ms.length c5))).heap.size (((WY.setCell ⟨w1.heap.size,0,none⟩ (.int .i64 m1)).setCell ⟨w1.heap.size,1,none⟩ (.int .i64 m2)).setCell ⟨w1.heap.size,2,none⟩ (.slice A5 ms.length c5)) ((((WY.setCell ⟨w1.heap.size,0,none⟩ (.int .i64 m1)).setCell ⟨w1.heap.size,1,none⟩ (.int .i64 m2)).setCell ⟨w1.heap.size,2,none⟩ (.slice A5 ms.length c5)).alloc (.cells #[.int .i64 fa,.int .i64 fb] 106)):=(zab _ _).alloc (zaa _) _;have rx:w1.heap.size<((((WY.setCell ⟨w1.heap.size,0,none⟩ (.int .i64 m1)).setCell ⟨w1.heap.size,1,none⟩ (.int .i64 m2)).setCell ⟨w1.heap.size,2,none⟩ (.slice A5 ms.length c5))).heap.size:=by simp<;>omega
   have pW:w1.heap.size<((((WY.setCell ⟨w1.heap.size,0,none⟩ (.int .i64 m1)).setCell ⟨w1.heap.size,1,none⟩ (.int .i64 m2)).setCell ⟨w1.heap.size,2,none⟩ (.slice A5 ms.length c5)).alloc (.cells #[.int .i64 fa,.int .i64 fb] 106)).heap.size:=by simp<;>omega
   have ma: ∀c,(zap Ao lo.length co).ownBlock=some c→w1.heap.size+1≤c∧c<wk.heap.size:=fun c hc=>ki.out.lt c hc;have n0:=(qN (o:=0) G6.out pW (fun c hc=>by have:=(ma c hc).1;omega)).trans ((bL.cell (p:=⟨w1.heap.size,0,none⟩) rx).trans e0);have n1:=(qN (o:=1) G6.out pW (fun c hc=>by have:=(ma c hc).1;omega)).trans ((bL.cell (p:=⟨w1.heap.size,1,none⟩) rx).trans e1);have n2:=(qN (o:=2) G6.out pW (fun c hc=>by have:=(ma c hc).1;omega)).trans ((bL.cell (p:=⟨w1.heap.size,2,none⟩) rx).trans e2);have nf: ∀j,w6.frozen? ⟨w1.heap.size,j,none⟩=false:=fun j=>(World.frozen?_of_block (G6.out.block w1.heap.size pW fun e=>by have:=(ma w1.heap.size e.symm).1;omega)).trans ((bL.frozen (p:=⟨w1.heap.size,j,none⟩) rx).trans (ESF.out j));have NE:Hid (OwE w6 (w.heap.size+2) (.slice A5 ms.length c5) ms):=qA (OwE.mono (OwE.keep OES.out fun b hb=>by
    have eO:=OES.out.1.lt b hb;exact(G6.out.block b (by have:=bL.size;omega) fun e=>by have:=(ma b e.symm).2;omega).trans (bL.block b eO.2)) tO)
   have NX:Hid (∀b,(zap A5 ms.length c5).ownBlock=some b→b≠w1.heap.size):=qA fun b hb=>by have:=(OES.out.1.lt b hb).1;omega
   have NB:Hid (Below w1.heap.size w1 w6):=qA ((BS.out.trans (bL.mono tO)).grown G6.out tO (fun c hc=>by have:=(ma c hc).1;omega));have iD:=G6.out.size;have JY:Hid (∃Ao co,v6= .slice Ao (lo++ [(fa,fb)]).length co):=qA (by obtain⟨Ao',co',h,_⟩:=O6.out.form;exact⟨Ao',co',h⟩);go_roundw
   case rel=>exact⟨k+1,(m1,m2,ms),A5,c5,lo++ [(fa,fb)],tO,JY.out,by rw[zal];simp only[zan];omega,rm.out,DY.out,by have:=mX.out;simp only;omega,n0,n1,n2,nf,NE.out,NX.out,O6.out,NB.out,tO⟩
   case measure=>
    obtain⟨Ao',co',h⟩:=JY.out;rw[h];show 40-(lo++ [(fa,fb)]).length<40-lo.length
    rw[zal];simp only[zan];omega
theorem qCf (v:Value) (g:GrD) (w:World) (h:ArgG w v g) (hg:grB g=true):
  Calls Tryz.prog 123 #[v] w fun e w'=> ∃r,e= .returned r∧OwG w' w.heap.size r (qAj g)∧Below w.heap.size w w':=by
 have HG:=qA h;have fd:=qA (qHb hg);have rO:=qA (qE fd.out).1;have wP:=qA (qCW fd.out);have vU:Hid (qAj g=canG (qBT (folA g)).1):=qA rfl;have po:=qA (fun W h=>qGp v g W h hg);have xR:=qA (fun u W h=>(qEt u (folA g) W h rO.out).mono (R':=fun e w'=> ∃r o,e= .returned (.tuple #[r,o])∧OwG w' W.heap.size r (qBT (folA g)).1∧Below W.heap.size W w') fun e w' ⟨r,l,h1,h2,_,h4⟩=>⟨r,l,h1,h2,h4⟩);have jm:=qA (fun u W h=>qCK u (qBT (folA g)).1 W h wP.out);generalize canG (qBT (folA g)).1=CG at*;generalize (qBT (folA g)).1=TG at*;generalize folA g=FG at*;obtain⟨s,rfl,aT,aS,ha⟩:=h;obtain⟨A,cap,rfl⟩:=ha.form;obtain⟨g1,N,es⟩:=g;simp only at*
 clear ha hg;go_enter Tryz.func123,Tryz.ntmps123
 have bx:Below w.heap.size w ((w.alloc (.cells #[.int .i64 g1,.int .i64 N, .slice A es.length cap] 26)).alloc (.cells #[.int .i64 0,.int .i64 0, .slice none 0 0] 26)):=(by repeat(first | exact .refl _ _ | (refine BxS ?_ _) | (refine qD ?_ _) | (refine zao ?_) | (refine BxA ?_ _)));go_wp2_with fail;obtain⟨W,hW⟩: ∃W,W=((w.alloc (.cells #[.int .i64 g1,.int .i64 N, .slice A es.length cap] 26)).alloc (.cells #[.int .i64 0,.int .i64 0, .slice none 0 0] 26)):=⟨_,rfl⟩;rw[←hW] at bx⊢;have aW:W.heap.size=w.heap.size+2:=by rw[hW];simp
 have R0:Hid (W.cell? ⟨w.heap.size+1,0,none⟩=some (.int .i64 0)):=qA (by rw[hW];simp[go_sem]);have R1:Hid (W.cell? ⟨w.heap.size+1,1,none⟩=some (.int .i64 0)):=qA (by rw[hW];simp[go_sem]);have R2:Hid (W.cell? ⟨w.heap.size+1,2,none⟩=some (.slice none 0 0)):=qA (by rw[hW];simp[go_sem]);have RF:Hid (∀j,W.frozen? ⟨w.heap.size+1,j,none⟩=false):=qA fun j=>by rw[hW];simp[go_sem]
 have BX:=qA bx;clear hW bx;refine(po.out W (HG.out.below BX.out)).mono ?_
 rintro e w1 ⟨r,o,rfl,o1,b1⟩;have B1:=qA b1;have aw:=b1.size;have O1:=qA o1;obtain⟨f1,f2,fs⟩:=FG;obtain⟨s1,rfl,_,_,dG⟩:=o1;obtain⟨A1,c1,rfl,_⟩:=dG.form;simp only at*
 clear b1 dG;have bf:Below w1.heap.size w1 (w1.alloc (.cells #[.int .i64 f1,.int .i64 f2, .slice A1 fs.length c1] 26)):=(zab _ _).alloc (zaa _) _;go_wp2_with fail;refine(xR.out _ _ (O1.out.arg.below bf)).mono ?_
 rintro e w3 ⟨r3,o3,rfl,yo,b3⟩;have ET:=bf.size;have B3:=qA (B1.out.trans ((bf.trans (b3.mono ET)).mono aw));have fS:=b3.size;have O3:=qA yo;obtain⟨t1,t2,ts⟩:=TG;obtain⟨s3,rfl,_,_,aU⟩:=yo;obtain⟨A3,c3,rfl,_⟩:=aU.form;simp only at*
 clear b3 aU bf;have bt:Below w3.heap.size w3 (w3.alloc (.cells #[.int .i64 t1,.int .i64 t2, .slice A3 ts.length c3] 26)):=(zab _ _).alloc (zaa _) _;go_wp2_with fail;refine(jm.out _ _ (O3.out.arg.below bt)).mono ?_
 rintro e w5 ⟨r5,rfl,o5,b5⟩;have hst:=bt.size;have uI:=B3.out.size;have B5:=qA (B3.out.trans ((bt.trans (b5.mono hst)).mono uI));have gW:=B5.out.size;have L4:=b5.size;obtain⟨gn,gS,cs⟩:=CG;obtain⟨s5,rfl,bV,ce,bg⟩:=o5;obtain⟨A5,k5,rfl,_⟩:=bg.form;simp only at*
 have n9:=qA bg;have r0:=(B5.out.cell (p:=⟨w.heap.size+1,0,none⟩) (by show w.heap.size+1<_;omega)).trans R0.out;have r1:=(B5.out.cell (p:=⟨w.heap.size+1,1,none⟩) (by show w.heap.size+1<_;omega)).trans R1.out;have r2:=(B5.out.cell (p:=⟨w.heap.size+1,2,none⟩) (by show w.heap.size+1<_;omega)).trans R2.out;have eu:=(B5.out.frozen (p:=⟨w.heap.size+1,0,none⟩) (by show w.heap.size+1<_;omega)).trans (RF.out 0);have eE:=(B5.out.frozen (p:=⟨w.heap.size+1,1,none⟩) (by show w.heap.size+1<_;omega)).trans (RF.out 1);have eG:=(B5.out.frozen (p:=⟨w.heap.size+1,2,none⟩) (by show w.heap.size+1<_;omega)).trans (RF.out 2);have aj:=qA (BX.out.trans (B5.out.mono BX.out.size));clear b5 bg bt;go_wp2;obtain⟨e0,e1,e2⟩:=qi (.int .i64 gn) (.int .i64 gS) (.slice A5 cs.length k5) r0 r1 r2;have bw:Below w.heap.size w (((w5.setCell ⟨w.heap.size+1,0,none⟩ (.int .i64 gn)).setCell ⟨w.heap.size+1,1,none⟩ (.int .i64 gS)).setCell ⟨w.heap.size+1,2,none⟩ (.slice A5 cs.length k5)):=(((aj.out.setCell (by simp<;>omega) _).setCell (by simp<;>omega) _).setCell (by simp<;>omega) _);have ow:OwE (((w5.setCell ⟨w.heap.size+1,0,none⟩ (.int .i64 gn)).setCell ⟨w.heap.size+1,1,none⟩ (.int .i64 gS)).setCell ⟨w.heap.size+1,2,none⟩ (.slice A5 cs.length k5)) w.heap.size (.slice A5 cs.length k5) cs:=OwE.mono (((n9.out.far (by show w.heap.size+1<_;omega) _).far (by show w.heap.size+1<_;omega) _).far (by show w.heap.size+1<_;omega) _) tO;generalize (((w5.setCell ⟨w.heap.size+1,0,none⟩ (.int .i64 gn)).setCell ⟨w.heap.size+1,1,none⟩ (.int .i64 gS)).setCell ⟨w.heap.size+1,2,none⟩ (.slice A5 cs.length k5))=wf at*;rw[vU.out];exact bodyPost_ret (v:= .agg #[.int .i64 gn, .int .i64 gS, .slice A5 cs.length k5]) (by simp[results,Tryz.results123,go_sem,e0,e1,e2]) rfl ⟨_,rfl,⟨.slice A5 cs.length k5,rfl,bV,ce,ow⟩,bw⟩
def movO (n u:Nat):List Int:=(u:Int)::delO n (u:Int)
def movG (g:GrD) (u:Nat):GrD:=qAj (rnG g (movO g.2.1.toNat u))
theorem qDd {n u:Nat} (hu:u<n):OrdN (n:Int) (movO n u):=by
 refine⟨List.nodup_cons.2 ⟨fun h=>(qAp.1 h).2 rfl,qFH _ _⟩,fun y hy=> ?_,by simp[movO]⟩;rcases List.mem_cons.1 hy with rfl | hy
 ·omega
 ·exact(qAp.1 hy).1
theorem qHv (n u:Nat):(u:Int)::delO (n+1) (u:Int)=if(n:Int)≠(u:Int) then((u:Int)::delO n (u:Int))++ [(n:Int)] else(u:Int)::delO n (u:Int):=by
 rw[qBf];split<;>rfl
theorem qKH (n u:Nat):((u:Int)::delO n (u:Int)).length≤n+1:=by
 have h1:(delO n (u:Int)).length≤n:=by
  unfold delO;refine zaz (zaq _ _) ?_;simp
 rw[zaG];omega
theorem qDD (v:Value) (g:GrD) (u:Nat) (w:World) (h:ArgG w v g) (hf:qb g=true) (hu:(u:Int)<g.2.1):
  Calls Tryz.prog 84 #[v, .int .i64 (u:Int)] w fun e w'=> ∃r,e= .returned (.tuple #[r, .bool true])∧OwG w' w.heap.size r (movG g u)∧Below w.heap.size w w':=by
 have HG:=qA h;have HF:=qA hf;have aY:=(qE hf).1;obtain⟨li,fG,aQ,_⟩:=qB aY;obtain⟨n,hn⟩: ∃n:Nat,g.2.1=(n:Int):=⟨g.2.1.toNat,tO⟩;have d4:u<n:=tO;have Bu:=qA (qDd d4);have rm:Hid (grB (rnG g (movO n u))=true):=qA (qFl aY (by rw[hn];exact qDd d4));have nr:Hid (movG g u=qAj (rnG g (movO n u))):=qA (by unfold movG;rw[hn];rfl);have aH:=qA aY;obtain⟨s,rfl,aT,aS,ha⟩:=h;obtain⟨A,cap,rfl⟩:=ha.form;obtain⟨g1,N,es⟩:=g;simp only at*
 subst hn;clear ha hf aY;go_enter Tryz.func84,Tryz.ntmps84
 go_wp2_with fail;obtain⟨W1,an⟩: ∃W,W=w.alloc (.cells #[.int .i64 g1,.int .i64 (n:Int), .slice A es.length cap] 26):=⟨_,rfl⟩;rw[←an];obtain⟨aw,b1,aR,_⟩:=gbox an;obtain⟨W,hW⟩: ∃W,W=W1.alloc (.cells #[.int .i64 0,.int .i64 0, .slice none 0 0] 26):=⟨_,rfl⟩;rw[←hW];obtain⟨cT,b2,dg,a7⟩:=gbox hW;have bM:=qA aR;have cG:=qA dg;have fY:=qA a7;have nZ:=qA b1;have fH:=qA b2;have aW:W.heap.size=w.heap.size+2:=tO;have BX:Hid (Below w.heap.size w W):=qA (b1.trans (b2.mono tO));have bH:Hid (∀w',Below (w.heap.size+2) W w'→w'.cell? ⟨w.heap.size,0,none⟩=some (.int .i64 g1)∧w'.cell? ⟨w.heap.size,1,none⟩=some (.int .i64 (n:Int))∧w'.cell? ⟨w.heap.size,2,none⟩=some (.slice A es.length cap)):=qA fun w' hb=>bM.out w' ((fH.out.mono tO).trans (hb.mono tO));have k8:Hid (∀w',Below (w.heap.size+2) W w'→(w'.cell? ⟨w.heap.size+1,0,none⟩=some (.int .i64 0)∧w'.cell? ⟨w.heap.size+1,1,none⟩=some (.int .i64 0)∧w'.cell? ⟨w.heap.size+1,2,none⟩=some (.slice none 0 0))∧ ∀j,w'.frozen? ⟨w.heap.size+1,j,none⟩=false):=qA fun w' hb=>by
  have e:Below (W1.heap.size+1) W w':=by rw[aw];exact hb
  have h1:=cG.out w' e;have h2:=fun j=>fY.out j w' e;rw[aw] at h1 h2;exact⟨h1,h2⟩
 have HA:Hid (∀w',Below (w.heap.size+2) W w'→ArgG w' (.agg #[.int .i64 g1, .int .i64 (n:Int), .slice A es.length cap]) (g1,(n:Int),es)):=qA fun w' hb=>HG.out.below (BX.out.trans (hb.mono tO));clear an hW aR dg a7 b1 b2 bM cG fY nZ fH aw cT;have aO:=qAI _ (g1,(n:Int),es) W (HA.out W ((zab W.heap.size W).mono tO));rw[HF.out] at aO;refine aO.mono ?_;clear aO;rintro e w2 ⟨rfl,b2⟩;have cT:=b2.size;have B2:Hid (Below (w.heap.size+2) W w2):=qA (b2.mono tO);clear b2;obtain⟨q0,q1,q2⟩:=bH.out w2 B2.out;have fL:IntKind.i64.wrap ((n:Int)-1)=(n:Int)-1:=by rw[IntKind.wrap_i64];omega
 have bD:inB (u:Int) 0 ((n:Int)-1)=true:=qAC.2 ⟨tO,tO⟩;have oC:=qA bD;clear bD;go_wp2_with (go_at_call 138;refine(ql _ _ _ _).mono ?_;rintro e w' ⟨rfl,rfl⟩;rw[oC.out])
 obtain⟨W4,mZ⟩: ∃W4,W4=w2.alloc (.cells #[.int .i64 (u:Int)] 3):=⟨_,rfl⟩;have o4:OwI (w2.alloc (.cells #[.int .i64 (u:Int)] 3)) w2.heap.size (.slice (some ⟨w2.heap.size,0,none⟩) 1 1) [(u:Int)]:=qAE w2 [(u:Int)] (fun x hx=>by simp at hx;subst hx;unfold I64;omega) (by simp) (zaa _);have b4:Below w2.heap.size w2 (w2.alloc (.cells #[.int .i64 (u:Int)] 3)):=(zab _ _).alloc (zaa _) _;rw[←mZ] at o4 b4⊢;have lZ:W4.heap.size=w2.heap.size+1:=by rw[mZ];simp
 have O4:=qA o4;have B4:Hid (Below (w.heap.size+2) W W4):=qA (B2.out.trans (b4.mono tO));clear mZ o4 b4 q0 q1 q2;go_loopw [6,7] (fun vo i wr=> ∃q:Nat,q≤n∧i= .int .i64 q∧OwI wr (w.heap.size+2) vo ((u:Int)::delO q (u:Int))∧Below (w.heap.size+2) W wr) (fun _ i _=>n-(intOf i).toNat)
 case atStart=>exact⟨0,zak _,rfl,O4.out.mono tO,B4.out⟩
 case round=>
  obtain⟨q,hq,rfl,ho,hb⟩:=hrel;have HO:=qA ho;have HB:=qA hb;obtain⟨wi,rfl⟩: ∃wi:World,wi=wr:=⟨_,rfl⟩;clear ho hb;have uX:=HB.out.size;obtain⟨q0,q1,q2⟩:=bH.out wi HB.out;have au:=qKH q u;have lL:=qA (qHv q u);obtain⟨Ao,co,rfl,_⟩:=OwI.form HO.out;by_cases ac:q<n
  ·have GG:(q:Int)<(n:Int):=tO;have HK:Hid (I64 (q:Int)):=qA (by unfold I64;omega);rcases e6:((q:Int) != (u:Int)) with _ | _
   ·have jI:(q:Int)=(u:Int):=by simpa using e6
    have HD:Hid ((u:Int)::delO (q+1) (u:Int)=(u:Int)::delO q (u:Int)):=qA (by rw[lL.out,if_neg (by simp[jI])]);generalize ((u:Int)::delO q (u:Int))=lo at*;clear jI lL;go_wp2;go_roundw
    case rel=>exact⟨q+1,tO,by go_num,by rw[HD.out];exact HO.out,HB.out⟩
    case measure=>simp[intOf];omega
   ·have jI:(q:Int)≠(u:Int):=by simpa using e6
    have HD:Hid ((u:Int)::delO (q+1) (u:Int)=((u:Int)::delO q (u:Int))++ [(q:Int)]):=qA (by rw[lL.out,if_pos jI]);generalize ((u:Int)::delO q (u:Int))=lo at*;clear jI lL;go_wp2_with (at_builtin;refine qd rfl (.tmp 34) (.tmp 36) rfl _ _ _ (OwI.alloc HO.out _) rfl _ _ rfl (qa _ _ _) HK.out (by first | omega | (simp<;>omega)) (by first | omega | (simp<;>omega)) ?_;intro v9 wv9 o9 g9 p9)
    have O9:=qA o9;have B9:Hid (Below (w.heap.size+2) W wv9):=qA ((HB.out.alloc tO (.cells #[.int .i64 q] 3)).grown g9 (by simp<;>omega) (fun c hc=>(HO.out.1.lt c hc).1));clear o9 g9 p9;go_roundw
    case rel=>exact⟨q+1,tO,by go_num,by rw[HD.out];exact O9.out,B9.out⟩
    case measure=>simp[intOf];omega
  ·obtain rfl:q=n:=tO
   clear lL;have uT:Hid (OrdN (q:Int) ((u:Int)::delO q (u:Int))):=Bu;have vv:Hid (grB (rnG (g1,(q:Int),es) ((u:Int)::delO q (u:Int)))=true):=rm;have vc:Hid (movG (g1,(q:Int),es) u=qAj (rnG (g1,(q:Int),es) ((u:Int)::delO q (u:Int)))):=nr;clear Bu rm nr;generalize ((u:Int)::delO q (u:Int))=lo at*;go_wp2_with fail;refine(qCm _ _ (g1,(q:Int),es) lo wi (HA.out wi HB.out) HO.out.rd aH.out uT.out).mono ?_
   rintro e w5 ⟨r5,rfl,o5,b5⟩;have gW:=b5.size;have B5:Hid (Below (w.heap.size+2) W w5):=qA (HB.out.trans (b5.mono tO));generalize rnG (g1,(q:Int),es) lo=M at*;obtain⟨m1,m2,ms⟩:=M;have Gz:=qA o5.arg;obtain⟨s5,rfl,_,_,bg⟩:=o5;obtain⟨A5,c5,rfl,_⟩:=bg.form;simp only at*
   clear bg b5 q0 q1 q2;go_wp2_with fail;obtain⟨WX,oM⟩: ∃WX,WX=w5.alloc (.cells #[.int .i64 m1,.int .i64 m2, .slice A5 ms.length c5] 26):=⟨_,rfl⟩;obtain⟨DI,bX,_,_⟩:=gbox oM;rw[←oM];have BXX:Hid (Below (w.heap.size+2) W WX):=qA (B5.out.trans (bX.mono tO));refine(qAq _ (m1,m2,ms) WX (Gz.out.below bX) vv.out).mono ?_
   clear oM bX;rintro e w6 ⟨r6,rfl,o6,b6⟩;have iD:=b6.size;have B6:Hid (Below (w.heap.size+2) W w6):=qA (BXX.out.trans (b6.mono tO));generalize qAj (m1,m2,ms)=K at*;obtain⟨k1,k2,ks⟩:=K;obtain⟨s6,rfl,bV,ce,lU⟩:=o6;obtain⟨A6,c6,rfl,_⟩:=lU.form;simp only at*
   have yy:=qA lU;clear b6 lU;obtain⟨⟨r0,r1,r2⟩,cF⟩:=k8.out w6 B6.out;have eu:=cF 0;have eE:=cF 1;have eG:=cF 2;have aj:=qA (BX.out.trans (B6.out.mono tO));have EV:w.heap.size+1<w6.heap.size:=tO;clear cF;go_wp2;obtain⟨e0,e1,e2⟩:=qi (.int .i64 k1) (.int .i64 k2) (.slice A6 ks.length c6) r0 r1 r2;have bw:Below w.heap.size w (((w6.setCell ⟨w.heap.size+1,0,none⟩ (.int .i64 k1)).setCell ⟨w.heap.size+1,1,none⟩ (.int .i64 k2)).setCell ⟨w.heap.size+1,2,none⟩ (.slice A6 ks.length c6)):=(((aj.out.setCell (by simp<;>omega) _).setCell (by simp<;>omega) _).setCell (by simp<;>omega) _);have ow:OwE (((w6.setCell ⟨w.heap.size+1,0,none⟩ (.int .i64 k1)).setCell ⟨w.heap.size+1,1,none⟩ (.int .i64 k2)).setCell ⟨w.heap.size+1,2,none⟩ (.slice A6 ks.length c6)) w.heap.size (.slice A6 ks.length c6) ks:=OwE.mono (((yy.out.far (by show w.heap.size+1<_;omega) _).far (by show w.heap.size+1<_;omega) _).far (by show w.heap.size+1<_;omega) _) tO;generalize (((w6.setCell ⟨w.heap.size+1,0,none⟩ (.int .i64 k1)).setCell ⟨w.heap.size+1,1,none⟩ (.int .i64 k2)).setCell ⟨w.heap.size+1,2,none⟩ (.slice A6 ks.length c6))=wf at*;rw[vc.out];exact bodyPost_ret (v:= .tuple #[.agg #[.int .i64 k1, .int .i64 k2, .slice A6 ks.length c6], .bool true]) (by simp[results,Tryz.results84,go_sem,e0,e1,e2]) rfl ⟨_,rfl,⟨.slice A6 ks.length c6,rfl,bV,ce,ow⟩,bw⟩
theorem qDG (v:Value) (g:GrD) (u:Nat) (w:World) (h:ArgG w v g) (hf:qb g=true) (hu:(u:Int)<g.2.1):
  Calls Tryz.prog 78 #[v, .int .i64 (u:Int)] w fun e w'=> ∃r,e= .returned (.tuple #[r, .bool true])∧OwG w' w.heap.size r (movG g u)∧Below w.heap.size w w':=by
 have HG:=qA h;have HF:=qA hf;have aY:=(qE hf).1;obtain⟨li,fG,aQ,_⟩:=qB aY;obtain⟨n,hn⟩: ∃n:Nat,g.2.1=(n:Int):=⟨g.2.1.toNat,tO⟩;have d4:u<n:=tO;have Bu:=qA (qDd d4);have rm:Hid (grB (rnG g (movO n u))=true):=qA (qFl aY (by rw[hn];exact qDd d4));have nr:Hid (movG g u=qAj (rnG g (movO n u))):=qA (by unfold movG;rw[hn];rfl);have aH:=qA aY;obtain⟨s,rfl,aT,aS,ha⟩:=h;obtain⟨A,cap,rfl⟩:=ha.form;obtain⟨g1,N,es⟩:=g;simp only at*
 subst hn;clear ha hf aY;go_enter Tryz.func78,Tryz.ntmps78
 go_wp2_with fail;obtain⟨W1,an⟩: ∃W,W=w.alloc (.cells #[.int .i64 g1,.int .i64 (n:Int), .slice A es.length cap] 26):=⟨_,rfl⟩;rw[←an];obtain⟨aw,b1,aR,_⟩:=gbox an;obtain⟨W,hW⟩: ∃W,W=W1.alloc (.cells #[.int .i64 0,.int .i64 0, .slice none 0 0] 26):=⟨_,rfl⟩;rw[←hW];obtain⟨cT,b2,dg,a7⟩:=gbox hW;have bM:=qA aR;have cG:=qA dg;have fY:=qA a7;have nZ:=qA b1;have fH:=qA b2;have aW:W.heap.size=w.heap.size+2:=tO;have BX:Hid (Below w.heap.size w W):=qA (b1.trans (b2.mono tO));have bH:Hid (∀w',Below (w.heap.size+2) W w'→w'.cell? ⟨w.heap.size,0,none⟩=some (.int .i64 g1)∧w'.cell? ⟨w.heap.size,1,none⟩=some (.int .i64 (n:Int))∧w'.cell? ⟨w.heap.size,2,none⟩=some (.slice A es.length cap)):=qA fun w' hb=>bM.out w' ((fH.out.mono tO).trans (hb.mono tO));have k8:Hid (∀w',Below (w.heap.size+2) W w'→(w'.cell? ⟨w.heap.size+1,0,none⟩=some (.int .i64 0)∧w'.cell? ⟨w.heap.size+1,1,none⟩=some (.int .i64 0)∧w'.cell? ⟨w.heap.size+1,2,none⟩=some (.slice none 0 0))∧ ∀j,w'.frozen? ⟨w.heap.size+1,j,none⟩=false):=qA fun w' hb=>by
  have e:Below (W1.heap.size+1) W w':=by rw[aw];exact hb
  have h1:=cG.out w' e;have h2:=fun j=>fY.out j w' e;rw[aw] at h1 h2;exact⟨h1,h2⟩
 have HA:Hid (∀w',Below (w.heap.size+2) W w'→ArgG w' (.agg #[.int .i64 g1, .int .i64 (n:Int), .slice A es.length cap]) (g1,(n:Int),es)):=qA fun w' hb=>HG.out.below (BX.out.trans (hb.mono tO));clear an hW aR dg a7 b1 b2 bM cG fY nZ fH aw cT;have aO:=qAP _ (g1,(n:Int),es) W (HA.out W ((zab W.heap.size W).mono tO));rw[HF.out] at aO;refine aO.mono ?_;clear aO;rintro e w2 ⟨rfl,b2⟩;have cT:=b2.size;have B2:Hid (Below (w.heap.size+2) W w2):=qA (b2.mono tO);clear b2;obtain⟨q0,q1,q2⟩:=bH.out w2 B2.out;have bD:inB (u:Int) 0 (wrap64 ((n:Int)-1))=true:=by rw[show wrap64 ((n:Int)-1)=(n:Int)-1 by unfold wrap64;omega];exact qAC.2 ⟨tO,tO⟩
 have oC:=qA bD;clear bD;go_wp2_with fail;refine(qCX _ _ _ _ _ _ _).mono ?_
 rintro e w3 ⟨rfl,b3⟩;rw[oC.out];have fS:=b3.size;have Hz:Hid (Below (w.heap.size+2) W w3):=qA (B2.out.trans (b3.mono tO));clear b3 q0 q1 q2 B2;obtain⟨q0,q1,q2⟩:=bH.out w3 Hz.out;go_wp2;obtain⟨W4,mZ⟩: ∃W4,W4=w3.alloc (.cells #[.int .i64 (u:Int)] 3):=⟨_,rfl⟩;have o4:OwI (w3.alloc (.cells #[.int .i64 (u:Int)] 3)) w3.heap.size (.slice (some ⟨w3.heap.size,0,none⟩) 1 1) [(u:Int)]:=qAE w3 [(u:Int)] (fun x hx=>by simp at hx;subst hx;unfold I64;omega) (by simp) (zaa _);have b4:Below w3.heap.size w3 (w3.alloc (.cells #[.int .i64 (u:Int)] 3)):=(zab _ _).alloc (zaa _) _;rw[←mZ] at o4 b4⊢;have lZ:W4.heap.size=w3.heap.size+1:=by rw[mZ];simp
 have O4:=qA o4;have B4:Hid (Below (w.heap.size+2) W W4):=qA (Hz.out.trans (b4.mono tO));clear mZ o4 b4 q0 q1 q2;go_loopw [6,7] (fun vo i wr=> ∃q:Nat,q≤n∧i= .int .i64 q∧OwI wr (w.heap.size+2) vo ((u:Int)::delO q (u:Int))∧Below (w.heap.size+2) W wr) (fun _ i _=>n-(intOf i).toNat)
 case atStart=>exact⟨0,zak _,rfl,O4.out.mono tO,B4.out⟩
 case round=>
  obtain⟨q,hq,rfl,ho,hb⟩:=hrel;have HO:=qA ho;have HB:=qA hb;obtain⟨wi,rfl⟩: ∃wi:World,wi=wr:=⟨_,rfl⟩;clear ho hb;have uX:=HB.out.size;obtain⟨q0,q1,q2⟩:=bH.out wi HB.out;have au:=qKH q u;have lL:=qA (qHv q u);obtain⟨Ao,co,rfl,_⟩:=OwI.form HO.out;by_cases ac:q<n
  ·have GG:(q:Int)<(n:Int):=tO;have HK:Hid (I64 (q:Int)):=qA (by unfold I64;omega);rcases e6:((q:Int) != (u:Int)) with _ | _
   ·have jI:(q:Int)=(u:Int):=by simpa using e6
    have HD:Hid ((u:Int)::delO (q+1) (u:Int)=(u:Int)::delO q (u:Int)):=qA (by rw[lL.out,if_neg (by simp[jI])]);generalize ((u:Int)::delO q (u:Int))=lo at*;clear jI lL;go_wp2;go_roundw
    case rel=>exact⟨q+1,tO,by go_num,by rw[HD.out];exact HO.out,HB.out⟩
    case measure=>simp[intOf];omega
   ·have jI:(q:Int)≠(u:Int):=by simpa using e6
    have HD:Hid ((u:Int)::delO (q+1) (u:Int)=((u:Int)::delO q (u:Int))++ [(q:Int)]):=qA (by rw[lL.out,if_pos jI]);generalize ((u:Int)::delO q (u:Int))=lo at*;clear jI lL;go_wp2_with (at_builtin;refine qd rfl (.tmp 30) (.tmp 32) rfl _ _ _ (OwI.alloc HO.out _) rfl _ _ rfl (qa _ _ _) HK.out (by first | omega | (simp<;>omega)) (by first | omega | (simp<;>omega)) ?_;intro v9 wv9 o9 g9 p9)
    have O9:=qA o9;have B9:Hid (Below (w.heap.size+2) W wv9):=qA ((HB.out.alloc tO (.cells #[.int .i64 q] 3)).grown g9 (by simp<;>omega) (fun c hc=>(HO.out.1.lt c hc).1));clear o9 g9 p9;go_roundw
    case rel=>exact⟨q+1,tO,by go_num,by rw[HD.out];exact O9.out,B9.out⟩
    case measure=>simp[intOf];omega
  ·obtain rfl:q=n:=tO
   clear lL;have uT:Hid (OrdN (q:Int) ((u:Int)::delO q (u:Int))):=Bu;have vv:Hid (grB (rnG (g1,(q:Int),es) ((u:Int)::delO q (u:Int)))=true):=rm;have vc:Hid (movG (g1,(q:Int),es) u=qAj (rnG (g1,(q:Int),es) ((u:Int)::delO q (u:Int)))):=nr;clear Bu rm nr;generalize ((u:Int)::delO q (u:Int))=lo at*;go_wp2_with fail;refine(qIg _ _ (g1,(q:Int),es) lo wi (HA.out wi HB.out) HO.out.rd aH.out uT.out).mono ?_
   rintro e w5 ⟨r5,rfl,o5,b5⟩;have gW:=b5.size;have B5:Hid (Below (w.heap.size+2) W w5):=qA (HB.out.trans (b5.mono tO));generalize rnG (g1,(q:Int),es) lo=M at*;obtain⟨m1,m2,ms⟩:=M;have Gz:=qA o5.arg;obtain⟨s5,rfl,_,_,bg⟩:=o5;obtain⟨A5,c5,rfl,_⟩:=bg.form;simp only at*
   clear bg b5 q0 q1 q2;go_wp2_with fail;refine(qCf _ (m1,m2,ms) w5 Gz.out vv.out).mono ?_
   rintro e w6 ⟨r6,rfl,o6,b6⟩;have iD:=b6.size;have B6:Hid (Below (w.heap.size+2) W w6):=qA (B5.out.trans (b6.mono tO));generalize qAj (m1,m2,ms)=K at*;obtain⟨k1,k2,ks⟩:=K;obtain⟨s6,rfl,bV,ce,lU⟩:=o6;obtain⟨A6,c6,rfl,_⟩:=lU.form;simp only at*
   have yy:=qA lU;clear b6 lU;obtain⟨⟨r0,r1,r2⟩,cF⟩:=k8.out w6 B6.out;have eu:=cF 0;have eE:=cF 1;have eG:=cF 2;have aj:=qA (BX.out.trans (B6.out.mono tO));have EV:w.heap.size+1<w6.heap.size:=tO;clear cF;go_wp2;obtain⟨e0,e1,e2⟩:=qi (.int .i64 k1) (.int .i64 k2) (.slice A6 ks.length c6) r0 r1 r2;have bw:Below w.heap.size w (((w6.setCell ⟨w.heap.size+1,0,none⟩ (.int .i64 k1)).setCell ⟨w.heap.size+1,1,none⟩ (.int .i64 k2)).setCell ⟨w.heap.size+1,2,none⟩ (.slice A6 ks.length c6)):=(((aj.out.setCell (by simp<;>omega) _).setCell (by simp<;>omega) _).setCell (by simp<;>omega) _);have ow:OwE (((w6.setCell ⟨w.heap.size+1,0,none⟩ (.int .i64 k1)).setCell ⟨w.heap.size+1,1,none⟩ (.int .i64 k2)).setCell ⟨w.heap.size+1,2,none⟩ (.slice A6 ks.length c6)) w.heap.size (.slice A6 ks.length c6) ks:=OwE.mono (((yy.out.far (by show w.heap.size+1<_;omega) _).far (by show w.heap.size+1<_;omega) _).far (by show w.heap.size+1<_;omega) _) tO;generalize (((w6.setCell ⟨w.heap.size+1,0,none⟩ (.int .i64 k1)).setCell ⟨w.heap.size+1,1,none⟩ (.int .i64 k2)).setCell ⟨w.heap.size+1,2,none⟩ (.slice A6 ks.length c6))=wf at*;rw[vc.out];exact bodyPost_ret (v:= .tuple #[.agg #[.int .i64 k1, .int .i64 k2, .slice A6 ks.length c6], .bool true]) (by simp[results,Tryz.results78,go_sem,e0,e1,e2]) rfl ⟨_,rfl,⟨.slice A6 ks.length c6,rfl,bV,ce,ow⟩,bw⟩
theorem qPE {w:World} {u:Value} {xs:List Int} (h:RdI w u xs):RdII (w.alloc (.cells #[u] 37)) (.slice (some ⟨w.heap.size,0,none⟩) 1 1) [xs]:=
 (qIC.lit w [u] [xs] rfl (fun i h1 h2=>by
  match i,h1,h2 with
  | 0,_,_=>exact h) (by simp) (zaa _)).rd
theorem qDf (v:Value) (xs:List Int) (w:World) (h:RdI w v xs) (hl:xs.length≤536870912):
  Calls Tryz.prog 109 #[v] w fun e w'=> ∃r,e= .returned r∧OwI w' w.heap.size r (redL [] xs)∧Below w.heap.size w w':=by
 have H:=qA h;obtain⟨A,cap,rfl,_⟩:=h.arg;clear h;go_enter Tryz.func109,Tryz.ntmps109
 go_wp2_with (go_at_call 97;refine(qEK _ [xs] _ (qPE H.out) (by simp[qAr];omega) (by simp)).mono ?_;rintro e w1 ⟨r1,rfl,o1,b1⟩;have O1:=qA o1;have B1:=qA b1;clear o1 b1)
 go_ret;exact⟨_,rfl,by have:=O1.out.mono (base':=w.heap.size) (by simp);simpa[qFa] using this,(by repeat(first | exact .refl _ _ | (refine BxS ?_ _) | (refine qD ?_ _) | (refine zao ?_) | (refine BxA ?_ _) | (refine BxT ?_ (Hid.out B1))))⟩
theorem qPK {w W:World} {a b c:Value} {t:TypeId} (hW:W=w.alloc (.cells #[a,b,c] t)):W.heap.size=w.heap.size+1∧Below w.heap.size w W∧
  (∀w',Below (w.heap.size+1) W w'→w'.cell? ⟨w.heap.size,0,none⟩=some a∧w'.cell? ⟨w.heap.size,1,none⟩=some b∧w'.cell? ⟨w.heap.size,2,none⟩=some c):=by
 have hs:W.heap.size=w.heap.size+1:=by rw[hW];simp
 have h0:W.cell? ⟨w.heap.size,0,none⟩=some a:=by rw[hW];simp[go_sem]
 have h1:W.cell? ⟨w.heap.size,1,none⟩=some b:=by rw[hW];simp[go_sem]
 have h2:W.cell? ⟨w.heap.size,2,none⟩=some c:=by rw[hW];simp[go_sem]
 exact⟨hs,by rw[hW];exact(zab _ _).alloc (zaa _) _,fun w' hb=>⟨(hb.cell (p:=⟨w.heap.size,0,none⟩) (zaj _)).trans h0,(hb.cell (p:=⟨w.heap.size,1,none⟩) (zaj _)).trans h1,(hb.cell (p:=⟨w.heap.size,2,none⟩) (zaj _)).trans h2⟩⟩
theorem qGx {g:GrD} (h:qR g=true):qb g=true:=by
 unfold qR at h;simp only[zaA] at h;exact h.1.1
structure IsI (a b:GrD) (ls:List Int) (N P bl capl:Nat) (W wr:World) (out:Value) (o im:List Int):Prop where
 ok:qAB (N:Int) o
 len:im.length=N
 img: ∀y:Nat,y<N→(y:Int)∈o→im[y]? =some (imgW a b y)∧0≤imgW a b y
 fnd:OwI wr (P+1) out o
 row:OwI wr P (.slice (some ⟨P,0,none⟩) N N) im
 lets:RdI wr (.slice (some ⟨bl,0,none⟩) ls.length capl) ls
 ne:out.ownBlock≠some bl
 blt:bl<wr.heap.size
 blP:P<bl
 bel:Below P W wr
section
variable {a b:GrD} {ls:List Int} {N P bl capl:Nat} {W wr w':World} {out:Value} {o im:List Int}
theorem IsI.below (h:IsI a b ls N P bl capl W wr out o im) (hb:Below wr.heap.size wr w'):IsI a b ls N P bl capl W w' out o im:=
 ⟨h.ok,h.len,h.img,h.fnd.below hb,h.row.below hb,h.lets.below hb,h.ne,Nat.lt_of_lt_of_le h.blt hb.size,h.blP,h.bel.trans (hb.mono (by have:=h.blt;have:=h.blP;omega))⟩
theorem IsI.found (h:IsI a b ls N P bl capl W wr out o im) {y:Nat} (hy:y<N) {v9:Value} {w9:World} {ob:Obj} (af:qAB (N:Int) (o++ [(y:Int)])) (o9:OwI w9 (P+1) v9 (o++ [(y:Int)])) (g9:(wr.alloc ob).grownBy w9 out.ownBlock)
  (p9:v9.ownBlock=out.ownBlock∨v9.ownBlock=some (wr.alloc ob).heap.size) {z:Int} (hz:imgW a b y=z) (cD:0≤z) (hz64:I64 z):
  IsI a b ls N P bl capl W (w9.setCell ⟨P,y,none⟩ (.int .i64 z)) v9 (o++ [(y:Int)]) (im.set y z):=by
 have kn:=g9.size;have xy:(wr.alloc ob).heap.size=wr.heap.size+1:=by simp
 have dv:=h.blt;have Dq:=h.blP;have hP: ∀c,out.ownBlock=some c→P+1≤c:=fun c hc=>(h.fnd.1.lt c hc).1;have bC:OwI w9 P (.slice (some ⟨P,0,none⟩) N N) im:=(h.row.alloc ob).kept g9 (.inr fun e=>by have:=hP P (by rw[←e];rfl);omega);have iV:RdI w9 (.slice (some ⟨bl,0,none⟩) ls.length capl) ls:=(h.lets.alloc ob).grown g9 fun b hb aJ=>by
  simp only[zad,zaJ.injEq] at hb;subst hb;exact h.ne aJ
 obtain⟨r1,r2⟩:=bC.set y z hz64;refine⟨af,by rw[List.length_set];exact h.len,fun j hj hm=> ?_,o9.far (p:=⟨P,y,none⟩) (zaj _) _,r1,iV.grown r2 fun b hb aJ=>by simp[zad] at hb aJ;omega,?_,by simp;omega,h.blP,?_⟩
 ·by_cases e:j=y
  ·subst e;rw[List.getElem?_set_self (by rw[h.len];exact hy),hz];exact⟨rfl,cD⟩
  ·rw[List.getElem?_set_ne (Ne.symm e)];rcases zas.1 hm with hm | hm
   ·exact h.img j hj hm
   ·rw[zam] at hm;omega
 ·rcases p9 with p9 | p9
  ·rw[p9];exact h.ne
  ·rw[p9];intro e;injection e with e
   omega
 ·refine Below.setCell ?_ (by show P≤P;omega) _;exact qe h.bel tO h.fnd.1 tO g9
end
theorem qFb (va vb:Value) (a b:GrD) (w:World) (ha:ArgG w va a) (hb:ArgG w vb b):
  Calls Tryz.prog 48 #[va,vb] w fun e w'=>e= .returned (.bool (qAG a b))∧Below w.heap.size w w':=by
 have dI:=qA ha;have aI:=qA hb;obtain⟨sa,rfl,aT,aS,dJ⟩:=ha;obtain⟨Aa,capa,rfl⟩:=dJ.form;obtain⟨sb,rfl,OZ,Mx,fI⟩:=hb;obtain⟨Ab,capb,rfl⟩:=fI.form;obtain⟨a1,a2,es⟩:=a;obtain⟨b1,b2,fs⟩:=b;simp only at*
 clear dJ fI;obtain⟨i0,cE,cD,bI,cj⟩:=info_parts qCR;go_enter Tryz.func48,Tryz.ntmps48
 go_wp2_with fail;obtain⟨W1,an⟩: ∃W,W=w.alloc (.cells #[.int .i64 a1,.int .i64 a2, .slice Aa es.length capa] 26):=⟨_,rfl⟩;obtain⟨aw,y8,aR⟩:=qPK an;rw[←an];obtain⟨W,hW⟩: ∃W,W=W1.alloc (.cells #[.int .i64 b1,.int .i64 b2, .slice Ab fs.length capb] 26):=⟨_,rfl⟩;obtain⟨cT,vN,dg⟩:=qPK hW;rw[←hW];have aW:W.heap.size=w.heap.size+2:=tO;have BX:Hid (Below w.heap.size w W):=qA (y8.trans (vN.mono tO));have bM:=qA aR;have cG:=qA dg;have fH:=qA vN;have jm:Hid (∀w',Below (w.heap.size+2) W w'→w'.cell? ⟨w.heap.size,0,none⟩=some (.int .i64 a1)∧w'.cell? ⟨w.heap.size,1,none⟩=some (.int .i64 a2)∧w'.cell? ⟨w.heap.size,2,none⟩=some (.slice Aa es.length capa)):=qA fun w' hb=>bM.out w' ((fH.out.mono tO).trans (hb.mono tO));have jv:Hid (∀w',Below (w.heap.size+2) W w'→w'.cell? ⟨w.heap.size+1,0,none⟩=some (.int .i64 b1)∧w'.cell? ⟨w.heap.size+1,1,none⟩=some (.int .i64 b2)∧w'.cell? ⟨w.heap.size+1,2,none⟩=some (.slice Ab fs.length capb)):=qA fun w' hb=>by
  have h:=cG.out w' (by rw[aw];exact hb);rwa [aw] at h
 have lT:Hid (∀w',Below (w.heap.size+2) W w'→ArgG w' (.agg #[.int .i64 a1, .int .i64 a2, .slice Aa es.length capa]) (a1,a2,es)):=qA fun w' hb=>dI.out.below (BX.out.trans (hb.mono tO));have mD:Hid (∀w',Below (w.heap.size+2) W w'→ArgG w' (.agg #[.int .i64 b1, .int .i64 b2, .slice Ab fs.length capb]) (b1,b2,fs)):=qA fun w' hb=>aI.out.below (BX.out.trans (hb.mono tO));clear an hW aR dg y8 vN bM cG fH aw cT;refine(qAH _ (a1,a2,es) W (lT.out W ((zab W.heap.size W).mono tO))).mono ?_
 rintro e w2 ⟨rfl,da⟩;have cT:=da.size;have B2:Hid (Below (w.heap.size+2) W w2):=qA (da.mono tO);clear da;obtain⟨p0,p1,p2⟩:=jm.out w2 B2.out;obtain⟨q0,q1,q2⟩:=jv.out w2 B2.out;rcases ea:qR (a1,a2,es) with _ | _
 ·have F:Hid (qAG (a1,a2,es) (b1,b2,fs)=false):=qA (by unfold qAG;rw[ea];rfl);have aj:Hid (Below w.heap.size w w2):=qA (BX.out.trans (B2.out.mono tO));clear ea;go_wp2;go_ret;exact⟨qM F.out.symm,aj.out⟩
 go_wp2_with fail;refine(qAH _ (b1,b2,fs) w2 (mD.out w2 B2.out)).mono ?_
 rintro e w3 ⟨rfl,cX⟩;have fS:=cX.size;have B3:Hid (Below (w.heap.size+2) W w3):=qA (B2.out.trans (cX.mono tO));clear cX p0 p1 p2 q0 q1 q2;obtain⟨p0,p1,p2⟩:=jm.out w3 B3.out;obtain⟨q0,q1,q2⟩:=jv.out w3 B3.out;rcases eb:qR (b1,b2,fs) with _ | _
 ·have F:Hid (qAG (a1,a2,es) (b1,b2,fs)=false):=qA (by unfold qAG;rw[ea,eb];rfl);have aj:Hid (Below w.heap.size w w3):=qA (BX.out.trans (B3.out.mono tO));clear ea eb;go_wp2;go_ret;exact⟨qM F.out.symm,aj.out⟩
 rcases er:(a1 != b1) with _ | _
 rotate_left
 ·have ai:a1≠b1:=by simpa using er
  have F:Hid (qAG (a1,a2,es) (b1,b2,fs)=false):=qA (by unfold qAG;simp[ai]);have aj:Hid (Below w.heap.size w w3):=qA (BX.out.trans (B3.out.mono tO));clear ea eb ai;go_wp2;go_ret;exact⟨qM F.out.symm,aj.out⟩
 obtain rfl:a1=b1:=by simpa using er
 have aL:=qZ ea;have a8:=qZ eb;have cY:=(qE (qGx ea)).2;have d6:=(qE (qGx eb)).2;obtain⟨li,fG,aQ,_⟩:=qB aL;obtain⟨_,DC,_,_⟩:=qB a8;simp only at li fG aQ DC
 obtain⟨N,rfl⟩: ∃N:Nat,a2=(N:Int):=⟨a2.toNat,tO⟩;obtain⟨r,rfl⟩: ∃r:Nat,a1=(r:Int):=⟨a1.toNat,tO⟩;have F:Hid (qAG ((r:Int),(N:Int),es) ((r:Int),b2,fs)=(canO ((r:Int),(N:Int),es)).all fun u=>(qG r).all (stB ((r:Int),(N:Int),es) ((r:Int),b2,fs) u)):=qA (by unfold qAG;rw[ea,eb];simp);have ONEA:=qA (qp cY);have ONEB:=qA (qp d6);have HZ:Hid (imgW ((r:Int),(N:Int),es) ((r:Int),b2,fs) 0=0):=qA (by unfold imgW;rw[qBX aL];rfl);have ni:Hid (TwS ((r:Int),(N:Int),es) (qG r) 0 [0]):=qA (TwS.zero ((r:Int),(N:Int),es));have kS:Hid (canO ((r:Int),(N:Int),es)=canF es (qG r) 41 0 [0]):=qA rfl;have AK:Hid (∀(k:Nat) (o:List Int) (u:Int),TwS ((r:Int),(N:Int),es) (qG r) k o→o[k]? =some u→k<41→0≤imgW ((r:Int),(N:Int),es) ((r:Int),b2,fs) u→ ∀(m:Nat) (hm:m<(qG r).length),0≤qF es u (qG r)[m]→hasB (((qG r).take m).foldl (qW es u) o) (qF es u (qG r)[m])=false→0≤qF fs (imgW ((r:Int),(N:Int),es) ((r:Int),b2,fs) u) (qG r)[m]→
   imgW ((r:Int),(N:Int),es) ((r:Int),b2,fs) (qF es u (qG r)[m])=qF fs (imgW ((r:Int),(N:Int),es) ((r:Int),b2,fs) u) (qG r)[m]):=qA fun k o u h h1 h2 h0 m hm h3 h4 h5=>by
  have hw:=h.new aL h1 h2 hm h3 h4;simp only at hw
  unfold imgW at h0 h5⊢;simp only at h0 h5⊢
  rw[hw,qAd _ _ _ _ h0,qBw _ _ _ h5]
 have vf:Hid (qAB (N:Int) [0]):=qA (qAB.one tO);have OKm:Hid (∀(u:Int) (o:List Int) (k:Nat),qAB (N:Int) o→qAB (N:Int) (((qG r).take k).foldl (qW es u) o)):=qA fun u o k h=>qBj aL _ k h;have OKL:Hid (∀o:List Int,qAB (N:Int) o→o.length≤40):=qA fun o h=>h.len tO tO;have NVA:Hid (∀u x,qF es u x= -1∨(0≤qF es u x∧qF es u x<N)):=qA fun u x=>qO aL u x;have NVB:Hid (∀u x,qF fs u x= -1∨(0≤qF fs u x∧qF fs u x<41)):=qA fun u x=>by
  rcases qO a8 u x with e | e
  ·exact .inl e
  ·exact .inr ⟨e.1,by have:=e.2;simp only at this;omega⟩
 have dT:=qy r;have cR:=qA (fun W=>qAs r W tO);have Bt:=qFO (n:=r) tO;have kJ:=qA Bt;generalize qG r=ls at*;obtain⟨IMG,vg⟩: ∃I,I=imgW ((r:Int),(N:Int),es) ((r:Int),b2,fs):=⟨_,rfl⟩;have me:=qA vg;rw[←vg] at HZ AK;clear ea eb aL a8 cY d6 Bt vg;go_wp2_with (at_make;refine wpList_make_full _ rfl _ _ 37 rfl w3.heap.size 3 i0 (.int .i64 0) 1 Tryz.underlying37 cE cD bI _ _ _ _ N rfl rfl rfl rfl (by rw[cj];omega) (by unfold maxLen;omega) (zaa _) ?_)
 intro w4 hown4 hgrow4;have lZ:w3.heap.size<w4.heap.size:=(hown4.lt w3.heap.size rfl).2;have J2:Below w3.heap.size w3 w4:=(zab w3.heap.size w3).grown hgrow4 (zaa _) (fun k h=>by cases h);have R4:OwI w4 w3.heap.size (.slice (some ⟨w3.heap.size,0,none⟩) N N) (zaD N 0):=⟨by simpa[ints,toList_madeCells_one] using hown4,fun x hx=>by rw[(List.mem_replicate.1 hx).2];exact⟨by decide,by decide⟩⟩;have O5:OwI (w4.alloc (.cells #[.int .i64 0] 3)) w4.heap.size (.slice (some ⟨w4.heap.size,0,none⟩) 1 1) [0]:=qAE w4 [0] (fun x hx=>by simp at hx;subst hx;exact⟨by decide,by decide⟩) (by simp) (zaa _);have R5:=R4.alloc (.cells #[.int .i64 0] 3);have Fq:Below w3.heap.size w3 (w4.alloc (.cells #[.int .i64 0] 3)):=J2.alloc tO _;have gW:(w4.alloc (.cells #[.int .i64 0] 3)).heap.size=w4.heap.size+1:=by simp
 have Ov:=qA O5;have Lh:=qA R5;have l4:=qA Fq;have B5:Hid (Below (w.heap.size+2) W (w4.alloc (.cells #[.int .i64 0] 3))):=qA (B3.out.trans (Fq.mono tO));clear hown4 hgrow4 J2 R4 O5 R5 Fq p0 p1 p2 q0 q1 q2;obtain⟨p0,p1,p2⟩:=jm.out _ B5.out;go_wp2_with fail;generalize w4.alloc (.cells #[.int .i64 0] 3)=w5 at*;refine(cR.out w5).mono ?_
 rintro e w6 ⟨rl,rfl,ol,b6⟩;have iD:=b6.size;obtain⟨Al,capl,rfl,cU,cV,_,dC⟩:=OwI.form ol;obtain⟨bl,rfl,jR,dw⟩:=dC tO;unfold maxLen at cV;have pQ:Hid (IsI ((r:Int),(N:Int),es) ((r:Int),b2,fs) ls N w3.heap.size bl capl w3 w6 (.slice (some ⟨w4.heap.size,0,none⟩) 1 1) [0] (zaD N 0)):=qA
  ⟨vf.out,by simp,fun y hy hm=>by
   rw[zam] at hm;obtain rfl:y=0:=tO
   have hz:imgW ((r:Int),(N:Int),es) ((r:Int),b2,fs) ((0:Nat):Int)=0:=by have:=HZ.out;rw[me.out] at this;exact this
   rw[hz];exact⟨by simp[hy],zaF _⟩,(Ov.out.below b6).mono tO,Lh.out.below b6,ol.rd,by simp[zad];omega,dw,tO,l4.out.trans (b6.mono tO)⟩
 clear ol b6 dC p0 p1 p2;go_wp2;have cJ:Hid (∀wr,Below w3.heap.size w3 wr→Below (w.heap.size+2) W wr):=qA fun wr hb=>B3.out.trans (hb.mono tO);go_loopw [6,8] (fun out i wo=> ∃(k:Nat) (o im:List Int),k≤o.length∧i= .int .i64 k∧TwS ((r:Int),(N:Int),es) ls k o∧canO ((r:Int),(N:Int),es)=canF es ls (41-k) k o∧(∀j u,j<k→o[j]? =some u→ls.all (stB ((r:Int),(N:Int),es) ((r:Int),b2,fs) u)=true)∧IsI ((r:Int),(N:Int),es) ((r:Int),b2,fs) ls N w3.heap.size bl capl w3 wo out o im) (fun _ i _=>41-(intOf i).toNat)
 case atStart=>exact⟨0,[0],_,by simp,rfl,ni.out,kS.out,fun j u hj=>absurd hj (Nat.not_lt_zero _),pQ.out⟩
 case round=>
  obtain⟨k,o,im,hk,rfl,m8,eT,aB,hI⟩:=hrel;obtain⟨wo,rfl⟩: ∃wo:World,wo=wr:=⟨_,rfl⟩;have gV:=OKL.out o hI.ok;have pp:=qA m8;have HC:=qA eT;have oF:=qA aB;have HI:=qA hI;obtain⟨A1,ah,rfl,_⟩:=OwI.form HI.out.fnd;clear m8 eT aB hI;by_cases ac:k<o.length
  ·obtain⟨u,hu⟩: ∃u,o[k]? =some u:=⟨o[k],by simp⟩;have fV:o[k]=u:=by rw[zac ac] at hu;injection hu
   have jh:Hid (canO ((r:Int),(N:Int),es)=canF es ls (41-(k+1)) (k+1) (ls.foldl (qW es u) o)):=qA (by
    rw[HC.out,show 41-k=(41-(k+1))+1 by omega,qBd _ _ _ _ _ ac,fV])
   have tZ:=qA (pp.out.step hu tO);have vu:u∈o:=zar hu;obtain⟨un,rfl,iO⟩: ∃un:Nat,u=(un:Int)∧un<N:=by
    have h1:=HI.out.ok.2.1 u vu;exact⟨u.toNat,tO,tO⟩
   have ru:=qA (HI.out.img un iO vu);have uB:=qA (AK.out k o (un:Int) pp.out hu tO (by rw[me.out];exact ru.out.2));have dk:Hid (∀m:Nat,(((ls.take m).foldl (qW es (un:Int)) o))[k]? =some (un:Int)):=qA fun m=>qr _ _ _ _ _ _ hu;have Ey:Hid (∀(j:Nat) (y:Int),o[j]? =some y→(ls.foldl (qW es (un:Int)) o)[j]? =some y):=qA fun j y h=>qr _ _ _ _ _ _ h;have gH:Hid (∀(m:Nat) (hm:m<ls.length),(ls.take (m+1)).foldl (qW es (un:Int)) o=qW es (un:Int) ((ls.take m).foldl (qW es (un:Int)) o) ls[m]):=qA fun m hm=>qBm _ _ _ _ _ hm;have di:Hid (∀m:Nat,qAB (N:Int) ((ls.take m).foldl (qW es (un:Int)) o)):=qA fun m=>OKm.out (un:Int) o m HI.out.ok;have q9:Hid ((un:Int)∈canO ((r:Int),(N:Int),es)):=qA (by
    rw[HC.out,show 41-k=(41-(k+1))+1 by omega,qBd _ _ _ _ _ ac,fV];have key: ∀(f i:Nat) (p:List Int) (j:Nat) (y:Int),p[j]? =some y→(canF es ls f i p)[j]? =some y:=by
     intro f;induction f with
     | zero=>intro i p j y h;exact h
     | succ f ih=>
       intro i p j y h;rw[canF];cases p[i]? with
       | none=>exact h
       | some v=>exact ih _ _ _ _ (qr _ _ _ _ _ _ h)
    exact zar (key _ _ _ k _ (qr _ _ _ _ _ _ hu)))
   clear hu fV vu;go_wp2;go_loopw [6,9] (fun out j wr=> ∃(m:Nat) (im:List Int),m≤ls.length∧j= .int .i64 m∧(∀l∈ls.take m,stB ((r:Int),(N:Int),es) ((r:Int),b2,fs) (un:Int) l=true)∧IsI ((r:Int),(N:Int),es) ((r:Int),b2,fs) ls N w3.heap.size bl capl w3 wr out ((ls.take m).foldl (qW es (un:Int)) o) im) (fun _ j _=>ls.length-(intOf j).toNat)
   case atStart=>exact⟨0,im,zak _,rfl,fun l hl=>by simp at hl,HI.out⟩
   case round=>
    obtain⟨m,tY,dj,rfl,hst,vT⟩:=hrel;have cK:=qA hst;have dL:=qA vT;obtain⟨wj,rfl⟩: ∃wj:World,wj=wr:=⟨_,rfl⟩;have bN:=vT.blt;have K9:=vT.blP;clear hst vT;by_cases al:m<ls.length
    ·have az:=di.out m;have ke:=OKL.out _ az;have bZ:=dk.out m;have HS:=qA (gH.out m al);have ro:=qA (uB.out m al);have zk:=qA (di.out (m+1));obtain⟨_,_,dp,_,nG⟩:=dL.out.lets.at tO;obtain⟨rfl,rfl⟩:bl=_∧0=_:=by simpa using dp
     have c0:=nG m al;rw[zaB] at c0;have mp:=qA (kJ.out ls[m] (by simp));have mo:Hid (∀l∈ls.take (m+1),l∈ls.take m∨l=ls[m]):=qA fun l hl=>by
      rw[zag al] at hl;rcases zas.1 hl with h | h
      ·exact .inl h
      ·exact .inr (zam.1 h)
     have jM:Hid (ls[m]∈ls):=qA (zah _);have oJ:Hid (stB ((r:Int),(N:Int),es) ((r:Int),b2,fs) (un:Int) ls[m]=(decide (qF es (un:Int) ls[m]<0)||(decide (0≤qF fs (IMG (un:Int)) ls[m])&&decide (IMG (qF es (un:Int) ls[m])=qF fs (IMG (un:Int)) ls[m])))):=qA (by rw[me.out];rfl);rw[HS.out] at zk;generalize ls[m]=x at*;generalize il:(ls.take m).foldl (qW es (un:Int)) o=om at*;clear il;have ji:k<om.length:=(zat.1 bZ).1;have lh:om[k]=(un:Int):=by rw[zac ji] at bZ;injection bZ
     obtain⟨A2,ak,rfl,_,_,_,a7⟩:=OwI.form dL.out.fnd;obtain⟨da,rfl,uY,gY⟩:=a7 tO;have d0:=dL.out.fnd.cellAt k ji;rw[lh] at d0;have fK:(un:Int)∈om:=zar bZ;have Ix:=dL.out.img un iO fK;have n7:=dL.out.len;have e0:=dL.out.row.cellAt un (by rw[n7];exact iO);have AD:tY[un]'(by rw[n7];exact iO)=IMG (un:Int):=by
      have h:=Ix.1;rw[zac (by rw[n7];exact iO)] at h;rw[me.out];injection h
     rw[AD] at e0;have Pk:w3.heap.size<wj.heap.size:=tO;have bm:w.heap.size<wj.heap.size:=tO;have fD:w.heap.size+1<wj.heap.size:=tO;have oY:=qA (cJ.out wj dL.out.bel);obtain⟨p0,p1,p2⟩:=jm.out wj oY.out;obtain⟨q0,q1,q2⟩:=jv.out wj oY.out;have NX:=qA (NVA.out (un:Int) x);have NY:=qA (NVB.out (IMG (un:Int)) x);have N0:=qA (qCo (es:=es) (u:=(un:Int)) (x:=x) (o:=om));have N1:=qA (qCz (es:=es) (u:=(un:Int)) (x:=x) (o:=om));have N2:=qA (qCF (es:=es) (u:=(un:Int)) (x:=x) (o:=om));have mP:=qA (fun W' (h:ArgG W' (.agg #[.int .i64 (r:Int), .int .i64 (N:Int), .slice Aa es.length capa]) ((r:Int),(N:Int),es))=>qU _ ((r:Int),(N:Int),es) (un:Int) x W' h (ONEA.out (un:Int) x));have fp:=qA (fun W' (h:ArgG W' (.agg #[.int .i64 (r:Int), .int .i64 b2, .slice Ab fs.length capb]) ((r:Int),b2,fs))=>qU _ ((r:Int),b2,fs) (IMG (un:Int)) x W' h (ONEB.out (IMG (un:Int)) x));have BR:(un:Int)<(N:Int):=tO;have te:Hid (stB ((r:Int),(N:Int),es) ((r:Int),b2,fs) (un:Int) x=false→qAG ((r:Int),(N:Int),es) ((r:Int),b2,fs)=false):=qA fun h=>by
      rw[F.out,zax];intro hc;have h1:=zai.1 (zai.1 hc (un:Int) q9.out) x jM.out;rw[h] at h1;cases h1
     clear nG dp a7 bZ lh az fK Ix AD;simp only at mP fp
     go_wp2_with fail;have f0:=BelW.cell p0 bm;have f1:=BelW.cell p1 bm;have f2:=BelW.cell p2 bm;have f3:=BelW.cell c0 bN;have f4:=BelW.cell d0 gY;(refine qH tK tK ?_;(repeat(go_big_quiet_step (first | (go_at_call 86;exact Calls.bel_of (mP.out _ (lT.out _ (oY.out.trans ((BelW.h _).mono tO))))))));refine wpQuiet_nil ?_;intro wq aA;obtain⟨pq,ae⟩:=aA;have bq:=pq.h;rw[←ae] at bq;clear ae pq)
     clear f0 f1 f2 f3 f4 p0 p1 p2;have sq:=bq.size;have c1:=(bq.cell (p:=⟨bl,m,none⟩) bN).trans c0;have d1:=(bq.cell (p:=⟨da,k,none⟩) gY).trans d0;have e1:=(bq.cell (p:=⟨w3.heap.size,un,none⟩) Pk).trans e0;have Ea:=qA (dL.out.below bq);have ej:=qA (cJ.out wq Ea.out.bel);clear bq c0 d0 e0 q0 q1 q2;obtain⟨q0,q1,q2⟩:=jv.out wq ej.out;generalize qF es (un:Int) x=y at*;rcases NX.out with hy | hy
     ·subst hy;have F0:=qA (N0.out tO);have oo:Hid (stB ((r:Int),(N:Int),es) ((r:Int),b2,fs) (un:Int) x=true):=qA (by rw[oJ.out];simp);go_wp2;go_roundw
      case rel=>exact⟨m+1,tY,tO,by go_num,fun l hl=>by
       rcases mo.out l hl with h | rfl
       ·exact cK.out l h
       ·exact oo.out,by rw[HS.out,F0.out];exact Ea.out⟩
      case measure=>simp[intOf];omega
     ·obtain⟨yn,rfl⟩: ∃yn:Nat,y=(yn:Int):=⟨y.toNat,tO⟩;have ic:(0:Int)≤(yn:Int):=hy.1;have C8:(yn:Int)<(N:Int):=hy.2;have eI:yn<N:=tO;have sF: ¬((yn:Int)<0):=tO;have wD:w.heap.size+1<wq.heap.size:=tO;have Et:bl<wq.heap.size:=tO;have EY:da<wq.heap.size:=tO;have uU:w3.heap.size<wq.heap.size:=tO;go_wp2_with fail;have f0:=BelW.cell q0 wD;have f1:=BelW.cell q1 wD;have f2:=BelW.cell q2 wD;have f3:=BelW.cell c1 Et;have f4:=BelW.cell d1 EY;have f5:=BelW.cell e1 uU;(refine qH tK tK ?_;(repeat(go_big_quiet_step (first | (go_at_call 86;exact Calls.bel_of (fp.out _ (mD.out _ (ej.out.trans ((BelW.h _).mono tO))))))));refine wpQuiet_nil ?_;intro wz aA;obtain⟨pq,ae⟩:=aA;have bz:=pq.h;rw[←ae] at bz;clear ae pq)
      clear f0 f1 f2 f3 f4 f5 q0 q1 q2;have sz:=bz.size;have eW:=qA (Ea.out.below bz);clear bz c1 d1 e1;generalize qF fs (IMG (un:Int)) x=z at*;rcases NY.out with hz | hz
      ·subst hz;have wO:Hid (qAG ((r:Int),(N:Int),es) ((r:Int),b2,fs)=false):=qA (te.out (by rw[oJ.out];simp[sF]));have aj:Hid (Below w.heap.size w wz):=qA (BX.out.trans ((cJ.out wz eW.out.bel).mono tO));go_wp2;go_ret;exact⟨qM wO.out.symm,aj.out⟩
      ·have cD:(0:Int)≤z:=hz.1;have Nb:z<41:=hz.2;have KA: ¬(z<0):=tO;go_wp2_with fail;refine(qBt _ om (yn:Int) _ eW.out.fnd.arg tO).mono ?_
       rintro e' w' ⟨rfl,rfl⟩;have jO:=eW.out.len;rcases h1:hasB om (yn:Int) with _ | _
       ·have F0:=qA (N2.out ic h1);have JD:=qA (ro.out ic h1 cD);have oo:Hid (stB ((r:Int),(N:Int),es) ((r:Int),b2,fs) (un:Int) x=true):=qA (by rw[oJ.out];simp[JD.out,cD]);have HY:Hid (I64 (yn:Int)):=qA ⟨tO,tO⟩;have Fb:Hid (I64 z):=qA ⟨tO,tO⟩;have FS:Hid (qAB (N:Int) (om++ [(yn:Int)])):=qA (by have h:=zk.out;rwa [F0.out] at h);have yA:=eW.out.row.cellAt yn (by rw[jO];exact eI);have Ie:=eW.out.row.free yn;have Gc:Hid (imgW ((r:Int),(N:Int),es) ((r:Int),b2,fs) (yn:Int)=z):=qA (by rw[←me.out];exact JD.out);have NJ:w3.heap.size<wz.heap.size:=tO;generalize tY[yn]'(by rw[jO];exact eI)=z9 at yA;have rU:=qA yA;have Rt:=qA Ie;clear h1 yA Ie;go_wp2_with ((at_builtin;refine qd rfl (.tmp 77) (.tmp 79) rfl _ _ _ (OwI.alloc eW.out.fnd _) rfl _ _ rfl (qa _ _ _) HY.out (by first | omega | (simp<;>omega)) (by first | omega | (simp<;>omega)) ?_;intro v9 wv9 o9 g9 p9);have xF: ∀c,(zap (some ⟨da,0,none⟩) om.length ak).ownBlock=some c→w3.heap.size+1≤c:=fun c hc=>(eW.out.fnd.1.lt c hc).1;have sT:wv9.heap[w3.heap.size]? =wz.heap[w3.heap.size]? :=(g9.block w3.heap.size (by simp;omega) (fun e=>by have:=xF w3.heap.size e.symm;omega)).trans (((zab wz.heap.size wz).alloc (zaa _) _).block w3.heap.size NJ);have No:wv9.cell? ⟨w3.heap.size,yn,none⟩=some (.int .i64 z9):=(zae (w:=wz) sT).trans rU.out;have zf:=qA (((eW.out.row.alloc (.cells #[.int .i64 (yn:Int)] 3)).kept g9 (.inr fun e=>by have:=xF w3.heap.size (by rw[←e];rfl);omega)).free yn);have NK:=zf.out;have En:=qA (eW.out.found eI FS.out o9 g9 p9 Gc.out cD Fb.out);clear o9 g9 p9 xF sT)
        go_roundw
        case rel=>exact⟨m+1,tY.set yn z,tO,by go_num,fun l hl=>by
         rcases mo.out l hl with h | rfl
         ·exact cK.out l h
         ·exact oo.out,by rw[HS.out,F0.out];exact En.out⟩
        case measure=>simp[intOf];omega
       ·have F0:=qA (N1.out ic h1);have JP:(yn:Int)∈om:=qAS.1 h1;have Ji:=eW.out.img yn eI JP;have yA:=eW.out.row.cellAt yn (by rw[jO];exact eI);have zZ:tY[yn]'(by rw[jO];exact eI)=IMG (yn:Int):=by
         have h:=Ji.1;rw[zac (by rw[jO];exact eI)] at h;rw[me.out];injection h
        rw[zZ] at yA;clear h1 JP Ji zZ;generalize IMG (yn:Int)=t at*;rcases et:(t != z) with _ | _
        ·have Ba:t=z:=by simpa using et
         have oo:Hid (stB ((r:Int),(N:Int),es) ((r:Int),b2,fs) (un:Int) x=true):=qA (by rw[oJ.out];simp[Ba,cD]);clear Ba;go_wp2;go_roundw
         case rel=>exact⟨m+1,tY,tO,by go_num,fun l hl=>by
          rcases mo.out l hl with h | rfl
          ·exact cK.out l h
          ·exact oo.out,by rw[HS.out,F0.out];exact eW.out⟩
         case measure=>simp[intOf];omega
        ·have Ba:t≠z:=by simpa using et
         have wO:Hid (qAG ((r:Int),(N:Int),es) ((r:Int),b2,fs)=false):=qA (te.out (by rw[oJ.out];simp[sF,Ba]));have aj:Hid (Below w.heap.size w wz):=qA (BX.out.trans ((cJ.out wz eW.out.bel).mono tO));clear Ba;go_wp2;go_ret;exact⟨qM wO.out.symm,aj.out⟩
    ·obtain rfl:m=ls.length:=tO
     have mV:=dL;rw[zaf] at mV cK;have zG:Hid (∀j u,j<k+1→(ls.foldl (qW es (un:Int)) o)[j]? =some u→ls.all (stB ((r:Int),(N:Int),es) ((r:Int),b2,fs) u)=true):=qA fun j u hj hu=>by
      by_cases ge:j<k
      ·have zg:j<o.length:=tO;have h2:=Ey.out j _ (zac zg);rw[h2] at hu;injection hu with hu
       exact oF.out j u ge (by rw[zac zg,hu])
      ·obtain rfl:j=k:=tO
       have h2:=dk.out ls.length;rw[zaf] at h2;rw[h2] at hu;injection hu with hu
       subst hu;exact zai.2 cK.out
     have au:k+1≤(ls.foldl (qW es (un:Int)) o).length:=by
      have:=dk.out ls.length
      rw[zaf] at this;have:=(zat.1 this).1
      omega
     obtain⟨A2,ak,rfl,_⟩:=OwI.form dL.out.fnd;go_wp2;go_roundw
     case rel=>exact⟨k+1,_,tY,au,by go_num,tZ.out,jh.out,zG.out,mV.out⟩
     case measure=>simp[intOf];omega
  ·obtain rfl:k=o.length:=tO
   have HT:Hid (qAG ((r:Int),(N:Int),es) ((r:Int),b2,fs)=true):=qA (by
    rw[F.out,HC.out,qCx];refine zai.2 fun u hu=> ?_;obtain⟨j,hj,rfl⟩:=zaE hu;exact oF.out j _ hj (zac hj))
   have aj:Hid (Below w.heap.size w wo):=qA (BX.out.trans ((cJ.out wo HI.out.bel).mono tO));go_wp2;go_ret;exact⟨qM HT.out.symm,aj.out⟩
theorem qOc {w:List Int} (h: ∀x∈w,-3≤x∧x≤3):invL w=invN w:=by
 unfold invL invN negL;congr 1
 refine List.map_congr_left fun x hx=> ?_;have:=h x hx
 exact IntWalk.wrap64_in _ ⟨tO,tO⟩
theorem NoB.red: ∀ {w:List Int},NoB w→redP w
 | [],_=>fun i hi=>by simp at hi
 | [x],_=>fun i hi=>by simp at hi
 | x::y::w,h=>fun i hi=>by
   match i,hi with
   | 0,_=>
     show invB x y=false
     unfold invB;rw[zax];intro hc;simp only[zaA,beq_iff_eq] at hc;exact h.1 hc.2
   | i+1,hi=>exact NoB.red h.2 i (by simpa using hi)
structure TreeX (f:Int→List Int) (bb P N:Nat) (w:World) (ord:Value) (o:List Int):Prop where
 ex: ∃vs:List Value,vs.length=N∧w.ownsRow bb 37 1 (.slice (some ⟨P,0,none⟩) N N) N vs∧ ∀(j:Nat) (hj:j<vs.length),
  ((j:Int)∉o∧vs[j]= .slice none 0 0)∨((j:Int)∈o∧ ∃(b cap:Nat),vs[j]= .slice (some ⟨b,0,none⟩) (f j).length cap∧(f j).length≤o.length∧OwI w P vs[j] (f j)∧P<b∧ord.ownBlock≠some b∧b<w.heap.size)
 ne:ord.ownBlock≠some P
section
variable {f:Int→List Int} {bb P N:Nat} {w w':World} {ord:Value} {o:List Int}
theorem TreeX.lt (h:TreeX f bb P N w ord o):bb≤P∧P<w.heap.size:=by
 obtain⟨vs,_,h2,_⟩:=h.ex;exact h2.lt P rfl
theorem TreeX.at_new (h:TreeX f bb P N w ord o) {y:Nat} (hy:y<N) (hn:(y:Int)∉o):w.cell? ⟨P,y,none⟩=some (.slice none 0 0):=by
 obtain⟨vs,h1,h2,h3⟩:=h.ex;rw[zaw.cellAt h2 y tO];rcases h3 y tO with ⟨_,h4⟩ | ⟨h4,_⟩
 ·rw[zac tO,h4]
 ·exact absurd h4 hn
theorem TreeX.at_old (h:TreeX f bb P N w ord o) {y:Nat} (hy:y<N) (hn:(y:Int)∈o):
  ∃(b cap:Nat),w.cell? ⟨P,y,none⟩=some (.slice (some ⟨b,0,none⟩) (f y).length cap)∧(f y).length≤o.length∧RdI w (.slice (some ⟨b,0,none⟩) (f y).length cap) (f y)∧b<w.heap.size∧P<b:=by
 obtain⟨vs,h1,h2,h3⟩:=h.ex;rw[zaw.cellAt h2 y tO];rcases h3 y tO with ⟨h4,_⟩ | ⟨_,b,cap,e1,e2,e3,e4,_,e6⟩
 ·exact absurd hn h4
 ·rw[e1] at e3;exact⟨b,cap,by rw[zac tO,e1],e2,e3.rd,e6,e4⟩
theorem TreeX.free (h:TreeX f bb P N w ord o) (j:Nat):w.frozen? ⟨P,j,none⟩=false:=by
 obtain⟨vs,h1,h2,h3⟩:=h.ex;exact zaw.frozenAt h2 j
theorem TreeX.below (h:TreeX f bb P N w ord o) (hb:Below w.heap.size w w'):TreeX f bb P N w' ord o:=by
 obtain⟨vs,h1,h2,h3⟩:=h.ex;refine⟨⟨vs,h1,qu h2 hb,fun j hj=> ?_⟩,h.ne⟩;rcases h3 j hj with h4 | ⟨h4,b,cap,e1,e2,e3,e4,e5,e6⟩
 ·exact .inl h4
 ·exact .inr ⟨h4,b,cap,e1,e2,e3.below hb,e4,e5,by have:=hb.size;omega⟩
theorem TreeX.set (h:TreeX f bb P N w ord o) {y:Nat} (hy:y<N) {b cap:Nat} {ws:List Int} (bm:f (y:Int)=ws) (hr:OwI w P (.slice (some ⟨b,0,none⟩) ws.length cap) ws) (hl:ws.length≤o.length+1) (hb:P<b) (ho:ord.ownBlock≠some b) (ac:b<w.heap.size):
  TreeX f bb P N (w.setCell ⟨P,y,none⟩ (.slice (some ⟨b,0,none⟩) ws.length cap)) ord (o++ [(y:Int)]):=by
 obtain⟨vs,h1,h2,h3⟩:=h.ex;obtain⟨s1,s2⟩:=zaw.stored h2 y (.slice (some ⟨b,0,none⟩) ws.length cap);have aq:(w.setCell ⟨P,y,none⟩ (.slice (some ⟨b,0,none⟩) ws.length cap)).heap.size=w.heap.size:=by simp
 have hg:w.grownBy (w.setCell ⟨P,y,none⟩ (.slice (some ⟨b,0,none⟩) ws.length cap)) (some P):=qBg _ _ _ _;refine⟨⟨_,by simpa using h1,s1,fun j hj=> ?_⟩,h.ne⟩;have lW:j<vs.length:=by simpa using hj
 by_cases hjy:j=y
 ·subst hjy;refine .inr ⟨by simp,b,cap,by rw[bm];simp,by rw[bm];simp;omega,?_,hb,ho,tO⟩;rw[List.getElem_set_self,bm];exact hr.kept hg (.inr fun q=>by simp[zad] at q;omega)
 ·rw[List.getElem_set_ne (Ne.symm hjy)];rcases h3 j lW with ⟨h4,h5⟩ | ⟨h4,b',cap',e1,e2,e3,e4,e5,e6⟩
  ·refine .inl ⟨?_,h5⟩;rw[zas,zam];rintro(h6 | h6)
   ·exact h4 h6
   ·omega
  ·refine .inr ⟨List.mem_append_left _ h4,b',cap',e1,by simp;omega,e3.kept hg (.inr fun hx=> ?_),e4,e5,tO⟩;rw[e1] at hx;simp[zad] at hx
   omega
theorem TreeX.lit (h:TreeX f bb P N w (.slice none 0 0) o) (ob:Obj) (n c:Nat):TreeX f bb P N (w.alloc ob) (.slice (some ⟨w.heap.size,0,none⟩) n c) o:=by
 have ac:=h.lt;obtain⟨vs,h1,h2,h3⟩:=h.ex;refine⟨⟨vs,h1,qu h2 ((zab w.heap.size w).alloc (zaa _) ob),fun j hj=> ?_⟩,by simp[zad];omega⟩;rcases h3 j hj with h4 | ⟨h4,b,cap,e1,e2,e3,e4,e5,e6⟩
 ·exact .inl h4
 ·exact .inr ⟨h4,b,cap,e1,e2,e3.alloc _,e4,by simp[zad];omega,by simp;omega⟩
theorem TreeX.push (h:TreeX f bb P N w ord o) {w9:World} {v9:Value} {ob:Obj} (hg:(w.alloc ob).grownBy w9 ord.ownBlock) (hp:v9.ownBlock=ord.ownBlock∨v9.ownBlock=some (w.alloc ob).heap.size):TreeX f bb P N w9 v9 o:=by
 have ac:=h.lt;have h':=h.below ((zab w.heap.size w).alloc (zaa _) ob);obtain⟨vs,h1,h2,h3⟩:=h'.ex;have hs:(w.alloc ob).heap.size=w.heap.size+1:=by simp
 have kn:=hg.size;refine⟨⟨vs,h1,h2.kept hg (.inr fun e=>h.ne e.symm),fun j hj=> ?_⟩,?_⟩
 ·rcases h3 j hj with h4 | ⟨h4,b,cap,e1,e2,e3,e4,e5,e6⟩
  ·exact .inl h4
  ·refine .inr ⟨h4,b,cap,e1,e2,e3.kept hg (.inr fun hx=> ?_),e4,?_,tO⟩
   ·rw[e1] at hx;simp only[zad] at hx;exact e5 hx.symm
   ·rcases hp with hp | hp
    ·rw[hp];exact e5
    ·rw[hp];intro e;injection e with e
     omega
 ·rcases hp with hp | hp
  ·rw[hp];exact h.ne
  ·rw[hp];intro e;injection e with e
   omega
end
theorem qIL (v:Value) (g:GrD) (w:World) (h:ArgG w v g) (hf:qb g=true):
  Calls Tryz.prog 192 #[v, .int .i64 0] w fun e w'=> ∃r P,e= .returned (.tuple #[r, .slice (some ⟨P,0,none⟩) g.2.1.toNat g.2.1.toNat])∧w.heap.size≤P∧TreeX (wdO g) P P g.2.1.toNat w' r (canO g)∧OwI w' w.heap.size r (canO g)∧Below w.heap.size w w':=by
 have HG:=qA h;obtain⟨hg,bO⟩:=qE hf;have ONE:=qA (qp bO);have LET:=qA (qAn hg);obtain⟨bn,aE,aK,_⟩:=qB hg;obtain⟨A,cap,hv⟩: ∃A cap,v= .agg #[.int .i64 g.1, .int .i64 g.2.1, .slice A g.2.2.length cap]:=by
  obtain⟨s,hv,_,_,ha⟩:=h;obtain⟨A,cap,rfl⟩:=ha.form;exact⟨A,cap,hv⟩
 subst hv;obtain⟨N,hN⟩: ∃N:Nat,g.2.1=(N:Int):=⟨g.2.1.toNat,tO⟩;obtain⟨rn,nh⟩: ∃rn:Nat,g.1=(rn:Int):=⟨g.1.toNat,tO⟩;have yh:1≤rn:=tO;have AW:rn≤3:=tO;have l5:1≤N:=tO;have uK:N≤40:=tO;have kS:Hid (canO g=canF g.2.2 (qG rn) 41 0 [0]):=qA (by unfold canO;rw[nh];rfl);have HZ:Hid (wdO g 0= []):=qA (qBX hg);have ni:Hid (TwS g (qG rn) 0 [0]):=qA (by have h:=TwS.zero g;rwa [nh] at h);have AK:Hid (∀(k:Nat) (o:List Int) (u:Int),TwS g (qG rn) k o→o[k]? =some u→k<41→ ∀(m:Nat) (hm:m<(qG rn).length),0≤qF g.2.2 u (qG rn)[m]→hasB (((qG rn).take m).foldl (qW g.2.2 u) o) (qF g.2.2 u (qG rn)[m])=false→wdO g (qF g.2.2 u (qG rn)[m])=wdO g u++ [(qG rn)[m]]):=qA fun k o u h h1 h2 m hm h3 h4=>h.new hg h1 h2 hm h3 h4;have vf:=qA (qAB.one (n:=g.2.1) tO);have OKS:Hid (∀(u:Int) (o:List Int) (k:Nat),qAB g.2.1 o→qAB g.2.1 (((qG rn).take k).foldl (qW g.2.2 u) o)):=qA fun u o k h=>qBj hg _ k h;have OKL:Hid (∀o:List Int,qAB g.2.1 o→o.length≤40):=qA fun o h=>h.len tO tO;have OKR:Hid (∀o:List Int,qAB g.2.1 o→ ∀y∈o,0≤y∧y<N):=qA fun o h y hy=>by have:=h.2.1 y hy;omega
 have NV:Hid (∀u x,qF g.2.2 u x= -1∨(0≤qF g.2.2 u x∧qF g.2.2 u x<N)):=qA fun u x=>by
  rcases qO hg u x with e | e
  ·exact .inl e
  ·exact .inr ⟨e.1,tO⟩
 have dT:=qy rn;have cR:Hid (∀W:World,Calls Tryz.prog 79 #[.int .i64 g.1] W fun e w'=> ∃r,e= .returned r∧OwI w' W.heap.size r (qG rn)∧Below W.heap.size W w'):=qA fun W=>by
  rw[nh];exact qCA rn W tO
 generalize qG rn=ls at*;obtain⟨F,hF⟩: ∃F,F=wdO g:=⟨_,rfl⟩;rw[←hF] at HZ AK⊢;replace hF:=qA hF;rw[hN] at HG;clear hg hf bO h nh;have ka:1≤g.1∧g.1≤3:=bn;clear aE aK bn;rw[hN];simp only[zay];have bx:Below w.heap.size w (w.alloc (.cells #[.int .i64 g.1,.int .i64 N, .slice A g.2.2.length cap] 26)):=(by repeat(first | exact .refl _ _ | (refine BxS ?_ _) | (refine qD ?_ _) | (refine zao ?_) | (refine BxA ?_ _)));have k0:(w.alloc (.cells #[.int .i64 g.1,.int .i64 N, .slice A g.2.2.length cap] 26)).cell? ⟨w.heap.size,0,none⟩=some (.int .i64 g.1):=by simp[go_sem]
 have k1:(w.alloc (.cells #[.int .i64 g.1,.int .i64 N, .slice A g.2.2.length cap] 26)).cell? ⟨w.heap.size,1,none⟩=some (.int .i64 N):=by simp[go_sem]
 have k2:(w.alloc (.cells #[.int .i64 g.1,.int .i64 N, .slice A g.2.2.length cap] 26)).cell? ⟨w.heap.size,2,none⟩=some (.slice A g.2.2.length cap):=by simp[go_sem]
 have sx:w.heap.size<(w.alloc (.cells #[.int .i64 g.1,.int .i64 N, .slice A g.2.2.length cap] 26)).heap.size:=by simp
 have ex:(w.alloc (.cells #[.int .i64 g.1,.int .i64 N, .slice A g.2.2.length cap] 26)).heap.size=w.heap.size+1:=by simp
 have qT: ∀(w:World) (a:Option Addr) (n c n' c':Nat),(binOp .eql 37 (.slice a n c) (.slice none n' c')).run Tryz.prog w= .ok (.bool a.isNone) w:=fun w a n c n' c'=>Lib.run_eql_slice_nil w _ _ a n c n' c' Tryz.underlying37;go_enter Tryz.func192,Tryz.ntmps192
 obtain⟨i0,cE,cD,bI,cj⟩:=info_parts qHI;go_wp2_with (at_make;refine wpList_make_full _ rfl _ _ 69 rfl (w.heap.size+1) 37 i0 (.slice none 0 0) 1 Tryz.underlying69 cE cD bI _ _ _ _ N rfl rfl rfl rfl (by rw[cj];omega) (by unfold maxLen;omega) (by simp) ?_)
 generalize w.alloc (.cells #[.int .i64 g.1,.int .i64 N, .slice A g.2.2.length cap] 26)=w1 at bx k0 k1 k2 sx ex⊢;rw[←ex];have BX:=qA bx;have K0:=qA k0;have K1:=qA k1;have K2:=qA k2;have EX:=qA ex;clear k0 k1 k2 bx ex;intro w2 hown0 hgrow0;have AA:w1.heap.size<w2.heap.size:=(hown0.lt w1.heap.size rfl).2;have kD:Below w1.heap.size w1 w2:=(zab w1.heap.size w1).grown hgrow0 (zaa _) (fun k h=>by cases h);have yS:TreeX F w1.heap.size w1.heap.size N w2 (.slice none 0 0) []:=⟨⟨zaD N (.slice none 0 0),by simp,by simpa[toList_madeCells_one] using hown0,fun j hj=> .inl ⟨by simp,by simp⟩⟩,by simp[zad]⟩;have r7:TreeX F w1.heap.size w1.heap.size N (w2.alloc (.cells #[] 3)) (.slice none 0 0) []:=yS.below ((zab _ _).alloc (zaa _) _);have oE:OwI (w2.alloc (.cells #[] 3)) w2.heap.size (.slice (some ⟨w2.heap.size,0,none⟩) 0 0) []:=qAE w2 [] (fun _ h=>by cases h) (by simp) (zaa _);have yk:=r7.set (y:=0) tO HZ.out (b:=w2.heap.size) (cap:=0) (ws:= []) (oE.mono tO) (by simp) tO (by simp[zad]) (by simp);have mh:=r7.at_new (y:=0) tO (by simp);have xi:=r7.free 0;have j1:(0:Int)<(N:Int):=tO;have TWH:=qA yk;have yL:Hid (Below w1.heap.size w1 ((w2.alloc (.cells #[] 3)).setCell ⟨w1.heap.size,0,none⟩ (.slice (some ⟨w2.heap.size,0,none⟩) 0 0))):=qA ((kD.alloc tO _).setCell (by show w1.heap.size≤w1.heap.size;omega) _);clear yS r7 yk oE hown0 hgrow0 kD;go_wp2;have oO:OwI (((w2.alloc (.cells #[] 3)).setCell ⟨w1.heap.size,0,none⟩ (.slice (some ⟨w2.heap.size,0,none⟩) 0 0)).alloc (.cells #[.int .i64 0] 3)) (w1.heap.size+1) (.slice (some ⟨w2.heap.size+1,0,none⟩) 1 1) [0]:=qCH _ [0] (w2.heap.size+1) (by simp) (fun x hx=>by simp at hx;subst hx;exact⟨by decide,by decide⟩) (by simp) tO;have TWL:=TWH.out.lit (.cells #[.int .i64 0] 3) 1 1;have rL:Below w1.heap.size w1 (((w2.alloc (.cells #[] 3)).setCell ⟨w1.heap.size,0,none⟩ (.slice (some ⟨w2.heap.size,0,none⟩) 0 0)).alloc (.cells #[.int .i64 0] 3)):=yL.out.alloc (by simp;omega) _;have e3:((w2.alloc (.cells #[] 3)).setCell ⟨w1.heap.size,0,none⟩ (.slice (some ⟨w2.heap.size,0,none⟩) 0 0)).heap.size=w2.heap.size+1:=by simp
 simp only[zaI,List.nil_append] at TWL;rw[e3] at TWL;have Cv:(w2.alloc (.cells #[] 3)).setCell ⟨w1.heap.size,0,none⟩ (.slice (some ⟨w2.heap.size,0,none⟩) 0 0)=(w2.setCell ⟨w1.heap.size,0,none⟩ (.slice (some ⟨w2.heap.size,0,none⟩) 0 0)).alloc (.cells #[] 3):=World.setCell_alloc_past _ _ _ _ AA;rw[Cv] at oO TWL rL;generalize ((w2.setCell ⟨w1.heap.size,0,none⟩ (.slice (some ⟨w2.heap.size,0,none⟩) 0 0)).alloc (.cells #[] 3)).alloc (.cells #[.int .i64 0] 3)=w3 at oO TWL rL⊢;have OO:=qA oO;have TW:=qA TWL;have zo:=qA rL;clear oO TWL rL e3 mh xi TWH yL;go_loopw [7,8] (fun out i wo=> ∃(k:Nat) (o:List Int),k≤o.length∧i= .int .i64 k∧qAB g.2.1 o∧TwS g ls k o∧canO g=canF g.2.2 ls (41-k) k o∧OwI wo (w1.heap.size+1) out o∧TreeX F w1.heap.size w1.heap.size N wo out o∧Below w1.heap.size w1 wo) (fun _ i _=>41-(intOf i).toNat)
 case atStart=>exact⟨0,[0],by simp,rfl,vf.out,ni.out,kS.out,OO.out,TW.out,zo.out⟩
 case round=>
  obtain⟨k,o,hk,rfl,af,zt,eT,aa,cO,ab⟩:=hrel;have As:=qA zt;clear zt;obtain⟨wo,rfl⟩: ∃wo:World,wo=wr:=⟨_,rfl⟩;have gV:=OKL.out o af;have dD:=qA af;have HC:=qA eT;have HO:=qA aa;have mm:=qA cO;have ay:=qA ab;have aq:=ab.size;have q0:=(ab.cell (p:=⟨w.heap.size,0,none⟩) sx).trans K0.out;obtain⟨A1,ah,rfl,_,_,_,a7⟩:=aa.form;clear af eT cO ab;by_cases ac:k<o.length
  ·obtain⟨u,hu⟩: ∃u,o[k]? =some u:=⟨o[k],by simp⟩;have fV:o[k]=u:=by rw[zac ac] at hu;injection hu
   have jh:Hid (canO g=canF g.2.2 ls (41-(k+1)) (k+1) (ls.foldl (qW g.2.2 u) o)):=qA (by
    rw[HC.out,show 41-k=(41-(k+1))+1 by omega,qBd _ _ _ _ _ ac,fV])
   have tZ:=qA (As.out.step hu tO);have uB:=qA (AK.out k o u As.out hu tO);have dk:Hid (∀m:Nat,(((ls.take m).foldl (qW g.2.2 u) o))[k]? =some u):=qA fun m=>qr _ _ _ _ _ _ hu;have gH:Hid (∀(m:Nat) (hm:m<ls.length),(ls.take (m+1)).foldl (qW g.2.2 u) o=qW g.2.2 u ((ls.take m).foldl (qW g.2.2 u) o) ls[m]):=qA fun m hm=>qBm _ _ _ _ _ hm;have di:Hid (∀m:Nat,qAB g.2.1 ((ls.take m).foldl (qW g.2.2 u) o)):=qA fun m=>OKS.out u o m dD.out;obtain⟨un,d4,iO⟩: ∃un:Nat,u=(un:Int)∧un<N:=by
    have h1:=dD.out.2.1 u (by rw[←fV];simp);exact⟨u.toNat,tO,tO⟩
   obtain⟨b1,rfl,_,fe⟩:=a7 tO;have ck:=aa.cellAt k ac;rw[fV] at ck;have ip:=qA d4;clear a7 hu fV aa d4;go_wp2_with fail;refine(cR.out wo).mono ?_
   rintro e wl ⟨rl,rfl,ol,bl⟩;have sl:=bl.size;obtain⟨Al,capl,rfl,cU,cV,_,dC⟩:=ol.form;obtain⟨gl,rfl,wG,mE⟩:=dC tO;unfold maxLen at cV;have OL:=qA ol.rd;have BL:=qA bl;have mx:=qA (HO.out.below bl);have Ge:=qA (mm.out.below bl);have bU:b1≠gl:=tO;clear dC ol bl;go_wp2;go_loopw [7,36] (fun out j wr=> ∃m:Nat,m≤ls.length∧j= .int .i64 m∧OwI wr (w1.heap.size+1) out ((ls.take m).foldl (qW g.2.2 u) o)∧TreeX F w1.heap.size w1.heap.size N wr out ((ls.take m).foldl (qW g.2.2 u) o)∧RdI wr (.slice (some ⟨gl,0,none⟩) ls.length capl) ls∧out.ownBlock≠some gl∧gl≠w1.heap.size∧gl<wr.heap.size∧Below w1.heap.size wl wr) (fun _ j _=>ls.length-(intOf j).toNat)
   case atStart=>exact⟨0,zak _,rfl,mx.out,Ge.out,OL.out,by simp[zad];omega,by have:=mm.out.lt;omega,mE,zab _ _⟩
   case round=>
    obtain⟨m,dj,rfl,aa,cO,aN,ai,uC,bN,aG⟩:=hrel;have si:=aG.size;have bK:=qA aG;have ch:Hid (Below w1.heap.size w1 wr):=qA ((ay.out.trans (BL.out.mono tO)).trans aG);have p0:=(ch.out.cell (p:=⟨w.heap.size,0,none⟩) sx).trans K0.out;have p1:=(ch.out.cell (p:=⟨w.heap.size,1,none⟩) sx).trans K1.out;have p2:=(ch.out.cell (p:=⟨w.heap.size,2,none⟩) sx).trans K2.out;have kv:=qA aN;have dx:=qA ai;have kB:=qA cO;clear aG cO;by_cases al:m<ls.length
    ·have az:=di.out m;have ke:=OKL.out _ az;have bZ:=dk.out m;have HS:=qA (gH.out m al);have D1:=qA (OKR.out _ az);obtain⟨_,_,dp,_,cU⟩:=aN.at tO;obtain⟨rfl,rfl⟩:gl=_∧0=_:=by simpa using dp
     have c0:=cU m al;rw[zaB] at c0;have kI:I64 ls[m]:=aN.2 _ (by simp);have ro:=qA (uB.out m al);generalize ls[m]=x at c0 HS kI ro;have HX:=qA kI;generalize (ls.take m).foldl (qW g.2.2 u) o=om at*;have fK:u∈om:=zar bZ;have ur:=qA fK;have dQ:=qA aa;have NX:=qA (NV.out u x);have N0:=qA (qCo (es:=g.2.2) (u:=u) (x:=x) (o:=om));have N1:=qA (qCz (es:=g.2.2) (u:=u) (x:=x) (o:=om));have N2:=qA (qCF (es:=g.2.2) (u:=u) (x:=x) (o:=om));have cS:=qA (qh _ g u x wr (HG.out.below (BX.out.trans (ch.out.mono tO))) (ONE.out u x) LET.out);clear cU dp aa aN bZ az kI fK;go_wp2_with fail;refine cS.out.mono ?_;rintro e wq ⟨rfl,bq⟩;clear cS;have sq:=bq.size;have HQ:Hid (Below w1.heap.size wl wq):=qA (bK.out.trans (bq.mono tO));have gq:=qA (dQ.out.below bq);have iM:=qA (kv.out.below bq);have iN:=qA (kB.out.below bq);clear bq p0 p1 p2;generalize qF g.2.2 u x=y at*;rcases NX.out with hy | hy
     ·subst hy;have F0:=qA (N0.out tO);go_wp2;go_roundw
      case rel=>exact⟨m+1,tO,by go_num,by rw[HS.out,F0.out];exact gq.out,by rw[HS.out,F0.out];exact iN.out,iM.out,dx.out,uC,tO,HQ.out⟩
      case measure=>simp[intOf];omega
     ·obtain⟨yn,rfl⟩: ∃yn:Nat,y=(yn:Int):=⟨y.toNat,tO⟩;have ic:(0:Int)≤(yn:Int):=hy.1;have C8:(yn:Int)<(N:Int):=hy.2;have eI:yn<N:=tO;rcases h1:hasB om (yn:Int) with _ | _
      ·have F0:=qA (N2.out ic h1);have HY:Hid (I64 (yn:Int)):=qA ⟨tO,tO⟩;have gD:(yn:Int)∉om:=qCJ h1;have yl:=qA (ro.out ic h1);have ct:=iN.out.at_new eI gD;have ft:=iN.out.free yn;obtain⟨bu,capu,cu,uV,m7,_⟩:=iN.out.at_old iO (by rw[←ip.out];exact ur.out);have Lz:Hid (F u=F (un:Int)):=qA (by rw[ip.out]);have Eq:Hid (F (yn:Int)=F (un:Int)++ [x]):=qA (by rw[yl.out,Lz.out]);generalize F (un:Int)=wu at*;have Hb:=qA m7;have GZ:u<(N:Int):=by rw[ip.out];omega
       have Fl:(0:Int)≤u:=by rw[ip.out];omega
       have cu':wq.cell? ⟨w1.heap.size,u.toNat,none⟩=some (.slice (some ⟨bu,0,none⟩) wu.length capu):=by rw[ip.out];exact cu
       clear m7 gD;go_wp2_with fail;refine(qFM _ wu _ Hb.out tO).mono ?_
       rintro e wc ⟨rc,rfl,oc,bc⟩;have sc:=bc.size;have OC:=qA oc;have BC:=qA bc;have uU:=iN.out.lt.2;have Hc:=iN.out.ne;have fh: ∀x,u7.ownBlock=some x→x<wq.heap.size:=fun x hx=>(gq.out.1.lt x hx).2;have ph:=qA fh;have CT:=qA ct;have FT:=qA ft;obtain⟨Ac,capc,rfl,_⟩:=OwI.form oc;clear oc bc ct ft fh;go_wp2_with (first | ((at_builtin;refine qd rfl (.tmp 59) (.tmp 61) rfl _ _ _ (OwI.alloc OC.out _) rfl _ _ rfl (qa _ _ _) HX.out (by first | omega | (simp<;>omega)) (by first | omega | (simp<;>omega)) ?_;intro v8 wv8 o8 g8 p8);obtain⟨A8,gv,rfl,Mn,On,_,AJ⟩:=OwI.form o8;obtain⟨b8,rfl,Ew,uQ⟩:=AJ (by simp);have B8:Below wq.heap.size wq wv8:=qe BC.out sc OC.out.1 (zaa _) g8;have Mm:=(B8.cell (p:=⟨w1.heap.size,yn,none⟩) uU).trans CT.out;have KH:=(B8.frozen (p:=⟨w1.heap.size,yn,none⟩) uU).trans FT.out;have m8:=(iN.out.below B8).set eI Eq.out (o8.mono tO) (by simp;omega) tO (fun e=>by have:=ph.out _ e;omega) uQ;have s8:=B8.size;have mk:=qA B8;simp only[zal,zaG,zaI,zaB] at m8;have pp:=qA m8;clear o8 g8 p8 AJ B8 m8;have zd:wv8.grownBy (wv8.setCell ⟨w1.heap.size,yn,none⟩ (.slice (some ⟨b8,0,none⟩) (wu.length+1) gv)) (some w1.heap.size):=qBg _ _ _ _;have lF:Hid (OwI (wv8.setCell ⟨w1.heap.size,yn,none⟩ (.slice (some ⟨b8,0,none⟩) (wu.length+1) gv)) (w1.heap.size+1) u7 om):=qA ((gq.out.below mk.out).far (p:=⟨w1.heap.size,yn,none⟩) (by show w1.heap.size<_;omega) _);have lD:Hid (RdI (wv8.setCell ⟨w1.heap.size,yn,none⟩ (.slice (some ⟨b8,0,none⟩) (wu.length+1) gv)) (.slice (some ⟨gl,0,none⟩) ls.length capl) ls):=qA ((iM.out.below mk.out).grown zd fun b hb aJ=>by simp[zad] at hb aJ;omega);have mF:Hid (Below w1.heap.size wl (wv8.setCell ⟨w1.heap.size,yn,none⟩ (.slice (some ⟨b8,0,none⟩) (wu.length+1) gv))):=qA ((HQ.out.trans (mk.out.mono tO)).setCell (by show w1.heap.size≤w1.heap.size;omega) _);clear zd) | (at_builtin;refine qd rfl (.tmp 64) (.tmp 66) rfl _ _ _ (OwI.alloc lF.out _) rfl _ _ rfl (by simp[go_sem]) HY.out (by first | omega | (simp<;>omega)) (by first | omega | (simp<;>omega)) ?_;intro v9 wv9 o9 g9 p9))
       have hS:(wv8.setCell ⟨w1.heap.size,yn,none⟩ (.slice (some ⟨b8,0,none⟩) (wu.length+1) gv)).heap.size=wv8.heap.size:=by simp
       have ml:=g9.size;simp at ml
       go_roundw
       case rel=>
        refine⟨m+1,tO,by go_num,by rw[HS.out,F0.out];exact o9,by rw[HS.out,F0.out];exact pp.out.push g9 p9,(lD.out.alloc _).grown g9 (fun b hb aJ=> ?_),fun e=> ?_,uC,tO,qe mF.out tO lF.out.1 tO g9⟩
        ·simp only[zad,zaJ.injEq] at hb;subst hb;exact dx.out aJ
        ·rcases p9 with p9 | p9
         ·rw[p9] at e;exact dx.out e
         ·rw[p9] at e;simp at e;omega
       case measure=>simp[intOf];omega
      ·have F0:=qA (N1.out ic h1);obtain⟨bu,capu,cu,uV,m7,_⟩:=iN.out.at_old eI (qAS.1 h1);clear m7;generalize F (yn:Int)=wy at*;go_wp2;go_roundw
       case rel=>exact⟨m+1,tO,by go_num,by rw[HS.out,F0.out];exact gq.out,by rw[HS.out,F0.out];exact iN.out,iM.out,dx.out,uC,tO,HQ.out⟩
       case measure=>simp[intOf];omega
    ·obtain rfl:m=ls.length:=tO
     rw[zaf] at aa kB;have az:=di.out ls.length;rw[zaf] at az;have gu:=qA az;have dQ:=qA aa;have au:k+1≤(ls.foldl (qW g.2.2 u) o).length:=by
      have:=dk.out ls.length
      rw[zaf] at this;have:=(zat.1 this).1
      omega
     obtain⟨A2,ak,rfl,_⟩:=aa.form;clear aa aN ai az p0 p1 p2;go_wp2;go_roundw
     case rel=>exact⟨k+1,_,au,by go_num,gu.out,tZ.out,jh.out,dQ.out,kB.out,ch.out⟩
     case measure=>simp[intOf];omega
  ·obtain rfl:k=o.length:=tO
   have F':Hid (canO g=o):=qA (by rw[HC.out,qCx]);clear aa a7;have cJ:Hid (Below w.heap.size w wo):=qA (BX.out.trans (ay.out.mono tO));have xM:=EX.out;have ao:w.heap.size≤w1.heap.size+1:=tO;have NN:w.heap.size≤w1.heap.size:=tO;clear xM;go_wp2;exact bodyPost_ret (v:= .tuple #[.slice A1 o.length ah, .slice (some ⟨w1.heap.size,0,none⟩) N N]) (by simp[results,Tryz.results192]) rfl ⟨_,w1.heap.size,rfl,NN,by rw[F'.out];exact mm.out,by rw[F'.out];exact HO.out.mono ao,cJ.out⟩
theorem qGs {w W:World} {a b c:Value} {t:TypeId} (hW:W=w.alloc (.cells #[a,b,c] t)):W.heap.size=w.heap.size+1∧Below w.heap.size w W∧
  (∀w',Below (w.heap.size+1) W w'→w'.cell? ⟨w.heap.size,0,none⟩=some a∧w'.cell? ⟨w.heap.size,1,none⟩=some b∧w'.cell? ⟨w.heap.size,2,none⟩=some c):=by
 have hs:W.heap.size=w.heap.size+1:=by rw[hW];simp
 have h0:W.cell? ⟨w.heap.size,0,none⟩=some a:=by rw[hW];simp[go_sem]
 have h1:W.cell? ⟨w.heap.size,1,none⟩=some b:=by rw[hW];simp[go_sem]
 have h2:W.cell? ⟨w.heap.size,2,none⟩=some c:=by rw[hW];simp[go_sem]
 exact⟨hs,by rw[hW];exact(zab _ _).alloc (zaa _) _,fun w' hb=>⟨(hb.cell (p:=⟨w.heap.size,0,none⟩) (zaj _)).trans h0,(hb.cell (p:=⟨w.heap.size,1,none⟩) (zaj _)).trans h1,(hb.cell (p:=⟨w.heap.size,2,none⟩) (zaj _)).trans h2⟩⟩
def stE (u x v:Int):EdD:=if x<0 then(v,-x,u) else(u,x,v)
theorem qHu (u x v:Int) (w:World) (hx: -3≤x∧x≤3):
  Calls Tryz.prog 172 #[.int .i64 u, .int .i64 x, .int .i64 v] w fun e w'=>e= .returned (edV (stE u x v))∧Below w.heap.size w w':=by
 have hn:IntKind.i64.wrap (-x)= -x:=by rw[IntKind.wrap_i64];omega
 by_cases h:x<0
 ·have F:Hid (stE u x v=(v,-x,u)):=qA (by unfold stE;rw[if_pos h]);go_enter Tryz.func172,Tryz.ntmps172
  go_wp2;refine bodyPost_ret (v:= .agg #[.int .i64 v, .int .i64 (-x), .int .i64 u]) (by simp[results,Tryz.results172,go_sem]) rfl ⟨by rw[F.out];rfl,(by repeat(first | exact .refl _ _ | (refine BxS ?_ _) | (refine qD ?_ _) | (refine zao ?_) | (refine BxA ?_ _)))⟩
 ·have F:Hid (stE u x v=(u,x,v)):=qA (by unfold stE;rw[if_neg h]);go_enter Tryz.func172,Tryz.ntmps172
  go_wp2;refine bodyPost_ret (v:= .agg #[.int .i64 u, .int .i64 x, .int .i64 v]) (by simp[results,Tryz.results172,go_sem]) rfl ⟨by rw[F.out];rfl,(by repeat(first | exact .refl _ _ | (refine BxS ?_ _) | (refine qD ?_ _) | (refine zao ?_) | (refine BxA ?_ _)))⟩
theorem qLA (v:Value) (es:List EdD) (d:EdD) (w:World) (h:ArgE w v es) (hl:es.length≤1073741824):
  Calls Tryz.prog 220 #[v,edV d] w fun e w'=> ∃n:Int,e= .returned (.int .i64 n)∧(decide (0≤n)=decide (d∈es))∧Below w.heap.size w w':=by
 obtain⟨d1,d2,d3⟩:=d;obtain⟨A,cap,rfl⟩:=h.form;have H:=qA h;clear h;have oI:Hid (∀(y:EdD) (w:World),(binOp .eql 97 (edV (d1,d2,d3)) (edV y)).run Tryz.prog w= .ok (.bool (decide ((d1,d2,d3)=y))) w):=qA fun y w=>qHL (d1,d2,d3) y w;unfold edV;go_enter Tryz.func220,Tryz.ntmps220
 go_wp2_with fail;obtain⟨W,hW⟩: ∃W,W=w.alloc (.cells #[.int .i64 d1,.int .i64 d2,.int .i64 d3] 97):=⟨_,rfl⟩;obtain⟨aW,b1,aR⟩:=qGs hW;rw[←hW];have BX:=qA b1;have bH:=qA aR;clear hW b1 aR;go_loopw [8] (fun i wr=> ∃k:Nat,k≤es.length∧i= .int .i64 k∧(∀j (hj:j<es.length),j<k→es[j]≠(d1,d2,d3))∧ ∃q,wr=W.drewN q) (fun i _=>es.length-(intOf i).toNat)
 case atStart=>exact⟨0,zak _,rfl,fun j hj h=>absurd h tO,0,rfl⟩
 case round=>
  obtain⟨k,hk,rfl,dE,q,rfl⟩:=hrel;have je:=qA dE;clear dE;obtain⟨q0,q1,q2⟩:=bH.out W ((zab W.heap.size W).mono tO);have aj:Hid (∀q,Below w.heap.size w (W.drewN q)):=qA fun q=>qD BX.out q;by_cases ac:k<es.length
  ·obtain⟨b,off,rfl,dv,c0,c1,c2,_⟩:=(H.out.below BX.out).at ac;have iK:=fun w=>oI.out es[k] w;unfold edV at iK;have dH:=qCg;have HN:Hid (¬(d1,d2,d3)=es[k]→ ∀j (hj:j<es.length),j<k+1→es[j]≠(d1,d2,d3)):=qA fun e j hj ge=>by
    rcases Nat.lt_or_eq_of_le (Nat.le_of_lt_succ ge) with h | rfl
    ·exact je.out j hj h
    ·exact fun h=>e h.symm
   have HY:Hid ((d1,d2,d3)=es[k]→(d1,d2,d3)∈es):=qA fun e=>e▸zah ac;obtain⟨be,ku⟩: ∃be,be=decide ((d1,d2,d3)=es[k]):=⟨_,rfl⟩;rw[←ku] at iK;have Ju:=qA ku;clear ku;generalize es[k]=y at*;obtain⟨y1,y2,y3⟩:=y;simp only at*
   rcases be with _ | _
   ·have F:=qA (HN.out (by simpa using Ju.out.symm));go_wp2;go_quiet (fail)
    go_wp2;go_roundw
    case rel=>exact⟨k+1,tO,by go_num,F.out,_,rfl⟩
    case measure=>simp[intOf];omega
   ·have F:=qA (HY.out (by simpa using Ju.out.symm));go_wp2;go_quiet (fail)
    go_wp2;go_ret;exact⟨_,rfl,by rw[decide_eq_true F.out];simp,qD (aj.out q) _⟩
  ·obtain rfl:k=es.length:=tO
   have F:Hid ((d1,d2,d3)∉es):=qA fun hm=>by
    obtain⟨j,hj,e⟩:=zaE hm;exact je.out j hj hj e
   go_wp2;go_ret;exact⟨_,rfl,by rw[decide_eq_false F.out];simp,aj.out q⟩
theorem qHr (v:Value) (es:List EdD) (d:EdD) (w:World) (h:ArgE w v es) (hl:es.length≤1073741824):
  Calls Tryz.prog 176 #[v,edV d] w fun e w'=>e= .returned (.bool (decide (d∈es)))∧Below w.heap.size w w':=by
 have H:=qA h;have HI:=qA (fun W' (h:ArgE W' v es)=>qLA v es d W' h hl);obtain⟨A,cap,rfl⟩:=h.form;clear h;obtain⟨d1,d2,d3⟩:=d;unfold edV at HI⊢;go_enter Tryz.func176,Tryz.ntmps176
 go_wp2_with fail;refine(HI.out _ (H.out.alloc _)).mono ?_
 rintro e w1 ⟨n,rfl,hn,b1⟩;have HN:=qA hn;have HB:Hid (Below w.heap.size w w1):=qA (((zab w.heap.size w).alloc (zaa _) (.cells #[.int .i64 d1,.int .i64 d2,.int .i64 d3] 97)).trans (b1.mono (by simp)));clear hn b1;go_wp2;go_ret;exact⟨qM HN.out,HB.out⟩
theorem qHZ (v:Value) (g:GrD) (w:World) (h:ArgG w v g) (hf:qb g=true):
  Calls Tryz.prog 177 #[v] w fun e w'=> ∃r T,e= .returned r∧OwE w' w.heap.size r T∧TrE g (canO g) T∧T.length≤40∧Below w.heap.size w w':=by
 have HG:=qA h;have HF:=qA hf;obtain⟨hg,bO⟩:=qE hf;have ONE:=qA (qp bO);have LET:=qA (qAn hg);obtain⟨bn,aE,aK,_⟩:=qB hg;have dD:=qA (qc hg);have rz:Hid (∀y∈canO g,y≠0→ ∃(u x:Int) (ws:List Int),wdO g y=ws++ [x]∧(-3≤x∧x≤3)∧ws.length<40∧qF g.2.2 y (-x)=u∧tE g y=stE u x y∧(0≤u∧u<g.2.1)):=qA fun y hy h0=>by
  obtain⟨u,hu,x,hx,e1,dN⟩:=qEA hg hy h0;have lJ:=(qc hg).2.1 y hy;have Dg:=(qc hg).2.1 u hu;have hb:=qAA hg bO (let3 hg hx) (by rw[dN];omega);rw[dN] at hb;have ht:=qKS hg bO hx (by rw[dN];omega) dN e1;refine⟨u,x,wdO g u,e1,let3 hg hx,qHy hg hu,hb,?_,Dg⟩;rw[ht];unfold stE;have fJ:=qX.1 hx;by_cases hp:0<x
  ·rw[if_pos hp,if_neg tO]
  ·rw[if_neg hp,if_pos tO]
 obtain⟨N,hN⟩: ∃N:Nat,g.2.1=(N:Int):=⟨g.2.1.toNat,tO⟩;have gV:=(qc hg).len tO tO;have nW:=qA (qc hg).2.2;have lE:=qA (qc hg).1;obtain⟨s,rfl,aT,aS,ha⟩:=h;obtain⟨A,cap,rfl⟩:=ha.form;have fN:=qA (fun W' (h:ArgG W' (.agg #[.int .i64 g.1, .int .i64 g.2.1, .slice A g.2.2.length cap]) g)=>qIL _ g W' h hf);obtain⟨g1,n,es⟩:=g;simp only at*
 subst hN;clear ha hf hg bO;obtain⟨O,hO⟩: ∃O,O=canO (g1,(N:Int),es):=⟨_,rfl⟩;obtain⟨F,hF⟩: ∃F,F=wdO (g1,(N:Int),es):=⟨_,rfl⟩;obtain⟨TE,DJ⟩: ∃TE,TE=tE (g1,(N:Int),es):=⟨_,rfl⟩;have Ee:Hid (∀(o:List Int) (T T':List EdD) (y:Int),TrE (g1,(N:Int),es) o T→y≠0→(∀e,e∈T'↔e=TE y∨e∈T)→TrE (g1,(N:Int),es) (o++ [y]) T'):=qA fun o T T' y h h0 hT=>h.add h0 (by rw[←DJ];exact hT);rw[←hO] at dD rz gV nW lE fN⊢;rw[←hF] at rz fN;rw[←DJ] at rz;simp only[zay] at fN;clear hO hF DJ;have Qs:1≤O.length:=dD.out.toN.2.2;go_enter Tryz.func177,Tryz.ntmps177
 go_wp2_with fail;obtain⟨W1,an⟩: ∃W,W=w.alloc (.cells #[.int .i64 g1,.int .i64 (N:Int), .slice A es.length cap] 26):=⟨_,rfl⟩;obtain⟨aw,b1,aR⟩:=qGs an;obtain⟨W,hW⟩: ∃W,W=W1.alloc (.cells #[] 97):=⟨_,rfl⟩;have b2:Below W1.heap.size W1 W:=by rw[hW];exact(zab _ _).alloc (zaa _) _
 have aW:W.heap.size=w.heap.size+2:=by rw[hW];simp;omega
 have o0:OwE W (w.heap.size+1) (.slice (some ⟨w.heap.size+1,0,none⟩) 0 0) []:=by rw[hW];exact qDm W1 (w.heap.size+1) aw (zaa _)
 rw[←an,←hW];have BX:Hid (Below w.heap.size w W):=qA (b1.trans (b2.mono tO));have kD:=qA (b2.mono (show w.heap.size+1≤W1.heap.size by omega));have bM:=qA aR;have bH:Hid (∀w',Below (w.heap.size+1) W w'→w'.cell? ⟨w.heap.size,0,none⟩=some (.int .i64 g1)∧w'.cell? ⟨w.heap.size,1,none⟩=some (.int .i64 (N:Int))∧w'.cell? ⟨w.heap.size,2,none⟩=some (.slice A es.length cap)):=qA fun w' hb=>bM.out w' (kD.out.trans hb);have HA:Hid (∀w',Below (w.heap.size+1) W w'→ArgG w' (.agg #[.int .i64 g1, .int .i64 (N:Int), .slice A es.length cap]) (g1,(N:Int),es)):=qA fun w' hb=>HG.out.below (BX.out.trans (hb.mono tO));have O0:=qA o0;clear an hW aR b1 b2 bM o0;refine(fN.out W (HA.out W ((zab W.heap.size W).mono tO))).mono ?_
 rintro e w2 ⟨r2,P,rfl,hP,tx,o2,b2⟩;have cT:=b2.size;have B2:Hid (Below (w.heap.size+1) W w2):=qA (b2.mono tO);have eK:=qA (O0.out.below b2);have yg:=qA tx;have K5:=qA o2.rd;obtain⟨Ar,cr,rfl,QK,Dt,_,aY⟩:=OwI.form o2;obtain⟨br,rfl,Du,Gf⟩:=aY tO;unfold maxLen at Dt;have rg:=tx.lt.2;have rC:1≤cr:=tO;have Q4:(1:Int)≤(O.length:Int):=tO;have Qq:(O.length:Int)≤(cr:Int):=tO;clear tx o2 b2 aY;obtain⟨q0,q1,q2⟩:=bH.out w2 B2.out;have Jr:IntKind.i64.wrap ((O.length:Int)-1)=(O.length:Int)-1:=by rw[IntKind.wrap_i64];omega
 have Ot:=qA (fun W' (h:RdI W' (.slice (some ⟨br,0,none⟩) O.length cr) O)=>h.cut (k:=1) rfl tO);have zE:Hid (TrE (g1,(N:Int),es) (O.take 1) []):=qA fun e=>⟨fun h=>(by cases h),fun ⟨y,hy,h0,_⟩=>by
  have h1:=nW.out;cases hO:O with
  | nil=>rw[hO] at h1;cases h1
  | cons a O'=>
    rw[hO] at h1 hy;simp at h1 hy
    omega⟩
 have cJ:Hid (∀w',Below (w.heap.size+1) W w'→Below w.heap.size w w'):=qA fun w' hb=>BX.out.trans (hb.mono tO);have Kt:Hid (∀(v:Value) (T:List EdD) (w':World),ArgE w' v T→T.length≤40→Calls Tryz.prog 173 #[v] w' fun e w''=> ∃r,e= .returned r∧OwE w'' w'.heap.size r (srt cmpE T)∧Below w'.heap.size w' w''):=qA fun v T w' h hl=>qEQ v T w' h tO;have J0:Hid (∀T:List EdD,TrE (g1,(N:Int),es) O T→TrE (g1,(N:Int),es) O (srt cmpE T)):=qA fun T h e=>by rw[(qAu qAD T).2 e];exact h e
 have JW:Hid (∀T:List EdD,(srt cmpE T).length≤T.length):=qA fun T=>qCV T;by_cases aR:cr=1
 ·subst aR;obtain⟨y0,ic⟩: ∃y0,O= [y0]:=List.length_eq_one_iff.1 tO;subst ic;simp only[zan] at*;have uJ:Hid (TrE (g1,(N:Int),es) [y0] []):=zE;go_wp2;refine wp_loop_rounds 1 ?_;rw[rounds_succ];go_wp2_with fail;refine(Kt.out _ [] w2 eK.out.arg (by simp)).mono ?_
  rintro e w5 ⟨r5,rfl,o5,b5⟩;have O5:=qA o5;have aj:=qA (cJ.out w5 (B2.out.trans (b5.mono tO)));obtain⟨A5,c5,rfl,_⟩:=o5.form;clear o5 b5;go_wp2;go_ret;exact⟨_,_,rfl,O5.out.mono tO,J0.out [] uJ.out,zaz (JW.out []) (by simp),aj.out⟩
 have Rc:(if cr=1 then none else some (⟨br,0+1,none⟩:Addr))=some ⟨br,1,none⟩:=by rw[if_neg aR]
 go_wp2;obtain⟨L,hL⟩: ∃L:Nat,O.length=L+1:=⟨O.length-1,tO⟩;have yN:=qA hL;have kr:Hid (∀k,k<L→ ∃hk:k+1<O.length,O[k+1]∈O∧O[k+1]≠0):=qA fun k hk=>⟨by have:=yN.out;omega,zah _,fun e=>by
  have h0:=nW.out;have h1:O[k+1]? =some 0:=by rw[zac (by have:=yN.out;omega),e]
  have:=(List.getElem?_inj (i:=0) (j:=k+1) tO lE.out).1 (h0.trans h1.symm)
  omega⟩
 have mo:Hid (∀k (hk:k+1<O.length),O.take (k+2)=O.take (k+1)++ [O[k+1]]):=qA fun k hk=>by rw[zag hk]
 have yz:Hid (O.take (L+1)=O):=qA (by rw[←hL,zaf]);clear hL;have KU:((O.length:Int)-1)=(L:Int):=by have:=yN.out;omega
 have gr:O.length-1=L:=by have:=yN.out;omega
 rw[gr];clear gr KU;go_loopw [3,20] (fun vo i wr=> ∃(k:Nat) (T:List EdD),k≤L∧i= .int .i64 k∧OwE wr (w.heap.size+1) vo T∧TrE (g1,(N:Int),es) (O.take (k+1)) T∧T.length=k∧(∀c,vo.ownBlock=some c→c<W.heap.size∨w2.heap.size≤c)∧(∀b,W.heap.size≤b→b<w2.heap.size→wr.heap[b]? =w2.heap[b]?)∧w2.heap.size≤wr.heap.size∧Below (w.heap.size+1) W wr) (fun _ i _=>L-(intOf i).toNat)
 case atStart=>exact⟨0,[],zak _,rfl,eK.out,zE.out,rfl,fun c hc=> .inl (by simp[zad] at hc;omega),fun _ _ _=>rfl,zaa _,B2.out⟩
 case round=>
  obtain⟨k,T,hk,rfl,ho,kd,CY,m9,oZ,iC,hb⟩:=hrel;have HO:=qA ho;have xR:=qA kd;have zL:=qA CY;have wQ:=qA m9;have oT:=qA oZ;have HB:=qA hb;obtain⟨wi,rfl⟩: ∃wi:World,wi=wr:=⟨_,rfl⟩;clear ho kd CY m9 oZ hb;obtain⟨Ao,co,rfl,_⟩:=OwE.form HO.out;by_cases ac:k<L
  ·obtain⟨JX,Dp,kF⟩:=kr.out k ac;obtain⟨u,x,ws,fL,Lu,QJ,Ka,Jk,Dg⟩:=rz.out O[k+1] Dp kF;have lJ:=dD.out.2.1 O[k+1] Dp;have Eg:=qA (mo.out k JX);obtain⟨_,_,IE,_,AR⟩:=K5.out.at tO;obtain⟨rfl,rfl⟩:br=_∧0=_:=by simpa using IE
   have c0:=(zae (w:=w2) (oT.out br Du Gf)).trans (AR (k+1) JX);rw[show 0+(k+1)=1+k by omega] at c0;generalize O[k+1]=y at*;obtain⟨yn,rfl⟩: ∃yn:Nat,y=(yn:Int):=⟨y.toNat,tO⟩;have C8:yn<N:=tO;obtain⟨bw,cw,cu,_,m7,eX,QF⟩:=yg.out.at_old C8 Dp;have Kx:=(zae (w:=w2) (oT.out P hP rg)).trans cu;rw[fL,zal,zan] at Kx;obtain⟨_,_,Jo,_,oS⟩:=m7.at (by rw[fL];simp);obtain⟨rfl,rfl⟩:bw=_∧0=_:=by simpa using Jo
   have DF:=oS ws.length (by rw[fL];simp);have KD:(F (yn:Int))[ws.length]'(by rw[fL];simp)=x:=by simp[fL]
   rw[KD,zaB] at DF;have cx:=(zae (w:=w2) (oT.out bw tO eX)).trans DF;have Oc:IntKind.i64.wrap ((ws.length:Int)+1-1)=(ws.length:Int):=by rw[IntKind.wrap_i64];omega
   have uX:(0:Int)≤(ws.length:Int):=tO;have L6:(ws.length:Int)<(ws.length:Int)+1:=tO;have dN:IntKind.i64.wrap (-x)= -x:=by rw[IntKind.wrap_i64];omega
   have Q7:(yn:Int)<(N:Int):=lJ.2;have ic:(0:Int)≤(yn:Int):=lJ.1;have mT:(k:Int)<(L:Int):=tO;have bR:Hid (E64 (stE u x (yn:Int))):=qA (by
    unfold stE;split
    ·exact⟨⟨by simp only;omega,by simp only;omega⟩,⟨by simp only;omega,by simp only;omega⟩,⟨by simp only;omega,by simp only;omega⟩⟩
    ·exact⟨⟨by simp only;omega,by simp only;omega⟩,⟨by simp only;omega,by simp only;omega⟩,⟨by simp only;omega,by simp only;omega⟩⟩)
   have MM:Hid (TE (yn:Int)=stE u x (yn:Int)):=qA Jk;have BH:Hid ((yn:Int)≠0):=qA kF;have cS:=qA (fun W' (h:ArgG W' (.agg #[.int .i64 g1, .int .i64 (N:Int), .slice A es.length cap]) (g1,(N:Int),es))=>qh _ (g1,(N:Int),es) (yn:Int) (-x) W' h (ONE.out (yn:Int) (-x)) LET.out);simp only at cS
   rw[Ka] at cS;have nL:=qA (fun W'=>qHu u x (yn:Int) W' Lu);clear IE AR Jo oS DF KD m7 cu fL Jk kF Dp Ka;obtain⟨q0,q1,q2⟩:=bH.out wi HB.out;go_wp2_with fail;refine(cS.out wi (HA.out wi HB.out)).mono ?_
   rintro e w3 ⟨rfl,b3⟩;have fS:=b3.size;have mx:=qA (HO.out.below b3);have aC:=qA (HB.out.trans (b3.mono tO));have GH:Hid (∀b,W.heap.size≤b→b<w2.heap.size→w3.heap[b]? =w2.heap[b]?):=qA fun b h1 h2=>(b3.block b tO).trans (oT.out b h1 h2);clear b3 q0 q1 q2 c0 Kx cx;go_wp2_with fail;refine(nL.out w3).mono ?_
   rintro e w4 ⟨rfl,b4⟩;have lZ:=b4.size;have sH:=qA (mx.out.below b4);have ch:=qA (aC.out.trans (b4.mono tO));have pS:Hid (∀b,W.heap.size≤b→b<w2.heap.size→w4.heap[b]? =w2.heap[b]?):=qA fun b h1 h2=>(b4.block b tO).trans (GH.out b h1 h2);clear b4;generalize stE u x (yn:Int)=E at*;obtain⟨e1,e2,e3⟩:=E;unfold edV;simp only
   go_wp2_with (at_builtin;refine qBO rfl (.tmp 39) (.tmp 44) rfl (w.heap.size+1) _ _ (sH.out.alloc _) rfl _ (e1,e2,e3) rfl (qCv _ _ _) bR.out (by have:=zL.out;omega) (by simp;omega) ?_;intro v5 wv5 o5 g5 p5;have uh:=g5.size;simp at uh;have O5:=qA o5;have B5:=qA (qBA ch.out (show w.heap.size+1≤w4.heap.size by omega) sH.out (zaa _) g5);have vP:Hid (∀c,v5.ownBlock=some c→c<W.heap.size∨w2.heap.size≤c):=qA fun c hc=>(by rcases p5 with p5 | p5<;>rw[p5] at hc<;>first | exact wQ.out c hc | (simp at hc;omega));have uS:Hid (∀b,W.heap.size≤b→b<w2.heap.size→wv5.heap[b]? =w2.heap[b]?):=qA fun b h1 h2=>((g5.block b (by simp;omega) (fun e=>by have:=wQ.out b e.symm;omega)).trans (((zab w4.heap.size w4).alloc (zaa _) _).block b tO)).trans (pS.out b h1 h2);clear o5 g5 p5)
   go_roundw
   case rel=>exact⟨k+1,T++ [(e1,e2,e3)],tO,by go_num,O5.out,by rw[Eg.out];exact Ee.out _ _ _ _ xR.out BH.out (fun e=>by rw[MM.out,zas,zam];exact Or.comm),by rw[zal,zL.out];rfl,vP.out,uS.out,tO,B5.out⟩
   case measure=>simp[intOf];omega
  ·obtain rfl:k=L:=tO
   have uJ:Hid (TrE (g1,(N:Int),es) O T):=qA (by have h:=xR.out;rwa [yz.out] at h);have AF:T.length≤40:=by have:=zL.out;have:=yN.out;omega
   have uX:=HB.out.size;go_wp2_with fail;refine(Kt.out _ T wi HO.out.arg AF).mono ?_
   rintro e w5 ⟨r5,rfl,o5,b5⟩;have O5:=qA o5;have aj:=qA (cJ.out w5 (HB.out.trans (b5.mono tO)));obtain⟨A5,c5,rfl,_⟩:=o5.form;have Cm:=JW.out T;have Ex:Hid ((srt cmpE T).length≤40):=qA tO;have Ga:=qA (J0.out T uJ.out);clear o5 b5 Cm;generalize srt cmpE T=T2 at*;go_wp2;go_ret;exact⟨_,T2,rfl,O5.out.mono tO,Ga.out,Ex.out,aj.out⟩
theorem qIR {α} (p:α→Bool) (l:List α) (k:Nat) (h:k<l.length):(l.take (k+1)).filter p=if p l[k]=true then(l.take k).filter p++ [l[k]] else(l.take k).filter p:=by
 rw[zag h,List.filter_append];split
 ·rename_i h1;simp[h1]
 ·rename_i h1;simp[h1]
theorem qGr (v:Value) (g:GrD) (w:World) (h:ArgG w v g) (hf:qb g=true):
  Calls Tryz.prog 100 #[v] w fun e w'=> ∃r,e= .returned r∧OwE w' w.heap.size r (extL g)∧Below w.heap.size w w':=by
 have HG:=qA h;have HF:=qA hf;obtain⟨hg,bO⟩:=qE hf;obtain⟨bn,aE,aK,_⟩:=qB hg;have xM:Hid (∀T,TrE g (canO g) T→ ∀e∈g.2.2,exB g e= !decide (e∈T)):=qA fun T hT e he=>by
  have h1:=hT.ext hf he;rcases ex:exB g e with _ | _
  ·rw[decide_eq_true (h1.2 ex)];rfl
  ·rw[decide_eq_false (fun hm=>by rw[h1.1 hm] at ex;cases ex)];rfl
 have D6:Hid (extL g=g.2.2.filter (exB g)):=qA rfl;obtain⟨s,rfl,aT,aS,ha⟩:=h;obtain⟨A,cap,rfl⟩:=ha.form;have fN:=qA (fun W' (h:ArgG W' (.agg #[.int .i64 g.1, .int .i64 g.2.1, .slice A g.2.2.length cap]) g)=>qHZ _ g W' h hf);obtain⟨g1,n,es⟩:=g;simp only at*
 clear ha hf hg bO;obtain⟨XB,Iq⟩: ∃X,X=exB (g1,n,es):=⟨_,rfl⟩;rw[←Iq] at xM D6;clear Iq;go_enter Tryz.func100,Tryz.ntmps100
 go_wp2_with fail;obtain⟨W1,an⟩: ∃W,W=w.alloc (.cells #[.int .i64 g1,.int .i64 n, .slice A es.length cap] 26):=⟨_,rfl⟩;obtain⟨aw,b1,aR⟩:=qGs an;obtain⟨W,hW⟩: ∃W,W=W1.alloc (.cells #[] 97):=⟨_,rfl⟩;have b2:Below W1.heap.size W1 W:=by rw[hW];exact(zab _ _).alloc (zaa _) _
 have aW:W.heap.size=w.heap.size+2:=by rw[hW];simp;omega
 have o0:OwE W (w.heap.size+1) (.slice (some ⟨w.heap.size+1,0,none⟩) 0 0) []:=by rw[hW];exact qDm W1 (w.heap.size+1) aw (zaa _)
 rw[←an,←hW];have BX:Hid (Below w.heap.size w W):=qA (b1.trans (b2.mono tO));have kD:=qA (b2.mono (show w.heap.size+1≤W1.heap.size by omega));have bM:=qA aR;have bH:Hid (∀w',Below (w.heap.size+1) W w'→w'.cell? ⟨w.heap.size,0,none⟩=some (.int .i64 g1)∧w'.cell? ⟨w.heap.size,1,none⟩=some (.int .i64 n)∧w'.cell? ⟨w.heap.size,2,none⟩=some (.slice A es.length cap)):=qA fun w' hb=>bM.out w' (kD.out.trans hb);have HA:Hid (∀w',Below (w.heap.size+1) W w'→ArgG w' (.agg #[.int .i64 g1, .int .i64 n, .slice A es.length cap]) (g1,n,es)):=qA fun w' hb=>HG.out.below (BX.out.trans (hb.mono tO));have cJ:Hid (∀w',Below (w.heap.size+1) W w'→Below w.heap.size w w'):=qA fun w' hb=>BX.out.trans (hb.mono tO);have O0:=qA o0;clear an hW aR b1 b2 bM o0;have aO:=qAP _ (g1,n,es) W (HA.out W ((zab W.heap.size W).mono tO));rw[HF.out] at aO;refine aO.mono ?_;clear aO;rintro e w2 ⟨rfl,b2⟩;have cT:=b2.size;have B2:Hid (Below (w.heap.size+1) W w2):=qA (b2.mono tO);have eK:=qA (O0.out.below b2);clear b2;obtain⟨q0,q1,q2⟩:=bH.out w2 B2.out;go_wp2_with fail;refine(fN.out w2 (HA.out w2 B2.out)).mono ?_
 rintro e w3 ⟨r3,T,rfl,o3,kd,AF,b3⟩;have fS:=b3.size;have B3:Hid (Below (w.heap.size+1) W w3):=qA (B2.out.trans (b3.mono tO));have en:=qA (eK.out.below b3);have Hp:=qA o3;have FN:=qA (xM.out T kd);obtain⟨At,ct,rfl,_⟩:=o3.form;clear o3 kd b3 q0 q1 q2;obtain⟨q0,q1,q2⟩:=bH.out w3 B3.out;have wP:Hid (∀b,(zap At T.length ct).ownBlock=some b→w2.heap.size≤b∧b<w3.heap.size):=qA fun b hb=>Hp.out.1.lt b hb;go_wp2;go_loopw [3,17] (fun vo i wr=> ∃k:Nat,k≤es.length∧i= .int .i64 k∧OwE wr (w.heap.size+1) vo ((es.take k).filter XB)∧(∀c,vo.ownBlock=some c→c<W.heap.size∨w3.heap.size≤c)∧(∀b,W.heap.size≤b→b<w3.heap.size→wr.heap[b]? =w3.heap[b]?)∧w3.heap.size≤wr.heap.size∧Below (w.heap.size+1) W wr) (fun _ i _=>es.length-(intOf i).toNat)
 case atStart=>exact⟨0,zak _,rfl,by simpa using en.out,fun c hc=> .inl (by simp[zad] at hc;omega),fun _ _ _=>rfl,zaa _,B3.out⟩
 case round=>
  obtain⟨k,hk,rfl,ho,m9,oZ,iC,hb⟩:=hrel;have HO:=qA ho;have wQ:=qA m9;have oT:=qA oZ;have HB:=qA hb;obtain⟨wi,rfl⟩: ∃wi:World,wi=wr:=⟨_,rfl⟩;clear ho m9 oZ hb;have dC:((es.take k).filter XB).length≤120:=by
   have h1:=zaq XB (es.take k);rw[zaH] at h1;omega
  obtain⟨Ao,co,rfl,_⟩:=OwE.form HO.out;by_cases ac:k<es.length
  ·have mo:=qA (qIR XB es k ac);have Jj:=qA (FN.out es[k] (zah ac));obtain⟨_,_,Pa,It,_,_⟩:=(HA.out wi HB.out).inner;injection Pa with e1 e2 e3
   subst e1 e3;clear e2;obtain⟨b,off,rfl,dv,c0,c1,c2,dz⟩:=It.at ac;have bR:=qA dz;have mT:(k:Int)<(es.length:Int):=tO;generalize es[k]=E at*;generalize (es.take k).filter XB=LO at*;obtain⟨e1,e2,e3⟩:=E;simp only at*
   clear It dz;have pF:=qA (fun W' (h:ArgE W' (.slice At T.length ct) T)=>qHr _ T (e1,e2,e3) W' h tO);unfold edV at pF;simp only at pF
   go_wp2_with fail;obtain⟨WX,oM⟩: ∃WX,WX=wi.alloc (.cells #[.int .i64 e1,.int .i64 e2,.int .i64 e3] 97):=⟨_,rfl⟩;obtain⟨DI,bX,Bk⟩:=qGs oM;rw[←oM];have sM:=qA (HO.out.below bX);have CX:=qA (HB.out.trans (bX.mono (by have:=HB.out.size;omega)));have pv:Hid (∀b,W.heap.size≤b→b<w3.heap.size→WX.heap[b]? =w3.heap[b]?):=qA fun b h1 h2=>(bX.block b tO).trans (oT.out b h1 h2);have Ls:=qA Bk;clear oM bX Bk c0 c1 c2;refine(pF.out WX (Hp.out.keep fun b hb=>pv.out b (by have:=wP.out b hb;omega) (wP.out b hb).2).arg).mono ?_
   rintro e w4 ⟨rfl,b4⟩;have lZ:=b4.size;obtain⟨z0,z1,z2⟩:=Ls.out w4 (b4.mono tO);have sH:=qA (sM.out.below b4);have ch:=qA (CX.out.trans (b4.mono (by have:=CX.out.size;omega)));have pS:Hid (∀b,W.heap.size≤b→b<w3.heap.size→w4.heap[b]? =w3.heap[b]?):=qA fun b h1 h2=>(b4.block b tO).trans (pv.out b h1 h2);clear b4;have d9:w.heap.size+1≤w4.heap.size:=by have:=ch.out.size;omega
   rcases ed:decide ((e1,e2,e3)∈T) with _ | _
   ·have F5:Hid ((es.take (k+1)).filter XB=LO++ [(e1,e2,e3)]):=qA (by rw[mo.out,Jj.out,ed];rfl);clear ed;go_wp2_with (at_builtin;refine qBO rfl (.tmp 25) (.tmp 27) rfl (w.heap.size+1) _ _ (sH.out.alloc _) rfl _ (e1,e2,e3) rfl (qCv _ _ _) bR.out tO (by simp;omega) ?_;intro v5 wv5 o5 g5 p5;have uh:=g5.size;simp at uh;have O5:=qA o5;have B5:=qA (qBA ch.out d9 sH.out (zaa _) g5);have vP:Hid (∀c,v5.ownBlock=some c→c<W.heap.size∨w3.heap.size≤c):=qA fun c hc=>(by rcases p5 with p5 | p5<;>rw[p5] at hc<;>first | exact wQ.out c hc | (simp at hc;omega));have uS:Hid (∀b,W.heap.size≤b→b<w3.heap.size→wv5.heap[b]? =w3.heap[b]?):=qA fun b h1 h2=>((g5.block b (by simp;omega) (fun e=>by have:=wQ.out b e.symm;omega)).trans (((zab w4.heap.size w4).alloc (zaa _) _).block b tO)).trans (pS.out b h1 h2);clear o5 g5 p5)
    go_roundw
    case rel=>exact⟨k+1,tO,by go_num,by rw[F5.out];exact O5.out,vP.out,uS.out,tO,B5.out⟩
    case measure=>simp[intOf];omega
   ·have F5:Hid ((es.take (k+1)).filter XB=LO):=qA (by rw[mo.out,Jj.out,ed];rfl);clear ed z0 z1 z2;go_wp2;go_roundw
    case rel=>exact⟨k+1,tO,by go_num,by rw[F5.out];exact sH.out,wQ.out,pS.out,tO,ch.out⟩
    case measure=>simp[intOf];omega
  ·obtain rfl:k=es.length:=tO
   rw[zaf] at HO dC;have ki:=qA (D6.out▸HO.out);have aj:=qA (cJ.out wi HB.out);go_wp2;go_ret;exact⟨_,rfl,by rw[D6.out];rw[zaf];exact HO.out.mono tO,aj.out⟩
theorem qCb {g:GrD} (h:qR g=true):qb g=true:=by
 unfold qR at h;simp only[zaA] at h;exact h.1.1
theorem qOr {g:GrD} (h:qR g=true) {e:EdD} (he:e∈extL g):qFa [wdO g e.1,[e.2.1],invL (wdO g e.2.2)]=basW g e:=by
 obtain⟨hg,hf⟩:=qE (qCb h);have hm:=zav.1 he;have h1:e.1∈canO g:=qo h (qI hg hm.1).1;have h2:e.2.2∈canO g:=qo h (qI hg hm.1).2.2;rw[qOc (qBx hg h2)];have hr:=(qDN hg hf hm.1 hm.2 h1 h2).red;unfold qFa;have e1: [wdO g e.1,[e.2.1],invN (wdO g e.2.2)].flatten=basW g e:=by simp[basW]
 rw[e1,qLx (by simpa using hr)];rfl
theorem qGJ (xs:List Int):(invL xs).length=xs.length:=by simp[invL,negL]
theorem OwLf.form {α:Type} {E:El α} {t:TypeId} {width:Nat} {w:World} {v:Value} {ds:List α} {F:List Nat} (h:OwLf E t width w v ds F): ∃A cap,v= .slice A ds.length cap:=by
 obtain⟨ess,h1,h2,h3,_⟩:=h;obtain⟨A,cap,hv,_⟩:=qAY h3;exact⟨A,cap,by rw[hv,←h1];simp⟩
theorem qLa {w:World} (N:Nat) (hN:w.heap.size=N) {u v t:Value} {xs ys zs:List Int} (h:RdI w u xs) (h':RdI w v ys) (h'':RdI w t zs):RdII (w.alloc (.cells #[u,v,t] 37)) (.slice (some ⟨N,0,none⟩) 3 3) [xs,ys,zs]:=by
 subst hN;exact qJo h h' h''
theorem RdI.keepB {w w':World} {b off n c:Nat} {xs:List Int} (h:RdI w (.slice (some ⟨b,off,none⟩) n c) xs) (hb:w'.heap[b]? =w.heap[b]?):RdI w' (.slice (some ⟨b,off,none⟩) n c) xs:=by
 obtain⟨⟨h1,A,cap,hv,h2,h3,h4,h5⟩,h6⟩:=h;injection hv with e1 e2 e3
 subst e1 e3;refine⟨⟨h1,_,_,by rw[e2],h2,h3,h4,fun h0=> ?_⟩,h6⟩;obtain⟨b',off',cur,fr,hA,hh,hx⟩:=h5 h0;injection hA with hA
 injection hA with pu fh
 subst pu fh;exact⟨b,off,cur,fr,rfl,by rw[hb];exact hh,hx⟩
theorem qGT (v:Value) (g:GrD) (w:World) (h:ArgG w v g):
  Calls Tryz.prog 126 #[v] w fun e w'=> ∃r,e= .returned r∧OwII w.heap.size w'.heap.size r (basF g) w'∧Below w.heap.size w w':=by
 have HG:=qA h;obtain⟨s,rfl,aT,aS,ha⟩:=h;obtain⟨A,cap,rfl⟩:=ha.form;clear ha;have fN:=qA (fun W' (h:ArgG W' (.agg #[.int .i64 g.1, .int .i64 g.2.1, .slice A g.2.2.length cap]) g) hf=>qIL _ g W' h hf);have Fx:=qA (fun W' (h:ArgG W' (.agg #[.int .i64 g.1, .int .i64 g.2.1, .slice A g.2.2.length cap]) g) hf=>qGr _ g W' h hf);obtain⟨g1,n,es⟩:=g;simp only at*
 go_enter Tryz.func126,Tryz.ntmps126
 go_wp2_with fail;obtain⟨W1,an⟩: ∃W,W=w.alloc (.cells #[.int .i64 g1,.int .i64 n, .slice A es.length cap] 26):=⟨_,rfl⟩;obtain⟨aw,b1,aR⟩:=qGs an;obtain⟨W,hW⟩: ∃W,W=W1.alloc (.cells #[] 37):=⟨_,rfl⟩;have b2:Below W1.heap.size W1 W:=by rw[hW];exact(zab _ _).alloc (zaa _) _
 have aW:W.heap.size=w.heap.size+2:=by rw[hW];simp;omega
 have o0:OwII (w.heap.size+1) W.heap.size (.slice (some ⟨w.heap.size+1,0,none⟩) 0 0) [] W:=by
  have h:=qKB W1 (lo:=w.heap.size+1) tO;rw[←hW,aw] at h;exact h.widen (zaa _) tO
 rw[←an,←hW];have BX:Hid (Below w.heap.size w W):=qA (b1.trans (b2.mono tO));have kD:=qA (b2.mono (show w.heap.size+1≤W1.heap.size by omega));have bM:=qA aR;have bH:Hid (∀w',Below (w.heap.size+1) W w'→w'.cell? ⟨w.heap.size,0,none⟩=some (.int .i64 g1)∧w'.cell? ⟨w.heap.size,1,none⟩=some (.int .i64 n)∧w'.cell? ⟨w.heap.size,2,none⟩=some (.slice A es.length cap)):=qA fun w' hb=>bM.out w' (kD.out.trans hb);have HA:Hid (∀w',Below (w.heap.size+1) W w'→ArgG w' (.agg #[.int .i64 g1, .int .i64 n, .slice A es.length cap]) (g1,n,es)):=qA fun w' hb=>HG.out.below (BX.out.trans (hb.mono tO));have cJ:Hid (∀w',Below (w.heap.size+1) W w'→Below w.heap.size w w'):=qA fun w' hb=>BX.out.trans (hb.mono tO);have O0:=qA o0;clear an hW aR b1 b2 bM o0;refine(qAR _ (g1,n,es) W (HA.out W ((zab W.heap.size W).mono tO))).mono ?_
 rintro e w1 ⟨rfl,b1⟩;have ME:=b1.size;have B1:Hid (Below (w.heap.size+1) W w1):=qA (b1.mono tO);have O1:=qA ((OwnL.keep O0.out EI.stable fun b _ ac=>b1.block b ac).widen (zaa _) b1.size);clear b1;rcases ec:qR (g1,n,es) with _ | _
 ·have F:Hid (basF (g1,n,es)= []):=qA (by unfold basF;rw[ec];rfl);have ki:=qA (OwnL.widen O1.out (show w.heap.size≤w.heap.size+1 by omega) (zaa _));have aj:=qA (cJ.out w1 B1.out);clear ec;go_wp2;go_ret;rw[F.out];exact⟨_,rfl,ki.out,aj.out⟩
 have jH:=qCb ec;have IZ:=qA jH;have hg:=qZ ec;obtain⟨li,fG,aQ,_⟩:=qB hg;simp only at li fG aQ
 obtain⟨N,rfl⟩: ∃N:Nat,n=(N:Int):=⟨n.toNat,tO⟩;have aj:Hid (basF (g1,(N:Int),es)=(extL (g1,(N:Int),es)).map (basW (g1,(N:Int),es))):=qA (by unfold basF;rw[if_pos ec]);have tP:Hid (∀e∈extL (g1,(N:Int),es),qFa [wdO (g1,(N:Int),es) e.1,[e.2.1],invL (wdO (g1,(N:Int),es) e.2.2)]=basW (g1,(N:Int),es) e):=qA fun e he=>qOr ec he;have J4:Hid (∀e∈extL (g1,(N:Int),es),(0≤e.1∧e.1<N∧e.1∈canO (g1,(N:Int),es))∧(1≤e.2.1∧e.2.1≤3)∧(0≤e.2.2∧e.2.2<N∧e.2.2∈canO (g1,(N:Int),es))):=qA fun e he=>by
  have hm:=(zav.1 he).1;have h:=qI hg hm;simp only at h
  exact⟨⟨h.1.1,h.1.2,qo ec h.1⟩,⟨h.2.1.1,tO⟩,⟨h.2.2.1,h.2.2.2,qo ec h.2.2⟩⟩
 have sg:Hid (∀y∈canO (g1,(N:Int),es),(wdO (g1,(N:Int),es) y).length<40):=qA fun y hy=>qHy hg hy;have gR:(extL (g1,(N:Int),es)).length≤120:=zaz (zaq _ _) aQ;clear ec jH hg;obtain⟨q0,q1,q2⟩:=bH.out w1 B1.out;go_wp2_with fail;refine(fN.out w1 (HA.out w1 B1.out) IZ.out).mono ?_
 rintro e w2 ⟨r2,P,rfl,hP,tx,o2,b2⟩;have cT:=b2.size;have B2:Hid (Below (w.heap.size+1) W w2):=qA (B1.out.trans (b2.mono tO));have O2:=qA ((OwnL.keep O1.out EI.stable fun b _ ac=>b2.block b ac).widen (zaa _) b2.size);have rg:=tx.lt.2;simp only[zay] at tx⊢;have yg:=qA tx;obtain⟨Ar,cr,rfl,_⟩:=OwI.form o2;clear tx o2 b2 q0 q1 q2;obtain⟨q0,q1,q2⟩:=bH.out w2 B2.out;go_wp2_with fail;refine(Fx.out w2 (HA.out w2 B2.out) IZ.out).mono ?_
 rintro e w3 ⟨r3,rfl,o3,b3⟩;have fS:=b3.size;have B3:Hid (Below (w.heap.size+1) W w3):=qA (B2.out.trans (b3.mono tO));have O3:=qA ((OwnL.keep O2.out EI.stable fun b _ ac=>b3.block b ac).widen (zaa _) b3.size);have E6:Hid (∀b,b<w2.heap.size→w3.heap[b]? =w2.heap[b]?):=qA fun b hb=>b3.block b hb;have J6:=qA o3;obtain⟨Ax,cx,rfl,_⟩:=o3.form;obtain⟨F,hF⟩: ∃F,F=wdO (g1,(N:Int),es):=⟨_,rfl⟩;obtain⟨OO,Kw⟩: ∃O,O=canO (g1,(N:Int),es):=⟨_,rfl⟩;obtain⟨BW,JB⟩: ∃B,B=basW (g1,(N:Int),es):=⟨_,rfl⟩;rw[←hF] at tP sg yg;rw[←Kw] at J4 sg yg;rw[←JB] at tP aj;generalize extL (g1,(N:Int),es)=X at*;clear o3 b3 q0 q1 q2 hF Kw JB;have ud:Hid (∀b,(zap Ax X.length cx).ownBlock=some b→w2.heap.size≤b∧b<w3.heap.size):=qA fun b hb=>J6.out.1.lt b hb;obtain⟨F0,dM,kF,Lo⟩:=O3.out;have DQ:=qA dM;have kY:Hid (∀b∈F0,(w.heap.size+1≤b∧b<w3.heap.size)∧(b<W.heap.size∨w3.heap.size≤b)):=qA fun b hb=>by
  obtain⟨ess,h1,h2,h3,rfl⟩:=dM;have h4:ess= []:=by simpa using h1
  subst h4;simp[zad] at hb
  omega
 clear dM Lo;have BH:=qA kF;clear kF;go_wp2;go_loopw [3,21] (fun vo i wr=> ∃(k:Nat) (Fp:List Nat),k≤X.length∧i= .int .i64 k∧OwLf EI 37 1 wr vo ((X.take k).map BW) Fp∧Fp.Nodup∧(∀b∈Fp,(w.heap.size+1≤b∧b<wr.heap.size)∧(b<W.heap.size∨w3.heap.size≤b))∧(∀b,W.heap.size≤b→b<w3.heap.size→wr.heap[b]? =w3.heap[b]?)∧w3.heap.size≤wr.heap.size∧Below (w.heap.size+1) W wr) (fun _ i _=>X.length-(intOf i).toNat)
 case atStart=>exact⟨0,F0,zak _,rfl,by simpa using DQ.out,BH.out,kY.out,fun _ _ _=>rfl,zaa _,B3.out⟩
 case round=>
  obtain⟨k,Fp,hk,rfl,ho,eL,Kh,oZ,iC,hb⟩:=hrel;have HO:=qA ho;have lE:=qA eL;have mR:=qA Kh;have oT:=qA oZ;have HB:=qA hb;obtain⟨wi,rfl⟩: ∃wi:World,wi=wr:=⟨_,rfl⟩;clear ho eL Kh oZ hb;obtain⟨Ao,co,rfl⟩:=OwLf.form HO.out;by_cases ac:k<X.length
  ·have mo:Hid ((X.take (k+1)).map BW=(X.take k).map BW++ [BW X[k]]):=qA (by rw[zag ac,List.map_append];rfl);have xJ:=qA (tP.out X[k] (zah ac));obtain⟨⟨lz,Oe,F4⟩,Pw,⟨K3,NT,F6⟩⟩:=J4.out X[k] (zah ac);have Ih:=(J6.out.keep fun b hb=>oT.out b (by have:=ud.out b hb;omega) (ud.out b hb).2).arg;obtain⟨b,off,rfl,dv,c0,c1,c2,dz⟩:=Ih.at ac;have mT:(k:Int)<(X.length:Int):=tO;have QS:((X.take k).map BW).length≤120:=by rw[zaC,zaH];omega
   generalize X[k]=E at*;obtain⟨e1,x,e3⟩:=E;simp only at*
   obtain⟨pn,rfl⟩: ∃pn:Nat,e1=(pn:Int):=⟨e1.toNat,tO⟩;obtain⟨qn,rfl⟩: ∃qn:Nat,e3=(qn:Int):=⟨e3.toNat,tO⟩;obtain⟨bp,cp,cup,_,xQ,Ps,Nv⟩:=yg.out.at_old (y:=pn) tO F4;obtain⟨bq,cq,cuq,_,IU,AT,PS⟩:=yg.out.at_old (y:=qn) tO F6;have fM: ∀b,W.heap.size≤b→b<w2.heap.size→wi.heap[b]? =w2.heap[b]? :=fun b h1 h2=>(oT.out b h1 tO).trans (E6.out b h2);have tU:=(zae (w:=w2) (fM P tO rg)).trans cup;have uw:=(zae (w:=w2) (fM P tO rg)).trans cuq;have JS:=qA (xQ.keepB (fM bp tO Ps));have iM:=qA (IU.keepB (fM bq tO AT));have Jy:=sg.out pn F4;have Ry:=sg.out qn F6;have mp:Hid (I64 x):=qA ⟨tO,tO⟩;have Lt:(pn:Int)<(N:Int):=Oe;have K4:(qn:Int)<(N:Int):=NT;generalize Db:(X.take k).map BW=LO at*;generalize BW ((pn:Int),x,(qn:Int))=BV at*;generalize F (pn:Int)=wp at*;generalize F (qn:Int)=wq at*;have AZ:P<wi.heap.size:=tO;have eX:=HB.out.size;clear Ih dz cup cuq xQ IU fM F4 F6 Db;go_wp2_with fail;obtain⟨WX,oM⟩: ∃WX,WX=wi.alloc (.cells #[.int .i64 (pn:Int),.int .i64 x,.int .i64 (qn:Int)] 97):=⟨_,rfl⟩;obtain⟨DI,bX,Bk⟩:=qGs oM;rw[←oM];obtain⟨z0,z1,z2⟩:=Bk WX ((zab WX.heap.size WX).mono tO);have tU:=(bX.cell (p:=⟨P,pn,none⟩) AZ).trans tU;have uw:=(bX.cell (p:=⟨P,qn,none⟩) AZ).trans uw;have zH:Hid (∀W',Below WX.heap.size WX W'→RdI W' (.slice (some ⟨bp,0,none⟩) wp.length cp) wp):=qA fun W' hb=>(JS.out.below bX).below hb;have Be:Hid (∀W',Below WX.heap.size WX W'→RdI W' (.slice (some ⟨bq,0,none⟩) wq.length cq) wq):=qA fun W' hb=>(iM.out.below bX).below hb;have sM:=qA (HO.out.stable EI.stable fun b hb=>bX.block b (mR.out b hb).1.2);have CX:=qA (HB.out.trans (bX.mono tO));have pv:Hid (∀b,W.heap.size≤b→b<w3.heap.size→WX.heap[b]? =w3.heap[b]?):=qA fun b h1 h2=>(bX.block b tO).trans (oT.out b h1 h2);have FV:Hid (∀b∈Fp,b<WX.heap.size):=qA fun b hb=>by have:=(mR.out b hb).1.2;omega
   have nS:P<WX.heap.size:=tO;have ld:wi.heap.size<WX.heap.size:=tO;have wW:Hid (Below WX.heap.size WX ((WX.alloc (.cells #[.int .i64 x] 3)).drew)):=qA (((zab WX.heap.size WX).alloc (zaa _) _).drew);have bK:Hid (Below WX.heap.size WX WX.drew):=qA (zab WX.heap.size WX).drew;clear oM bX Bk c0 c1 c2 JS iM DI;go_region_held3 (fun w'=>w'.cell? ⟨wi.heap.size,0,none⟩=some (.int .i64 (pn:Int))∧w'.cell? ⟨wi.heap.size,1,none⟩=some (.int .i64 x)∧w'.cell? ⟨wi.heap.size,2,none⟩=some (.int .i64 (qn:Int))∧w'.cell? ⟨P,pn,none⟩=some (.slice (some ⟨bp,0,none⟩) wp.length cp)∧w'.cell? ⟨P,qn,none⟩=some (.slice (some ⟨bq,0,none⟩) wq.length cq))
    (first | go_keep | exact⟨s0,s1,s2,s3,s4⟩)
    (first
     | (go_at_call 98;(with_reducible refine(qCI _ wq _ (Be.out _ wW.out) tO).mono ?_);rintro e w9 ⟨r9,rfl,o9,b9⟩;have eh:=qA (wW.out.trans (b9.mono wW.out.size));obtain⟨A9,c9,rfl,_⟩:=OwI.form o9;have R9:=qA (o9.mono wW.out.size);have Om:=qA ((qKW WX x mp.out).drew.below b9);have s0:=(eh.out.cell (p:=⟨wi.heap.size,0,none⟩) ld).trans z0;have s1:=(eh.out.cell (p:=⟨wi.heap.size,1,none⟩) ld).trans z1;have s2:=(eh.out.cell (p:=⟨wi.heap.size,2,none⟩) ld).trans z2;have s3:=(eh.out.cell (p:=⟨P,pn,none⟩) nS).trans tU;have s4:=(eh.out.cell (p:=⟨P,qn,none⟩) nS).trans uw;clear o9 b9 wW bK)
     | (go_at_call 98;(with_reducible refine(qCI _ wq _ (Be.out _ bK.out) tO).mono ?_);rintro e w9 ⟨r9,rfl,o9,b9⟩;have eh:=qA (bK.out.trans (b9.mono bK.out.size));obtain⟨A9,c9,rfl,_⟩:=OwI.form o9;have R9:=qA (o9.mono bK.out.size);have s0:=(eh.out.cell (p:=⟨wi.heap.size,0,none⟩) ld).trans z0;have s1:=(eh.out.cell (p:=⟨wi.heap.size,1,none⟩) ld).trans z1;have s2:=(eh.out.cell (p:=⟨wi.heap.size,2,none⟩) ld).trans z2;have s3:=(eh.out.cell (p:=⟨P,pn,none⟩) nS).trans tU;have s4:=(eh.out.cell (p:=⟨P,qn,none⟩) nS).trans uw;clear o9 b9 wW bK)
     | (go_at_call 97;(with_reducible refine(qEK _ [wp,[x],invL wq] _ (qJo (zH.out w9 eh.out) Om.out R9.out.rd) (by simp[qAr,qGJ];omega) (by simp)).mono ?_);rintro e d7 ⟨IJ,rfl,nH,gf⟩;have wB:=qA (eh.out.alloc eh.out.size (.cells #[.slice (some ⟨bp,0,none⟩) wp.length cp, .slice (some ⟨WX.heap.size,0,none⟩) 1 1, .slice A9 (invL wq).length c9] 37));have bJ:=qA (wB.out.trans (gf.mono wB.out.size));rw[xJ.out] at nH;obtain⟨tQ,tF,rfl,_⟩:=OwI.form nH;have IG:=qA (nH.mono wB.out.size);have s0:=(bJ.out.cell (p:=⟨wi.heap.size,0,none⟩) ld).trans z0;have s1:=(bJ.out.cell (p:=⟨wi.heap.size,1,none⟩) ld).trans z1;have s2:=(bJ.out.cell (p:=⟨wi.heap.size,2,none⟩) ld).trans z2;have s3:=(bJ.out.cell (p:=⟨P,pn,none⟩) nS).trans tU;have s4:=(bJ.out.cell (p:=⟨P,qn,none⟩) nS).trans uw;clear nH gf)
     | (go_at_call 97;(with_reducible refine(qEK _ [wp,[x],invL wq] _ (qLa (w:=w9.alloc (.cells #[.int .i64 x] 3)) (w9.heap.size+1) (by simp) (zH.out _ (eh.out.alloc eh.out.size _)) (qKW w9 x mp.out) (R9.out.alloc _).rd) (by simp[qAr,qGJ];omega) (by simp)).mono ?_);rintro e d7 ⟨IJ,rfl,nH,gf⟩;have wB:=qA ((eh.out.alloc eh.out.size (.cells #[.int .i64 x] 3)).alloc (eh.out.alloc eh.out.size (.cells #[.int .i64 x] 3)).size (.cells #[.slice (some ⟨bp,0,none⟩) wp.length cp, .slice (some ⟨w9.heap.size,0,none⟩) 1 1, .slice A9 (invL wq).length c9] 37));have bJ:=qA (wB.out.trans (gf.mono wB.out.size));rw[xJ.out] at nH;obtain⟨tQ,tF,rfl,_⟩:=OwI.form nH;have IG:=qA (nH.mono wB.out.size);have s0:=(bJ.out.cell (p:=⟨wi.heap.size,0,none⟩) ld).trans z0;have s1:=(bJ.out.cell (p:=⟨wi.heap.size,1,none⟩) ld).trans z1;have s2:=(bJ.out.cell (p:=⟨wi.heap.size,2,none⟩) ld).trans z2;have s3:=(bJ.out.cell (p:=⟨P,pn,none⟩) nS).trans tU;have s4:=(bJ.out.cell (p:=⟨P,qn,none⟩) nS).trans uw;clear nH gf)
     | (refine qGq rfl (.tmp 25) (.tmp 42) rfl sM.out lE.out FV.out (bJ.out.alloc bJ.out.size _) (by rfl) _ (.slice tQ BV.length tF) BV (base:=WX.heap.size) (by rfl) (IG.out.alloc _) (zaa _) (qa _ _ _) rfl tO ?_;intro v11 kN F11 l11 n11 sQ g11 p11;have If:=qA l11;have In:=qA n11;have BT:=qA sQ;have ye:Hid (Below (w.heap.size+1) W kN):=qA ((CX.out.trans ((bJ.out.alloc bJ.out.size (.cells #[.slice tQ BV.length tF] 37)).mono tO)).grown g11 (by have:=bJ.out.size;simp;omega) (fun c hc=>(mR.out c (sM.out.mem hc)).1.1));have pZ:=g11.size;have DO: ∀b,b<WX.heap.size→(∀c,(zap Ao LO.length co).ownBlock=some c→c≠b)→kN.heap[b]? =WX.heap[b]? :=fun b h1 h2=>(g11.block b (by have:=bJ.out.size;simp;omega) (fun e=>h2 b e.symm rfl)).trans ((bJ.out.alloc bJ.out.size (.cells #[.slice tQ BV.length tF] 37)).block b h1);have pJ:=DO wi.heap.size ld (fun c hc=>by have:=(mR.out c (sM.out.mem hc)).1.2;omega);have Dq:=DO P nS (fun c hc=>by have:=(mR.out c (sM.out.mem hc)).2;omega);have s0:=(zae (w:=WX) pJ).trans z0;have s1:=(zae (w:=WX) pJ).trans z1;have s2:=(zae (w:=WX) pJ).trans z2;have s3:=(zae (w:=WX) Dq).trans tU;have s4:=(zae (w:=WX) Dq).trans uw;clear DO pJ Dq;have zT:Hid (∀b,W.heap.size≤b→b<w3.heap.size→kN.heap[b]? =w3.heap[b]?):=qA fun b h1 h2=>((g11.block b (by have:=bJ.out.size;simp;omega) (fun e=>by have:=(mR.out b (sM.out.mem e.symm)).2;omega)).trans ((bJ.out.alloc bJ.out.size (.cells #[.slice tQ BV.length tF] 37)).block b tO)).trans (pv.out b h1 h2);clear l11 n11 sQ g11 p11))
   ·have FC:=bJ.out.size;have yr:d7.heap.size+1≤kN.heap.size:=by simpa using pZ
    go_wp2;go_roundw
    case rel=>exact⟨k+1,F11,tO,by go_num,by rw[mo.out];exact If.out,In.out,fun b hb=>by
     have h1:=BT.out b hb;rcases h1.1 with h | h
     ·have:=mR.out b h;omega
     ·omega,zT.out,tO,ye.out⟩
    case measure=>simp[intOf];omega
   ·have FC:=bJ.out.size;have yr:d7.heap.size+1≤kN.heap.size:=by simpa using pZ
    go_wp2;go_roundw
    case rel=>exact⟨k+1,F11,tO,by go_num,by rw[mo.out];exact If.out,In.out,fun b hb=>by
     have h1:=BT.out b hb;rcases h1.1 with h | h
     ·have:=mR.out b h;omega
     ·omega,zT.out,tO,ye.out⟩
    case measure=>simp[intOf];omega
  ·obtain rfl:k=X.length:=tO
   have ki:Hid (OwII w.heap.size wi.heap.size (.slice Ao ((X.take X.length).map BW).length co) (basF (g1,(N:Int),es)) wi):=qA ⟨Fp,by rw[aj.out];have h:=HO.out;rwa [zaf] at h⊢,lE.out,fun b hb=>by have:=mR.out b hb;omega⟩;have MB:=qA (cJ.out wi HB.out);go_wp2;go_ret;exact⟨_,rfl,ki.out,MB.out⟩
theorem qLL (v vw:Value) (g:GrD) (ws:List Int) (w:World) (h:ArgG w v g) (hw:RdI w vw ws) (hf:qb g=true):
  Calls Tryz.prog 108 #[v,vw] w fun e w'=>e= .returned (.bool (decide (qY g.2.2 0 ws=0)))∧Below w.heap.size w w':=by
 have HG:=qA h;have HW:=qA hw;have hg:=(qE hf).1;have aq:=(qB hg).2.1;have jF:=qA (fun W' (h:ArgG W' v g) (h2:RdI W' vw ws)=>qJm v vw g 0 ws W' h h2 hf ⟨zaF _,tO⟩);have ou:=qA (qGN g.2.2 ws 0 (zaF _));obtain⟨s,rfl,aT,aS,ha⟩:=h;obtain⟨A,cap,rfl⟩:=ha.form;obtain⟨Aw,cw,rfl⟩: ∃A cap,vw= .slice A ws.length cap:=by
  obtain⟨A,cap,hv,_⟩:=hw.arg;exact⟨A,cap,hv⟩
 obtain⟨g1,N,es⟩:=g;simp only at*
 clear ha hw hf hg aq;obtain⟨t,ht⟩: ∃t,t=qY es 0 ws:=⟨_,rfl⟩;rw[←ht] at ou⊢;clear ht;go_enter Tryz.func108,Tryz.ntmps108
 go_wp2_with fail;obtain⟨W,hW⟩: ∃W,W=w.alloc (.cells #[.int .i64 g1,.int .i64 N, .slice A es.length cap] 26):=⟨_,rfl⟩;obtain⟨aW,b1,_⟩:=qGs hW;rw[←hW];have BX:=qA b1;clear hW b1;refine(jF.out W (HG.out.below BX.out) (HW.out.below BX.out)).mono ?_
 rintro e w1 ⟨rfl,b1⟩;have aj:Hid (Below w.heap.size w w1):=qA (BX.out.trans (b1.mono tO));clear b1;generalize (qBG es 0 ws).1=u at*;generalize (qBG es 0 ws).2=m at*;generalize ws.length=L at ou⊢;by_cases hm:m=L
 ·subst hm;by_cases hu:u=0
  ·subst hu;have F:Hid (decide (t=0)=true):=qA (by
    rcases ou.out with h | h
    ·exact absurd h.2 (Nat.lt_irrefl _)
    ·simp[←h.2.2])
   go_wp2;go_ret;exact⟨qM F.out.symm,aj.out⟩
  ·have F:Hid (decide (t=0)=false):=qA (by
    rcases ou.out with h | h
    ·exact absurd h.2 (Nat.lt_irrefl _)
    ·rw[decide_eq_false_iff_not,←h.2.2];exact hu)
   go_wp2;go_ret;exact⟨qM (by rw[F.out];simpa using hu),aj.out⟩
 ·have no: ¬(m:Int)=(L:Int):=tO;have F:Hid (decide (t=0)=false):=qA (by
   rcases ou.out with h | h
   ·rw[decide_eq_false_iff_not];omega
   ·exact absurd h.2.1 hm)
  clear hm;go_wp2;go_ret;exact⟨qM F.out.symm,aj.out⟩
theorem qGn (v vl:Value) (g:GrD) (L:List (List Int)) (w:World) (h:ArgG w v g) (hl:RdII w vl L) (hc:qR g=true) (hn:L.length≤1073741824) (hr: ∀x∈L,x.length≤536870912):
  Calls Tryz.prog 125 #[v,vl] w fun e w'=>e= .returned (.bool (L.all fun x=>decide (qY g.2.2 0 (redL [] x)=0)))∧Below w.heap.size w w':=by
 have HG:=qA h;have HL:=qA hl;have HC:=qA hc;have HR:=qA hr;have Lc:=qA (fun (vw:Value) (ws:List Int) W' (h:ArgG W' v g) (h2:RdI W' vw ws)=>qLL v vw g ws W' h h2 (qCb hc));obtain⟨s,rfl,aT,aS,ha⟩:=h;obtain⟨A,cap,rfl⟩:=ha.form;obtain⟨Al,cl_,rfl,cU,cV,_⟩:=hl.form;unfold maxLen at cV;obtain⟨g1,N,es⟩:=g;simp only at*
 clear ha hl hc hr;obtain⟨p,hp⟩: ∃p:List Int→Bool,p=fun x=>decide (qY es 0 (redL [] x)=0):=⟨_,rfl⟩;have HP:=qA hp;rw[←hp];clear hp;go_enter Tryz.func125,Tryz.ntmps125
 go_wp2_with fail;obtain⟨W,hW⟩: ∃W,W=w.alloc (.cells #[.int .i64 g1,.int .i64 N, .slice A es.length cap] 26):=⟨_,rfl⟩;obtain⟨aW,b1,aR⟩:=qGs hW;rw[←hW];have BX:=qA b1;have bH:=qA aR;clear hW b1 aR;have eT:=qAR _ (g1,N,es) W (HG.out.below BX.out);rw[HC.out] at eT;refine eT.mono ?_;clear eT;rintro e w1 ⟨rfl,b1⟩;have aw:=b1.size;have B1:Hid (Below W.heap.size W w1):=qA b1;clear b1;go_wp2;go_loopw [12] (fun i wr=> ∃k:Nat,k≤L.length∧i= .int .i64 k∧(∀x∈L.take k,p x=true)∧Below W.heap.size W wr) (fun i _=>L.length-(intOf i).toNat)
 case atStart=>exact⟨0,zak _,rfl,fun x hx=>by simp at hx,B1.out⟩
 case round=>
  obtain⟨k,hk,rfl,aB,hb⟩:=hrel;have oF:=qA aB;have HB:=qA hb;obtain⟨wi,rfl⟩: ∃wi:World,wi=wr:=⟨_,rfl⟩;have uX:=hb.size;clear aB hb;have cJ:Hid (Below w.heap.size w wi):=qA (BX.out.trans (HB.out.mono tO));obtain⟨z0,z1,z2⟩:=bH.out wi (HB.out.mono tO);by_cases ac:k<L.length
  ·obtain⟨b,off,A1,c1,rfl,dv,aF,_,_,aN⟩:=(HL.out.below cJ.out).at ac;have Qi:=qA aN;have zv:=qA (HR.out L[k] (zah ac));have mq:Hid (p L[k]=decide (qY es 0 (redL [] L[k])=0)):=qA (by rw[HP.out]);have mo:Hid (∀x∈L.take (k+1),x∈L.take k∨x=L[k]):=qA fun x hx=>by
    rw[zag ac] at hx;rcases zas.1 hx with h | h
    ·exact .inl h
    ·exact .inr (zam.1 h)
   have je:Hid (p L[k]=false→L.all p=false):=qA fun h=>by
    rw[zax];intro hc;have:=zai.1 hc _ (zah ac)
    rw[h] at this;cases this
   have vz:=qA (HG.out.below cJ.out);have mT:(k:Int)<(L.length:Int):=tO;have xh:w.heap.size<wi.heap.size:=tO;clear aN;generalize L[k]=X at*;go_wp2_with fail;go_region_held3 (fun w'=>w'.cell? ⟨w.heap.size,0,none⟩=some (.int .i64 g1)∧w'.cell? ⟨w.heap.size,1,none⟩=some (.int .i64 N)∧w'.cell? ⟨w.heap.size,2,none⟩=some (.slice A es.length cap))
    (first | go_keep | exact⟨s0,s1,s2⟩)
    (first
     | (go_at_call 109;(with_reducible refine(qDf _ X _ (Qi.out.drew) zv.out).mono ?_);rintro e w3 ⟨r3,rfl,o3,b3⟩;have aC:=qA ((zab wi.heap.size wi).drew.trans b3);have O3:=qA o3.rd;obtain⟨A3,c3,rfl,_⟩:=OwI.form o3;have s0:=(aC.out.cell (p:=⟨w.heap.size,0,none⟩) xh).trans z0;have s1:=(aC.out.cell (p:=⟨w.heap.size,1,none⟩) xh).trans z1;have s2:=(aC.out.cell (p:=⟨w.heap.size,2,none⟩) xh).trans z2;clear o3 b3)
     | (go_at_call 108;(with_reducible refine(Lc.out _ (redL [] X) _ (vz.out.below aC.out) O3.out).mono ?_);rintro e w4 ⟨rfl,b4⟩;have ch:=qA (aC.out.trans (b4.mono aC.out.size));have s0:=(ch.out.cell (p:=⟨w.heap.size,0,none⟩) xh).trans z0;have s1:=(ch.out.cell (p:=⟨w.heap.size,1,none⟩) xh).trans z1;have s2:=(ch.out.cell (p:=⟨w.heap.size,2,none⟩) xh).trans z2;clear b4))
   rw[←mq.out];rcases ep:p X with _ | _
   ·have HN:=qA (je.out ep);have aj:Hid (Below w.heap.size w w4):=qA (cJ.out.trans (ch.out.mono tO));clear ep;go_wp2;go_ret;exact⟨qM HN.out.symm,aj.out⟩
   ·have Oq:=qA ep;have aj:Hid (Below W.heap.size W w4):=qA (HB.out.trans (ch.out.mono tO));clear ep;go_wp2;go_roundw
    case rel=>exact⟨k+1,tO,by go_num,fun x hx=>by
     rcases mo.out x hx with h | rfl
     ·exact oF.out x h
     ·exact Oq.out,aj.out⟩
    case measure=>simp[intOf];omega
  ·obtain rfl:k=L.length:=tO
   have HT:Hid (L.all p=true):=qA (zai.2 fun x hx=>oF.out x (by rw[zaf];exact hx));go_wp2;go_ret;exact⟨qM HT.out.symm,cJ.out⟩
theorem qNk (a b:GrD) (ha:qR a=true) (hb:qR b=true) (hr:a.1=b.1):qAG a b=(basF a).all fun x=>decide (qY b.2.2 0 (redL [] x)=0):=by
 rw[qGl];unfold qJU;rw[ha,hb,decide_eq_true hr];simp only[Bool.true_and];obtain⟨hg,hf⟩:=qE (qCb ha);rw[Bool.eq_iff_iff,zai,zai];have key: ∀x∈basF a,redL [] x=x:=fun x hx=>by
  unfold basF at hx;rw[if_pos ha] at hx;obtain⟨e,he,rfl⟩:=List.mem_map.1 hx;have hm:=zav.1 he;have h:=(qDN hg hf hm.1 hm.2 (qo ha (qI hg hm.1).1) (qo ha (qI hg hm.1).2.2)).red;have:=qLx (acc:= []) (xs:=basW a e) (by simpa using h)
  simpa using this
 constructor
 ·intro H x hx;rw[key x hx];exact H x hx
 ·intro H x hx;have:=H x hx;rw[key x hx] at this;exact this
theorem qLZ (a:GrD):(basF a).length≤120∧ ∀x∈basF a,x.length≤100:=by
 unfold basF;split
 ·rename_i ha
  obtain⟨hg,hf⟩:=qE (qCb ha);have aQ:=(qB hg).2.2.1;refine⟨by rw[zaC];exact zaz (zaq _ _) aQ,fun x hx=> ?_⟩;obtain⟨e,he,rfl⟩:=List.mem_map.1 hx;have hm:=zav.1 he;have h1:=qHy hg (qo ha (qI hg hm.1).1);have h2:=qHy hg (qo ha (qI hg hm.1).2.2);unfold basW invN;simp only[zal,List.length_reverse,zaC,zan];omega
 ·exact⟨by simp,fun x hx=>by cases hx⟩
theorem qFX (va vb:Value) (a b:GrD) (w:World) (ha:ArgG w va a) (hb:ArgG w vb b):
  Calls Tryz.prog 44 #[va,vb] w fun e w'=>e= .returned (.bool (qAG a b))∧Below w.heap.size w w':=by
 have dI:=qA ha;have aI:=qA hb;have Bf:=qA (fun W' (h:ArgG W' va a)=>qGT va a W' h);have pX:=qA (fun vl W' (h:ArgG W' vb b) (h2:RdII W' vl (basF a)) hc=>qGn vb vl b (basF a) W' h h2 hc (by have:=(qLZ a).1;omega) (fun x hx=>by have:=(qLZ a).2 x hx;omega));have yP:=qA (qNk a b);have jm:=qA (fun W' (h:ArgG W' va a)=>qAR va a W' h);have jv:=qA (fun W' (h:ArgG W' vb b)=>qAR vb b W' h);obtain⟨sa,rfl,aT,aS,dJ⟩:=ha;obtain⟨Aa,capa,rfl⟩:=dJ.form;obtain⟨sb,rfl,OZ,Mx,fI⟩:=hb;obtain⟨Ab,capb,rfl⟩:=fI.form;clear dJ fI;have fd:Hid (qR a=false→qAG a b=false):=qA fun h=>by unfold qAG;rw[h];rfl
 have rO:Hid (qR b=false→qAG a b=false):=qA fun h=>by unfold qAG;rw[h];simp
 have CH:Hid (a.1≠b.1→qAG a b=false):=qA fun h=>by unfold qAG;simp[h]
 obtain⟨a1,a2,es⟩:=a;obtain⟨b1,b2,fs⟩:=b;simp only at*
 generalize nz:qAG (a1,a2,es) (b1,b2,fs)=RES at*;clear nz;obtain⟨CON,Bv⟩: ∃C,C=(basF (a1,a2,es)).all fun x=>decide (qY fs 0 (redL [] x)=0):=⟨_,rfl⟩;rw[←Bv] at pX yP;clear Bv;obtain⟨BS,IK⟩: ∃B,B=basF (a1,a2,es):=⟨_,rfl⟩;rw[←IK] at Bf pX;clear IK;go_enter Tryz.func44,Tryz.ntmps44
 go_wp2_with fail;obtain⟨W1,an⟩: ∃W,W=w.alloc (.cells #[.int .i64 a1,.int .i64 a2, .slice Aa es.length capa] 26):=⟨_,rfl⟩;obtain⟨aw,y8,aR⟩:=qGs an;rw[←an];obtain⟨W,hW⟩: ∃W,W=W1.alloc (.cells #[.int .i64 b1,.int .i64 b2, .slice Ab fs.length capb] 26):=⟨_,rfl⟩;obtain⟨cT,vN,dg⟩:=qGs hW;rw[←hW];have BX:Hid (Below w.heap.size w W):=qA (y8.trans (vN.mono tO));obtain⟨p0,p1,p2⟩:=aR W (vN.mono tO);obtain⟨q0,q1,q2⟩:=dg W ((zab W.heap.size W).mono tO);rw[aw] at q0 q1 q2;have lm:w.heap.size<W.heap.size:=tO;have lj:w.heap.size+1<W.heap.size:=tO;have lT:=qA (dI.out.below BX.out);have mD:=qA (aI.out.below BX.out);clear an hW aR dg y8 vN aw cT;have f0:=BelW.cell p0 lm;have f1:=BelW.cell p1 lm;have f2:=BelW.cell p2 lm;have f3:=BelW.cell q0 lj;have f4:=BelW.cell q1 lj;have f5:=BelW.cell q2 lj;rcases ea:qR (a1,a2,es) with _ | _
 ·have HF:=qA (fd.out ea);rw[ea] at jm;(refine qH tK tK ?_;(repeat(go_big_quiet_step (first | (go_at_call 93;with_reducible exact Calls.bel_of (jm.out _ (lT.out.below (BelW.h _)))))));refine wpQuiet_nil ?_;intro wq aA;obtain⟨pq,ae⟩:=aA;have bq:=pq.h;rw[←ae] at bq;clear ae pq)
  have aj:=qA (BX.out.trans (bq.mono tO));clear bq f0 f1 f2 f3 f4 f5 p0 p1 p2 q0 q1 q2 ea;go_wp2;go_ret;exact⟨qM HF.out.symm,aj.out⟩
 rw[ea] at jm;rcases eb:qR (b1,b2,fs) with _ | _
 ·have HF:=qA (rO.out eb);rw[eb] at jv;(refine qH tK tK ?_;(repeat(go_big_quiet_step (first | (go_at_call 93;with_reducible exact Calls.bel_of (jm.out _ (lT.out.below (BelW.h _)))) | (go_at_call 93;with_reducible exact Calls.bel_of (jv.out _ (mD.out.below (BelW.h _)))))));refine wpQuiet_nil ?_;intro wq aA;obtain⟨pq,ae⟩:=aA;have bq:=pq.h;rw[←ae] at bq;clear ae pq)
  have aj:=qA (BX.out.trans (bq.mono tO));clear bq f0 f1 f2 f3 f4 f5 p0 p1 p2 q0 q1 q2 ea eb;go_wp2;go_ret;exact⟨qM HF.out.symm,aj.out⟩
 rw[eb] at jv;by_cases er:a1=b1
 rotate_left
 ·have HF:=qA (CH.out er);have er':(a1==b1)=false:=by simpa using er
  clear er;(refine qH tK tK ?_;(repeat(go_big_quiet_step (first | (go_at_call 93;with_reducible exact Calls.bel_of (jm.out _ (lT.out.below (BelW.h _)))) | (go_at_call 93;with_reducible exact Calls.bel_of (jv.out _ (mD.out.below (BelW.h _)))))));refine wpQuiet_nil ?_;intro wq aA;obtain⟨pq,ae⟩:=aA;have bq:=pq.h;rw[←ae] at bq;clear ae pq)
  have aj:=qA (BX.out.trans (bq.mono tO));clear bq f0 f1 f2 f3 f4 f5 p0 p1 p2 q0 q1 q2 ea eb;go_wp2;go_ret;exact⟨qM HF.out.symm,aj.out⟩
 have iG:=qA (yP.out ea eb er);have yM:=qA (fun vl W' h h2=>pX.out vl W' h h2 eb);subst er;clear f0 f1 f2 f3 f4 f5 ea eb pX;go_region_held3 (fun w'=>w'.cell? ⟨w.heap.size,0,none⟩=some (.int .i64 a1)∧w'.cell? ⟨w.heap.size,1,none⟩=some (.int .i64 a2)∧w'.cell? ⟨w.heap.size,2,none⟩=some (.slice Aa es.length capa)∧w'.cell? ⟨w.heap.size+1,0,none⟩=some (.int .i64 a1)∧w'.cell? ⟨w.heap.size+1,1,none⟩=some (.int .i64 b2)∧w'.cell? ⟨w.heap.size+1,2,none⟩=some (.slice Ab fs.length capb))
  (first | go_keep | exact⟨s0,s1,s2,s3,s4,s5⟩)
  (first
   | (go_at_call 93;(with_reducible refine(jm.out _ (lT.out.below (zab _ _).drew)).mono ?_);rintro e w3 ⟨rfl,b3⟩;have aC:=qA ((zab W.heap.size W).drew.trans b3);have s0:=(aC.out.cell (p:=⟨w.heap.size,0,none⟩) lm).trans p0;have s1:=(aC.out.cell (p:=⟨w.heap.size,1,none⟩) lm).trans p1;have s2:=(aC.out.cell (p:=⟨w.heap.size,2,none⟩) lm).trans p2;have s3:=(aC.out.cell (p:=⟨w.heap.size+1,0,none⟩) lj).trans q0;have s4:=(aC.out.cell (p:=⟨w.heap.size+1,1,none⟩) lj).trans q1;have s5:=(aC.out.cell (p:=⟨w.heap.size+1,2,none⟩) lj).trans q2;clear b3)
   | (go_at_call 93;(with_reducible refine(jv.out _ (mD.out.below aC.out)).mono ?_);rintro e w4 ⟨rfl,b4⟩;have ch:=qA (aC.out.trans (b4.mono aC.out.size));have s0:=(ch.out.cell (p:=⟨w.heap.size,0,none⟩) lm).trans p0;have s1:=(ch.out.cell (p:=⟨w.heap.size,1,none⟩) lm).trans p1;have s2:=(ch.out.cell (p:=⟨w.heap.size,2,none⟩) lm).trans p2;have s3:=(ch.out.cell (p:=⟨w.heap.size+1,0,none⟩) lj).trans q0;have s4:=(ch.out.cell (p:=⟨w.heap.size+1,1,none⟩) lj).trans q1;have s5:=(ch.out.cell (p:=⟨w.heap.size+1,2,none⟩) lj).trans q2;clear b4)
   | (go_at_call 126;(with_reducible refine(Bf.out _ (lT.out.below ch.out)).mono ?_);rintro e w5 ⟨r5,rfl,o5,b5⟩;have l4:=qA (ch.out.trans (b5.mono ch.out.size));have R5:=qA o5.rd;obtain⟨A5,c5,rfl,_⟩:=OwnL.len o5;have s0:=(l4.out.cell (p:=⟨w.heap.size,0,none⟩) lm).trans p0;have s1:=(l4.out.cell (p:=⟨w.heap.size,1,none⟩) lm).trans p1;have s2:=(l4.out.cell (p:=⟨w.heap.size,2,none⟩) lm).trans p2;have s3:=(l4.out.cell (p:=⟨w.heap.size+1,0,none⟩) lj).trans q0;have s4:=(l4.out.cell (p:=⟨w.heap.size+1,1,none⟩) lj).trans q1;have s5:=(l4.out.cell (p:=⟨w.heap.size+1,2,none⟩) lj).trans q2;clear o5 b5)
   | (go_at_call 125;(with_reducible refine(yM.out _ _ (mD.out.below l4.out) R5.out).mono ?_);rintro e w6 ⟨rfl,b6⟩;have kh:=qA (l4.out.trans (b6.mono l4.out.size));have s0:=(kh.out.cell (p:=⟨w.heap.size,0,none⟩) lm).trans p0;have s1:=(kh.out.cell (p:=⟨w.heap.size,1,none⟩) lm).trans p1;have s2:=(kh.out.cell (p:=⟨w.heap.size,2,none⟩) lm).trans p2;have s3:=(kh.out.cell (p:=⟨w.heap.size+1,0,none⟩) lj).trans q0;have s4:=(kh.out.cell (p:=⟨w.heap.size+1,1,none⟩) lj).trans q1;have s5:=(kh.out.cell (p:=⟨w.heap.size+1,2,none⟩) lj).trans q2;clear b6))
 have aj:=qA (BX.out.trans (kh.out.mono tO));clear s0 s1 s2 s3 s4 s5 p0 p1 p2 q0 q1 q2;go_wp2;go_ret;exact⟨qM iG.out.symm,aj.out⟩
end Go.Proofs.YtnjpoljbagfdnaaGreat
