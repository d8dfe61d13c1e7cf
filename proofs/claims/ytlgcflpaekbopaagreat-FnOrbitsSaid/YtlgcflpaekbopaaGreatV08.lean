/- Parts of the proof: FoldK, Mov, InsI, IdxI, Int, AddS, AddF, DrawG, DrawZ, DrawQ, DrawO, MoL, RelM, LevP, LevS, PutW, LevG, SrtW, LevM. -/
import Derived.Test.YtlgcflpaekbopaaGreatV07
import Derived.Test.YtlgcflpaekbopaaGreatV05
import Derived.Test.YtlgcflpaekbopaaGreatV03
import Derived.Test.YtlgcflpaekbopaaGreatV02
import Derived.Test.YtlgcflpaekbopaaGreatV04
import Derived.Test.YtlgcflpaekbopaaGreatV01
import Derived.Test.YtlgcflpaekbopaaGreatV06
import Derived.Maps.OwnSet
import Derived.Maps.OwnOps
import Derived.WideKeyPair
import Derived.Shelf.SlSortCmp.Whole1
import Derived.Ground.SlsfProg
import Derived.StringKeys
set_option maxRecDepth 100000
set_option maxHeartbeats 16000000
set_option linter.unusedVariables false
set_option linter.unusedSimpArgs false
namespace Go.Proofs.YtlgcflpaekbopaaGreat
open Go.RowKit
open _root_.Nat renaming le_refl→zaa,lt_of_lt_of_le→zah,zero_le→zak,le_trans→zam,lt_succ_self→zaH,le_of_eq→zaK,add_zero→zaP
open Go.Value renaming slice→zab,ownBlock→zau
open Go.RowKit.Below renaming refl→zac,heap_setCell→zad,drew→zaw,heap_alloc→zaE
open Go.World renaming frozen?_setCell→zae,cell?_setCell_other→zal,cell?_of_block→zao,frozen?_of_block→zav,cell?_setCell_same→zaA
open _root_.List renaming length_append→zaf,getElem_mem→zag,length_singleton→zai,mem_append→zaj,mem_singleton→zan,map_append→zap,take_succ_eq_append_getElem→zaq,mem_map→zar,append_assoc→zas,nodup_append→zat,take_length→zax,flatten_append→zay,drop_eq_getElem_cons→zaz,getElem_cons_zero→zaB,getElem_cons_succ→zaC,length_take→zaD,length_map→zaF,getElem?_eq_some_iff→zaG,getElem?_eq_getElem→zaI,mem_flatten→zaJ,mem_range→zaL,perm_append_comm→zaM,map_cons→zaN,mem_cons→zaO,size_toArray→zaQ,all_eq_true→zaR,append_cons→zaS,range→zaT,nil_append→zaU,nodup_cons→zaV,Perm→zaW
def sLen:Value→Nat
 | .slice _ n _=>n
 | _=>0
theorem qFZ (v:Value) (g:GrD) (w:World) (h:ArgG w v g) (hg:grB g=true):
  Calls Tryz.prog 151 #[v] w fun e w'=> ∃r,e= .returned (.tuple #[r, .agg #[.int .i64 (firF g).1.1, .int .i64 (firF g).1.2], .bool (firF g).2])∧OwG w' w.heap.size r (qCt g)∧Below w.heap.size w w':=by
 have HG:=qA h;have aD:=qA hg;have AE:=qA fun f (hf:f∈foL g.2.2)=>qHD hg hf;have dj:=(qR hg).2.2.1;obtain⟨s,rfl,bg,bH,ha⟩:=h;obtain⟨A,cap,rfl⟩:=ha.form;obtain⟨g1,N,es⟩:=g;simp only at*
 clear ha hg;go_enter Tryz.func151,Tryz.ntmps151
 have bx:Below w.heap.size w (((w.alloc (.cells #[.int .i64 g1,.int .i64 N, .slice A es.length cap] 82)).alloc (.cells #[.int .i64 0,.int .i64 0, .slice none 0 0] 82)).alloc (.cells #[.int .i64 0,.int .i64 0] 145)):=(by repeat(first | exact .refl _ _ | (refine BxS ?_ _) | (refine qB ?_ _) | (refine zaw ?_) | (refine BxA ?_ _)));go_wp2_with fail;obtain⟨W,hW⟩: ∃W,W=(((w.alloc (.cells #[.int .i64 g1,.int .i64 N, .slice A es.length cap] 82)).alloc (.cells #[.int .i64 0,.int .i64 0, .slice none 0 0] 82)).alloc (.cells #[.int .i64 0,.int .i64 0] 145)):=⟨_,rfl⟩;rw[←hW] at bx⊢;have cI:W.heap.size=w.heap.size+3:=by rw[hW];simp
 have L0:Hid (W.cell? ⟨w.heap.size,0,none⟩=some (.int .i64 g1)):=qA (by rw[hW];simp[go_sem]);have L1:Hid (W.cell? ⟨w.heap.size,1,none⟩=some (.int .i64 N)):=qA (by rw[hW];simp[go_sem]);have L2:Hid (W.cell? ⟨w.heap.size,2,none⟩=some (.slice A es.length cap)):=qA (by rw[hW];simp[go_sem]);have R0:Hid (W.cell? ⟨w.heap.size+1,0,none⟩=some (.int .i64 0)):=qA (by rw[hW];simp[go_sem]);have R1:Hid (W.cell? ⟨w.heap.size+1,1,none⟩=some (.int .i64 0)):=qA (by rw[hW];simp[go_sem]);have R2:Hid (W.cell? ⟨w.heap.size+1,2,none⟩=some (.slice none 0 0)):=qA (by rw[hW];simp[go_sem]);have S0:Hid (W.cell? ⟨w.heap.size+1+1,0,none⟩=some (.int .i64 0)):=qA (by rw[hW];simp[go_sem]);have S1:Hid (W.cell? ⟨w.heap.size+1+1,1,none⟩=some (.int .i64 0)):=qA (by rw[hW];simp[go_sem]);have RF:Hid (∀j,W.frozen? ⟨w.heap.size+1,j,none⟩=false):=qA fun j=>by rw[hW];simp[go_sem]
 have SF:Hid (∀j,W.frozen? ⟨w.heap.size+1+1,j,none⟩=false):=qA fun j=>by rw[hW];simp[go_sem]
 have BX:=qA bx;have HA:Hid (∀w',Below W.heap.size W w'→ArgG w' (.agg #[.int .i64 g1, .int .i64 N, .slice A es.length cap]) (g1,N,es)):=qA fun w' hb=>HG.out.below (BX.out.trans (hb.mono BX.out.size));have bZ:Hid (∀w',Below W.heap.size W w'→w'.cell? ⟨w.heap.size,0,none⟩=some (.int .i64 g1)∧w'.cell? ⟨w.heap.size,1,none⟩=some (.int .i64 N)∧w'.cell? ⟨w.heap.size,2,none⟩=some (.slice A es.length cap)):=qA fun w' hb=>
  ⟨(hb.cell (p:=⟨w.heap.size,0,none⟩) (by show w.heap.size<_;omega)).trans L0.out,(hb.cell (p:=⟨w.heap.size,1,none⟩) (by show w.heap.size<_;omega)).trans L1.out,(hb.cell (p:=⟨w.heap.size,2,none⟩) (by show w.heap.size<_;omega)).trans L2.out⟩
 have uq:Hid (∀w',Below W.heap.size W w'→w'.cell? ⟨w.heap.size+1,0,none⟩=some (.int .i64 0)∧w'.cell? ⟨w.heap.size+1,1,none⟩=some (.int .i64 0)∧w'.cell? ⟨w.heap.size+1,2,none⟩=some (.slice none 0 0)∧w'.cell? ⟨w.heap.size+1+1,0,none⟩=some (.int .i64 0)∧w'.cell? ⟨w.heap.size+1+1,1,none⟩=some (.int .i64 0)∧(∀j,w'.frozen? ⟨w.heap.size+1,j,none⟩=false)∧(∀j,w'.frozen? ⟨w.heap.size+1+1,j,none⟩=false)):=qA fun w' hb=>
  ⟨(hb.cell (p:=⟨w.heap.size+1,0,none⟩) (by show w.heap.size+1<_;omega)).trans R0.out,(hb.cell (p:=⟨w.heap.size+1,1,none⟩) (by show w.heap.size+1<_;omega)).trans R1.out,(hb.cell (p:=⟨w.heap.size+1,2,none⟩) (by show w.heap.size+1<_;omega)).trans R2.out,(hb.cell (p:=⟨w.heap.size+1+1,0,none⟩) (by show w.heap.size+1+1<_;omega)).trans S0.out,(hb.cell (p:=⟨w.heap.size+1+1,1,none⟩) (by show w.heap.size+1+1<_;omega)).trans S1.out,fun j=>(hb.frozen (p:=⟨w.heap.size+1,j,none⟩) (by show w.heap.size+1<_;omega)).trans (RF.out j),fun j=>(hb.frozen (p:=⟨w.heap.size+1+1,j,none⟩) (by show w.heap.size+1+1<_;omega)).trans (SF.out j)⟩
 clear hW bx L0 L1 L2 R0 R1 R2 S0 S1 RF SF;refine(qFN _ (g1,N,es) W (HA.out _ (zac _ _))).mono ?_
 rintro e w1 ⟨rfl,b1⟩;have B1:=qA b1;have aA:=b1.size;clear b1;rcases ef:foL es with _ | ⟨f,l⟩
 ·have F:Hid (firF (g1,N,es)=((0,0),false)):=qA (by unfold firF;rw[if_pos aD.out];simp only[ef]);have FO:Hid (qCt (g1,N,es)=(g1,N,es)):=qA (by unfold qCt;simp only[ef]);clear ef;rw[F.out];simp only
  have bA:Below w1.heap.size w1 (w1.alloc (.cells #[.int .i64 0,.int .i64 0] 145)):=(zac _ _).alloc (zaa _) _;have BA:=qA (B1.out.trans (bA.mono aA));obtain⟨q0,q1,q2⟩:=bZ.out _ BA.out;go_wp2_with fail;refine(qBF _ (g1,N,es) _ (HA.out _ BA.out) (by simp only;omega)).mono ?_
  rintro e w2 ⟨r,rfl,o2,b2⟩;have B2:=qA (BA.out.trans (b2.mono BA.out.size));have O2:=qA o2;obtain⟨s2,rfl,_,_,ij⟩:=o2;obtain⟨A2,c2,rfl,_⟩:=ij.form;have px:=qA ij;have kn:=BA.out.size;obtain⟨r0,r1,r2,s0,s1,rf,sf⟩:=uq.out w2 B2.out;have dR:=rf 0;have dP:=rf 1;have dI:=rf 2;have zR:=sf 0;have zN:=sf 1;have bP:=qA (BX.out.trans (B2.out.mono BX.out.size));clear b2 ij rf sf q0 q1 q2 bA;go_wp2;obtain⟨c0,c1,eS⟩:=qAH (.int .i64 g1) (.int .i64 N) (.slice A2 es.length c2) r0 r1 r2;have aY:w.heap.size+1≠w.heap.size+1+1:=tO;have bJ:w.heap.size+1+1≠w.heap.size+1:=tO;have d0:=qE (o':=1) (u:= .int .i64 0) aY (qE (o':=0) (u:= .int .i64 0) aY c0);have d1:=qE (o':=1) (u:= .int .i64 0) aY (qE (o':=0) (u:= .int .i64 0) aY c1);have d2:=qE (o':=1) (u:= .int .i64 0) aY (qE (o':=0) (u:= .int .i64 0) aY eS);obtain⟨e0,e1⟩:=qDm (.int .i64 0) (.int .i64 0) (qE (o':=2) (u:= .slice A2 es.length c2) bJ (qE (o':=1) (u:= .int .i64 N) bJ (qE (o':=0) (u:= .int .i64 g1) bJ s0))) (qE (o':=2) (u:= .slice A2 es.length c2) bJ (qE (o':=1) (u:= .int .i64 N) bJ (qE (o':=0) (u:= .int .i64 g1) bJ s1)));have bw:Below w.heap.size w (((((w2.setCell ⟨w.heap.size+1,0,none⟩ (.int .i64 g1)).setCell ⟨w.heap.size+1,1,none⟩ (.int .i64 N)).setCell ⟨w.heap.size+1,2,none⟩ (.slice A2 es.length c2)).setCell ⟨w.heap.size+1+1,0,none⟩ (.int .i64 0)).setCell ⟨w.heap.size+1+1,1,none⟩ (.int .i64 0)):=(((((bP.out.setCell (by simp<;>omega) _).setCell (by simp<;>omega) _).setCell (by simp<;>omega) _).setCell (by simp<;>omega) _).setCell (by simp<;>omega) _);have ow:OwE (((((w2.setCell ⟨w.heap.size+1,0,none⟩ (.int .i64 g1)).setCell ⟨w.heap.size+1,1,none⟩ (.int .i64 N)).setCell ⟨w.heap.size+1,2,none⟩ (.slice A2 es.length c2)).setCell ⟨w.heap.size+1+1,0,none⟩ (.int .i64 0)).setCell ⟨w.heap.size+1+1,1,none⟩ (.int .i64 0)) _ (.slice A2 es.length c2) es:=(((((px.out.far (by show w.heap.size+1<_;omega) _).far (by show w.heap.size+1<_;omega) _).far (by show w.heap.size+1<_;omega) _).far (by show w.heap.size+1+1<_;omega) _).far (by show w.heap.size+1+1<_;omega) _);generalize (((((w2.setCell ⟨w.heap.size+1,0,none⟩ (.int .i64 g1)).setCell ⟨w.heap.size+1,1,none⟩ (.int .i64 N)).setCell ⟨w.heap.size+1,2,none⟩ (.slice A2 es.length c2)).setCell ⟨w.heap.size+1+1,0,none⟩ (.int .i64 0)).setCell ⟨w.heap.size+1+1,1,none⟩ (.int .i64 0))=wf at*;rw[FO.out,F.out];exact bodyPost_ret (v:= .tuple #[.agg #[.int .i64 g1, .int .i64 N, .slice A2 es.length c2], .agg #[.int .i64 0, .int .i64 0], .bool false]) (by simp[results,Tryz.results151,go_sem,d0,d1,d2,e0,e1]) rfl ⟨_,rfl,⟨.slice A2 es.length c2,rfl,bg,bH,ow.mono tO⟩,bw⟩
 ·have F:Hid (firF (g1,N,es)=(f,true)):=qA (by unfold firF;rw[if_pos aD.out];simp only[ef]);have FO:Hid (qCt (g1,N,es)=merG (g1,N,es) f):=qA (by unfold qCt;simp only[ef]);have pQ:=AE.out f (by rw[ef];simp);clear ef;rw[F.out];obtain⟨fa,fb⟩:=f;simp only
  have bA:Below w1.heap.size w1 (w1.alloc (.cells #[.int .i64 fa,.int .i64 fb] 145)):=(zac _ _).alloc (zaa _) _;have BA:=qA (B1.out.trans (bA.mono aA));obtain⟨q0,q1,q2⟩:=bZ.out _ BA.out;go_wp2_with fail;obtain⟨WA,hY⟩: ∃W,W=w1.alloc (.cells #[.int .i64 fa,.int .i64 fb] 145):=⟨_,rfl⟩;have k0:Hid (WA.cell? ⟨w1.heap.size,0,none⟩=some (.int .i64 fa)):=qA (by rw[hY];simp[go_sem]);have k1:Hid (WA.cell? ⟨w1.heap.size,1,none⟩=some (.int .i64 fb)):=qA (by rw[hY];simp[go_sem]);have kn:WA.heap.size=w1.heap.size+1:=by rw[hY];simp
  rw[←hY] at BA q0 q1 q2⊢;clear hY bA;refine(qDH _ (g1,N,es) (fa,fb) WA (HA.out _ BA.out) aD.out pQ).mono ?_
  rintro e w2 ⟨r,rfl,o2,b2⟩;have B2:=qA (BA.out.trans (b2.mono BA.out.size));have bK:=b2.size;obtain⟨s2,rfl,ed,dT,ij⟩:=o2;obtain⟨A2,c2,rfl,_⟩:=ij.form;have px:=qA ij;have l0:=(b2.cell (p:=⟨w1.heap.size,0,none⟩) (by show w1.heap.size<_;omega)).trans k0.out;have l1:=(b2.cell (p:=⟨w1.heap.size,1,none⟩) (by show w1.heap.size<_;omega)).trans k1.out;clear b2 ij q0 q1 q2;generalize ui:merG (g1,N,es) (fa,fb)=M at*;obtain⟨m1,m2,ms⟩:=M;simp only at ed dT
  have ud:=qA ui;clear ui;go_wp2_with fail;have bB:Below w2.heap.size w2 (w2.alloc (.cells #[.int .i64 m1,.int .i64 m2, .slice A2 ms.length c2] 82)):=(zac _ _).alloc (zaa _) _;obtain⟨WB,jo⟩: ∃W,W=w2.alloc (.cells #[.int .i64 m1,.int .i64 m2, .slice A2 ms.length c2] 82):=⟨_,rfl⟩;have x0:WB.cell? ⟨w2.heap.size,0,none⟩=some (.int .i64 m1):=by rw[jo];simp[go_sem]
  have x1:WB.cell? ⟨w2.heap.size,1,none⟩=some (.int .i64 m2):=by rw[jo];simp[go_sem]
  have x2:WB.cell? ⟨w2.heap.size,2,none⟩=some (.slice A2 ms.length c2):=by rw[jo];simp[go_sem]
  have wE:WB.heap.size=w2.heap.size+1:=by rw[jo];simp
  rw[←jo] at bB⊢;clear jo;have y0:=(bB.cell (p:=⟨w1.heap.size,0,none⟩) (by show w1.heap.size<_;omega)).trans l0;have y1:=(bB.cell (p:=⟨w1.heap.size,1,none⟩) (by show w1.heap.size<_;omega)).trans l1;have BB:=qA (B2.out.trans (bB.mono B2.out.size));have OEB:=qA (px.out.below bB);obtain⟨r0,r1,r2,s0,s1,rf,sf⟩:=uq.out WB BB.out;have dR:=rf 0;have dP:=rf 1;have dI:=rf 2;have zR:=sf 0;have zN:=sf 1;have aY:w.heap.size+1≠w2.heap.size:=tO;have bJ:w.heap.size+1+1≠w2.heap.size:=tO;have zA:w.heap.size+1≠w1.heap.size:=tO;have xL:w.heap.size+1+1≠w1.heap.size:=tO;have bP:=qA (BX.out.trans (BB.out.mono BX.out.size));clear rf sf l0 l1 bB;go_region_held3 (fun w'=>w'.cell? ⟨w2.heap.size,0,none⟩=some (.int .i64 m1)∧w'.cell? ⟨w2.heap.size,1,none⟩=some (.int .i64 m2)∧w'.cell? ⟨w2.heap.size,2,none⟩=some (.slice A2 ms.length c2)∧w'.cell? ⟨w1.heap.size,0,none⟩=some (.int .i64 fa)∧w'.cell? ⟨w1.heap.size,1,none⟩=some (.int .i64 fb))
   (first | go_keep | (simp[go_sem, *];done))
   (fail)
  go_wp2;obtain⟨c0,c1,eS⟩:=qAH (.int .i64 m1) (.int .i64 m2) (.slice A2 ms.length c2) r0 r1 r2;have dK:w.heap.size+1≠w.heap.size+1+1:=tO;have dH:w.heap.size+1+1≠w.heap.size+1:=tO;have d0:=qE (o':=1) (u:= .int .i64 fb) dK (qE (o':=0) (u:= .int .i64 fa) dK c0);have d1:=qE (o':=1) (u:= .int .i64 fb) dK (qE (o':=0) (u:= .int .i64 fa) dK c1);have d2:=qE (o':=1) (u:= .int .i64 fb) dK (qE (o':=0) (u:= .int .i64 fa) dK eS);obtain⟨e0,e1⟩:=qDm (.int .i64 fa) (.int .i64 fb) (qE (o':=2) (u:= .slice A2 ms.length c2) dH (qE (o':=1) (u:= .int .i64 m2) dH (qE (o':=0) (u:= .int .i64 m1) dH s0))) (qE (o':=2) (u:= .slice A2 ms.length c2) dH (qE (o':=1) (u:= .int .i64 m2) dH (qE (o':=0) (u:= .int .i64 m1) dH s1)));have bw:Below w.heap.size w (((((WB.setCell ⟨w.heap.size+1,0,none⟩ (.int .i64 m1)).setCell ⟨w.heap.size+1,1,none⟩ (.int .i64 m2)).setCell ⟨w.heap.size+1,2,none⟩ (.slice A2 ms.length c2)).setCell ⟨w.heap.size+1+1,0,none⟩ (.int .i64 fa)).setCell ⟨w.heap.size+1+1,1,none⟩ (.int .i64 fb)).drew:=(((((bP.out.setCell (by simp<;>omega) _).setCell (by simp<;>omega) _).setCell (by simp<;>omega) _).setCell (by simp<;>omega) _).setCell (by simp<;>omega) _).drew;have ow:OwE (((((WB.setCell ⟨w.heap.size+1,0,none⟩ (.int .i64 m1)).setCell ⟨w.heap.size+1,1,none⟩ (.int .i64 m2)).setCell ⟨w.heap.size+1,2,none⟩ (.slice A2 ms.length c2)).setCell ⟨w.heap.size+1+1,0,none⟩ (.int .i64 fa)).setCell ⟨w.heap.size+1+1,1,none⟩ (.int .i64 fb)).drew _ (.slice A2 ms.length c2) ms:=(((((OEB.out.far (by show w.heap.size+1<_;omega) _).far (by show w.heap.size+1<_;omega) _).far (by show w.heap.size+1<_;omega) _).far (by show w.heap.size+1+1<_;omega) _).far (by show w.heap.size+1+1<_;omega) _).drew;generalize (((((WB.setCell ⟨w.heap.size+1,0,none⟩ (.int .i64 m1)).setCell ⟨w.heap.size+1,1,none⟩ (.int .i64 m2)).setCell ⟨w.heap.size+1,2,none⟩ (.slice A2 ms.length c2)).setCell ⟨w.heap.size+1+1,0,none⟩ (.int .i64 fa)).setCell ⟨w.heap.size+1+1,1,none⟩ (.int .i64 fb))=wf at*;have zW:wf.drew.cell? ⟨w.heap.size+1,0,none⟩=some (.int .i64 m1):=d0;have y7:wf.drew.cell? ⟨w.heap.size+1,1,none⟩=some (.int .i64 m2):=d1;have xa:wf.drew.cell? ⟨w.heap.size+1,2,none⟩=some (.slice A2 ms.length c2):=d2;have nh:wf.drew.cell? ⟨w.heap.size+1+1,0,none⟩=some (.int .i64 fa):=e0;have dU:wf.drew.cell? ⟨w.heap.size+1+1,1,none⟩=some (.int .i64 fb):=e1;generalize wf.drew=wg at*;rw[FO.out,F.out];exact bodyPost_ret (v:= .tuple #[.agg #[.int .i64 m1, .int .i64 m2, .slice A2 ms.length c2], .agg #[.int .i64 fa, .int .i64 fb], .bool true]) (by simp[results,Tryz.results151,go_sem,zW,y7,xa,nh,dU]) rfl ⟨_,rfl,⟨.slice A2 ms.length c2,rfl,ed,dT,ow.mono tO⟩,bw⟩
theorem qGS (v:Value) (g:GrD) (w:World) (h:ArgG w v g) (hg:grB g=true):
  Calls Tryz.prog 127 #[v] w fun e w'=> ∃r o,e= .returned (.tuple #[r,o])∧OwG w' w.heap.size r (folA g)∧Below w.heap.size w w':=by
 have HG:=qA h;have aD:=qA hg;obtain⟨n4,jn,dj,_⟩:=qR hg;obtain⟨s,rfl,bg,bH,ha⟩:=h;obtain⟨A,cap,rfl⟩:=ha.form;obtain⟨g1,N,es⟩:=g;simp only at*
 clear ha hg;go_enter Tryz.func127,Tryz.ntmps127
 have bx:Below w.heap.size w ((w.alloc (.cells #[.int .i64 g1,.int .i64 N, .slice A es.length cap] 82)).alloc (.cells #[.int .i64 0,.int .i64 0, .slice none 0 0] 82)):=(by repeat(first | exact .refl _ _ | (refine BxS ?_ _) | (refine qB ?_ _) | (refine zaw ?_) | (refine BxA ?_ _)));go_wp2_with fail;obtain⟨W,hW⟩: ∃W,W=((w.alloc (.cells #[.int .i64 g1,.int .i64 N, .slice A es.length cap] 82)).alloc (.cells #[.int .i64 0,.int .i64 0, .slice none 0 0] 82)):=⟨_,rfl⟩;rw[←hW] at bx⊢;have cI:W.heap.size=w.heap.size+2:=by rw[hW];simp
 have R0:Hid (W.cell? ⟨w.heap.size+1,0,none⟩=some (.int .i64 0)):=qA (by rw[hW];simp[go_sem]);have R1:Hid (W.cell? ⟨w.heap.size+1,1,none⟩=some (.int .i64 0)):=qA (by rw[hW];simp[go_sem]);have R2:Hid (W.cell? ⟨w.heap.size+1,2,none⟩=some (.slice none 0 0)):=qA (by rw[hW];simp[go_sem]);have RF:Hid (∀j,W.frozen? ⟨w.heap.size+1,j,none⟩=false):=qA fun j=>by rw[hW];simp[go_sem]
 have BX:=qA bx;clear hW bx;refine(qBF _ (g1,N,es) W (HG.out.below BX.out) (by simp only;omega)).mono ?_
 rintro e w1 ⟨r,rfl,o1,b1⟩;have B1:=qA b1;have aA:=b1.size;obtain⟨s1,rfl,_,_,dV⟩:=o1;obtain⟨A1,c1,rfl,_⟩:=dV.form;simp only at*
 have fP:=qA dV;clear b1 dV;have iH:Hid (OwFo ((w1.alloc (.cells #[.int .i64 g1,.int .i64 N, .slice A1 es.length c1] 82)).alloc (.cells #[] 145)) (w1.heap.size+1) (.slice (some ⟨w1.heap.size+1,0,none⟩) 0 0) []):=qA (by
  have:=qFo (base:=w1.heap.size+1) (w1.alloc (.cells #[.int .i64 g1,.int .i64 N, .slice A1 es.length c1] 82)) (by simp)
  simpa using this)
 have bX:Below w1.heap.size w1 ((w1.alloc (.cells #[.int .i64 g1,.int .i64 N, .slice A1 es.length c1] 82)).alloc (.cells #[] 145)):=(by repeat(first | exact .refl _ _ | (refine BxS ?_ _) | (refine qB ?_ _) | (refine zaw ?_) | (refine BxA ?_ _)));go_wp2;obtain⟨W2,aV⟩: ∃W,W=(w1.alloc (.cells #[.int .i64 g1,.int .i64 N, .slice A1 es.length c1] 82)).alloc (.cells #[] 145):=⟨_,rfl⟩;rw[←aV] at bX iH⊢;have pA:W2.heap.size=w1.heap.size+2:=by rw[aV];simp
 have X0:Hid (W2.cell? ⟨w1.heap.size,0,none⟩=some (.int .i64 g1)):=qA (by rw[aV];simp[go_sem]);have X1:Hid (W2.cell? ⟨w1.heap.size,1,none⟩=some (.int .i64 N)):=qA (by rw[aV];simp[go_sem]);have X2:Hid (W2.cell? ⟨w1.heap.size,2,none⟩=some (.slice A1 es.length c1)):=qA (by rw[aV];simp[go_sem]);have XF:Hid (∀j,W2.frozen? ⟨w1.heap.size,j,none⟩=false):=qA fun j=>by rw[aV];simp[go_sem]
 have iF:=qA bX;have OEX:Hid (OwE W2 (w.heap.size+2) (.slice A1 es.length c1) es):=qA ((fP.out.below bX).mono tO);have fO:Hid (∀b,(zab A1 es.length c1).ownBlock=some b→b≠w1.heap.size):=qA fun b hb=>by have:=(fP.out.1.lt b hb).2;omega
 clear aV bX fP;go_loopw [5] (fun out wr=> ∃(k:Nat) (gk:GrD) (A2:Option Addr) (c2:Nat) (lo:List FoD),k≤40∧(∃Ao co,out= .slice Ao lo.length co)∧lo.length=k∧grB gk=true∧folA gk=folA (g1,N,es)∧gk.2.1+k≤N∧wr.cell? ⟨w1.heap.size,0,none⟩=some (.int .i64 gk.1)∧wr.cell? ⟨w1.heap.size,1,none⟩=some (.int .i64 gk.2.1)∧wr.cell? ⟨w1.heap.size,2,none⟩=some (.slice A2 gk.2.2.length c2)∧
   (∀j,wr.frozen? ⟨w1.heap.size,j,none⟩=false)∧OwE wr (w.heap.size+2) (.slice A2 gk.2.2.length c2) gk.2.2∧(∀b,(zab A2 gk.2.2.length c2).ownBlock=some b→b≠w1.heap.size)∧OwFo wr (w1.heap.size+1) out lo∧Below w1.heap.size w1 wr∧w1.heap.size<wr.heap.size) (fun o _=>40-sLen o)
 case atStart=>exact⟨0,(g1,N,es),A1,c1,[],zak _,⟨_,_,rfl⟩,rfl,aD.out,rfl,by simp,X0.out,X1.out,X2.out,XF.out,OEX.out,fO.out,iH.out,iF.out,tO⟩
 case round=>
  obtain⟨k,gk,A2,c2,lo,hk,⟨Ao,co,rfl⟩,ee,gH,lM,ak,dA,aQ,bU,gv,gU,nb,mX,ej,eJ⟩:=hrel;obtain⟨Bq,Bl,sC,_⟩:=qR gH;have gr:=qA gH;have en:=qA lM;have lA:=qA gU;have kh:=qA nb;have kH:=qA mX;have fq:=qA ej;have B4:=qA (B1.out.trans (ej.mono aA));have nj:Hid (ArgG wr (.agg #[.int .i64 gk.1, .int .i64 gk.2.1, .slice A2 gk.2.2.length c2]) gk):=qA ⟨_,rfl,(by unfold I64;omega),(by unfold I64;omega),gU.arg⟩;obtain⟨wk,rfl⟩: ∃wk:World,wk=wr:=⟨_,rfl⟩;clear gH lM gU nb mX ej;have xq:k<40:=tO;go_wp2_with fail;refine(qFZ _ gk wk nj.out gr.out).mono ?_
  rintro e w5 ⟨r,rfl,o5,b5⟩;have eQ:=b5.size;have B5:=qA (fq.out.trans (b5.mono tO));have z0:=(b5.cell (p:=⟨w1.heap.size,0,none⟩) eJ).trans dA;have z1:=(b5.cell (p:=⟨w1.heap.size,1,none⟩) eJ).trans aQ;have z2:=(b5.cell (p:=⟨w1.heap.size,2,none⟩) eJ).trans bU;have ZF:Hid (∀j,w5.frozen? ⟨w1.heap.size,j,none⟩=false):=qA fun j=>(b5.frozen (p:=⟨w1.heap.size,j,none⟩) eJ).trans (gv j);have oZ:=qA (lA.out.below b5);have lR:=qA (kH.out.below b5);clear dA aQ bU gv b5;rcases ef:foL gk.2.2 with _ | ⟨f,l⟩
  ·have F:Hid (firF gk=((0,0),false)):=qA (by unfold firF;rw[if_pos gr.out];simp only[ef]);have FO:Hid (qCt gk=gk):=qA (by unfold qCt;simp only[ef]);have FAG:Hid (folA (g1,N,es)=gk):=qA (by rw[←en.out];exact qKM ef);clear ef;rw[FO.out] at o5;rw[F.out];simp only
   obtain⟨s5,rfl,ed,dT,cB⟩:=o5;obtain⟨A5,c5,rfl,_⟩:=cB.form;have bY:Below w5.heap.size w5 ((w5.alloc (.cells #[.int .i64 gk.1,.int .i64 gk.2.1, .slice A5 gk.2.2.length c5] 82)).alloc (.cells #[.int .i64 0,.int .i64 0] 145)):=(by repeat(first | exact .refl _ _ | (refine BxS ?_ _) | (refine qB ?_ _) | (refine zaw ?_) | (refine BxA ?_ _)));obtain⟨WY,dB⟩: ∃W,W=(w5.alloc (.cells #[.int .i64 gk.1,.int .i64 gk.2.1, .slice A5 gk.2.2.length c5] 82)).alloc (.cells #[.int .i64 0,.int .i64 0] 145):=⟨_,rfl⟩;rw[←dB] at bY;have BY:=qA (B5.out.trans (bY.mono tO));have BYW:=qA (B1.out.trans (BY.out.mono aA));have y0:=(bY.cell (p:=⟨w1.heap.size,0,none⟩) (by show w1.heap.size<_;omega)).trans z0;have y1:=(bY.cell (p:=⟨w1.heap.size,1,none⟩) (by show w1.heap.size<_;omega)).trans z1;have y2:=(bY.cell (p:=⟨w1.heap.size,2,none⟩) (by show w1.heap.size<_;omega)).trans z2;have r0:=(BYW.out.cell (p:=⟨w.heap.size+1,0,none⟩) (by show w.heap.size+1<_;omega)).trans R0.out;have r1:=(BYW.out.cell (p:=⟨w.heap.size+1,1,none⟩) (by show w.heap.size+1<_;omega)).trans R1.out;have r2:=(BYW.out.cell (p:=⟨w.heap.size+1,2,none⟩) (by show w.heap.size+1<_;omega)).trans R2.out;have dR:=(BYW.out.frozen (p:=⟨w.heap.size+1,0,none⟩) (by show w.heap.size+1<_;omega)).trans (RF.out 0);have dP:=(BYW.out.frozen (p:=⟨w.heap.size+1,1,none⟩) (by show w.heap.size+1<_;omega)).trans (RF.out 1);have dI:=(BYW.out.frozen (p:=⟨w.heap.size+1,2,none⟩) (by show w.heap.size+1<_;omega)).trans (RF.out 2);have aY:w.heap.size+1≠w1.heap.size:=tO;have bP:=qA (BX.out.trans (BYW.out.mono BX.out.size));have OEY:=qA (oZ.out.below bY);rw[dB] at y0 y1 y2 r0 r1 r2 dR dP dI;clear z0 z1 z2 cB bY;go_wp2;rw[←dB] at y0 y1 y2 r0 r1 r2 dR dP dI⊢;obtain⟨e0,e1,e2⟩:=qAH (.int .i64 gk.1) (.int .i64 gk.2.1) (.slice A2 gk.2.2.length c2) r0 r1 r2;have bw:Below w.heap.size w (((WY.setCell ⟨w.heap.size+1,0,none⟩ (.int .i64 gk.1)).setCell ⟨w.heap.size+1,1,none⟩ (.int .i64 gk.2.1)).setCell ⟨w.heap.size+1,2,none⟩ (.slice A2 gk.2.2.length c2)):=(((bP.out.setCell (by simp<;>omega) _).setCell (by simp<;>omega) _).setCell (by simp<;>omega) _);have ow:OwE (((WY.setCell ⟨w.heap.size+1,0,none⟩ (.int .i64 gk.1)).setCell ⟨w.heap.size+1,1,none⟩ (.int .i64 gk.2.1)).setCell ⟨w.heap.size+1,2,none⟩ (.slice A2 gk.2.2.length c2)) (w.heap.size+2) (.slice A2 gk.2.2.length c2) gk.2.2:=((OEY.out.far (by show w.heap.size+1<_;omega) _).far (by show w.heap.size+1<_;omega) _).far (by show w.heap.size+1<_;omega) _;generalize (((WY.setCell ⟨w.heap.size+1,0,none⟩ (.int .i64 gk.1)).setCell ⟨w.heap.size+1,1,none⟩ (.int .i64 gk.2.1)).setCell ⟨w.heap.size+1,2,none⟩ (.slice A2 gk.2.2.length c2))=wf at*;rw[FAG.out];exact bodyPost_ret (v:= .tuple #[.agg #[.int .i64 gk.1, .int .i64 gk.2.1, .slice A2 gk.2.2.length c2], .slice Ao lo.length co]) (by simp[results,Tryz.results127,go_sem,e0,e1,e2]) rfl ⟨_,_,rfl,⟨.slice A2 gk.2.2.length c2,rfl,ed,dT,ow.mono tO⟩,bw⟩
  ·have F:Hid (firF gk=(f,true)):=qA (by unfold firF;rw[if_pos gr.out];simp only[ef]);have FO:Hid (qCt gk=merG gk f):=qA (by unfold qCt;simp only[ef]);have pQ:=qHD gr.out (f:=f) (by rw[ef];simp);have rM:=qA (qHf gr.out pQ);have AD:=qA ((qJF gr.out ef).trans en.out);have dQ:(merG gk f).2.1=gk.2.1-1:=rfl;clear ef;rw[FO.out] at o5;rw[F.out];obtain⟨fa,fb⟩:=f;simp only
   generalize merG gk (fa,fb)=M at*;obtain⟨m1,m2,ms⟩:=M;simp only at dQ
   obtain⟨s5,rfl,ed,dT,cB⟩:=o5;obtain⟨A5,c5,rfl,_⟩:=cB.form;simp only at ed dT cB
   have mc:=qA dQ;clear dQ;have bY:Below w5.heap.size w5 ((w5.alloc (.cells #[.int .i64 m1,.int .i64 m2, .slice A5 ms.length c5] 82)).alloc (.cells #[.int .i64 fa,.int .i64 fb] 145)):=(by repeat(first | exact .refl _ _ | (refine BxS ?_ _) | (refine qB ?_ _) | (refine zaw ?_) | (refine BxA ?_ _)));obtain⟨WY,dB⟩: ∃W,W=(w5.alloc (.cells #[.int .i64 m1,.int .i64 m2, .slice A5 ms.length c5] 82)).alloc (.cells #[.int .i64 fa,.int .i64 fb] 145):=⟨_,rfl⟩;have a0:WY.cell? ⟨w5.heap.size,0,none⟩=some (.int .i64 m1):=by rw[dB];simp[go_sem]
   have a1:WY.cell? ⟨w5.heap.size,1,none⟩=some (.int .i64 m2):=by rw[dB];simp[go_sem]
   have a2:WY.cell? ⟨w5.heap.size,2,none⟩=some (.slice A5 ms.length c5):=by rw[dB];simp[go_sem]
   have a3:WY.cell? ⟨w5.heap.size+1,0,none⟩=some (.int .i64 fa):=by rw[dB];simp[go_sem]
   have a4:WY.cell? ⟨w5.heap.size+1,1,none⟩=some (.int .i64 fb):=by rw[dB];simp[go_sem]
   have EQ:WY.heap.size=w5.heap.size+2:=by rw[dB];simp
   rw[←dB] at bY;have BY:=qA (B5.out.trans (bY.mono tO));have y0:=(bY.cell (p:=⟨w1.heap.size,0,none⟩) (by show w1.heap.size<_;omega)).trans z0;have y1:=(bY.cell (p:=⟨w1.heap.size,1,none⟩) (by show w1.heap.size<_;omega)).trans z1;have y2:=(bY.cell (p:=⟨w1.heap.size,2,none⟩) (by show w1.heap.size<_;omega)).trans z2;have YF:Hid (∀j,WY.frozen? ⟨w1.heap.size,j,none⟩=false):=qA fun j=>(bY.frozen (p:=⟨w1.heap.size,j,none⟩) (by show w1.heap.size<_;omega)).trans (ZF.out j);have xd:=YF.out 0;have y6:=YF.out 1;have yD:=YF.out 2;have OEM:=qA (cB.below bY);have OFY:=qA (lR.out.below bY);obtain⟨e0,e1,e2⟩:=qAH (.int .i64 m1) (.int .i64 m2) (.slice A5 ms.length c5) y0 y1 y2;have e3:=qE (b':=w1.heap.size) (o':=2) (u:= .slice A5 ms.length c5) (show w5.heap.size+1≠w1.heap.size by omega) (qE (b':=w1.heap.size) (o':=1) (u:= .int .i64 m2) (show w5.heap.size+1≠w1.heap.size by omega) (qE (b':=w1.heap.size) (o':=0) (u:= .int .i64 m1) (show w5.heap.size+1≠w1.heap.size by omega) a3));have e4:=qE (b':=w1.heap.size) (o':=2) (u:= .slice A5 ms.length c5) (show w5.heap.size+1≠w1.heap.size by omega) (qE (b':=w1.heap.size) (o':=1) (u:= .int .i64 m2) (show w5.heap.size+1≠w1.heap.size by omega) (qE (b':=w1.heap.size) (o':=0) (u:= .int .i64 m1) (show w5.heap.size+1≠w1.heap.size by omega) a4));have BS:Hid (Below w1.heap.size w1 (((WY.setCell ⟨w1.heap.size,0,none⟩ (.int .i64 m1)).setCell ⟨w1.heap.size,1,none⟩ (.int .i64 m2)).setCell ⟨w1.heap.size,2,none⟩ (.slice A5 ms.length c5))):=qA (((BY.out.setCell (zaa _) _).setCell (zaa _) _).setCell (zaa _) _);have OES:Hid (OwE (((WY.setCell ⟨w1.heap.size,0,none⟩ (.int .i64 m1)).setCell ⟨w1.heap.size,1,none⟩ (.int .i64 m2)).setCell ⟨w1.heap.size,2,none⟩ (.slice A5 ms.length c5)) wk.heap.size (.slice A5 ms.length c5) ms):=qA (((OEM.out.far (by show w1.heap.size<_;omega) _).far (by show w1.heap.size<_;omega) _).far (by show w1.heap.size<_;omega) _);have OFS:Hid (OwFo (((WY.setCell ⟨w1.heap.size,0,none⟩ (.int .i64 m1)).setCell ⟨w1.heap.size,1,none⟩ (.int .i64 m2)).setCell ⟨w1.heap.size,2,none⟩ (.slice A5 ms.length c5)) (w1.heap.size+1) (.slice Ao lo.length co) lo):=qA (ownsRow_setCell_below (ownsRow_setCell_below (ownsRow_setCell_below OFY.out (by show w1.heap.size<_;omega) _) (by show w1.heap.size<_;omega) _) (by show w1.heap.size<_;omega) _);have ESF:Hid (∀j,((((WY.setCell ⟨w1.heap.size,0,none⟩ (.int .i64 m1)).setCell ⟨w1.heap.size,1,none⟩ (.int .i64 m2)).setCell ⟨w1.heap.size,2,none⟩ (.slice A5 ms.length c5))).frozen? ⟨w1.heap.size,j,none⟩=false):=qA fun j=>by rw[zae,zae,zae];exact YF.out j
   have uI:((((WY.setCell ⟨w1.heap.size,0,none⟩ (.int .i64 m1)).setCell ⟨w1.heap.size,1,none⟩ (.int .i64 m2)).setCell ⟨w1.heap.size,2,none⟩ (.slice A5 ms.length c5))).heap.size=WY.heap.size:=by simp
   clear z0 z1 z2 cB bY;have E0:=qA e0;have E1:=qA e1;have E2:=qA e2;have E3:=qA e3;have E4:=qA e4;have lF:=qA uI;clear e0 e1 e2 a3 a4 uI;rw[dB] at y0 y1 y2 xd y6 yD a0 a1 a2 e3 e4;have zZ:=qA dB;clear dB;have AT:w1.heap.size≠w5.heap.size:=tO;have za:w1.heap.size≠w5.heap.size+1:=tO;go_wp2_with (at_builtin;rw[←zZ.out];refine qAv rfl (.tmp 23) (.tmp 25) rfl (w1.heap.size+1) _ lo (OFS.out.alloc _) rfl _ (fa,fb) rfl (qCJ _ _ (by simp<;>omega) _ _ _) tO (by simp<;>omega) ?_;intro v6 w6 o6 g6 p6;have O6:=qA o6;have G6:=qA g6;clear o6 g6 p6)
   have e0:=E0.out;have e1:=E1.out;have e2:=E2.out;have bL:Below ((((WY.setCell ⟨w1.heap.size,0,none⟩ (.int .i64 m1)).setCell ⟨w1.heap.size,1,none⟩ (.int .i64 m2)).setCell ⟨w1.heap.size,2,none⟩ (.slice A5 ms.length c5))).heap.size (((WY.setCell ⟨w1.heap.size,0,none⟩ (.int .i64 m1)).setCell ⟨w1.heap.size,1,none⟩ (.int .i64 m2)).setCell ⟨w1.heap.size,2,none⟩ (.slice A5 ms.length c5)) ((((WY.setCell ⟨w1.heap.size,0,none⟩ (.int .i64 m1)).setCell ⟨w1.heap.size,1,none⟩ (.int .i64 m2)).setCell ⟨w1.heap.size,2,none⟩ (.slice A5 ms.length c5)).alloc (.cells #[.int .i64 fa,.int .i64 fb] 145)):=(zac _ _).alloc (zaa _) _;have mK:w1.heap.size<((((WY.setCell ⟨w1.heap.size,0,none⟩ (.int .i64 m1)).setCell ⟨w1.heap.size,1,none⟩ (.int .i64 m2)).setCell ⟨w1.heap.size,2,none⟩ (.slice A5 ms.length c5))).heap.size:=by simp<;>omega
   have me:w1.heap.size<((((WY.setCell ⟨w1.heap.size,0,none⟩ (.int .i64 m1)).setCell ⟨w1.heap.size,1,none⟩ (.int .i64 m2)).setCell ⟨w1.heap.size,2,none⟩ (.slice A5 ms.length c5)).alloc (.cells #[.int .i64 fa,.int .i64 fb] 145)).heap.size:=by simp<;>omega
   have jy: ∀c,(zab Ao lo.length co).ownBlock=some c→w1.heap.size+1≤c∧c<wk.heap.size:=fun c hc=>kH.out.lt c hc;have n0:=(qH (o:=0) G6.out me (fun c hc=>by have:=(jy c hc).1;omega)).trans ((bL.cell (p:=⟨w1.heap.size,0,none⟩) mK).trans e0);have n1:=(qH (o:=1) G6.out me (fun c hc=>by have:=(jy c hc).1;omega)).trans ((bL.cell (p:=⟨w1.heap.size,1,none⟩) mK).trans e1);have n2:=(qH (o:=2) G6.out me (fun c hc=>by have:=(jy c hc).1;omega)).trans ((bL.cell (p:=⟨w1.heap.size,2,none⟩) mK).trans e2);have nf: ∀j,w6.frozen? ⟨w1.heap.size,j,none⟩=false:=fun j=>(zav (G6.out.block w1.heap.size me fun e=>by have:=(jy w1.heap.size e.symm).1;omega)).trans ((bL.frozen (p:=⟨w1.heap.size,j,none⟩) mK).trans (ESF.out j));have NE:Hid (OwE w6 (w.heap.size+2) (.slice A5 ms.length c5) ms):=qA (OwE.mono (OwE.keep OES.out fun b hb=>by
    have bD:=OES.out.1.lt b hb;exact(G6.out.block b (by have:=bL.size;omega) fun e=>by have:=(jy b e.symm).2;omega).trans (bL.block b bD.2)) tO)
   have NX:Hid (∀b,(zab A5 ms.length c5).ownBlock=some b→b≠w1.heap.size):=qA fun b hb=>by have:=(OES.out.1.lt b hb).1;omega
   have NB:Hid (Below w1.heap.size w1 w6):=qA ((BS.out.trans (bL.mono tO)).grown G6.out tO (fun c hc=>by have:=(jy c hc).1;omega));have fU:=G6.out.size;have Ci:Hid (∃Ao co,v6= .slice Ao (lo++ [(fa,fb)]).length co):=qA (by obtain⟨Ao',co',h,_⟩:=O6.out.form;exact⟨Ao',co',h⟩);go_roundw
   case rel=>exact⟨k+1,(m1,m2,ms),A5,c5,lo++ [(fa,fb)],tO,Ci.out,by rw[zaf];simp only[zai];omega,rM.out,AD.out,by have:=mc.out;simp only;omega,n0,n1,n2,nf,NE.out,NX.out,O6.out,NB.out,tO⟩
   case measure=>
    obtain⟨Ao',co',h⟩:=Ci.out;rw[h];show 40-(lo++ [(fa,fb)]).length<40-lo.length
    rw[zaf];simp only[zai];omega
theorem qFM (v:Value) (g:GrD) (w:World) (h:ArgG w v g) (hg:grB g=true):
  Calls Tryz.prog 105 #[v] w fun e w'=> ∃r,e= .returned r∧OwG w' w.heap.size r (qGv g)∧Below w.heap.size w w':=by
 have HG:=qA h;have en:=qA (qMz hg);have xD:=qA (qAQ en.out).1;have zj:=qA (qHW en.out);have pD:Hid (qGv g=canG (qCL (folA g)).1):=qA rfl;have jH:=qA (fun W h=>qGS v g W h hg);have xc:=qA (fun u W h=>(qEl u (folA g) W h xD.out).mono (R':=fun e w'=> ∃r o,e= .returned (.tuple #[r,o])∧OwG w' W.heap.size r (qCL (folA g)).1∧Below W.heap.size W w') fun e w' ⟨r,l,h1,h2,_,h4⟩=>⟨r,l,h1,h2,h4⟩);have jZ:=qA (fun u W h=>qCH u (qCL (folA g)).1 W h zj.out);generalize canG (qCL (folA g)).1=CG at*;generalize (qCL (folA g)).1=TG at*;generalize folA g=FG at*;obtain⟨s,rfl,bg,bH,ha⟩:=h;obtain⟨A,cap,rfl⟩:=ha.form;obtain⟨g1,N,es⟩:=g;simp only at*
 clear ha hg;go_enter Tryz.func105,Tryz.ntmps105
 have bx:Below w.heap.size w ((w.alloc (.cells #[.int .i64 g1,.int .i64 N, .slice A es.length cap] 82)).alloc (.cells #[.int .i64 0,.int .i64 0, .slice none 0 0] 82)):=(by repeat(first | exact .refl _ _ | (refine BxS ?_ _) | (refine qB ?_ _) | (refine zaw ?_) | (refine BxA ?_ _)));go_wp2_with fail;obtain⟨W,hW⟩: ∃W,W=((w.alloc (.cells #[.int .i64 g1,.int .i64 N, .slice A es.length cap] 82)).alloc (.cells #[.int .i64 0,.int .i64 0, .slice none 0 0] 82)):=⟨_,rfl⟩;rw[←hW] at bx⊢;have cI:W.heap.size=w.heap.size+2:=by rw[hW];simp
 have R0:Hid (W.cell? ⟨w.heap.size+1,0,none⟩=some (.int .i64 0)):=qA (by rw[hW];simp[go_sem]);have R1:Hid (W.cell? ⟨w.heap.size+1,1,none⟩=some (.int .i64 0)):=qA (by rw[hW];simp[go_sem]);have R2:Hid (W.cell? ⟨w.heap.size+1,2,none⟩=some (.slice none 0 0)):=qA (by rw[hW];simp[go_sem]);have RF:Hid (∀j,W.frozen? ⟨w.heap.size+1,j,none⟩=false):=qA fun j=>by rw[hW];simp[go_sem]
 have BX:=qA bx;clear hW bx;refine(jH.out W (HG.out.below BX.out)).mono ?_
 rintro e w1 ⟨r,o,rfl,o1,b1⟩;have B1:=qA b1;have aA:=b1.size;have O1:=qA o1;obtain⟨f1,f2,fs⟩:=FG;obtain⟨s1,rfl,_,_,dV⟩:=o1;obtain⟨A1,c1,rfl,_⟩:=dV.form;simp only at*
 clear b1 dV;have bf:Below w1.heap.size w1 (w1.alloc (.cells #[.int .i64 f1,.int .i64 f2, .slice A1 fs.length c1] 82)):=(zac _ _).alloc (zaa _) _;go_wp2_with fail;refine(xc.out _ _ (O1.out.arg.below bf)).mono ?_
 rintro e w3 ⟨r3,o3,rfl,uD,b3⟩;have eX:=bf.size;have B3:=qA (B1.out.trans ((bf.trans (b3.mono eX)).mono aA));have dd:=b3.size;have O3:=qA uD;obtain⟨t1,t2,ts⟩:=TG;obtain⟨s3,rfl,_,_,fA⟩:=uD;obtain⟨A3,c3,rfl,_⟩:=fA.form;simp only at*
 clear b3 fA bf;have bt:Below w3.heap.size w3 (w3.alloc (.cells #[.int .i64 t1,.int .i64 t2, .slice A3 ts.length c3] 82)):=(zac _ _).alloc (zaa _) _;go_wp2_with fail;refine(jZ.out _ _ (O3.out.arg.below bt)).mono ?_
 rintro e w5 ⟨r5,rfl,o5,b5⟩;have hst:=bt.size;have pj:=B3.out.size;have B5:=qA (B3.out.trans ((bt.trans (b5.mono hst)).mono pj));have eQ:=B5.out.size;have bC:=b5.size;obtain⟨dX,eS,cs⟩:=CG;obtain⟨s5,rfl,ed,dT,cB⟩:=o5;obtain⟨A5,k5,rfl,_⟩:=cB.form;simp only at*
 have tJ:=qA cB;have r0:=(B5.out.cell (p:=⟨w.heap.size+1,0,none⟩) (by show w.heap.size+1<_;omega)).trans R0.out;have r1:=(B5.out.cell (p:=⟨w.heap.size+1,1,none⟩) (by show w.heap.size+1<_;omega)).trans R1.out;have r2:=(B5.out.cell (p:=⟨w.heap.size+1,2,none⟩) (by show w.heap.size+1<_;omega)).trans R2.out;have dR:=(B5.out.frozen (p:=⟨w.heap.size+1,0,none⟩) (by show w.heap.size+1<_;omega)).trans (RF.out 0);have dP:=(B5.out.frozen (p:=⟨w.heap.size+1,1,none⟩) (by show w.heap.size+1<_;omega)).trans (RF.out 1);have dI:=(B5.out.frozen (p:=⟨w.heap.size+1,2,none⟩) (by show w.heap.size+1<_;omega)).trans (RF.out 2);have bP:=qA (BX.out.trans (B5.out.mono BX.out.size));clear b5 cB bt;go_wp2;obtain⟨e0,e1,e2⟩:=qAH (.int .i64 dX) (.int .i64 eS) (.slice A5 cs.length k5) r0 r1 r2;have bw:Below w.heap.size w (((w5.setCell ⟨w.heap.size+1,0,none⟩ (.int .i64 dX)).setCell ⟨w.heap.size+1,1,none⟩ (.int .i64 eS)).setCell ⟨w.heap.size+1,2,none⟩ (.slice A5 cs.length k5)):=(((bP.out.setCell (by simp<;>omega) _).setCell (by simp<;>omega) _).setCell (by simp<;>omega) _);have ow:OwE (((w5.setCell ⟨w.heap.size+1,0,none⟩ (.int .i64 dX)).setCell ⟨w.heap.size+1,1,none⟩ (.int .i64 eS)).setCell ⟨w.heap.size+1,2,none⟩ (.slice A5 cs.length k5)) w.heap.size (.slice A5 cs.length k5) cs:=OwE.mono (((tJ.out.far (by show w.heap.size+1<_;omega) _).far (by show w.heap.size+1<_;omega) _).far (by show w.heap.size+1<_;omega) _) tO;generalize (((w5.setCell ⟨w.heap.size+1,0,none⟩ (.int .i64 dX)).setCell ⟨w.heap.size+1,1,none⟩ (.int .i64 eS)).setCell ⟨w.heap.size+1,2,none⟩ (.slice A5 cs.length k5))=wf at*;rw[pD.out];exact bodyPost_ret (v:= .agg #[.int .i64 dX, .int .i64 eS, .slice A5 cs.length k5]) (by simp[results,Tryz.results105,go_sem,e0,e1,e2]) rfl ⟨_,rfl,⟨.slice A5 cs.length k5,rfl,ed,dT,ow⟩,bw⟩
structure IsI (a b:GrD) (ls:List Int) (N P bl capl:Nat) (W wr:World) (out:Value) (o im:List Int):Prop where
 ok:qAd (N:Int) o
 len:im.length=N
 img: ∀y:Nat,y<N→(y:Int)∈o→im[y]? =some (imgW a b y)∧0≤imgW a b y
 fnd:OwI wr (P+1) out o
 row:OwI wr P (.slice (some ⟨P,0,none⟩) N N) im
 lets:RdI wr (.slice (some ⟨bl,0,none⟩) ls.length capl) ls
 ne:out.ownBlock≠some bl
 blt:bl<wr.heap.size
 blP:P<bl
 bel:Below P W wr
section
variable {a b:GrD} {ls:List Int} {N P bl capl:Nat} {W wr w':World} {out:Value} {o im:List Int}
end
structure TreeX (f:Int→List Int) (bb P N:Nat) (w:World) (ord:Value) (o:List Int):Prop where
 ex: ∃vs:List Value,vs.length=N∧w.ownsRow bb 24 1 (.slice (some ⟨P,0,none⟩) N N) N vs∧ ∀(j:Nat) (hj:j<vs.length),
  ((j:Int)∉o∧vs[j]= .slice none 0 0)∨((j:Int)∈o∧ ∃(b cap:Nat),vs[j]= .slice (some ⟨b,0,none⟩) (f j).length cap∧(f j).length≤o.length∧OwI w P vs[j] (f j)∧P<b∧ord.ownBlock≠some b∧b<w.heap.size)
 ne:ord.ownBlock≠some P
section
variable {f:Int→List Int} {bb P N:Nat} {w w':World} {ord:Value} {o:List Int}
end
theorem qQb {w W:World} {a b c:Value} {t:TypeId} (hW:W=w.alloc (.cells #[a,b,c] t)):W.heap.size=w.heap.size+1∧Below w.heap.size w W∧
  (∀w',Below (w.heap.size+1) W w'→w'.cell? ⟨w.heap.size,0,none⟩=some a∧w'.cell? ⟨w.heap.size,1,none⟩=some b∧w'.cell? ⟨w.heap.size,2,none⟩=some c):=by
 have hs:W.heap.size=w.heap.size+1:=by rw[hW];simp
 have h0:W.cell? ⟨w.heap.size,0,none⟩=some a:=by rw[hW];simp[go_sem]
 have h1:W.cell? ⟨w.heap.size,1,none⟩=some b:=by rw[hW];simp[go_sem]
 have h2:W.cell? ⟨w.heap.size,2,none⟩=some c:=by rw[hW];simp[go_sem]
 exact⟨hs,by rw[hW];exact(zac _ _).alloc (zaa _) _,fun w' hb=>⟨(hb.cell (p:=⟨w.heap.size,0,none⟩) (zaH _)).trans h0,(hb.cell (p:=⟨w.heap.size,1,none⟩) (zaH _)).trans h1,(hb.cell (p:=⟨w.heap.size,2,none⟩) (zaH _)).trans h2⟩⟩
def stE (u x v:Int):EdD:=if x<0 then(v,-x,u) else(u,x,v)
theorem qOc (u x v:Int) (w:World) (hx: -3≤x∧x≤3):
  Calls Tryz.prog 171 #[.int .i64 u, .int .i64 x, .int .i64 v] w fun e w'=>e= .returned (edV (stE u x v))∧Below w.heap.size w w':=by
 have hn:IntKind.i64.wrap (-x)= -x:=by rw[IntKind.wrap_i64];omega
 by_cases h:x<0
 ·have F:Hid (stE u x v=(v,-x,u)):=qA (by unfold stE;rw[if_pos h]);go_enter Tryz.func171,Tryz.ntmps171
  go_wp2;refine bodyPost_ret (v:= .agg #[.int .i64 v, .int .i64 (-x), .int .i64 u]) (by simp[results,Tryz.results171,go_sem]) rfl ⟨by rw[F.out];rfl,(by repeat(first | exact .refl _ _ | (refine BxS ?_ _) | (refine qB ?_ _) | (refine zaw ?_) | (refine BxA ?_ _)))⟩
 ·have F:Hid (stE u x v=(u,x,v)):=qA (by unfold stE;rw[if_neg h]);go_enter Tryz.func171,Tryz.ntmps171
  go_wp2;refine bodyPost_ret (v:= .agg #[.int .i64 u, .int .i64 x, .int .i64 v]) (by simp[results,Tryz.results171,go_sem]) rfl ⟨by rw[F.out];rfl,(by repeat(first | exact .refl _ _ | (refine BxS ?_ _) | (refine qB ?_ _) | (refine zaw ?_) | (refine BxA ?_ _)))⟩
structure Sub (x g:GrD) (s:Int→Int):Prop where
 rk:x.1=g.1
 rng: ∀i,0≤i→i<x.2.1→0≤s i∧s i<g.2.1
 cn:Conn g.2.2 0 (s 0)
 fw: ∀i l,0≤i→i<x.2.1→ -3≤l∧l≤3→0≤qAY x.2.2 i l→qAY g.2.2 (s i) l=s (qAY x.2.2 i l)
 lp: ∀i w,0≤i→i<x.2.1→Conn x.2.2 0 i→(∀l∈w,-3≤l∧l≤3)→NoB w→qOO g.2.2 (s i) w=s i→qOO x.2.2 i w=i
structure GBx (w:World) (p base:Nat) (A:Option Addr) (c:Nat) (g:GrD):Prop where
 c0:w.cell? ⟨p,0,none⟩=some (.int .i64 g.1)
 c1:w.cell? ⟨p,1,none⟩=some (.int .i64 g.2.1)
 c2:w.cell? ⟨p,2,none⟩=some (.slice A g.2.2.length c)
 fz: ∀j,w.frozen? ⟨p,j,none⟩=false
 ow:OwE w base (.slice A g.2.2.length c) g.2.2
 ne: ∀b,(zab A g.2.2.length c).ownBlock=some b→b≠p
 i1:I64 g.1
 i2:I64 g.2.1
 lt:p<w.heap.size
theorem GBx.cs {w:World} {p base:Nat} {A:Option Addr} {c:Nat} {g:GrD} (h:GBx w p base A c g):w.cell? ⟨p,0,none⟩=some (.int .i64 g.1)∧w.cell? ⟨p,1,none⟩=some (.int .i64 g.2.1)∧w.cell? ⟨p,2,none⟩=some (.slice A g.2.2.length c):=⟨h.c0,h.c1,h.c2⟩
theorem GBx.below {w w':World} {p base:Nat} {A:Option Addr} {c:Nat} {g:GrD} (h:GBx w p base A c g) (hb:Below w.heap.size w w'):GBx w' p base A c g:=
 ⟨(hb.cell (p:=⟨p,0,none⟩) h.lt).trans h.c0,(hb.cell (p:=⟨p,1,none⟩) h.lt).trans h.c1,(hb.cell (p:=⟨p,2,none⟩) h.lt).trans h.c2,fun j=>(hb.frozen (p:=⟨p,j,none⟩) h.lt).trans (h.fz j),h.ow.below hb,h.ne,h.i1,h.i2,zah h.lt hb.size⟩
theorem GBx.arg {w:World} {p base:Nat} {A:Option Addr} {c:Nat} {g:GrD} (h:GBx w p base A c g):ArgG w (.agg #[.int .i64 g.1, .int .i64 g.2.1, .slice A g.2.2.length c]) g:=⟨_,rfl,h.i1,h.i2,h.ow.arg⟩
theorem OwI.keepB {w w':World} {base:Nat} {s:Value} {xs:List Int} (h:OwI w base s xs) (hb: ∀b,s.ownBlock=some b→w'.heap[b]? =w.heap[b]?):OwI w' base s xs:=by
 refine⟨⟨h.1.1,?_⟩,h.2⟩;rcases h.1.2 with h0 | ⟨g,cap,cur,hv,hg,hh,r⟩
 ·exact .inl h0
 ·exact .inr ⟨g,cap,cur,hv,hg,by rw[hb g (by rw[hv];rfl)];exact hh,r⟩
theorem GBx.set {w:World} {p base base':Nat} {A A':Option Addr} {c c':Nat} {g m:GrD} (h:GBx w p base A c g) (o:OwE w base' (.slice A' m.2.2.length c') m.2.2) (hn: ∀b,(zab A' m.2.2.length c').ownBlock=some b→b≠p) (h1:I64 m.1) (h2:I64 m.2.1):
  GBx (((w.setCell ⟨p,0,none⟩ (.int .i64 m.1)).setCell ⟨p,1,none⟩ (.int .i64 m.2.1)).setCell ⟨p,2,none⟩ (.slice A' m.2.2.length c')) p base' A' c' m:=by
 obtain⟨e0,e1,e2⟩:=qAH (.int .i64 m.1) (.int .i64 m.2.1) (.slice A' m.2.2.length c') h.c0 h.c1 h.c2;refine⟨e0,e1,e2,fun j=>by rw[zae,zae,zae];exact h.fz j,?_,hn,h1,h2,by simpa using h.lt⟩;refine o.keep fun b hb=> ?_;have:=hn b hb
 rw[zad _ _ _ b this,zad _ _ _ b this,zad _ _ _ b this]
structure CBx (w:World) (p:Nat) (x y z:Value):Prop where
 c0:w.cell? ⟨p,0,none⟩=some x
 c1:w.cell? ⟨p,1,none⟩=some y
 c2:w.cell? ⟨p,2,none⟩=some z
 fz: ∀j,w.frozen? ⟨p,j,none⟩=false
 lt:p<w.heap.size
theorem CBx.cs {w:World} {p:Nat} {x y z:Value} (h:CBx w p x y z):w.cell? ⟨p,0,none⟩=some x∧w.cell? ⟨p,1,none⟩=some y∧w.cell? ⟨p,2,none⟩=some z:=⟨h.c0,h.c1,h.c2⟩
theorem CBx.below {w w':World} {p:Nat} {x y z:Value} (h:CBx w p x y z) (hb:Below w.heap.size w w'):CBx w' p x y z:=
 ⟨(hb.cell (p:=⟨p,0,none⟩) h.lt).trans h.c0,(hb.cell (p:=⟨p,1,none⟩) h.lt).trans h.c1,(hb.cell (p:=⟨p,2,none⟩) h.lt).trans h.c2,fun j=>(hb.frozen (p:=⟨p,j,none⟩) h.lt).trans (h.fz j),zah h.lt hb.size⟩
theorem CBx.belowAt {w w':World} {p n:Nat} {x y z:Value} (h:CBx w p x y z) (hb:Below n w w') (hn:p<n):CBx w' p x y z:=
 ⟨(hb.cell (p:=⟨p,0,none⟩) hn).trans h.c0,(hb.cell (p:=⟨p,1,none⟩) hn).trans h.c1,(hb.cell (p:=⟨p,2,none⟩) hn).trans h.c2,fun j=>(hb.frozen (p:=⟨p,j,none⟩) hn).trans (h.fz j),zah h.lt hb.size⟩
theorem CBx.other {w:World} {p q:Nat} {x y z a b c:Value} (h:CBx w p x y z) (ai:p≠q):CBx (((w.setCell ⟨q,0,none⟩ a).setCell ⟨q,1,none⟩ b).setCell ⟨q,2,none⟩ c) p x y z:=by
 have hp:(((w.setCell ⟨q,0,none⟩ a).setCell ⟨q,1,none⟩ b).setCell ⟨q,2,none⟩ c).heap[p]? =w.heap[p]? :=by
  rw[zad _ _ _ p ai,zad _ _ _ p ai,zad _ _ _ p ai]
 exact⟨(zao (w:=w) hp).trans h.c0,(zao (w:=w) hp).trans h.c1,(zao (w:=w) hp).trans h.c2,fun j=>(zav (w:=w) hp).trans (h.fz j),by simpa using h.lt⟩
theorem CBx.new {w W:World} {x y z:Value} {t:TypeId} (hW:W=w.alloc (.cells #[x,y,z] t)):CBx W w.heap.size x y z∧Below w.heap.size w W∧W.heap.size=w.heap.size+1:=by
 refine⟨⟨by rw[hW];simp[go_sem],by rw[hW];simp[go_sem],by rw[hW];simp[go_sem],fun j=>by rw[hW];simp[go_sem],by rw[hW];simp⟩,by rw[hW];exact(zac _ _).alloc (zaa _) _,by rw[hW];simp⟩
theorem qAP (w:World) (p:Nat) (x y z:Value) {b:Nat} (h:b≠p):(((w.setCell ⟨p,0,none⟩ x).setCell ⟨p,1,none⟩ y).setCell ⟨p,2,none⟩ z).heap[b]? =w.heap[b]? :=by
 rw[zad _ _ _ b h,zad _ _ _ b h,zad _ _ _ b h]
theorem qp {w0 w:World} {n p:Nat} (x y z:Value) (h:Below n w0 w) (hp:n≤p):Below n w0 (((w.setCell ⟨p,0,none⟩ x).setCell ⟨p,1,none⟩ y).setCell ⟨p,2,none⟩ z):=((h.setCell hp _).setCell hp _).setCell hp _
theorem qNp (w:World) (p:Nat) (x y z:Value):(((w.setCell ⟨p,0,none⟩ x).setCell ⟨p,1,none⟩ y).setCell ⟨p,2,none⟩ z).heap.size=w.heap.size:=by simp
theorem GBx.new {w W:World} {base:Nat} {A:Option Addr} {c:Nat} {m:GrD} {t:TypeId} (o:OwE w base (.slice A m.2.2.length c) m.2.2) (h1:I64 m.1) (h2:I64 m.2.1) (hW:W=w.alloc (.cells #[.int .i64 m.1, .int .i64 m.2.1, .slice A m.2.2.length c] t)):
  GBx W w.heap.size base A c m:=by
 have hb:Below w.heap.size w W:=by rw[hW];exact(zac _ _).alloc (zaa _) _
 exact⟨by rw[hW];simp[go_sem],by rw[hW];simp[go_sem],by rw[hW];simp[go_sem],fun j=>by rw[hW];simp[go_sem],o.below hb,fun b hb=>by have:=(o.1.lt b hb).2;omega,h1,h2,by rw[hW];simp⟩
theorem GBx.mono {w:World} {p base base':Nat} {A:Option Addr} {c:Nat} {g:GrD} (h:GBx w p base A c g) (hb:base'≤base):GBx w p base' A c g:=
 ⟨h.c0,h.c1,h.c2,h.fz,h.ow.mono hb,h.ne,h.i1,h.i2,h.lt⟩
structure Two (a b:GrD) (A B:Nat):Prop where
 ga:grB a=true
 gb:grB b=true
 fa:Fol a.2.2
 fb:Fol b.2.2
 sa:a.2.1=(A:Int)
 sb:b.2.1=(B:Int)
section
variable {a b:GrD} {A B:Nat} {p q:Nat} {x:Int} {o:List Nat} {ls:List Int}
end
section
variable {a b:GrD} {u v:Nat}
end
theorem GBx.put {w:World} {p base base':Nat} {A A':Option Addr} {c c':Nat} {g:GrD} {ms:List EdD} (h:GBx w p base A c g) (o:OwE w base' (.slice A' ms.length c') ms) (hn: ∀b,(zab A' ms.length c').ownBlock=some b→b≠p):
  GBx (w.setCell ⟨p,2,none⟩ (.slice A' ms.length c')) p base' A' c' (g.1,g.2.1,ms):=by
 refine⟨(zal _ _ _ _ (by simp)).trans h.c0,(zal _ _ _ _ (by simp)).trans h.c1,zaA _ _ _ h.c2,fun j=>by rw[zae];exact h.fz j,?_,hn,h.i1,h.i2,by simpa using h.lt⟩;exact o.keep fun b hb=>zad _ _ _ b (hn b hb)
structure MatI (X bb P A B:Nat) (w:World) (Q:Nat→Nat) (f:Nat→Nat→Int):Prop where
 outer:w.ownsRow bb 24 1 (.slice (some ⟨P,0,none⟩) A A) A ((zaT A).map fun i=> .slice (some ⟨Q i,0,none⟩) B B)
 rows: ∀i,i<A→OwI w bb (.slice (some ⟨Q i,0,none⟩) B B) ((zaT B).map (f i))
 inj: ∀i j,i<A→j<A→Q i=Q j→i=j
 neP: ∀i,i<A→Q i≠P
 ltP:P<X
 ltQ: ∀i,i<A→Q i<X
section
variable {X bb P A B:Nat} {w w':World} {Q:Nat→Nat} {f:Nat→Nat→Int}
end
theorem CBx.put {w:World} {p base':Nat} {z:Value} {A':Option Addr} {c':Nat} {r n:Int} {ms:List EdD} (h:CBx w p (.int .i64 r) (.int .i64 n) z) (o:OwE w base' (.slice A' ms.length c') ms) (hn: ∀b,(zab A' ms.length c').ownBlock=some b→b≠p) (h1:I64 r) (h2:I64 n):
  GBx (w.setCell ⟨p,2,none⟩ (.slice A' ms.length c')) p base' A' c' (r,n,ms):=
 ⟨(zal _ _ _ _ (by simp)).trans h.c0,(zal _ _ _ _ (by simp)).trans h.c1,zaA _ _ _ h.c2,fun j=>by rw[zae];exact h.fz j,o.keep fun b hb=>zad _ _ _ b (hn b hb),hn,h1,h2,by simpa using h.lt⟩
theorem GBx.sz {w:World} {p base:Nat} {A:Option Addr} {c:Nat} {g:GrD} (h:GBx w p base A c g) {z:Int} (hz:I64 z):GBx (w.setCell ⟨p,1,none⟩ (.int .i64 z)) p base A c (g.1,z,g.2.2):=
 ⟨(zal _ _ _ _ (by simp)).trans h.c0,zaA _ _ _ h.c1,(zal _ _ _ _ (by simp)).trans h.c2,fun j=>by rw[zae];exact h.fz j,h.ow.keep fun b hb=>zad _ _ _ b (h.ne b hb),h.ne,h.i1,hz,by simpa using h.lt⟩
theorem qQo {v:Value} {es:List EdD} {w:World} (e:EdD) (x y z:Int) (h:ArgE w v es) (he:E64 e) (hl:es.length≤268435456) (hq:e=(x,y,z)):
  Calls Tryz.prog 194 #[v, .agg #[.int .i64 x, .int .i64 y, .int .i64 z]] w fun e' w'=> ∃r,e'= .returned r∧OwE w' w.heap.size r (insF cmpE es e)∧Below w.heap.size w w':=by
 subst hq;exact qGn v es (x,y,z) w h he hl
theorem qGM (v y:Value) (g:GrD) (a b:Int) (t:List Int) (w:World) (h:ArgG w v g) (ht:RdI w y t) (hg:grB g=true) (ha:0≤a∧a<g.2.1) (hb:0≤b∧b<g.2.1) (hw:qY g.1 t=true) (h0:t.length≠0) (hl:t.length≤1073741824):
  Calls Tryz.prog 180 #[v, .int .i64 a,y, .int .i64 b] w fun x w'=> ∃r,x= .returned (.tuple #[r, .bool (qCU g t)])∧OwG w' w.heap.size r (if qCU g t=true then addG g a b t else g)∧Below w.heap.size w w':=by
 have HG:=qA h;have HY:=qA ht;have aD:=qA hg;have HW:=qA hw;have HA:=qA ha;have mI:=qA hb;obtain⟨n4,jn,dj,_⟩:=qR hg;obtain⟨s,rfl,bg,bH,kY⟩:=h;obtain⟨A,cap,rfl⟩:=kY.form;obtain⟨T,tc,rfl,_⟩:=ht.arg;obtain⟨g1,N,es⟩:=g;simp only at*
 clear kY hg hw ha hb;obtain⟨OK,oM⟩: ∃o,o=qCU (g1,N,es) t:=⟨_,rfl⟩;rw[←oM];obtain⟨RES,dg⟩: ∃R,R=(if OK=true then addG (g1,N,es) a b t else(g1,N,es)):=⟨_,rfl⟩;rw[←dg];have bG:=qA oM;have eI:=qA dg;clear dg oM;go_enter Tryz.func180,Tryz.ntmps180
 go_wp2_with fail;obtain⟨W1,cC⟩: ∃W,W=w.alloc (.cells #[.int .i64 g1,.int .i64 N, .slice A es.length cap] 82):=⟨_,rfl⟩;rw[←cC];obtain⟨aA,b1,aC,_⟩:=gbox cC;obtain⟨W,hW⟩: ∃W,W=W1.alloc (.cells #[.int .i64 0,.int .i64 0, .slice none 0 0] 82):=⟨_,rfl⟩;rw[←hW];obtain⟨bK,b2,dG,dq⟩:=gbox hW;have cI:W.heap.size=w.heap.size+2:=tO;have kw:=qA aC;have ik:=qA dG;have d9:=qA dq;have sR:=qA b1;have iF:=qA b2;have BX:Hid (Below w.heap.size w W):=qA (b1.trans (b2.mono tO));have bZ:Hid (∀w',Below (w.heap.size+2) W w'→w'.cell? ⟨w.heap.size,0,none⟩=some (.int .i64 g1)∧w'.cell? ⟨w.heap.size,1,none⟩=some (.int .i64 N)∧w'.cell? ⟨w.heap.size,2,none⟩=some (.slice A es.length cap)):=qA fun w' hb=>kw.out w' ((iF.out.mono tO).trans (hb.mono tO));have gT:Hid (∀w',Below (w.heap.size+2) W w'→(w'.cell? ⟨w.heap.size+1,0,none⟩=some (.int .i64 0)∧w'.cell? ⟨w.heap.size+1,1,none⟩=some (.int .i64 0)∧w'.cell? ⟨w.heap.size+1,2,none⟩=some (.slice none 0 0))∧ ∀j,w'.frozen? ⟨w.heap.size+1,j,none⟩=false):=qA fun w' hb=>by
  have e:Below (W1.heap.size+1) W w':=hb.mono tO;have h1:=ik.out w' e;have h2:=fun j=>d9.out j w' e;rw[aA] at h1 h2;exact⟨h1,h2⟩
 have nc:Hid (∀w',Below (w.heap.size+2) W w'→ArgG w' (.agg #[.int .i64 g1, .int .i64 N, .slice A es.length cap]) (g1,N,es)):=qA fun w' hb=>HG.out.below (BX.out.trans (hb.mono tO));have gP:Hid (∀w',Below (w.heap.size+2) W w'→RdI w' (.slice T t.length tc) t):=qA fun w' hb=>HY.out.below (BX.out.trans (hb.mono tO));clear cC hW aC dG dq b1 b2 kw ik d9 sR iF aA bK;obtain⟨q0,q1,q2⟩:=bZ.out W ((zac W.heap.size W).mono tO);refine(qCa _ (g1,N,es) W (nc.out W ((zac W.heap.size W).mono tO)) (by simp only;omega)).mono ?_
 clear q0 q1 q2;rintro e w5 ⟨r,rfl,o5,b5⟩;have eQ:=b5.size;have B5:Hid (Below (w.heap.size+2) W w5):=qA (b5.mono tO);obtain⟨s1,rfl,_,_,cB⟩:=o5;obtain⟨A1,c1,rfl,_⟩:=cB.form;simp only at*
 clear b5;have ny:Below w5.heap.size w5 (w5.alloc (.cells #[.int .i64 g1,.int .i64 N, .slice A1 es.length c1] 82)):=(zac _ _).alloc (zaa _) _;obtain⟨q0,q1,q2⟩:=bZ.out _ (B5.out.trans (ny.mono tO));clear ny;go_wp2_with fail;clear q0 q1 q2;obtain⟨W6,iG⟩: ∃W,W=w5.alloc (.cells #[.int .i64 g1,.int .i64 N, .slice A1 es.length c1] 82):=⟨_,rfl⟩;have nD:=qA (GBx.new (m:=(g1,N,es)) cB bg bH iG);obtain⟨fU,b6,_,_⟩:=gbox iG;rw[←iG];have B6:Hid (Below (w.heap.size+2) W W6):=qA (B5.out.trans (b6.mono tO));clear iG b6 cB;obtain⟨p,hp⟩: ∃p,p=w5.heap.size:=⟨_,rfl⟩;rw[←hp] at nD⊢;have lk:w.heap.size+2≤p:=tO;have Br:p<W6.heap.size:=tO;clear hp fU eQ;have gB:=qA (qt _ (g1,N,es) W6 (nc.out W6 B6.out));rw[aD.out] at gB;refine gB.out.mono ?_;clear gB;rintro e w7 ⟨rfl,b7⟩;have B7:=qA (B6.out.trans (b7.mono (by have:=B6.out.size;omega)));have rq:=qA (nD.out.below b7);clear b7;obtain⟨q0,q1,q2⟩:=bZ.out w7 B7.out;have E1:inB a 0 (N-1)=true:=by unfold inB;simp;have:=HA.out;omega
 have E2:inB b 0 (N-1)=true:=by unfold inB;simp;have:=mI.out;omega
 have EW:=qA (qc g1 _ t w7 (gP.out w7 B7.out).arg tO);rw[HW.out] at EW;go_wp2_with (go_at_call 64;refine(qI _ _ _ _).mono ?_;rintro e w' ⟨rfl,rfl⟩)
 refine EW.out.mono ?_;clear EW E1 E2 q0 q1 q2;rintro e w8 ⟨rfl,nd,rfl⟩;obtain⟨w8,jQ⟩: ∃W,W=w7.drewN nd:=⟨_,rfl⟩;rw[←jQ];have B8:Hid (Below (w.heap.size+2) W w8):=qA (by rw[jQ];exact qB B7.out _);have eD:Hid (GBx w8 p W.heap.size A1 c1 (g1,N,es)):=qA (by rw[jQ];exact rq.out.below (qB (zac _ _) _));clear jQ;obtain⟨q0,q1,q2⟩:=bZ.out w8 B8.out;obtain⟨z0,z1,z2⟩:=eD.out.cs;simp only at z0 z1 z2
 obtain⟨⟨r0,r1,r2⟩,em⟩:=gT.out w8 B8.out;have dR:=em 0;have dP:=em 1;have dI:=em 2;have kP: ¬(t.length:Int)=0:=tO;have uh: ¬t= []:=fun q=>h0 (by rw[q];rfl);clear em;by_cases hA:N+t.length-1≤40
 ·by_cases hE:(es.length:Int)+t.length≤120
  ·have ar:qCU (g1,N,es) t=true:=decide_eq_true ⟨hA,hE⟩;have HK:Hid (OK=true∧RES=addG (g1,N,es) a b t):=qA (by have:=bG.out.trans ar;exact⟨this,by rw[eI.out,this];rfl⟩);clear ar;obtain⟨n,rfl⟩: ∃n:Nat,N=(n:Int):=⟨N.toNat,tO⟩;have gY:srt cmpE es=es:=qKv (qMO aD.out);have DG:=qA gY;clear gY;have ur:((t.length:Int)==0)=false:=beq_eq_false_iff_ne.2 kP;have eT: ¬40<(n:Int)+t.length-1:=tO;have l5: ¬120<(es.length:Int)+t.length:=tO;go_wp2_with fail;clear q0 q1 q2 r0 r1 r2 dR dP dI z0 z1 z2 kP uh ur eT l5;go_loopw [11,12] (fun q i wr=> ∃(k:Nat) (L:List EdD) (A2:Option Addr) (c2:Nat),k≤t.length∧i= .int .i64 k∧q= .int .i64 (atP n t.length a b k)∧Hid (L=srt cmpE (es++pthL n a b t k))∧L.length≤es.length+k∧GBx wr p (w.heap.size+2) A2 c2 (g1,((szP n t.length k:Nat):Int),L)∧Below (w.heap.size+2) W wr) (fun _ i _=>t.length-(intOf i).toNat)
   case atStart=>
    refine⟨0,es,A1,c1,zak _,rfl,rfl,qA ?_,zaa _,?_,B8.out⟩
    ·show es=srt cmpE (es++ [])
     rw[List.append_nil,DG.out]
    ·exact eD.out.mono tO
   case round=>
    obtain⟨k,L,A2,c2,hk,rfl,rfl,hL,lg,eZ,ej⟩:=hrel;obtain⟨wk,rfl⟩: ∃wk:World,wk=wr:=⟨_,rfl⟩;have HT:=qA (gP.out wk ej);have jw:=qA eZ;have fq:=qA ej;have jp:=eZ.lt;obtain⟨z0,z1,z2⟩:=eZ.cs;have wR:=eZ.fz 1;have rU:=eZ.fz 2;simp only at z0 z1 z2
    clear eZ ej;rcases Nat.lt_or_ge k t.length with ac | vW
    ·have cG:=qGE HW.out k ac;obtain⟨bt,off,rfl,yc,va⟩:=HY.out.at tO;have wF:Hid (∀W',Below (w.heap.size+2) W W'→W'.cell? ⟨bt,off+k,none⟩=some (.int .i64 t[k])):=qA fun W' hb=>((BX.out.trans (hb.mono tO)).cell (p:=⟨bt,off+k,none⟩) yc).trans (va k ac);have cz:=wF.out wk fq.out;have sU:Hid (pthL n a b t (k+1)=pthL n a b t k++ [stpE (atP n t.length a b k) t[k] (nxP n t.length b k)]):=qA (by rw[qJf];unfold pthE;rw[qJx ac]);have vt:=qIV (N:=n) (len:=t.length) (j:=k) HA.out mI.out;have vS:=qJD (N:=n) (len:=t.length) (j:=k) mI.out;have fN:=qA (qLA (N:=n) ac);have kM:=qA (fun q=>qPL (N:=n) (len:=t.length) (j:=k) q);have fO:Hid (nxP n t.length b k=if k+1<t.length then((n+k:Nat):Int) else b):=qA rfl;have DJ:(srt cmpE (es++pthL n a b t k)).length≤es.length+k:=by rw[←hL];exact lg
     have oR:Hid (atP n t.length a b (k+1)=nxP n t.length b k):=qA rfl;generalize t[k]=z at*;generalize atP n t.length a b k=q at*;generalize nxP n t.length b k=m at*;have HL:Hid (srt cmpE (es++pthL n a b t (k+1))=insF cmpE L (stpE q z m)):=qA (by rw[sU.out,←zas,qNm,hL.out]);have cd:Hid ((insF cmpE L (stpE q z m)).length≤es.length+(k+1)):=qA (by have:=qEJ (c:=cmpE) L (stpE q z m);omega);clear va HT sU DJ;generalize aA:szP n t.length k=S1 at*;have vh:S1≤n+24:=by rw[←aA];unfold szP;have:=qCW HW.out;omega
     clear aA;have AO:=qCW HW.out;have IU:p<wk.heap.size:=jp;obtain⟨S2,lI⟩: ∃S,S=szP n t.length (k+1):=⟨_,rfl⟩;rw[←lI] at fN;have fi:=qA lI;clear lI;have zK:IntKind.i64.wrap (-z)= -z:=by rw[IntKind.wrap_i64];omega
     have yP:IntKind.i64.wrap ((S1:Int)+1)=(S1:Int)+1:=by rw[IntKind.wrap_i64];omega
     have eC:Hid (E64 (stpE q z m)):=qA (by unfold stpE;split<;>exact⟨⟨by simp only;omega,by simp only;omega⟩,⟨by simp only;omega,by simp only;omega⟩,⟨by simp only;omega,by simp only;omega⟩⟩);have yB:L.length≤268435456:=tO;have dO:Hid (L.length≤es.length+k):=qA lg;have eu:=qA hL.out;have er:=qA hk;have J1:=qA (And.intro cG (And.intro vt vS));have ua:I64 ((S2:Nat):Int):=by
      have:S2≤S1+1:=by rw[fN.out];split<;>omega
      exact⟨tO,tO⟩
     have gM:=qA ua;clear hL lg cG vt vS ua;by_cases h1:k+1<t.length<;>by_cases h2:0<z
     all_goals
      have pS:=qA (And.intro h1 h2);go_wp2_with fail;have rF:=er.out;first
       | (have fT:k+1<t.length:=pS.out.1
          obtain⟨wn,lu⟩: ∃W,W=wk.setCell ⟨p,1,none⟩ (.int .i64 ((S1:Int)+1)):=⟨_,rfl⟩;rw[←lu];have HM:Hid (m=(S1:Int)):=qA (by rw[fO.out,if_pos fT];have:=kM.out fT;omega);have GBN:Hid (GBx wn p (w.heap.size+2) A2 c2 (g1,((S2:Nat):Int),L)):=qA (by
           have e:(S2:Int)=(S1:Int)+1:=by rw[fN.out,if_pos fT];rfl
           have hi:=gM.out;rw[e] at hi;rw[lu,e];exact jw.out.sz hi)
          have BN:Hid (Below (w.heap.size+2) W wn):=qA (by rw[lu];exact fq.out.setCell lk _);clear lu)
       | (have fT: ¬k+1<t.length:=pS.out.1
          obtain⟨wn,rfl⟩: ∃W,W=wk:=⟨_,rfl⟩;have HM:Hid (m=b):=qA (by rw[fO.out,if_neg fT]);have GBN:Hid (GBx wn p (w.heap.size+2) A2 c2 (g1,((S2:Nat):Int),L)):=qA (by rw[show S2=S1 by rw[fN.out,if_neg fT]];exact jw.out);have BN:Hid (Below (w.heap.size+2) W wn):=qA fq.out)
      clear h1 rF z0 z1 z2 cz wR rU jp;have z2:=GBN.out.c2;simp only at z2
      have cz:=wF.out wn BN.out;have pK:=GBN.out.lt;have Gv:bt<wn.heap.size:=tO;have f0:=BelW.cell z2 pK;have f1:=BelW.cell cz Gv;have JS: ¬((k:Int)<0):=tO;have jg:(k:Int)<(t.length:Int):=tO;first | (have sG:0<z:=pS.out.2;clear sG;(refine qBI 9 tK tK tK tK (by rfl) (by rfl) ?_;dsimp only[dum3,dumO];(repeat(go_big_quiet_step (fail)));refine wpQuiet_nil ?_;refine⟨⟨_,fun _=>by rfl⟩,?_⟩;intro wq hw';obtain⟨pq,al⟩:=hw';have bq:=pq.h;rw[←al] at bq;clear al pq;refine⟨_,_,by rfl,?_⟩)) | (refine qBI 10 tK tK tK tK (by rfl) (by rfl) ?_;dsimp only[dum3,dumO];(repeat(go_big_quiet_step (fail)));refine wpQuiet_nil ?_;refine⟨⟨_,fun _=>by rfl⟩,?_⟩;intro wq hw';obtain⟨pq,al⟩:=hw';have bq:=pq.h;rw[←al] at bq;clear al pq;refine⟨_,_,by rfl,?_⟩)
      clear f0 f1;try simp only[zK]
      simp only[List.map_toArray,zaN,List.map_nil,Array.empty_append,Array.append_empty];refine(show Calls Tryz.prog 194 #[.slice A2 L.length c2, .agg #[.int .i64 _, .int .i64 _, .int .i64 _]] wq _ from ?_)
      refine(qQo (stpE q z m) _ _ _ (GBN.out.ow.below bq).arg eC.out yB (by unfold stpE;rw[HM.out];have hh:=pS.out.2;first | rw[if_pos tO] | rw[if_neg tO])).mono ?_
      rintro e' w9 ⟨r9,rfl,o9,b9⟩;have B9:=qA (bq.trans (b9.mono bq.size));have qx:=(B9.out.cell (p:=⟨p,2,none⟩) pK).trans z2;have qf:=(B9.out.frozen (p:=⟨p,2,none⟩) pK).trans (GBN.out.fz 2);have s9:wn.heap.size≤w9.heap.size:=B9.out.size;have JG:=bq.size;have O9:=qA o9;obtain⟨A9,c9,rfl,_⟩:=o9.form;clear o9 b9 z2 cz;refine⟨_,rfl,?_⟩;simp only[Act.put,List.setIfInBounds_toArray,List.set_cons_zero,List.set_cons_succ];go_wp2;go_roundw
      case rel=>
       exact⟨k+1,insF cmpE L (stpE q z m),A9,c9,by have:=er.out;omega,by go_num,by rw[oR.out,HM.out],qA HL.out.symm,cd.out,by rw[←fi.out];exact(GBN.out.below B9.out).put (O9.out.mono tO) (fun y hy=>by have:=(O9.out.1.lt y hy).1;omega),(BN.out.trans (B9.out.mono tO)).setCell lk _⟩
      case measure=>simp[intOf];omega
    ·have zy:k=t.length:=tO;subst zy;obtain⟨⟨r0,r1,r2⟩,em⟩:=gT.out wk fq.out;have dR:=em 0;have dP:=em 1;have dI:=em 2;have zS:w.heap.size+1≠p:=tO;clear em;have hR:RES=(g1,((szP n t.length t.length:Nat):Int),L):=by
      rw[HK.out.2,hL.out];show(g1,(((n:Int).toNat+(t.length-1):Nat):Int),srt cmpE (es++pthL (n:Int).toNat a b t t.length))=_
      rw[Int.toNat_natCast,show szP n t.length t.length=n+(t.length-1) by unfold szP;omega]
     have HR:=qA hR;clear hR;go_wp2;obtain⟨e0,e1,e2⟩:=qAH (.int .i64 g1) (.int .i64 ((szP n t.length t.length:Nat):Int)) (.slice A2 L.length c2) r0 r1 r2;have bw:Below w.heap.size w (((wk.setCell ⟨w.heap.size+1,0,none⟩ (.int .i64 g1)).setCell ⟨w.heap.size+1,1,none⟩ (.int .i64 ((szP n t.length t.length:Nat):Int))).setCell ⟨w.heap.size+1,2,none⟩ (.slice A2 L.length c2)):=qp _ _ _ (BX.out.trans (fq.out.mono tO)) tO;have ow:OwE (((wk.setCell ⟨w.heap.size+1,0,none⟩ (.int .i64 g1)).setCell ⟨w.heap.size+1,1,none⟩ (.int .i64 ((szP n t.length t.length:Nat):Int))).setCell ⟨w.heap.size+1,2,none⟩ (.slice A2 L.length c2)) (w.heap.size+2) (.slice A2 L.length c2) L:=jw.out.ow.keep fun b hb=>qAP _ _ _ _ _ (by have:=(jw.out.ow.1.lt b hb).1;omega);exact bodyPost_ret (v:= .tuple #[.agg #[.int .i64 g1, .int .i64 ((szP n t.length t.length:Nat):Int), .slice A2 L.length c2], .bool true]) (by simp[results,Tryz.results180,go_sem,e0,e1,e2]) rfl ⟨_,by rw[HK.out.1],by rw[HR.out];exact⟨.slice A2 L.length c2,rfl,bg,jw.out.i2,ow.mono tO⟩,bw⟩
  ·have ar:qCU (g1,N,es) t=false:=decide_eq_false fun q=>hE q.2;have HK:Hid (OK=false∧RES=(g1,N,es)):=qA (by have:=bG.out.trans ar;exact⟨this,by rw[eI.out,this];rfl⟩);clear ar;go_wp2;obtain⟨e0,e1,e2⟩:=qAH (.int .i64 g1) (.int .i64 N) (.slice A1 es.length c1) r0 r1 r2;have bw:Below w.heap.size w (((w8.setCell ⟨w.heap.size+1,0,none⟩ (.int .i64 g1)).setCell ⟨w.heap.size+1,1,none⟩ (.int .i64 N)).setCell ⟨w.heap.size+1,2,none⟩ (.slice A1 es.length c1)):=qp _ _ _ (BX.out.trans (B8.out.mono tO)) tO;have ow:OwE (((w8.setCell ⟨w.heap.size+1,0,none⟩ (.int .i64 g1)).setCell ⟨w.heap.size+1,1,none⟩ (.int .i64 N)).setCell ⟨w.heap.size+1,2,none⟩ (.slice A1 es.length c1)) W.heap.size (.slice A1 es.length c1) es:=eD.out.ow.keep fun b hb=>qAP _ _ _ _ _ (by have:=(eD.out.ow.1.lt b hb).1;omega);exact bodyPost_ret (v:= .tuple #[.agg #[.int .i64 g1, .int .i64 N, .slice A1 es.length c1], .bool false]) (by simp[results,Tryz.results180,go_sem,e0,e1,e2]) rfl ⟨_,by rw[HK.out.1],by rw[HK.out.2];exact⟨.slice A1 es.length c1,rfl,bg,bH,ow.mono tO⟩,bw⟩
 ·have ar:qCU (g1,N,es) t=false:=decide_eq_false fun q=>hA q.1;have HK:Hid (OK=false∧RES=(g1,N,es)):=qA (by have:=bG.out.trans ar;exact⟨this,by rw[eI.out,this];rfl⟩);clear ar;go_wp2;obtain⟨e0,e1,e2⟩:=qAH (.int .i64 g1) (.int .i64 N) (.slice A1 es.length c1) r0 r1 r2;have bw:Below w.heap.size w (((w8.setCell ⟨w.heap.size+1,0,none⟩ (.int .i64 g1)).setCell ⟨w.heap.size+1,1,none⟩ (.int .i64 N)).setCell ⟨w.heap.size+1,2,none⟩ (.slice A1 es.length c1)):=qp _ _ _ (BX.out.trans (B8.out.mono tO)) tO;have ow:OwE (((w8.setCell ⟨w.heap.size+1,0,none⟩ (.int .i64 g1)).setCell ⟨w.heap.size+1,1,none⟩ (.int .i64 N)).setCell ⟨w.heap.size+1,2,none⟩ (.slice A1 es.length c1)) W.heap.size (.slice A1 es.length c1) es:=eD.out.ow.keep fun b hb=>qAP _ _ _ _ _ (by have:=(eD.out.ow.1.lt b hb).1;omega);exact bodyPost_ret (v:= .tuple #[.agg #[.int .i64 g1, .int .i64 N, .slice A1 es.length c1], .bool false]) (by simp[results,Tryz.results180,go_sem,e0,e1,e2]) rfl ⟨_,by rw[HK.out.1],by rw[HK.out.2];exact⟨.slice A1 es.length c1,rfl,bg,bH,ow.mono tO⟩,bw⟩
def hE (e:EdD) (p x:Int):Prop:=(e.1=p∧e.2.1=x)∨(e.2.2=p∧e.2.1= -x)
section
variable {g:GrD} {u v:Int} {t:List Int}
theorem qPv {N:Nat} {e:EdD}:e∈pthL N u v t t.length↔ ∃j,j<t.length∧e=pthE N u v t j:=by
 unfold pthL;rw[zar];exact⟨fun ⟨j,h1,h2⟩=>⟨j,zaL.1 h1,h2.symm⟩,fun ⟨j,h1,h2⟩=>⟨j,zaL.2 h1,h2.symm⟩⟩
theorem qJk (h:qCU g t=true):g.2.1+t.length-1≤40∧(g.2.2.length:Int)+t.length≤120:=by
 unfold qCU at h;exact of_decide_eq_true h
theorem qMm (hg:grB g=true) (hu:0≤u∧u<g.2.1) (hv:0≤v∧v<g.2.1) (hw:qY g.1 t=true) (h0:t.length≠0) {e:EdD} (he:e∈pthL g.2.1.toNat u v t t.length):
  (0≤e.1∧e.1<g.2.1+t.length-1)∧(1≤e.2.1∧e.2.1≤g.1)∧(0≤e.2.2∧e.2.2<g.2.1+t.length-1):=by
 obtain⟨j,hj,rfl⟩:=qPv.1 he;have hN:=(qR hg).2.1;have hx:=qGE hw j hj;have ha:0≤atP g.2.1.toNat t.length u v j∧atP g.2.1.toNat t.length u v j<g.2.1+t.length-1:=by
  cases j with
  | zero=>show 0≤u∧u<_;omega
  | succ j=>rw[qOk];unfold nxP;split<;>omega
 have hn:0≤nxP g.2.1.toNat t.length v j∧nxP g.2.1.toNat t.length v j<g.2.1+t.length-1:=by
  unfold nxP;split<;>omega
 unfold pthE stpE;rw[qJx hj];split<;>(simp only;omega)
theorem qPb (hg:grB g=true) (hu:0≤u∧u<g.2.1) (hv:0≤v∧v<g.2.1) (hw:qY g.1 t=true) (h0:t.length≠0) (ar:qCU g t=true):grB (addG g u v t)=true:=by
 obtain⟨k1,k2⟩:=qJk ar;obtain⟨h1,h2,h3,_⟩:=qR hg;have iN:=qCG qAf (g.2.2++pthL g.2.1.toNat u v t t.length);have hs:(addG g u v t).2.1=g.2.1+t.length-1:=by unfold addG;simp only;omega
 refine qLP h1 (by rw[hs];omega) ?_ iN.1 fun e he=> ?_
 ·have:=qDT (c:=cmpE) (g.2.2++pthL g.2.1.toNat u v t t.length)
  rw[zaf,qLI] at this;show(srt cmpE (g.2.2++pthL g.2.1.toNat u v t t.length)).length≤120
  omega
 ·rw[hs];rcases zaj.1 ((iN.2 e).1 he) with q | q
  ·have:=qAM hg q
   exact⟨tO,this.2.1,tO⟩
  ·exact qMm hg hu hv hw h0 q
end
structure DrI (p:Nat) (A:Option Addr) (cap:Nat) (cs:List Int) (w0 W:World):Prop where
 tr:Tr p (p+1) w0 W
 cur:Cur p A cap cs W
section
variable {p cap:Nat} {A:Option Addr} {cs:List Int} {w0 W W':World}
theorem DrI.refl (h:Cur p A cap cs w0):DrI p A cap cs w0 w0:=⟨⟨rfl,rfl,rfl,zaa _,fun _ _ _=>rfl⟩,h⟩
theorem DrI.to (h:DrI p A cap cs w0 W) (ht:Tr p (p+1) W W') (hc:Cur p A cap cs W'):DrI p A cap cs w0 W':=⟨h.tr.trans ht,hc⟩
theorem DrI.bel (h:DrI p A cap cs w0 W) (hb:Below W.heap.size W W'):DrI p A cap cs w0 W':=⟨h.tr.bel2 hb,h.cur.below hb⟩
theorem DrI.hi (h:DrI p A cap cs w0 W) (h0:Cur p A cap cs w0) {B:Nat} (hB:w0.heap.size≤B) (hb:Below B W W'):DrI p A cap cs w0 W':=by
 refine⟨⟨hb.os.trans h.tr.os,hb.tape.trans h.tr.tape,hb.output.trans h.tr.output,zam h.tr.size hb.size,fun k hk hn=>(hb.block k tO).trans (h.tr.block k hk hn)⟩,?_⟩;refine h.cur.tr (lo:=B) (hi:=W.heap.size) ⟨hb.os,hb.tape,hb.output,hb.size,fun k hk hn=>hb.block k tO⟩ (by have:=h0.lt;omega) fun hl b off e=> ?_;obtain⟨b',off',e',_,ac,_⟩:=h0.at_ hl;rw[e] at e';injection e' with e'
 injection e' with e1
 omega
end
theorem CBx.setv {w:World} {p:Nat} {x y z:Value} (h:CBx w p x y z) (a b c:Value):CBx (((w.setCell ⟨p,0,none⟩ a).setCell ⟨p,1,none⟩ b).setCell ⟨p,2,none⟩ c) p a b c:=by
 obtain⟨e0,e1,e2⟩:=qAH a b c h.c0 h.c1 h.c2;exact⟨e0,e1,e2,fun j=>by rw[zae,zae,zae];exact h.fz j,by simpa using h.lt⟩
theorem CBx.any {w:World} {p q:Nat} {x y z:Value} (h:CBx w p x y z) (a b c:Value): ∃x y z,CBx (((w.setCell ⟨q,0,none⟩ a).setCell ⟨q,1,none⟩ b).setCell ⟨q,2,none⟩ c) p x y z:=by
 by_cases e:p=q
 ·subst e;exact⟨_,_,_,h.setv a b c⟩
 ·exact⟨_,_,_,h.other e⟩
theorem MBx.trP {p q:Nat} {x y:Value} {w w':World} (h:MBx w q x y) (ht:Tr p (p+1) w w') (hq:p≠q):MBx w' q x y:=by
 have hk:w'.heap[q]? =w.heap[q]? :=ht.block q h.lt tO;exact⟨(zao (w:=w) hk).trans h.c0,(zao (w:=w) hk).trans h.c1,fun j=>(zav (w:=w) hk).trans (h.fz j),zah h.lt ht.size⟩
theorem qNs (w:World) (p:Nat) (x y:Value) {b:Nat} (h:b≠p):((w.setCell ⟨p,0,none⟩ x).setCell ⟨p,1,none⟩ y).heap[b]? =w.heap[b]? :=by
 rw[zad _ _ _ b h,zad _ _ _ b h]
theorem qLu {w0 w:World} {n p:Nat} (x y:Value) (h:Below n w0 w) (hp:n≤p):Below n w0 ((w.setCell ⟨p,0,none⟩ x).setCell ⟨p,1,none⟩ y):=(h.setCell hp _).setCell hp _
theorem qPO {lo hi:Nat} {w:World} {A:Option Addr} {m c:Nat} {L:List WhD} (h:OWhS lo hi (.slice A m c) L w) {k:Nat} (hk:k<L.length):
  ∃g s,A=some ⟨g,0,none⟩∧g<w.heap.size∧w.cell? ⟨g,k*2,none⟩=some (.int .i64 L[k].1)∧w.cell? ⟨g,k*2+1,none⟩=some s∧I64 L[k].1∧OwI w lo s L[k].2:=by
 obtain⟨g,cs,Fe,hA,hg,_,hE,gO,hF,_,hc,_,mE,_⟩:=h.focus EWh.stable hk;obtain⟨s,rfl,hi,ho,rfl⟩:=hE;have c0:=hc 0 (by simp);have c1:=hc 1 (by simp);simp only[zaB,zaC,zaP] at c0 c1;exact⟨g,s,hA,mE,c0,c1,hi,OwI.alone ho fun b hb=>(hF b (by rw[hb];simp)).1⟩
theorem OWhS.len {lo hi:Nat} {w:World} {v:Value} {L:List WhD} (h:OWhS lo hi v L w): ∃A c,v= .slice A L.length c∧L.length≤c∧c≤maxLen:=by
 obtain⟨A,c,e,h1,h2,_⟩:=OwnL.len h;exact⟨A,c,e,h1,h2⟩
theorem qNG {r:Int} (h:1≤r∧r≤3):0<(qh r).length∧(qh r).length≤96:=by
 have:r=1∨r=2∨r=3:=tO
 rcases this with rfl | rfl | rfl<;>decide
theorem MBx.one {w:World} {p q j:Nat} {x y v:Value} (h:MBx w p x y) (ai:p≠q):MBx (w.setCell ⟨q,j,none⟩ v) p x y:=by
 have hp:(w.setCell ⟨q,j,none⟩ v).heap[p]? =w.heap[p]? :=zad _ _ _ p ai;exact⟨(zao (w:=w) hp).trans h.c0,(zao (w:=w) hp).trans h.c1,fun j=>(zav (w:=w) hp).trans (h.fz j),by simpa using h.lt⟩
theorem qGU:(zaT 4).all (fun n=>(qh n).all fun d=>decide (d.2.length≤4))=true:=by decide
theorem Tr.bwP {p:Nat} {w w1 w':World} (h:Below w.heap.size w w1) (ht:Tr p (p+1) w1 w') (hp:w.heap.size≤p):Below w.heap.size w w':=
 h.trans ⟨ht.os,ht.tape,ht.output,ht.size,fun b hb=>ht.block b (by have:=h.size;omega) tO⟩
def ImW (xs:List Int):Prop:= ∃u:List Int,(u.length≤4∧letR 2 u∧redP u)∧(xs=u∨ ∃d∈qh 2,xs=expL (whM 2 d).2 u)
theorem qBP (p:Nat) (A:Option Addr) (cap:Nat) (cs:List Int) (w:World) (h:Cur p A cap cs w):
  Calls Tryz.prog 91 #[.pointer (some ⟨p,0,none⟩)] w fun e w'=> ∃(v:Value) (xs:List Int),e= .returned v∧OwI w' w.heap.size v xs∧(xs.length≤10∧ImW xs)∧Cur p A cap cs w'∧Tr p (p+1) w w':=by
 have H:=qA h;have hp:=h.lt;clear h;go_enter Tryz.func91,Tryz.ntmps91
 go_wp2_with fail;refine(qLc p A cap cs 2 4 _ H.out tO tO tO tO).mono ?_
 rintro e w2 ⟨xv,xs,rfl,ox,⟨cX,jX,d8⟩,c2,t2⟩;have I2:=qA ((DrI.refl H.out).to t2 c2);have O2:=qA ox;obtain⟨Ax,mx,cx,rfl⟩:=ox.any2;have GX:xs.length≤4:=tO;have HU:Hid (xs.length≤4∧letR 2 xs∧redP xs):=qA ⟨GX,jX,d8⟩;have bK:=t2.size;clear c2 t2 ox cX jX d8;have DT:=qNG (r:=2) ⟨tO,tO⟩;go_wp2_with fail;refine(qAR 2 _).mono ?_
 rintro e w4 ⟨lv,rfl,ol,b4⟩;obtain⟨Al,cl,rfl,aZ,gW⟩:=ol.len;have I4:=qA (I2.out.bel b4);have O4:=qA (O2.out.below b4);have rZ:=b4.size;have OL:=qA ol;clear b4 ol I2 O2;unfold maxLen at gW;have fl:Hid (∀d∈qh 2,d.2.length≤4∧ ∀z,z=expL (whM 2 d).2 xs→ImW z):=qA fun d hd=>by
  have h1:=zaR.1 qGU 2 (zaL.2 tO);have h2:=zaR.1 h1 d hd;exact⟨of_decide_eq_true h2,fun z hz=>⟨xs,HU.out, .inr ⟨d,hd,hz⟩⟩⟩
 generalize qh 2=L at*;go_wp2_with fail;refine(qAJ p A cap cs L.length _ I4.out.cur tO tO).mono ?_
 rintro e w5 ⟨y,rfl,⟨y0,y1⟩,c5,t5⟩;obtain⟨j,rfl⟩: ∃j:Nat,y=j:=⟨y.toNat,tO⟩;have hj:j<L.length:=tO;have I5:=qA (I4.out.to t5 c5);have O5:=qA (O4.out.trP t5 hp);obtain⟨g,s,rfl,hg,q0,q1,hi,ho⟩:=qPO (OwnL.keep OL.out EWh.stable fun b hb aE=>t5.block b tO tO) hj;have Dg:=fl.out _ (zag hj);obtain⟨As,cs',rfl,_⟩:=ho.form;have iC:Hid (qCv w5 (.agg #[.int .i64 L[j].1, .slice As L[j].2.length cs']) L[j]):=qA ⟨_,rfl,hi,ho.arg⟩;clear c5 t5 I4 O4 OL fl ho hi;have z5:=I5.out.tr.size;generalize L[j]=d at*;obtain⟨Dg,fE⟩:=Dg;have HI:=qA fE;clear fE;go_wp2_with fail;refine(qy 2 _ d _ ⟨tO,tO⟩ iC.out tO).mono ?_
 rintro e w6 ⟨s6,rfl,o6,b6⟩;have I6:=qA (I5.out.bel b6);have O6:=qA (O5.out.below b6);obtain⟨A6,c6,rfl,_⟩:=o6.len;have hM:=qEn 2 d;obtain⟨W7,AI⟩: ∃W,W=w6.alloc (.cells #[.int .i64 (whM 2 d).1, .slice A6 (whM 2 d).2.length c6] 31):=⟨_,rfl⟩;obtain⟨x7,b7,s7⟩:=MBx.new AI;have I7:=qA (I6.out.bel b7);have O7:=qA (O6.out.below b7);have R7:=qA (o6.rd.below b7);have e0:=x7.c0;have e1:=x7.c1;clear o6 b6 b7 s7 x7 q0 q1 iC I5 O5 I6 O6;generalize (whM 2 d).1=m1 at*;generalize (whM 2 d).2=B at*;go_wp2_with fail;rw[←AI];clear AI;refine(qAW _ _ B xs _ R7.out O7.out.rd tO (fun b hb=>by have:=hM.2 b hb;omega) tO).mono ?_
 rintro e w8 ⟨x8,rfl,o8,b8⟩;have I8:=qA (I7.out.bel b8);have O8:=qA (O7.out.below b8);have P8:=qA (o8.mono I7.out.tr.size);obtain⟨A8,c8,rfl,_⟩:=o8.form;have En:=qA (HI.out _ rfl);clear o8 b8 I7 O7 R7 e0 e1 HI;generalize expL B xs=xe at*;by_cases h10:xe.length≤10
 ·have yI:(xe.length:Int)≤10:=tO;go_wp2;exact bodyPost_ret (v:= .slice A8 xe.length c8) (by simp[results,Tryz.results91,go_sem]) rfl ⟨_,xe,rfl,P8.out,⟨h10,En.out⟩,I8.out.cur,I8.out.tr⟩
 ·have yI: ¬(xe.length:Int)≤10:=tO;go_wp2;exact bodyPost_ret (v:= .slice Ax mx cx) (by simp[results,Tryz.results91,go_sem]) rfl ⟨_,xs,rfl,O8.out,⟨tO,xs,HU.out, .inl rfl⟩,I8.out.cur,I8.out.tr⟩
theorem qJj (v:Value) (cs:List Int) (w:World) (h:ArgC w v cs) (hl:cs.length≤1048576):
  Calls Tryz.prog 84 #[v] w fun e w'=> ∃(r:Int) (u:Value) (xs:List Int),e= .returned (.tuple #[.int .i64 r,u])∧(-1≤r∧r≤4)∧OwI w' w.heap.size u xs∧(xs.length≤11∧(ImW xs∨0∈xs))∧Below w.heap.size w w':=by
 have HN:=qA (qGm v cs w h hl);clear h;go_enter Tryz.func84,Tryz.ntmps84
 go_wp2_with fail;refine HN.out.mono ?_;rintro e w1 ⟨p,A,cap,rfl,c1,hp,b1⟩;have C1:=qA c1;have B1:=qA b1;have s1:=b1.size;clear c1 b1 HN;go_wp2_with fail;refine(qBP p A cap cs _ C1.out).mono ?_
 rintro e w2 ⟨xv,xs,rfl,ox,⟨cX,fE⟩,c2,t2⟩;have C2:=qA c2;have cY:=qA fE;have B2:=qA (Tr.bwP B1.out t2 hp);have O2:=qA ox;have s2:=B2.out.size;have dD:=C1.out.lt;have z2:=t2.size;obtain⟨Ax,mx,cx,rfl⟩:=ox.any2;clear c2 t2 ox fE;go_wp2_with fail;refine(qAJ p A cap cs 12 _ C2.out tO tO).mono ?_
 rintro e w3 ⟨n,rfl,⟨n0,n1⟩,c3,t3⟩;have C3:=qA c3;have B3:=qA (Tr.bwP B2.out t3 hp);have O3:=qA (O2.out.trP t3 dD);have s3:=B3.out.size;have z3:=t3.size;clear c3 t3 C2 O2 B2;by_cases e0:n=0
 ·subst e0;go_wp2_with fail;refine(qAJ p A cap cs 6 _ C3.out tO tO).mono ?_
  rintro e w4 ⟨y,rfl,⟨y0,y1⟩,c4,t4⟩;have B4:=qA (Tr.bwP B3.out t4 hp);have O4:=qA (O3.out.trP t4 dD);have DF:IntKind.i64.wrap (y-1)=y-1:=by rw[IntKind.wrap_i64];omega
  clear c4 t4;go_wp2;exact bodyPost_ret (v:= .tuple #[.int .i64 (y-1), .slice Ax mx cx]) (by simp[results,Tryz.results84,go_sem]) rfl ⟨_,_,xs,rfl,⟨tO,tO⟩,O4.out.mono s1,⟨tO, .inl cY.out⟩,B4.out⟩
 ·by_cases e1:n=1
  ·subst e1;have HZ:Hid (I64 0):=qA ⟨tO,tO⟩;go_wp2_with ((at_builtin;refine qN rfl (.tmp 20) (.tmp 21) rfl _ _ _ (OwI.alloc O3.out _) rfl _ _ rfl (qG _ _ _) HZ.out (by first | omega | (simp<;>omega)) (by first | omega | (simp<;>omega)) ?_;intro v7 wv7 o7 g7 p7);have O7:=qA o7;have B7:=qA ((B3.out.alloc s3 _).grown g7 (by simp;omega) (fun b hb=>by have:=(O3.out.1.lt b hb).1;omega));obtain⟨A7,m7,c7,rfl⟩:=o7.any2;clear o7 g7 p7)
   exact bodyPost_ret (v:= .tuple #[.int .i64 2, .slice A7 m7 c7]) (by simp[results,Tryz.results84,go_sem]) rfl ⟨_,_,_,rfl,⟨tO,tO⟩,O7.out.mono s1,⟨by simp;omega, .inr (by simp)⟩,B7.out⟩
  ·go_wp2;exact bodyPost_ret (v:= .tuple #[.int .i64 2, .slice Ax mx cx]) (by simp[results,Tryz.results84,go_sem]) rfl ⟨_,_,xs,rfl,⟨tO,tO⟩,O3.out.mono s1,⟨tO, .inl cY.out⟩,B3.out⟩
theorem qJn (v:Value) (cs:List Int) (w:World) (h:ArgC w v cs) (hl:cs.length≤1048576):
  Calls Tryz.prog 36 #[v] w fun e w'=> ∃(r:Int) (u:Value) (xs:List Int),e= .returned (.tuple #[.int .i64 r,u])∧(-1≤r∧r≤4)∧OwI w' w.heap.size u xs∧(xs.length≤11∧(ImW xs∨0∈xs))∧Below w.heap.size w w':=by
 have HN:=qA (qJj v cs w h hl);clear h;go_enter Tryz.func36,Tryz.ntmps36
 go_wp2_with fail;refine HN.out.mono ?_;rintro e w1 ⟨r,u,xs,rfl,hr,o1,cX,b1⟩;have O1:=qA o1;have B1:=qA b1;obtain⟨A1,m1,c1,rfl⟩:=o1.any2;clear o1 b1;go_wp2;exact bodyPost_ret (v:= .tuple #[.int .i64 r, .slice A1 m1 c1]) (by simp[results,Tryz.results36,go_sem]) rfl ⟨r,_,xs,rfl,hr,O1.out,cX,B1.out⟩
theorem qJr (v:Value) (cs:List Int) (w:World) (h:ArgC w v cs) (hl:cs.length≤1048576):
  Calls Tryz.prog 47 #[v] w fun e w'=> ∃(r:Int),e= .returned (.int .i64 r)∧(-1≤r∧r≤5)∧Below w.heap.size w w':=by
 have HN:=qA (qGm v cs w h hl);clear h;go_enter Tryz.func47,Tryz.ntmps47
 go_wp2_with fail;refine HN.out.mono ?_;rintro e w1 ⟨p,A,cap,rfl,c1,hp,b1⟩;have C1:=qA c1;have B1:=qA b1;clear c1 b1 HN;go_wp2_with fail;refine(qAJ p A cap cs 6 _ C1.out tO tO).mono ?_
 rintro e w2 ⟨x,rfl,⟨x0,x6⟩,c2,t2⟩;have B2:=qA (Tr.bwP B1.out t2 hp);have DF:IntKind.i64.wrap (x-1)=x-1:=by rw[IntKind.wrap_i64];omega
 clear c2 t2;go_wp2;exact bodyPost_ret (v:= .int .i64 (x-1)) (by simp[results,Tryz.results47,go_sem]) rfl ⟨x-1,rfl,⟨tO,tO⟩,B2.out⟩
structure FrN (F:List Nat) (w w':World):Prop where
 os:w'.os=w.os
 tape:w'.tape=w.tape
 output:w'.output=w.output
 size:w.heap.size≤w'.heap.size
 block: ∀b,b<w.heap.size→b∉F→w'.heap[b]? =w.heap[b]?
theorem FrN.refl (F:List Nat) (w:World):FrN F w w:=⟨rfl,rfl,rfl,zaa _,fun _ _ _=>rfl⟩
theorem FrN.trans {F:List Nat} {w w1 w2:World} (h:FrN F w w1) (h':FrN F w1 w2):FrN F w w2:=
 ⟨h'.os.trans h.os,h'.tape.trans h.tape,h'.output.trans h.output,zam h.size h'.size,fun b h1 h2=>(h'.block b (zah h1 h.size) h2).trans (h.block b h1 h2)⟩
theorem FrN.grown {F:List Nat} {w w1:World} {row:Option Nat} (h:w.grownBy w1 row) (hr: ∀b,row=some b→b∈F):FrN F w w1:=⟨h.os,h.tape,h.output,h.size,fun b h1 h2=>h.block b h1 fun e=>h2 (hr b e.symm)⟩
def key2 (x:Int):Int:=if x<0 then-2*x+1 else 2*x
theorem qOU {a b:Int} (h:key2 a=key2 b):a=b:=by
 unfold key2 at h;repeat' split at h
 all_goals omega
def cmpY:List Int→List Int→Int
 | x::xs,y::ys=>if key2 x<key2 y then-1 else if key2 y<key2 x then 1 else cmpY xs ys
 | _,_=>0
def cK (a b:List Int):Int:=if a.length<b.length then-1 else if b.length<a.length then 1 else cmpY a b
theorem qIc: ∀ {a b:List Int},a.length=b.length→(cmpY a b=0↔a=b)
 | [],[],_=>by simp[cmpY]
 | x::a,y::b,h=>by
   have ih:=qIc (a:=a) (b:=b) (by simpa using h);unfold cmpY;by_cases h1:key2 x<key2 y
   ·rw[if_pos h1];have:x≠y:=by rintro rfl;omega
    simp[this]
   ·by_cases h2:key2 y<key2 x
    ·rw[if_neg h1,if_pos h2];have:x≠y:=by rintro rfl;omega
     simp[this]
    ·rw[if_neg h1,if_neg h2,ih];have e:x=y:=qOU tO;simp[e]
theorem qJN: ∀ {a b:List Int},cmpY a b<0↔0<cmpY b a
 | [],_=>by simp[cmpY]
 | _::_,[]=>by simp[cmpY]
 | x::a,y::b=>by
   have ih:=qJN (a:=a) (b:=b);unfold cmpY;by_cases h1:key2 x<key2 y
   ·rw[if_pos h1,if_neg tO,if_pos h1];omega
   ·by_cases h2:key2 y<key2 x
    ·rw[if_neg h1,if_pos h2,if_pos h2];omega
    ·rw[if_neg h1,if_neg h2,if_neg h2,if_neg h1,ih]
theorem qHK: ∀ {a b d:List Int},cmpY a b<0→cmpY b d<0→cmpY a d<0
 | [],_,_,h,_=>by simp[cmpY] at h
 | _::_,[],_,h,_=>by simp[cmpY] at h
 | _::_,_::_,[],_,h=>by simp[cmpY] at h
 | x::a,y::b,z::d,h1,h2=>by
   have ih:=qHK (a:=a) (b:=b) (d:=d);unfold cmpY at h1 h2⊢;by_cases p1:key2 x<key2 y
   ·by_cases p2:key2 y<key2 z
    ·rw[if_pos tO];decide
    ·rw[if_neg p2] at h2;by_cases p3:key2 z<key2 y
     ·rw[if_pos p3] at h2;omega
     ·rw[if_pos tO];decide
   ·rw[if_neg p1] at h1;by_cases p4:key2 y<key2 x
    ·rw[if_pos p4] at h1;omega
    ·rw[if_neg p4] at h1;by_cases p2:key2 y<key2 z
     ·rw[if_pos tO];decide
     ·rw[if_neg p2] at h2;by_cases p3:key2 z<key2 y
      ·rw[if_pos p3] at h2;omega
      ·rw[if_neg p3] at h2;rw[if_neg tO,if_neg tO];exact ih h1 h2
theorem qDp:TOrd cK where
 zero:=by
  intro a b;unfold cK;by_cases h1:a.length<b.length
  ·rw[if_pos h1];have:a≠b:=by rintro rfl;omega
   simp[this]
  ·by_cases h2:b.length<a.length
   ·rw[if_neg h1,if_pos h2];have:a≠b:=by rintro rfl;omega
    simp[this]
   ·rw[if_neg h1,if_neg h2];exact qIc tO
 anti:=by
  intro a b;unfold cK;by_cases h1:a.length<b.length
  ·rw[if_pos h1,if_neg tO,if_pos h1];omega
  ·by_cases h2:b.length<a.length
   ·rw[if_neg h1,if_pos h2,if_pos h2];omega
   ·rw[if_neg h1,if_neg h2,if_neg h2,if_neg h1];exact qJN
 trans:=by
  intro a b d h1 h2;unfold cK at*;by_cases p1:a.length<b.length
  ·by_cases p2:b.length<d.length
   ·rw[if_pos tO];decide
   ·rw[if_neg p2] at h2;by_cases p3:d.length<b.length
    ·rw[if_pos p3] at h2;omega
    ·rw[if_pos tO];decide
  ·rw[if_neg p1] at h1;by_cases p4:b.length<a.length
   ·rw[if_pos p4] at h1;omega
   ·rw[if_neg p4] at h1;by_cases p2:b.length<d.length
    ·rw[if_pos tO];decide
    ·rw[if_neg p2] at h2;by_cases p3:d.length<b.length
     ·rw[if_pos p3] at h2;omega
     ·rw[if_neg p3] at h2;rw[if_neg tO,if_neg tO];exact qHK h1 h2
def qCq (w:List Int):Prop:= ∀x∈w,-3≤x∧x≤3
theorem qIL {x:Int} (h: -3≤x∧x≤3):keyL x=key2 x:=by
 unfold keyL key2;rw[if_neg tO]
theorem qPX: ∀ {a b:List Int},qCq a→qCq b→cmpZ a b=cmpY a b
 | [],[],_,_=>rfl
 | [],_::_,_,_=>rfl
 | _::_,[],_,_=>rfl
 | x::a,y::b,h1,h2=>by
   have ih:=qPX (a:=a) (b:=b) (fun z hz=>h1 z (by simp[hz])) (fun z hz=>h2 z (by simp[hz]));have hx:=h1 x (by simp);have hy:=h2 y (by simp);unfold cmpZ cmpY;rw[qKh (by unfold I64;omega) (by unfold I64;omega),qIL hx,qIL hy,ih];unfold cmpI;by_cases p1:key2 x<key2 y
   ·simp[p1]
   ·by_cases p2:key2 y<key2 x
    ·simp[p1,p2]
    ·simp[p1,p2]
theorem qPP {a b:List Int} (h1:qCq a) (h2:qCq b):cmpW a b=cK a b:=by
 unfold cmpW cK;by_cases e:a.length=b.length
 ·rw[if_pos e,if_neg tO,if_neg tO,qPX h1 h2]
 ·rw[if_neg e];unfold cmpI;by_cases p1:a.length<b.length
  ·rw[if_pos tO,if_pos p1]
  ·rw[if_neg tO,if_neg p1,if_pos tO,if_pos tO]
def movF (r:Int):List MoD:=relF r++(qh r).map (whM r)
def yF (m:MoD) (u:List Int):List Int:=cycF (expL m.2 u)
def lvK (n:Nat) (u:List Int):List MoD→List (List Int)→Option (List (List Int))
 | [],q=>some q
 | m::M,q=>if(yF m u).length=n∧yF m u∉q then(if 60≤q.length then none else lvK n u M (q++ [yF m u])) else lvK n u M q
def lvGo (M:List MoD) (n:Nat):Nat→Nat→List (List Int)→Option (List (List Int))
 | 0,_,q=>some q
 | f+1,i,q=>if h:i<q.length then(match lvK n q[i] M q with | none=>none | some q'=>lvGo M n f (i+1) q') else some q
def levF (r:Int) (w:List Int):List (List Int)×Bool:=
 if qY r w=true∧(redF r w).1.length≤6 then(match lvGo (movF r) (redF r w).1.length 60 0 [(redF r w).1] with | none=>([],false) | some q=>(srt cK q,true)) else([],false)
structure Que (r:Int) (n:Nat) (q:List (List Int)):Prop where
 nd:q.Nodup
 len:q.length≤60
 el: ∀w∈q,w.length=n∧ ∀x∈w,letB r x=true
theorem Que.push {r:Int} {n:Nat} {q:List (List Int)} (h:Que r n q) {y:List Int} (hl:y.length=n) (hy: ∀x∈y,letB r x=true) (hn:y∉q) (hq: ¬60≤q.length):Que r n (q++ [y]):=by
 refine⟨zat.2 ⟨h.nd,by simp,fun a ha b hb=>by rw[zan] at hb;subst hb;rintro rfl;exact hn ha⟩,by rw[zaf,zai];omega,fun w hw=> ?_⟩;rcases zaj.1 hw with hw | hw
 ·exact h.el w hw
 ·rw[zan] at hw;subst hw;exact⟨hl,hy⟩
def okM (r:Int) (m:MoD):Prop:=m.2.length≤3∧I64 m.1∧ ∀p∈m.2,p.length≤3∧ ∀x∈p,letB r x=true
theorem qNd {r:Int} (hr:inB r 1 3=true): ∀m∈movF r,okM r m:=by
 have hb:=qP.1 hr;intro m hm;rcases zaj.1 hm with hm | hm
 ·unfold relF at hm;rw[if_pos hr] at hm;obtain⟨l,hl,rfl⟩:=zar.1 hm;obtain⟨h1,h2⟩:=qFq _ _ l hl;refine⟨by unfold relM;simp;omega,⟨by show(-9223372036854775808:Int)≤(r.toNat:Int);omega,by show(r.toNat:Int)≤9223372036854775807;omega⟩,fun p hp=> ?_⟩;obtain⟨x,hx,rfl⟩:=zar.1 hp;refine⟨by simp,fun y hy=> ?_⟩;rw[zan] at hy;subst hy;have:=qAm (h2 y hx)
  exact(qAB hr).2 tO
 ·obtain⟨d,hd,rfl⟩:=zar.1 hm;unfold whM;rcases e:whB r d with _ | _
  ·rw[if_neg (by decide)];exact⟨by simp,by unfold I64;simp,by simp⟩
  ·rw[if_pos rfl];have hw:=qCi e;exact⟨by rw[qDb];omega,⟨by show(-9223372036854775808:Int)≤r;omega,by show r≤(9223372036854775807:Int);omega⟩,fun p hp=>⟨qGa d _ p hp,qFG hw.2 hr tO p hp⟩⟩
theorem qPN {r:Int} (hr:inB r 1 3=true) {m:MoD} (hm:okM r m) (u:List Int): ∀x∈yF m u,letB r x=true:=by
 intro x hx;obtain⟨b,hb,h⟩:=qKs (qFu hx);rcases h with h | h
 ·exact(hm.2.2 b hb).2 x h
 ·exact qKt hr (hm.2.2 b hb).2 h
theorem qPK {r:Int} {m:MoD} (hm:okM r m) (u:List Int) (hu:u.length≤6):(expL m.2 u).length≤18∧(yF m u).length≤18:=by
 have h1:=qLJ (B:=m.2) (M:=3) (fun b hb=>(hm.2.2 b hb).1) u;have h2:(u.take 200).length≤6:=by rw[zaD];omega
 have h3:=Nat.mul_le_mul_right 3 h2;have h4:=qFp (expL m.2 u);unfold yF;omega
theorem qJA {r:Int} (hr:inB r 1 3=true) {w:List Int} (h: ∀x∈w,letB r x=true):qCq w:=fun x hx=>by
 have hb:=qP.1 hr;have:=(qAB hr).1 (h x hx)
 omega
theorem qGX (r:Int):(qh r).length≤1000:=by
 rcases e:inB r 1 3 with _ | _
 ·have:qh r= []:=by unfold qh;rw[e];rfl
  rw[this];simp
 ·obtain⟨h1,h2⟩:=qP.1 e;have:r=1∨r=2∨r=3:=tO
  rcases this with rfl | rfl | rfl<;>decide
theorem qFm (r:Int):(relF r).length≤1000:=by
 rcases e:inB r 1 3 with _ | _
 ·have:relF r= []:=by unfold relF;rw[e];rfl
  rw[this];simp
 ·obtain⟨h1,h2⟩:=qP.1 e;have:r=1∨r=2∨r=3:=tO
  rcases this with rfl | rfl | rfl<;>decide
theorem qLE {r:Int} {w:List Int} (h:qY r w=true) (hl:(redF r w).1.length≤6):Que r (redF r w).1.length [(redF r w).1]:=by
 have hg: ∀n c l,qDG r c→qDG r (qDi r n c l).1:=by
  intro n;induction n with
  | zero=>intro c l h;exact h
  | succ n ih=>
    intro c l h;unfold qDi;split
    ·exact h
    ·rename_i d hd
     exact ih _ _ (qFC h hd)
 have bO:qDG r (redF r w).1:=by
  unfold redF;rw[if_pos h];exact hg _ _ _ (qGL h)
 exact⟨by simp,by simp,fun u hu=>by rw[zan] at hu;subst hu;exact⟨rfl,bO.2.1⟩⟩
theorem qGq {w:World} {v:Value} {q:List (List Int)} {F:List Nat} (h:OwLf EI 24 1 w v q F) (hn:F.Nodup):RdII w v q:=
 OwII.rd (lo:=0) (hi:=F.foldr (fun a b=>a+b) 0+F.length+1+(F.foldr Nat.max 0)) (OwnL.of_f h hn fun b hb=>⟨zak _,by
  have: ∀F:List Nat,b∈F→b≤F.foldr Nat.max 0:=by
   intro F;induction F with
   | nil=>intro h;cases h
   | cons a F ih=>
     intro h;rw[List.foldr_cons];rcases zaO.1 h with rfl | h
     ·exact Nat.le_max_left _ _
     ·exact zam (ih h) (Nat.le_max_right _ _)
  have:=this F hb
  omega⟩)
theorem qHY {w0 w:World} {v:Value} {L:List (List Int)} {F:List Nat} {ops:Array Oper} {rest:List Oper} {o:Oper} {a:Act} {Q:Exit→Act→World→Prop} (bO:o.guard=none) (s x:Operand)
  (ho:o.op= .call {callee:= .builtin .append,args:= #[s,x],argTypes:= #[29,29]})
  (ab:OwLf EI 24 1 w0 v L F) (cF:F.Nodup) (hF: ∀b∈F,b<w0.heap.size) (aa:Below w0.heap.size w0 w) (hs:a.eval s=v) (b:Nat) (z:Value) (d:List Int) {base:Nat} (hx:a.eval x= .slice (some ⟨b,0,none⟩) 1 1)
  (hel:OwI w base z d) (aq:w0.heap.size≤base) (hc:w.cell? ⟨b,0,none⟩=some z) (hz:z.oneCell'=true) (hl:L.length≤1073741824)
  (h: ∀v' w' F',OwLf EI 24 1 w' v' (L++ [d]) F'→F'.Nodup→(∀b∈F',(b∈F∨w0.heap.size≤b)∧b<w'.heap.size)→w.grownBy w' v.ownBlock→wpList Tryz.prog ops Q rest (a.put o.dst v') w'):
  wpList Tryz.prog ops Q (o::rest) a w:=by
 obtain⟨i0,a7,aS,ao,aP⟩:=info_parts qEK;refine qIg EI.stable bO s x ho Tryz.underlying29 a7 aS ao aP rfl (by decide) (by decide) ab cF hF aa hs b [z] d _ hx (EI.of hel) rfl ?_ ?_ ?_ ?_ hl h
 ·cases z.ownBlock<;>simp
 ·intro k hk;have:=hel.1.lt k (by simpa using hk)
  omega
 ·intro j u hj;match j,hj with
  | 0,hj=>simp at hj;subst hj;exact hc
 ·intro u hu;simp at hu;subst hu;exact hz
theorem qNa (u v:Value) (q:List (List Int)) (y:List Int) (w:World) (h:RdII w u q) (h':RdI w v y) (hl:q.length≤1073741824):
  Calls Tryz.prog 89 #[u,v] w fun e w'=>e= .returned (.bool (decide (y∈q)))∧ ∃n,w'=w.drewN n:=by
 have H:=qA h;have H':=qA h';obtain⟨A,cap,rfl,aj,hm,_⟩:=h.form;unfold maxLen at hm;clear h h';go_enter Tryz.func89,Tryz.ntmps89
 go_wp2;go_loopw [5] (fun i wr=> ∃k:Nat,k≤q.length∧i= .int .i64 k∧y∉q.take k∧ ∃n,wr=w.drewN n) (fun i _=>q.length-(intOf i).toNat)
 case atStart=>exact⟨0,zak _,rfl,by simp,0,rfl⟩
 case round=>
  obtain⟨k,hk,rfl,dy,n,rfl⟩:=hrel;have di:=qA dy;clear dy;by_cases ac:k<q.length
  ·obtain⟨b,off,A1,ah,rfl,hb,hc,_,_,hr⟩:=H.out.at ac;have HT:Hid (q.take (k+1)=q.take k++ [q[k]]):=qA (zaq ac);have HM:=qA (zag ac);have HR:=qA hr;have eL:(k:Int)<(q.length:Int):=tO;clear hr;generalize q[k]=x at*;rcases e1:decide (x=y) with _ | _
   ·have HE:=qA fun w (h:ArgI w (.slice A1 x.length ah) x) (h':ArgI w v y)=>qAj _ v x y w h h';rw[e1] at HE;have ai:x≠y:=of_decide_eq_false e1;have bk:=qA ai;clear e1 ai;go_wp2_with (go_at_call 96;refine(HE.out _ (HR.out.drewN n).arg (H'.out.drewN n).arg).mono ?_;rintro e w1 ⟨rfl,n1,rfl⟩)
    go_roundw
    case rel=>exact⟨k+1,tO,by go_num,by rw[HT.out];simp only[zaj,zan,not_or];exact⟨di.out,fun h:y=x=>bk.out h.symm⟩,_,rfl⟩
    case measure=>(first | omega | (simp[intOf];omega))
   ·have HE:=qA fun w (h:ArgI w (.slice A1 x.length ah) x) (h':ArgI w v y)=>qAj _ v x y w h h';rw[e1] at HE;have bN:Hid (x=y):=qA (of_decide_eq_true e1);clear e1;go_wp2_with (go_at_call 96;refine(HE.out _ (HR.out.drewN n).arg (H'.out.drewN n).arg).mono ?_;rintro e w1 ⟨rfl,n1,rfl⟩)
    go_ret;exact⟨qC (by symm;rw[decide_eq_true_eq,←bN.out];exact HM.out),_,rfl⟩
  ·obtain rfl:k=q.length:=tO
   go_wp2;go_ret;refine⟨qC ?_,n,rfl⟩;have h1:=di.out;rw[zax] at h1;simp[h1]
theorem qIX (r:Int) (w:World) (hr:I64 r):
  Calls Tryz.prog 88 #[.int .i64 r] w fun e w'=> ∃v,e= .returned v∧OMS w.heap.size w'.heap.size v (movF r) w'∧Below w.heap.size w w':=by
 have HR:=qA hr;have wL:=qA (qGX r);have fY:=qA (qFm r);have ib:Hid (∀d∈qh r,d.2.length≤1073741824):=qA (qCQ r).2;go_enter Tryz.func88,Tryz.ntmps88
 go_wp2_with (first
  | (go_at_call 49;refine(qBH r _ HR.out).mono ?_;rintro e w1 ⟨v1,rfl,o1,b1⟩;have O1:=qA o1;have B1:=qA b1;obtain⟨A1,m1,c1,rfl⟩:=o1.any;clear o1 b1)
  | (go_at_call 33;refine(qAR r _).mono ?_;rintro e w2 ⟨v2,rfl,o2,b2⟩;have O2:=qA o2;have B2:=qA b2;obtain⟨A2,am,rfl,_⟩:=o2.len;clear o2 b2))
 have aA:=B1.out.size;have bK:=B2.out.size;obtain⟨F0,u4,fZ,sE⟩:=O1.out;have H0:=qA u4;have q6:=qA fZ;have jJ:=qA sE;clear u4 fZ sE O1 hr;have lg:=wL.out;generalize hL:qh r=L at*;have cd:Hid (movF r=relF r++L.map (whM r)):=qA (by unfold movF;rw[hL]);clear hL;have De:=fY.out;generalize relF r=R at*;go_loopw [3,5] (fun out i wr=> ∃k:Nat,k≤L.length∧i= .int .i64 k∧ ∃F',OwLf EM 31 2 wr out (R++(L.take k).map (whM r)) F'∧F'.Nodup∧(∀b∈F',(b∈F0∨w2.heap.size≤b)∧b<wr.heap.size)∧FrN F0 w2 wr)
  (fun _ i _=>L.length-(intOf i).toNat)
 case atStart=>
  exact⟨0,zak _,rfl,F0,by simpa using H0.out.stable EM.stable fun b hb=>B2.out.block b (jJ.out b hb).2,q6.out,fun b hb=>⟨.inl hb,zah (jJ.out b hb).2 bK⟩,FrN.refl _ _⟩
 case round=>
  obtain⟨k,hk,rfl,F',x1,x2,x3,x4⟩:=hrel;have X1:=qA x1;have X2:=qA x2;have X3:=qA x3;have X4:=qA x4;obtain⟨Ao,mo,co,rfl⟩:=OwLf.formR x1;have fL:=x4.size;clear x1 x2 x3 x4;by_cases ac:k<L.length
  ·obtain⟨g,cs,Fe,rfl,fd,dC,hE,gO,ci,fJ,hc,dE,iE,kc⟩:=(O2.out.keep EWh.stable (w':=wr) fun b h1 h2=>X4.out.block b h2 fun hb=>by have:=jJ.out b hb;omega).focus EWh.stable ac;obtain⟨s,rfl,hd,ho,_⟩:=EWh.at hE;have c0:=hc 0 (by simp);have c1:=hc 1 (by simp);simp only[zaB,zaC,zaP] at c0 c1;have HA:Hid (qCv wr (.agg #[.int .i64 L[k].1,s]) L[k]):=qA ⟨s,rfl,hd,ho.arg⟩;have pG:=qA (fun (W:World) (h:qCv W (.agg #[.int .i64 L[k].1,s]) L[k])=>qy r (.agg #[.int .i64 L[k].1,s]) L[k] W HR.out h (ib.out _ (zag ac)));have iM:Hid (R++(L.take (k+1)).map (whM r)=(R++(L.take k).map (whM r))++ [whM r L[k]]):=qA (by rw[zaq ac,zap,←zas];rfl);have rp:(R++(L.take k).map (whM r)).length≤1073741824:=by rw[zaf,zaF,zaD];omega
   have eL:(k:Int)<(L.length:Int):=tO;have cY:=qA (qKL L[k] HR.out);clear hc dE kc ci fJ hE ho hd gO fd dC;generalize R++(L.take k).map (whM r)=Q0 at*;generalize L[k]=d at*;obtain⟨d1,d2⟩:=d;simp only at c0 c1 HA pG
   have mE:g<wr.heap.size:=iE;go_wp2_with fail;refine(pG.out _ HA.out).mono ?_
   rintro e w3 ⟨sm,rfl,o3,b3⟩;have O3:=qA o3;have B3:=qA b3;obtain⟨A3,m3,c3,rfl⟩:=o3.any;have dd:=b3.size;clear o3 b3;obtain⟨M,hM⟩: ∃M:MoD,M=whM r (d1,d2):=⟨_,rfl⟩;rw[←hM] at O3 cY iM;rw[←hM];have rC:=cY.out;have bv:Hid (Below wr.heap.size wr ((w3.alloc (.cells #[.int .i64 M.1, .slice A3 m3 c3] 31)).alloc (.cells #[.int .i64 M.1, .slice A3 m3 c3] 31))):=qA ((B3.out.alloc dd _).alloc (by simp;omega) _);have jZ:Hid (∀j u,[Value.int .i64 M.1, .slice A3 m3 c3][j]? =some u→((w3.alloc (.cells #[.int .i64 M.1, .slice A3 m3 c3] 31)).alloc (.cells #[.int .i64 M.1, .slice A3 m3 c3] 31)).cell? ⟨w3.heap.size+1,j,none⟩=some u):=qA fun j u hj=>by
    match j,hj with
    | 0,hj=>simp at hj;subst hj;simp[go_sem]
    | 1,hj=>simp at hj;subst hj;simp[go_sem]
   have en:Hid (OwII wr.heap.size w3.heap.size (.slice A3 m3 c3) M.2 ((w3.alloc (.cells #[.int .i64 M.1, .slice A3 m3 c3] 31)).alloc (.cells #[.int .i64 M.1, .slice A3 m3 c3] 31))):=qA (O3.out.keep EI.stable fun b _ hb=>(zaE _ _ b (by simp;omega)).trans (zaE w3 _ b hb));have gE:Hid (∀b∈F',b<wr.heap.size):=qA fun b hb=>(X3.out b hb).2;clear hM pG;go_wp2_with (at_builtin;refine qHo rfl (.tmp 27) (.tmp 29) rfl X1.out X2.out gE.out bv.out rfl _ _ M rfl en.out rC (zaa _) (by simp;omega) jZ.out rfl rp ?_;intro vz wz Fz oz1 oz2 oz3 gz;obtain⟨Av,mv,cv,rfl⟩:=OwLf.formR oz1;have pF:=qA oz1;have pT:=qA oz2;have lN:=qA oz3;have GZ:=qA gz;clear oz1 oz2 oz3 gz)
   have pX:=bv.out.size;have iE:=GZ.out.size;go_roundw
   case rel=>
    refine⟨k+1,tO,by go_num,Fz,by rw[iM.out];exact pF.out,pT.out,fun y hy=>⟨?_,(lN.out y hy).2⟩,⟨?_,?_,?_,tO,fun y h1 h2=> ?_⟩⟩
    ·rcases(lN.out y hy).1 with h | h
     ·exact(X3.out y h).1
     ·exact .inr tO
    ·exact GZ.out.os.trans (bv.out.os.trans X4.out.os)
    ·exact GZ.out.tape.trans (bv.out.tape.trans X4.out.tape)
    ·exact GZ.out.output.trans (bv.out.output.trans X4.out.output)
    ·refine(GZ.out.block y tO fun e=> ?_).trans ((bv.out.block y tO).trans (X4.out.block y h1 h2))
     rcases(X3.out y (X1.out.mem e.symm)).1 with h | h
     ·exact h2 h
     ·omega
   case measure=>(first | omega | (simp[intOf];omega))
  ·obtain rfl:k=L.length:=tO
   have Ff:Hid (OwLf EM 31 2 wr (.slice Ao mo co) (movF r) F'):=qA (by have h:=X1.out;rw[zax] at h;rw[cd.out];exact h);clear X1;go_wp2;refine bodyPost_ret (v:= .slice Ao mo co) (by simp[results,Tryz.results88,go_sem]) rfl ⟨_,rfl,⟨F',Ff.out,X2.out,fun b hb=>⟨?_,(X3.out b hb).2⟩⟩,?_⟩
   ·rcases(X3.out b hb).1 with h | h
    ·exact(jJ.out b h).1
    ·omega
   ·exact(B1.out.trans (B2.out.mono aA)).trans ⟨X4.out.os,X4.out.tape,X4.out.output,X4.out.size,fun b hb=>X4.out.block b tO fun h=>by have:=jJ.out b h;omega⟩
abbrev Trip:=List Value×List Int×List Nat
theorem qPQ {w:World} {A:Option Addr} {m cap:Nat} {es:List Trip} (h2: ∀e∈es,e.1.length=1∧EI w e.1 e.2.1 e.2.2) (h3:w.ownsRow 0 24 1 (.slice A m cap) es.length (es.map (·.1)).flatten) (k:Nat) (hk:k<es.length):
  ∃g A1 ah,A=some ⟨g,0,none⟩∧g<w.heap.size∧es[k].1= [.slice A1 es[k].2.1.length ah]∧w.cell? ⟨g,k,none⟩=some (.slice A1 es[k].2.1.length ah)∧OwI w 0 (.slice A1 es[k].2.1.length ah) es[k].2.1:=by
 obtain⟨f1,f2⟩:=qJP es fun e he=>(h2 e he).1;obtain⟨s,hs,ho,_⟩:=(h2 es[k] (zag hk)).2;obtain⟨A1,ah,rfl,_⟩:=ho.form;obtain⟨A',cap',hv,_,_,_,hg⟩:=qr h3;obtain⟨g,hA,_,_⟩:=hg tO;injection hv with e1 e2 e3
 subst e1 e2 e3;subst hA;have ac:=(h3.lt g rfl).2;have Bo:k<((es.map (·.1)).flatten).length:=by rw[f1];exact hk
 have hc:=h3.cellAt k (show k<es.length*1 by omega);rw[zaI Bo] at hc;have:=f2 k hk Bo
 rw[hs] at this;injection this with this
 rw[←this] at hc;exact⟨g,A1,ah,rfl,ac,hs,hc,ho⟩
structure NewE (w:World) (wr:World) (out:Value) (e:Trip):Prop where
 one:e.1.length=1
 el:EI wr e.1 e.2.1 e.2.2
 nd:e.2.2.Nodup
 at_: ∀b∈e.2.2,w.heap.size≤b∧b<wr.heap.size∧out.ownBlock≠some b
theorem qJU {es es':List Trip} (h:es.Perm es'):((es.map (·.2.2)).flatten).Perm (es'.map (·.2.2)).flatten:=(h.map _).flatten
theorem qMM {w wr:World} {u out:Value} {es nw os:List Trip} (hp:os.Perm (nw++es)) (tf:nw.length≤1) (hN: ∀e∈nw,NewE w wr out e) (h2: ∀e∈es,e.1.length=1∧EI w e.1 e.2.1 e.2.2)
  (cF:(u.ownBlock.toList++(es.map (·.2.2)).flatten).Nodup) (hF: ∀b∈u.ownBlock.toList++(es.map (·.2.2)).flatten,b<w.heap.size) (aG:wr.ownsRow w.heap.size 24 1 out os.length (os.map (·.1)).flatten) (hb:Below w.heap.size w wr):
  ∃F',OwLf EI 24 1 wr out (os.map (·.2.1)) F'∧F'.Nodup∧ ∀b∈F',(b∈u.ownBlock.toList++(es.map (·.2.2)).flatten∨w.heap.size≤b)∧b<wr.heap.size:=by
 have vn:=qJU hp;rw[zap,zay] at vn;have mG: ∀b∈(es.map (·.2.2)).flatten,b<w.heap.size:=fun b h=>hF b (zaj.2 (.inr h));have oY: ∀b∈(nw.map (·.2.2)).flatten,w.heap.size≤b∧b<wr.heap.size∧out.ownBlock≠some b:=fun b h=>by
  obtain⟨l,hl,aM⟩:=zaJ.1 h;obtain⟨e,he,rfl⟩:=zar.1 hl;exact(hN e he).at_ b aM
 have AZ:((nw.map (·.2.2)).flatten).Nodup:=by
  match nw,tf,hN with
  | [],_,_=>simp
  | [e],_,hN=>simpa using (hN e (by simp)).nd
  | _::_::_,h,_=>simp at h
 have hs:=hb.size;refine⟨out.ownBlock.toList++(os.map (·.2.2)).flatten,⟨os,rfl,fun e he=> ?_,?_,rfl⟩,?_,fun b ep=> ?_⟩
 ·rcases zaj.1 (hp.mem_iff.1 he) with h | h
  ·exact⟨(hN e h).one,(hN e h).el⟩
  ·refine⟨(h2 e h).1,EI.stable _ _ _ _ _ (h2 e h).2 fun b jC=>hb.block b (mG b (zaJ.2 ⟨e.2.2,zar.2 ⟨e,h,rfl⟩,jC⟩))⟩
 ·refine⟨aG.1,?_⟩;rcases aG.2 with h0 | ⟨g,cap,cur,hv,hg,r⟩
  ·exact .inl h0
  ·exact .inr ⟨g,cap,cur,hv,zak _,r⟩
 ·refine zat.2 ⟨by cases out.ownBlock<;>simp,vn.nodup_iff.2 (zat.2 ⟨AZ,(zat.1 cF).2.1,fun a ha b aE hab=> ?_⟩),fun a ha b aE hab=> ?_⟩
  ·have:=(oY a ha).1
   have:=mG b aE
   omega
  ·subst hab;have cN:out.ownBlock=some a:=by simpa using ha
   rcases zaj.1 (vn.mem_iff.1 aE) with h | h
   ·exact(oY a h).2.2 cN
   ·have:=mG a h
    have:=(aG.lt a cN).1
    omega
 ·rcases zaj.1 ep with h | h
  ·have h':out.ownBlock=some b:=by simpa using h
   have:=aG.lt b h'
   exact⟨.inr this.1,this.2⟩
  ·rcases zaj.1 (vn.mem_iff.1 h) with h | h
   ·have:=oY b h
    exact⟨.inr this.1,this.2.1⟩
   ·exact⟨.inl (zaj.2 (.inr h)),by have:=mG b h;omega⟩
theorem NewE.grow {w wr w':World} {out v':Value} {e:Trip} (h:NewE w wr out e) (hg:wr.grownBy w' out.ownBlock) (hv:v'.ownBlock=out.ownBlock∨ ∀b,v'.ownBlock=some b→wr.heap.size≤b):NewE w w' v' e:=by
 refine⟨h.one,EI.stable _ _ _ _ _ h.el fun b hb=>hg.block b (h.at_ b hb).2.1 (fun e=>(h.at_ b hb).2.2 e.symm),h.nd,fun b hb=>⟨(h.at_ b hb).1,by have:=(h.at_ b hb).2.1;have:=hg.size;omega,fun e'=> ?_⟩⟩;rcases hv with hv | hv
 ·exact(h.at_ b hb).2.2 (hv.symm.trans e')
 ·have:=hv b e'
  have:=(h.at_ b hb).2.1
  omega
theorem NewE.below {w wr w':World} {out:Value} {e:Trip} (h:NewE w wr out e) (hb:Below wr.heap.size wr w'):NewE w w' out e:=
 ⟨h.one,EI.stable _ _ _ _ _ h.el fun b jC=>hb.block b (h.at_ b jC).2.1,h.nd,fun b jC=>⟨(h.at_ b jC).1,zah (h.at_ b jC).2.1 hb.size,(h.at_ b jC).2.2⟩⟩
theorem qOv (x:List Int) (L:List (List Int)):(L.foldl (insS cK x) ([],false)).1.length≤2*L.length:=by
 have: ∀(L:List (List Int)) (s:List (List Int)×Bool),(L.foldl (insS cK x) s).1.length≤s.1.length+2*L.length:=by
  intro L;induction L with
  | nil=>intro s;simp
  | cons y L ih=>
    intro s;rw[List.foldl_cons];have h1:=ih (insS cK x s y);have h2 : (insS cK x s y).1.length ≤ s.1.length + 2 := by unfold insS;(repeat' split)<;>simp
    simp only[List.length_cons];omega
 simpa using this L ([],false)
theorem qLr (u v:Value) (L:List (List Int)) (x:List Int) (F:List Nat) (w:World) (h:OwLf EI 24 1 w u L F) (hn:F.Nodup) (hF: ∀b∈F,b<w.heap.size) (hx:RdI w v x) (hsx:qCq x) (hsL: ∀y∈L,qCq y) (hl:L.length≤1000) (cX:x.length≤1000):
  Calls Tryz.prog 90 #[u,v] w fun e w'=> ∃r F',e= .returned r∧OwLf EI 24 1 w' r (insF cK L x) F'∧F'.Nodup∧(∀b∈F',(b∈F∨w.heap.size≤b)∧b<w'.heap.size)∧Below w.heap.size w w':=by
 obtain⟨Au,mu,cu,rfl⟩:=OwLf.formR h;obtain⟨es,h1,h2,h3,rfl⟩:=h;subst h1;have xW:=qA fun k hk=>qPQ h2 h3 k hk;obtain rfl:mu=es.length:=by
  obtain⟨_,_,hv,_⟩:=qr h3;injection hv
 have H2:=qA h2;have HN:=qA hn;have HF:=qA hF;have HX:=qA hx;have io:=qA hsx;obtain⟨Ax,cx,rfl,kQ,DV,_⟩:=hx.arg;unfold maxLen at DV;have AQ:Hid (∀k (hk:k<es.length),qCq es[k].2.1):=qA fun k hk=>hsL _ (zar.2 ⟨es[k],zag hk,rfl⟩);have fe:es.length≤1000:=by simpa using hl
 have iJ:Hid (∀k (hk:k<es.length),((es.map (·.2.1)).take (k+1)).foldl (insS cK x) ([],false)=insS cK x (((es.map (·.2.1)).take k).foldl (insS cK x) ([],false)) es[k].2.1):=qA fun k hk=>by
  rw[zaq (by simpa using hk),List.foldl_append];simp
 have iM:Hid (∀k (hk:k<es.length),es.take (k+1)=es.take k++ [es[k]]):=qA fun k hk=>zaq hk;have yb:Hid (∀k,(((es.map (·.2.1)).take k).foldl (insS cK x) ([],false)).1.length≤2000):=qA fun k=>by
  have h1:=qOv x ((es.map (·.2.1)).take k);rw[zaD,zaF] at h1;omega
 have gf:Hid (insF cK (es.map (·.2.1)) x=if(((es.map (·.2.1)).take es.length).foldl (insS cK x) ([],false)).2 then(((es.map (·.2.1)).take es.length).foldl (insS cK x) ([],false)).1 else(((es.map (·.2.1)).take es.length).foldl (insS cK x) ([],false)).1++ [x]):=qA (by
  have:(es.map (·.2.1)).take es.length=es.map (·.2.1):=by rw[show es.length=(es.map (·.2.1)).length by simp,zax]
  rw[this];rfl)
 generalize (fun k=>((es.map (·.2.1)).take k).foldl (insS cK x) ([],false))=dummy at*;clear h2 h3 hn hF hx hsx hsL hl dummy;go_enter Tryz.func90,Tryz.ntmps90
 go_wp2;go_loopw [5,6,7] (fun out pl i wr=> ∃k:Nat,k≤es.length∧i= .int .i64 k∧pl= .bool (((es.map (·.2.1)).take k).foldl (insS cK x) ([],false)).2∧ ∃os nw:List Trip,os.map (·.2.1)=(((es.map (·.2.1)).take k).foldl (insS cK x) ([],false)).1∧os.Perm (nw++es.take k)∧nw.length≤1∧((((es.map (·.2.1)).take k).foldl (insS cK x) ([],false)).2=false→nw= [])∧(∀e∈nw,NewE w wr out e)∧wr.ownsRow w.heap.size 24 1 out os.length (os.map (·.1)).flatten∧Below w.heap.size w wr)
  (fun _ _ i _=>es.length-(intOf i).toNat)
 case atStart=>
  refine⟨0,zak _,rfl,rfl,[],[],rfl,by simp,by simp,fun _=>rfl,(fun e he=>by cases he),?_,(zac _ _).alloc (zaa _) _⟩;have:=qDf w [] (by simp) (zaa w.heap.size)
  simpa using this
 case round=>
  obtain⟨k,hk,rfl,rfl,os,nw,p1,p2,p3,p4,p5,p6,p7⟩:=hrel;have P1:=qA p1;have P2:=qA p2;have P4:=qA p4;have P5:=qA p5;have P6:=qA p6;have P7:=qA p7;have Fm:os.length≤2000:=by rw[←zaF (f:=fun e:Trip=>e.2.1),p1];exact yb.out k
  have ak:=p7.size;obtain⟨Ao,co,rfl,m6,oT,_⟩:=qr p6;clear p1 p2 p4 p5 p6 p7;by_cases ac:k<es.length
  ·obtain⟨g,A1,ah,rfl,hg,dJ,ae,ab⟩:=xW.out k ac;have lj:=qA fun W (h:ArgI W (.slice Ax x.length cx) x) (h':ArgI W (.slice A1 es[k].2.1.length ah) es[k].2.1)=>qBi _ _ x es[k].2.1 W h h';rw[qPP io.out (AQ.out k ac)] at lj;have JT:=qA dJ;have HY:=qA ab;have a6:=qA (iJ.out k ac);have vk:=qA (iM.out k ac);have gO:=(P7.out.cell (p:=⟨g,k,none⟩) hg).trans ae;have eL:(k:Int)<(es.length:Int):=tO;have ll:Hid (∀os:List Trip,(es[k]::os).map (·.1)= [.slice A1 es[k].2.1.length ah]::os.map (·.1)):=qA fun os=>by rw[zaN,dJ]
   have iK:Hid (∀os:List Trip,((os++ [es[k]]).map (·.1)).flatten=(os.map (·.1)).flatten++ [.slice A1 es[k].2.1.length ah]):=qA fun os=>by rw[zap,zay];simp[dJ]
   have bZ:=qA ae;clear dJ ab ae;generalize AS:((es.map (·.2.1)).take k).foldl (insS cK x) ([],false)=S at*;obtain⟨S1,S2⟩:=S;simp only at*
   clear AS;generalize es[k]=ek at*;obtain⟨ec,y,eF⟩:=ek;simp only at*
   generalize hc:cK x y=c at*;have HC:=qA hc;clear hc;rcases e1:(c==0) with _ | _
   ·have h1: ¬c=0:=by simpa using e1
    rcases e2:decide (c<0) with _ | _
    ·have h2: ¬c<0:=of_decide_eq_false e2;have a6:Hid (((es.map (·.2.1)).take (k+1)).foldl (insS cK x) ([],false)=(S1++ [y],S2)):=qA (by rw[a6.out];unfold insS;rw[HC.out,if_neg h1,if_neg (fun h=>h2 h.1)]);have tj:Hid (S2=false→S2=false):=qA id;clear h1;go_wp2_with (first
      | (go_at_call 116;(with_reducible refine(lj.out _ (HX.out.below P7.out).arg (HY.out.below P7.out).arg).mono ?_);rintro e w1 ⟨rfl,n1,aL⟩;have HD:Hid (Below wr.heap.size wr w1):=qA (by rw[aL];exact qB (zac _ _) n1);have jz:Hid (Below w.heap.size w w1):=qA (P7.out.trans (HD.out.mono ak));have ph:=(jz.out.cell (p:=⟨g,k,none⟩) hg).trans bZ.out;have ao:=HD.out.size;have O1:=qA (ql P6.out HD.out);clear aL)
      | (at_builtin;refine qCc rfl (.tmp 36) (.tmp 41) rfl w.heap.size _ os.length _ (O1.out.alloc _) rfl _ _ rfl (qG _ _ _) rfl tO (by have:=ao;simp<;>omega) ?_;intro v9 w9 o9 g9 p9;have O9:=qA o9;have G9:=qA g9;have ov:=qA p9;obtain⟨A9,c9,rfl,_⟩:=qr o9;clear o9 g9 p9))
     go_roundw
     case rel=>
      have ip:Hid (Below w.heap.size w w9):=qA ((jz.out.alloc (zam ak ao) _).grown G9.out (by have:=ao;simp<;>omega) fun j hj=>(P6.out.lt j hj).1);have oC:Hid ((zab A9 (os.length+1) c9).ownBlock=(zab Ao os.length co).ownBlock∨ ∀b,(zab A9 (os.length+1) c9).ownBlock=some b→(w1.alloc (.cells #[.slice A1 y.length ah] 24)).heap.size≤b):=qA (ov.out.imp_right fun h b hb=>by rw[h] at hb;injection hb with hb;exact zaK hb);refine⟨k+1,tO,by go_num,by rw[a6.out],os++ [(ec,y,eF)],nw,?_,?_,p3,fun h=> ?_,fun e he=> ?_,?_,ip.out⟩
      ·rw[a6.out,zap,P1.out];rfl
      ·rw[vk.out,←zas];exact P2.out.append_right _
      ·rw[a6.out] at h;exact P4.out (tj.out h)
      ·exact(((P5.out e he).below HD.out).below ((zac _ _).alloc (zaa _) _)).grow G9.out oC.out
      ·rw[iK.out,zaf,zai];exact O9.out
     case measure=>(first | omega | (simp[intOf];omega))
    ·have h2:c<0:=of_decide_eq_true e2;rcases S2 with _ | _
     ·skip;have a6:Hid (((es.map (·.2.1)).take (k+1)).foldl (insS cK x) ([],false)=(S1++ [x,y],true)):=qA (by rw[a6.out];unfold insS;rw[HC.out,if_neg h1,if_pos ⟨h2,rfl⟩]);have tf:nw= []:=P4.out rfl;subst tf;clear h1;have Ho:(x.length:Int)≤1000:=tO;go_wp2_with (first
       | (go_at_call 116;(with_reducible refine(lj.out _ (HX.out.below P7.out).arg (HY.out.below P7.out).arg).mono ?_);rintro e w1 ⟨rfl,n1,aL⟩;have HD:Hid (Below wr.heap.size wr w1):=qA (by rw[aL];exact qB (zac _ _) n1);have jz:Hid (Below w.heap.size w w1):=qA (P7.out.trans (HD.out.mono ak));have ph:=(jz.out.cell (p:=⟨g,k,none⟩) hg).trans bZ.out;have ao:=HD.out.size;have O1:=qA (ql P6.out HD.out);clear aL;have GI:=qA (HX.out.below jz.out))
       | (at_builtin;refine qi rfl (.tmp 31) (.tmp 32) rfl w1.heap.size _ [] (qW w1 [] qS (by simp) (zaa _)) rfl _ x (GI.out.alloc _) rfl (by simp;omega) (by simp) ?_;intro v6 w6 o6 g6 p6;have O6:Hid (OwI w6 w1.heap.size v6 x):=qA (by simpa using o6);have B6:Hid (Below w1.heap.size w1 w6):=qA (((zac _ _).alloc (zaa _) _).grown g6 (by simp) (fun k hk=>by simp[zau] at hk;omega));have z6:=B6.out.size;obtain⟨A6,c6,rfl,_⟩:=OwI.form O6.out;clear o6 g6 p6)
       | (at_builtin;refine qCc rfl (.tmp 30) (.tmp 34) rfl w.heap.size _ os.length _ ((ql O1.out B6.out).alloc _) rfl _ _ rfl (qG _ _ _) rfl tO (by have:=z6;simp<;>omega) ?_;intro v7 w7 o7 g7 p7;have O7:=qA o7;have G7:=qA g7;have Gp:=qA p7;obtain⟨A7,c7,rfl,_⟩:=qr o7;have jM:Hid (Below w.heap.size w w7):=qA (((jz.out.trans (B6.out.mono (zam ak ao))).alloc (zam (zam ak ao) z6) _).grown g7 (by simp<;>omega) fun j hj=>(P6.out.lt j hj).1);have Hx:=(jM.out.cell (p:=⟨g,k,none⟩) hg).trans bZ.out;have lP:=jM.out.size;clear o7 g7 p7)
       | (at_builtin;refine qCc rfl (.tmp 36) (.tmp 41) rfl w.heap.size _ (os.length+1) _ (O7.out.alloc _) rfl _ _ rfl (qG _ _ _) rfl tO (by have:=lP;simp<;>omega) ?_;intro v9 w9 o9 g9 p9;have O9:=qA o9;have G9:=qA g9;have ov:=qA p9;obtain⟨A9,c9,rfl,_⟩:=qr o9;clear o9 g9 p9))
      go_roundw
      case rel=>
       have ip:Hid (Below w.heap.size w w9):=qA ((jM.out.alloc lP _).grown G9.out (by have:=lP;simp<;>omega) fun j hj=>(O7.out.lt j hj).1);have Fd:=Gp.out;have fW: ∀b,(zab Ao os.length co).ownBlock=some b→w.heap.size≤b∧b<wr.heap.size:=fun b hb=>P6.out.lt b hb;have bk:NewE w w7 (.slice A7 (os.length+1) c7) ([.slice A6 x.length c6],x,(zab A6 x.length c6).ownBlock.toList):=by
        have jh: ∀b,(zab A6 x.length c6).ownBlock=some b→w1.heap.size≤b∧b<w6.heap.size:=fun b hb=>O6.out.1.lt b hb;refine⟨rfl,EI.stable _ _ _ _ _ (EI.of O6.out) fun b hb=> ?_,(by cases (zab A6 x.length c6).ownBlock<;>simp),fun b hb=> ?_⟩
        ·have h:=jh b (by simpa using hb);refine(G7.out.block b (by simp;omega) fun e=> ?_).trans (zaE w6 _ b h.2)
         have:=fW b e.symm
         omega
        ·have h:=jh b (by simpa using hb);have zL:=G7.out.size;simp at zL
         refine⟨tO,tO,fun e=> ?_⟩;rcases Fd with q | q
         ·rw[q] at e;have:=fW b e;omega
         ·rw[q] at e;injection e with e;simp at e;omega
       have oC:Hid ((zab A9 (os.length+1+1) c9).ownBlock=(zab A7 (os.length+1) c7).ownBlock∨ ∀b,(zab A9 (os.length+1+1) c9).ownBlock=some b→(w7.alloc (.cells #[.slice A1 y.length ah] 24)).heap.size≤b):=qA (ov.out.imp_right fun h b hb=>by rw[h] at hb;injection hb with hb;exact zaK hb);refine⟨k+1,tO,by go_num,by rw[a6.out],os++ [([.slice A6 x.length c6],x,(zab A6 x.length c6).ownBlock.toList),(ec,y,eF)],[([.slice A6 x.length c6],x,(zab A6 x.length c6).ownBlock.toList)],?_,?_,by simp,fun h=> ?_,fun e he=> ?_,?_,ip.out⟩
       ·rw[a6.out,zap,P1.out];rfl
       ·rw[vk.out,←zas,zaS os,];refine zaW.append_right _ ?_;exact(zaM).trans ((zaW.refl _).append P2.out)
       ·rw[a6.out] at h;cases h
       ·rw[zan] at he;subst he;exact(bk.below ((zac _ _).alloc (zaa _) _)).grow G9.out oC.out
       ·rw[zaS,iK.out,zap,zay,zaf,zaf,zai,zai];exact O9.out
      case measure=>(first | omega | (simp[intOf];omega))
     ·skip;have a6:Hid (((es.map (·.2.1)).take (k+1)).foldl (insS cK x) ([],false)=(S1++ [y],true)):=qA (by rw[a6.out];unfold insS;rw[HC.out,if_neg h1,if_neg (by simp)]);have tj:Hid (true=false→true=false):=qA id;clear h1;go_wp2_with (first
       | (go_at_call 116;(with_reducible refine(lj.out _ (HX.out.below P7.out).arg (HY.out.below P7.out).arg).mono ?_);rintro e w1 ⟨rfl,n1,aL⟩;have HD:Hid (Below wr.heap.size wr w1):=qA (by rw[aL];exact qB (zac _ _) n1);have jz:Hid (Below w.heap.size w w1):=qA (P7.out.trans (HD.out.mono ak));have ph:=(jz.out.cell (p:=⟨g,k,none⟩) hg).trans bZ.out;have ao:=HD.out.size;have O1:=qA (ql P6.out HD.out);clear aL)
       | (at_builtin;refine qCc rfl (.tmp 36) (.tmp 41) rfl w.heap.size _ os.length _ (O1.out.alloc _) rfl _ _ rfl (qG _ _ _) rfl tO (by have:=ao;simp<;>omega) ?_;intro v9 w9 o9 g9 p9;have O9:=qA o9;have G9:=qA g9;have ov:=qA p9;obtain⟨A9,c9,rfl,_⟩:=qr o9;clear o9 g9 p9))
      go_roundw
      case rel=>
       have ip:Hid (Below w.heap.size w w9):=qA ((jz.out.alloc (zam ak ao) _).grown G9.out (by have:=ao;simp<;>omega) fun j hj=>(P6.out.lt j hj).1);have oC:Hid ((zab A9 (os.length+1) c9).ownBlock=(zab Ao os.length co).ownBlock∨ ∀b,(zab A9 (os.length+1) c9).ownBlock=some b→(w1.alloc (.cells #[.slice A1 y.length ah] 24)).heap.size≤b):=qA (ov.out.imp_right fun h b hb=>by rw[h] at hb;injection hb with hb;exact zaK hb);refine⟨k+1,tO,by go_num,by rw[a6.out],os++ [(ec,y,eF)],nw,?_,?_,p3,fun h=> ?_,fun e he=> ?_,?_,ip.out⟩
       ·rw[a6.out,zap,P1.out];rfl
       ·rw[vk.out,←zas];exact P2.out.append_right _
       ·rw[a6.out] at h;exact P4.out (tj.out h)
       ·exact(((P5.out e he).below HD.out).below ((zac _ _).alloc (zaa _) _)).grow G9.out oC.out
       ·rw[iK.out,zaf,zai];exact O9.out
      case measure=>(first | omega | (simp[intOf];omega))
   ·have h1:c=0:=by simpa using e1
    have e2:decide (c<0)=false:=by simp;omega
    have a6:Hid (((es.map (·.2.1)).take (k+1)).foldl (insS cK x) ([],false)=(S1++ [y],true)):=qA (by rw[a6.out];unfold insS;rw[HC.out,if_pos h1]);have tj:Hid (true=false→S2=false):=qA (fun h=>by cases h);clear h1;go_wp2_with (first
     | (go_at_call 116;(with_reducible refine(lj.out _ (HX.out.below P7.out).arg (HY.out.below P7.out).arg).mono ?_);rintro e w1 ⟨rfl,n1,aL⟩;have HD:Hid (Below wr.heap.size wr w1):=qA (by rw[aL];exact qB (zac _ _) n1);have jz:Hid (Below w.heap.size w w1):=qA (P7.out.trans (HD.out.mono ak));have ph:=(jz.out.cell (p:=⟨g,k,none⟩) hg).trans bZ.out;have ao:=HD.out.size;have O1:=qA (ql P6.out HD.out);clear aL)
     | (at_builtin;refine qCc rfl (.tmp 36) (.tmp 41) rfl w.heap.size _ os.length _ (O1.out.alloc _) rfl _ _ rfl (qG _ _ _) rfl tO (by have:=ao;simp<;>omega) ?_;intro v9 w9 o9 g9 p9;have O9:=qA o9;have G9:=qA g9;have ov:=qA p9;obtain⟨A9,c9,rfl,_⟩:=qr o9;clear o9 g9 p9))
    go_roundw
    case rel=>
     have ip:Hid (Below w.heap.size w w9):=qA ((jz.out.alloc (zam ak ao) _).grown G9.out (by have:=ao;simp<;>omega) fun j hj=>(P6.out.lt j hj).1);have oC:Hid ((zab A9 (os.length+1) c9).ownBlock=(zab Ao os.length co).ownBlock∨ ∀b,(zab A9 (os.length+1) c9).ownBlock=some b→(w1.alloc (.cells #[.slice A1 y.length ah] 24)).heap.size≤b):=qA (ov.out.imp_right fun h b hb=>by rw[h] at hb;injection hb with hb;exact zaK hb);refine⟨k+1,tO,by go_num,by rw[a6.out],os++ [(ec,y,eF)],nw,?_,?_,p3,fun h=> ?_,fun e he=> ?_,?_,ip.out⟩
     ·rw[a6.out,zap,P1.out];rfl
     ·rw[vk.out,←zas];exact P2.out.append_right _
     ·rw[a6.out] at h;exact P4.out (tj.out h)
     ·exact(((P5.out e he).below HD.out).below ((zac _ _).alloc (zaa _) _)).grow G9.out oC.out
     ·rw[iK.out,zaf,zai];exact O9.out
    case measure=>(first | omega | (simp[intOf];omega))
  ·obtain rfl:k=es.length:=tO
   have Cp:Hid (es.take es.length=es):=qA zax;generalize AS:((es.map (·.2.1)).take es.length).foldl (insS cK x) ([],false)=S at*;obtain⟨S1,S2⟩:=S;simp only at*
   clear AS;rcases S2 with _ | _
   ·have tf:nw= []:=P4.out rfl;subst tf;have Ho:(x.length:Int)≤1000:=tO;go_wp2_with (first
     | (at_builtin;refine qi rfl (.tmp 46) (.tmp 47) rfl wr.heap.size _ [] (qW wr [] qS (by simp) (zaa _)) rfl _ x ((HX.out.below P7.out).alloc _) rfl (by simp;omega) (by simp) ?_;intro v1 w1 o1 g1 p1;have O1:Hid (OwI w1 wr.heap.size v1 x):=qA (by simpa using o1);have B1:Hid (Below wr.heap.size wr w1):=qA (((zac _ _).alloc (zaa _) _).grown g1 (by simp) (fun k hk=>by simp[zau] at hk;omega));have z1:=B1.out.size;obtain⟨A1,c1,rfl,_⟩:=OwI.form O1.out;clear o1 g1 p1)
     | (at_builtin;refine qCc rfl (.tmp 45) (.tmp 49) rfl w.heap.size _ os.length _ ((ql P6.out B1.out).alloc _) rfl _ _ rfl (qG _ _ _) rfl tO (by simp;omega) ?_;intro v2 w2 o2 g2 p2;have O2:=qA o2;have G2:=qA g2;have Gg:=qA p2;obtain⟨A2,c2,rfl,_⟩:=qr o2;clear o2 g2 p2))
    go_wp2;have au:Hid (Below w.heap.size w w2):=qA (((P7.out.trans (B1.out.mono ak)).alloc (zam ak z1) _).grown G2.out (by simp<;>omega) fun j hj=>(P6.out.lt j hj).1);have fW: ∀b,(zab Ao os.length co).ownBlock=some b→w.heap.size≤b∧b<wr.heap.size:=fun b hb=>P6.out.lt b hb;have Gf:=Gg.out;have bk:NewE w w2 (.slice A2 (os.length+1) c2) ([.slice A1 x.length c1],x,(zab A1 x.length c1).ownBlock.toList):=by
     have jh: ∀b,(zab A1 x.length c1).ownBlock=some b→wr.heap.size≤b∧b<w1.heap.size:=fun b hb=>O1.out.1.lt b hb;refine⟨rfl,EI.stable _ _ _ _ _ (EI.of O1.out) fun b hb=> ?_,(by cases (zab A1 x.length c1).ownBlock<;>simp),fun b hb=> ?_⟩
     ·have h:=jh b (by simpa using hb);refine(G2.out.block b (by simp;omega) fun e=> ?_).trans (zaE w1 _ b h.2)
      have:=fW b e.symm
      omega
     ·have h:=jh b (by simpa using hb);have zL:=G2.out.size;simp at zL
      refine⟨tO,tO,fun e=> ?_⟩;rcases Gf with q | q
      ·rw[q] at e;have:=fW b e;omega
      ·rw[q] at e;injection e with e;simp at e;omega
    have da:(os++ [(([.slice A1 x.length c1]:List Value),x,(zab A1 x.length c1).ownBlock.toList)]).Perm ([(([.slice A1 x.length c1]:List Value),x,(zab A1 x.length c1).ownBlock.toList)]++es):=by
     have h:=P2.out;rw[Cp.out,zaU] at h;exact(zaM).trans ((zaW.refl _).append h)
    obtain⟨F',f1,f2,f3⟩:=qMM (u:= .slice Au es.length cu) da (by simp) (fun e he=>by rw[zan] at he;subst he;exact bk) H2.out HN.out HF.out (by rw[zap,zay,zaf,zai];exact O2.out) au.out;refine bodyPost_ret (v:= .slice A2 (os.length+1) c2) (by simp[results,Tryz.results90,go_sem]) rfl ⟨_,rfl,F',?_,f2,(by simpa using f3),au.out⟩;rw[gf.out];simpa[P1.out] using f1
   ·go_wp2;obtain⟨F',f1,f2,f3⟩:=qMM (u:= .slice Au es.length cu) (by have h:=P2.out;rw[Cp.out] at h;exact h) p3 P5.out H2.out HN.out HF.out P6.out P7.out;refine bodyPost_ret (v:= .slice Ao os.length co) (by simp[results,Tryz.results90,go_sem]) rfl ⟨_,rfl,F',?_,f2,(by simpa using f3),P7.out⟩;rw[gf.out];simpa[P1.out] using f1
theorem qGd (M:List MoD) (n f k:Nat) (q:List (List Int)) (h:k<q.length):lvGo M n (f+1) k q=match lvK n q[k] M q with | none=>none | some q'=>lvGo M n f (k+1) q':=by
 rw[lvGo,dif_pos h]<;>rfl
theorem qKy (M:List MoD) (n f:Nat) (q:List (List Int)):lvGo M n f q.length q=some q:=by
 cases f with
 | zero=>rfl
 | succ f=>rw[lvGo,dif_neg tO]
def lvR (M:List MoD) (n:Nat) (u:List Int) (m k:Nat) (q:List (List Int)):Option (List (List Int)):=match lvK n u (M.drop m) q with | none=>none | some q'=>lvGo M n (59-k) (k+1) q'
theorem qJc (M:List MoD) (n k:Nat) (q:List (List Int)) (h:k<q.length) (hq:q.length≤60):lvGo M n (60-k) k q=lvR M n q[k] 0 k q:=by
 rw[show 60-k=59-k+1 by omega,qGd M n _ k q h];rfl
theorem qMd (M:List MoD) (n:Nat) (u:List Int) (k:Nat) (q:List (List Int)):lvR M n u M.length k q=lvGo M n (60-(k+1)) (k+1) q:=by
 unfold lvR;rw[List.drop_length];show lvGo M n (59-k) (k+1) q=_
 rw[show 59-k=60-(k+1) by omega]
theorem qLD {M:List MoD} {n:Nat} {u:List Int} {m k:Nat} {q:List (List Int)} (h:m<M.length) (hc: ¬((yF M[m] u).length=n∧yF M[m] u∉q)):lvR M n u m k q=lvR M n u (m+1) k q:=by
 unfold lvR;rw[zaz h,lvK,if_neg hc]
theorem qLd {M:List MoD} {n:Nat} {u:List Int} {m k:Nat} {q:List (List Int)} (h:m<M.length) (hc:(yF M[m] u).length=n∧yF M[m] u∉q) (hq:60≤q.length):lvR M n u m k q=none:=by
 unfold lvR;rw[zaz h,lvK,if_pos hc,if_pos hq]
theorem qLL {M:List MoD} {n:Nat} {u:List Int} {m k:Nat} {q:List (List Int)} (h:m<M.length) (hc:(yF M[m] u).length=n∧yF M[m] u∉q) (hq: ¬60≤q.length):lvR M n u m k q=lvR M n u (m+1) k (q++ [yF M[m] u]):=by
 unfold lvR;rw[zaz h,lvK,if_pos hc,if_neg hq]
theorem qES {r:Int} {w:List Int} (h: ¬(qY r w=true∧(redF r w).1.length≤6)):levF r w=([],false):=by unfold levF;rw[if_neg h]
theorem qKC {r:Int} {w:List Int} (h:qY r w=true∧(redF r w).1.length≤6):levF r w=match lvGo (movF r) (redF r w).1.length 60 0 [(redF r w).1] with | none=>([],false) | some q=>(srt cK q,true):=by
 unfold levF;rw[if_pos h]<;>rfl
theorem FrN.bel {F:List Nat} {w w1 w2:World} (h:FrN F w w1) (hb:Below w1.heap.size w1 w2):FrN F w w2:=
 ⟨hb.os.trans h.os,hb.tape.trans h.tape,hb.output.trans h.output,zam h.size hb.size,fun b h1 h2=>(hb.block b (zah h1 h.size)).trans (h.block b h1 h2)⟩
theorem qQF {w:World} {A:Option Addr} {m cap lo hi:Nat} {M:List MoD} (h:OMS lo hi (.slice A m cap) M w) (k:Nat) (hk:k<M.length): ∃g s,A=some ⟨g,0,none⟩∧g<w.heap.size∧w.cell? ⟨g,k*2,none⟩=some (.int .i64 M[k].1)∧w.cell? ⟨g,k*2+1,none⟩=some s∧RdII w s M[k].2:=by
 obtain⟨g,cs,Fe,rfl,fd,dC,hE,gO,ci,fJ,hc,dE,iE,_⟩:=h.focus EM.stable hk;obtain⟨s,rfl,hd,ho⟩:=hE;have c0:=hc 0 (by simp);have c1:=hc 1 (by simp);simp only[zaB,zaC,zaP] at c0 c1;exact⟨g,s,rfl,iE,c0,c1,qGq ho fJ⟩
theorem Que.small {r:Int} {n:Nat} {q:List (List Int)} (h:Que r n q) (hr:inB r 1 3=true): ∀w∈q,qCq w:=fun w hw=>qJA hr (h.el w hw).2
theorem qNE {q:List (List Int)} (h: ∀w∈q,qCq w): ∀w∈srt cK q,qCq w:=fun w hw=>h w (((qCG qDp q).2 w).1 hw)
theorem qQa {w:World} {base:Nat} {z:Value} {d:List Int} (h:OwI w base z d) (t:World) (ht:t=w.alloc (.cells #[z] 24)):OwLf EI 24 1 t (.slice (some ⟨w.heap.size,0,none⟩) 1 1) [d] (w.heap.size::z.ownBlock.toList)∧(w.heap.size::z.ownBlock.toList).Nodup:=by
 subst ht;refine⟨⟨[([z],d,z.ownBlock.toList)],rfl,fun e he=> ?_,?_,by simp[zau]⟩,zaV.2 ⟨fun hm=> ?_,by cases z.ownBlock<;>simp⟩⟩
 ·simp at he;subst he
  exact⟨rfl,EI.of (h.alloc _)⟩
 ·have:=qDf w [z] (by simp) (zak _)
  simpa using this
 ·have:=h.1.lt w.heap.size (by simpa using hm)
  omega
theorem qDW (r:Int) (v:Value) (xs:List Int) (w:World) (hr:I64 r) (h:RdI w v xs) (hl:xs.length≤1048576):
  Calls Tryz.prog 40 #[.int .i64 r,v] w fun e w'=> ∃s,e= .returned (.tuple #[s, .bool (levF r xs).2])∧OwII w.heap.size w'.heap.size s (levF r xs).1 w'∧Below w.heap.size w w':=by
 have HR:=qA hr;have HX:=qA h;obtain⟨A,cap,rfl,aj,hm,_⟩:=h.arg;unfold maxLen at hm;have gT:=qA fun W (h:RdI W (.slice A xs.length cap) xs)=>qBk r _ xs W HR.out h hl;have ib:=qA fun W (h:ArgI W (.slice A xs.length cap) xs)=>qc r _ xs W h tO;clear h hr;rcases eb:qY r xs with _ | _
 ·have F:=qA (qES (r:=r) (w:=xs) (by rw[eb];simp));rw[eb] at ib;clear eb;go_enter Tryz.func40,Tryz.ntmps40
  go_wp2_with (first
   | (go_at_call 22;(with_reducible refine(gT.out _ HX.out).mono ?_);rintro e w1 ⟨s1,t1,rfl,o1,o2,b1⟩;have B1:=qA b1;obtain⟨A1,c1,rfl,_⟩:=o1.form;obtain⟨A2,c2,rfl,_⟩:=o2.len;clear o1 o2 b1)
   | (go_at_call 25;(with_reducible refine(ib.out _ (HX.out.below B1.out).arg).mono ?_);rintro e w2 ⟨rfl,n2,rfl⟩))
  refine bodyPost_ret (v:= .tuple #[.slice (some ⟨w1.heap.size,0,none⟩) 0 0, .bool false]) (by simp[results,Tryz.results40,go_sem]) rfl ⟨_,by rw[F.out],?_,?_⟩
  ·rw[F.out];have:=qCe (w1.drewN n2) (lo:=w.heap.size) (by have:=B1.out.size;exact this)
   exact this.widen (zaa _) (by simp)
  ·exact(qB B1.out n2).alloc (by exact B1.out.size) _
 ·by_cases h6:(redF r xs).1.length≤6
  ·have F:=qA (qKC ⟨eb,h6⟩);have wQ:=qA (qLE eb h6);have lB:inB r 1 3=true:=qP.2 (qDc eb);have oU:=qA lB;have pp:=qA (qNd lB);have u6:Hid ((movF r).length≤2000):=qA (by have h1:=qGX r;have h2:=qFm r;unfold movF;rw[zaf,zaF];omega);rw[eb] at ib;have eM:=qA fun W=>qIX r W HR.out;clear eb lB;generalize (redF r xs).1=X at*;generalize movF r=M at*;have Gn:=u6.out;go_enter Tryz.func40,Tryz.ntmps40
   go_wp2_with (first
    | (go_at_call 22;(with_reducible refine(gT.out _ HX.out).mono ?_);rintro e w1 ⟨s1,t1,rfl,o1,o2,b1⟩;have B1:=qA b1;have O1:=qA o1;obtain⟨A1,c1,rfl,_⟩:=o1.form;obtain⟨A2,c2,rfl,_⟩:=o2.len;clear o1 o2 b1)
    | (go_at_call 25;(with_reducible refine(ib.out _ (HX.out.below B1.out).arg).mono ?_);rintro e rY ⟨rfl,n2,nG⟩;have HD:Hid (Below w1.heap.size w1 rY):=qA (by rw[nG];exact qB (zac _ _) n2);have aP:=HD.out.size;clear nG)
    | (go_at_call 88;(with_reducible refine(eM.out _).mono ?_);rintro e w2 ⟨s2,rfl,o2,b2⟩;have B2:=qA b2;have O2:=qA o2;obtain⟨Am,cm,rfl,fB,zf,_⟩:=o2.len;clear o2 b2))
   obtain⟨W3,fh⟩: ∃W3:World,W3=w2.alloc (.cells #[.slice A1 X.length c1] 24):=⟨_,rfl⟩;have aA:=B1.out.size;have bK:=B2.out.size;have dd:W3.heap.size=w2.heap.size+1:=by rw[fh];simp
   have Hz:w2.heap.size<W3.heap.size:=tO;have ax:Hid (Below w2.heap.size w2 W3):=qA (by rw[fh];exact(zac _ _).alloc (zaa _) _);have cU:=qQa ((O1.out.below HD.out).below B2.out) W3 fh;obtain⟨F0,ix⟩: ∃F0:List Nat,F0=w2.heap.size::(zab A1 X.length c1).ownBlock.toList:=⟨_,rfl⟩;rw[←ix] at cU;have lX:=qA cU.1;have oX:=qA cU.2;have jJ:Hid (∀b∈F0,w.heap.size≤b∧b<W3.heap.size∧ ¬(rY.heap.size≤b∧b<w2.heap.size)):=qA fun b hb=>by
    rw[ix] at hb;rcases zaO.1 hb with rfl | hb
    ·omega
    ·have:=O1.out.1.lt b (by simpa using hb)
     omega
   have dl:Hid (∀W,FrN F0 W3 W→Below w.heap.size w W):=qA fun W hf=>((B1.out.trans (HD.out.mono aA)).trans ((B2.out.mono tO).trans (ax.out.mono tO))).trans ⟨hf.os,hf.tape,hf.output,hf.size,fun b hb=>hf.block b tO fun h=>by have:=(jJ.out b h).1;omega⟩;have zo:Hid (∀W,FrN F0 W3 W→OMS rY.heap.size w2.heap.size (.slice Am M.length cm) M W):=qA fun W hf=>O2.out.keep EM.stable fun b h1 h2=>(hf.block b tO fun hb=>(jJ.out b hb).2.2 ⟨h1,h2⟩).trans (ax.out.block b h2);have ji:=qA fh;clear cU ix fh;obtain⟨RES,dg⟩: ∃RES,RES=lvGo M X.length 60 0 [X]:=⟨_,rfl⟩;rw[←dg] at F;have eI:=qA dg;clear dg;have Hl:(X.length:Int)≤6:=tO;rw[←ji.out];go_loopw [9,10] (fun qv i wr=> ∃(k:Nat) (q:List (List Int)) (G:List Nat),i= .int .i64 k∧k≤q.length∧Que r X.length q∧RES=lvGo M X.length (60-k) k q∧OwLf EI 24 1 wr qv q G∧G.Nodup∧(∀b∈G,(b∈F0∨W3.heap.size≤b)∧b<wr.heap.size)∧FrN F0 W3 wr)
    (fun _ i _=>61-(intOf i).toNat)
   case atStart=>exact⟨0,[X],F0,rfl,by simp,wQ.out,eI.out,lX.out,oX.out,fun b hb=>⟨.inl hb,(jJ.out b hb).2.1⟩,FrN.refl _ _⟩
   case round=>
    obtain⟨k,q,G,rfl,hk,hq,ez,x1,x2,x3,x4⟩:=hrel;have eU:=qA hq;have gy:=qA ez;have X1:=qA x1;have X2:=qA x2;have X3:=qA x3;have X4:=qA x4;have ic:=hq.len;obtain⟨Aq,cq,rfl,_⟩:=(OwnL.of_f (lo:=0) (hi:=wr.heap.size) x1 x2 fun b hb=>⟨zak _,(x3 b hb).2⟩).len;have fL:=x4.size;clear x1 x2 x3 x4 hq ez;by_cases ac:k<q.length
    ·have pm:Hid (RES=lvR M X.length q[k] 0 k q):=qA (gy.out.trans (qJc M X.length k q ac ic));have iZ:Hid (q[k]? =some q[k]):=qA (zaI ac);have zt:=qA (eU.out.el _ (zag ac));have eL:(k:Int)<(q.length:Int):=tO;generalize q[k]=u at*;go_wp2_with fail;go_loopw [9,11] (fun qv j wr=> ∃(m:Nat) (q:List (List Int)) (G:List Nat),j= .int .i64 m∧m≤M.length∧Que r X.length q∧q[k]? =some u∧RES=lvR M X.length u m k q∧OwLf EI 24 1 wr qv q G∧G.Nodup∧(∀b∈G,(b∈F0∨W3.heap.size≤b)∧b<wr.heap.size)∧FrN F0 W3 wr)
      (fun _ j _=>M.length-(intOf j).toNat)
     case atStart=>exact⟨0,q,G,rfl,zak _,eU.out,iZ.out,pm.out,X1.out,X2.out,X3.out,X4.out⟩
     case round=>
      clear eU gy X1 X2 X3 X4 pm iZ ic eL ac hk fL;obtain⟨m,q,G,rfl,hm,hq,mm,ez,x1,x2,x3,x4⟩:=hrel;have eU:=qA hq;have gy:=qA ez;have iZ:=qA mm;have X1:=qA x1;have X2:=qA x2;have X3:=qA x3;have X4:=qA x4;have ic:=hq.len;obtain⟨Aq,cq,rfl,_⟩:=(OwnL.of_f (lo:=0) (hi:=wr.heap.size) x1 x2 fun b hb=>⟨zak _,(x3 b hb).2⟩).len;have fL:=x4.size;have td:k<q.length:=(zaG.1 mm).1;have eB:q[k]=u:=(zaG.1 mm).2;clear x1 x2 x3 x4 hq ez mm;by_cases ac:m<M.length
      ·have zd:u.length≤6:=by have:=zt.out.1;omega
       obtain⟨gm,s,rfl,rB,c0,dX,nM⟩:=qQF (zo.out _ X4.out) m ac;obtain⟨As,cs,rfl,_⟩:=nM.form;obtain⟨b,off,rR,ey,uN,hb,aZ,_,_,lK⟩:=(qGq X1.out X2.out).at td;subst uN;rw[eB] at aZ lK;have fG:=qA (pp.out M[m] (zag ac));have mD:=qA (qPK fG.out u zd);have vd:=qA (qPN oU.out fG.out u);have kM:Hid (¬((yF M[m] u).length=X.length∧yF M[m] u∉q)→RES=lvR M X.length u (m+1) k q):=qA fun hc=>gy.out.trans (qLD ac hc);have mS:Hid ((yF M[m] u).length=X.length∧yF M[m] u∉q→60≤q.length→RES=none):=qA fun hc h60=>gy.out.trans (qLd ac hc h60);have mg:Hid ((yF M[m] u).length=X.length∧yF M[m] u∉q→ ¬60≤q.length→RES=lvR M X.length u (m+1) k (q++ [yF M[m] u])):=qA fun hc h60=>gy.out.trans (qLL ac hc h60);have gR:=qA nM;have od:=qA lK;have uS:=qA fun W (h:RdII W (.slice As M[m].2.length cs) M[m].2) (h':RdI W (.slice rR u.length ey) u)=>qAW _ _ M[m].2 u W h h' (by have:=fG.out.1;omega) (fun b hb=>by have:=(fG.out.2.2 b hb).1;omega) tO;have jR:=qA fun W v (h:RdI W v (expL M[m].2 u))=>qAe v (expL M[m].2 u) W h (by have:=mD.out.1;omega);have sZ:Hid (cycF (expL M[m].2 u)=yF M[m] u):=qA rfl;rw[sZ.out] at jR;have AY:(m:Int)<(M.length:Int):=tO;have eL:(k:Int)<(q.length:Int):=tO;generalize yF M[m] u=y at*;generalize expL M[m].2 u=E at*;generalize M[m].2=B at*;clear sZ c0 nM lK;have gZ:Hid (Below wr.heap.size wr wr.drew):=qA (zac _ _).drew;go_wp2_with fail;go_region_held3 (fun w'=>w'.cell? ⟨gm,m*2+1,none⟩=some (.slice As B.length cs)∧w'.cell? ⟨b,off+k,none⟩=some (.slice rR u.length ey))
        (first | go_keep | exact⟨s0,s1⟩)
        (first
         | (go_at_call 70;(with_reducible refine(uS.out _ (gR.out.below gZ.out) (od.out.below gZ.out)).mono ?_);rintro e w5 ⟨r5,rfl,o5,b5⟩;have aI:Hid (Below wr.heap.size wr w5):=qA (gZ.out.trans (b5.mono gZ.out.size));have fm:=qA (o5.mono gZ.out.size);have eQ:=aI.out.size;have s0:=(aI.out.cell (p:=⟨gm,m*2+1,none⟩) rB).trans dX;have s1:=(aI.out.cell (p:=⟨b,off+k,none⟩) hb).trans aZ;clear o5 b5)
         | (go_at_call 26;(with_reducible refine(jR.out _ _ fm.out.rd).mono ?_);rintro e w6 ⟨r6,rfl,o6,b6⟩;have bR:Hid (Below wr.heap.size wr w6):=qA (aI.out.trans (b6.mono eQ));have fj:=qA (o6.mono eQ);have fU:=bR.out.size;have s0:=(bR.out.cell (p:=⟨gm,m*2+1,none⟩) rB).trans dX;have s1:=(bR.out.cell (p:=⟨b,off+k,none⟩) hb).trans aZ;clear o6 b6))
       obtain⟨A6,c6,rfl,_⟩:=fj.out.form;have cM:=qA fun W (h:RdII W (.slice (some ⟨b,off,none⟩) q.length cq) q) (h':RdI W (.slice A6 y.length c6) y)=>qNa _ _ q y W h h' tO;have iA:=qA (X4.out.bel bR.out);have mQ:Hid (OwLf EI 24 1 w6 (.slice (some ⟨b,off,none⟩) q.length cq) q G):=qA (X1.out.stable EI.stable fun b hb=>bR.out.block b (X3.out b hb).2);have eV:Hid (∀b∈G,(b∈F0∨W3.heap.size≤b)∧b<w6.heap.size):=qA fun b hb=>⟨(X3.out b hb).1,zah (X3.out b hb).2 fU⟩;clear s0 s1;rcases e1:((y.length:Int)==(X.length:Int)) with _ | _
       ·have ai: ¬y.length=X.length:=fun e=>by rw[e] at e1;simp at e1
        have eH:Hid (RES=lvR M X.length u (m+1) k q):=qA (kM.out fun h=>ai h.1);clear ai eB;go_wp2;go_roundw
        case rel=>exact⟨m+1,q,G,by go_num,tO,eU.out,iZ.out,eH.out,mQ.out,X2.out,eV.out,iA.out⟩
        case measure=>(simp[intOf];omega)
       ·have uQ:y.length=X.length:=Int.ofNat_inj.1 (by simpa using e1);have py:=qA uQ;clear uQ;rcases e2:decide (y∈q) with _ | _
        ·have su:y∉q:=of_decide_eq_false e2;have mR:=qA su;rw[e2] at cM;clear e2 su;by_cases h60:60≤q.length
         ·have eH:Hid (RES=none):=qA (mS.out ⟨py.out,mR.out⟩ h60);have y5:(60:Int)≤(q.length:Int):=tO;clear eB;go_wp2_with (go_at_call 89;(with_reducible refine(cM.out _ (qGq mQ.out X2.out) fj.out.rd).mono ?_);rintro e w7 ⟨rfl,n7,nK⟩;have mr:Hid (Below w6.heap.size w6 w7):=qA (by rw[nK];exact qB (zac _ _) n7);have lP:=mr.out.size;clear nK)
          refine bodyPost_ret (v:= .tuple #[.slice (some ⟨w7.heap.size,0,none⟩) 0 0, .bool false]) (by simp[results,Tryz.results40,go_sem]) rfl ⟨_,by rw[F.out,eH.out],?_,?_⟩
          ·rw[F.out,eH.out];have:=qCe w7 (lo:=w.heap.size) tO
           exact this.widen (zaa _) (by simp)
          ·exact(dl.out w7 ((X4.out.bel bR.out).bel mr.out)).alloc tO _
         ·have eH:Hid (RES=lvR M X.length u (m+1) k (q++ [y])):=qA (mg.out ⟨py.out,mR.out⟩ h60);have y5: ¬(60:Int)≤(q.length:Int):=tO;have yE:Hid (Que r X.length (q++ [y])):=qA (eU.out.push py.out vd.out mR.out h60);have Ag:Hid ((q++ [y])[k]? =some u):=qA (by rw[List.getElem?_append_left td];exact iZ.out);have kz:q.length≤1073741824:=tO;have gE:Hid (∀b∈G,b<w6.heap.size):=qA fun b hb=>(eV.out b hb).2;clear eB;go_wp2_with (first
           | (go_at_call 89;(with_reducible refine(cM.out _ (qGq mQ.out X2.out) fj.out.rd).mono ?_);rintro e w7 ⟨rfl,n7,nK⟩;have mr:Hid (Below w6.heap.size w6 w7):=qA (by rw[nK];exact qB (zac _ _) n7);have jM:Hid (Below wr.heap.size wr w7):=qA (bR.out.trans (mr.out.mono fU));have lP:=jM.out.size;have H8:=qA (fj.out.below mr.out);clear nK)
           | (at_builtin;refine qHY rfl (.tmp 73) (.tmp 75) rfl (w0:=wr) X1.out X2.out (fun b hb=>(X3.out b hb).2) (jM.out.alloc lP _) rfl _ _ y rfl (H8.out.alloc _) (zaa _) (qG _ _ _) rfl kz ?_;intro vz wz Gz oz nz fz gz;obtain⟨Az,mz,cz,rfl⟩:=OwLf.formR oz;have OZ:=qA oz;have NZ:=qA nz;have FZ:=qA fz;have GZ:=qA gz;clear oz nz fz gz))
          have tF:=GZ.out.size;have xm:wr.heap.size≤wz.heap.size:=by simp at tF;omega
          have rx:=qA (X4.out.bel (jM.out.alloc lP (.cells #[.slice A6 y.length c6] 24)));go_roundw
          case rel=>
           refine⟨m+1,q++ [y],Gz,by go_num,tO,yE.out,Ag.out,eH.out,OZ.out,NZ.out,fun c hc=>⟨?_,(FZ.out c hc).2⟩,⟨GZ.out.os.trans rx.out.os,GZ.out.tape.trans rx.out.tape,GZ.out.output.trans rx.out.output,zam rx.out.size tF,fun c h1 h2=>(GZ.out.block c (zah h1 rx.out.size) fun e=> ?_).trans (rx.out.block c h1 h2)⟩⟩
           ·rcases(FZ.out c hc).1 with h | h
            ·exact(X3.out c h).1
            ·exact .inr tO
           ·rcases(X3.out c (X1.out.mem e.symm)).1 with h | h
            ·exact h2 h
            ·omega
          case measure=>(simp[intOf];omega)
        ·have bQ:y∈q:=of_decide_eq_true e2;have eH:Hid (RES=lvR M X.length u (m+1) k q):=qA (kM.out fun h=>h.2 bQ);rw[e2] at cM;clear e2 bQ eB;go_wp2_with (go_at_call 89;(with_reducible refine(cM.out _ (qGq mQ.out X2.out) fj.out.rd).mono ?_);rintro e w7 ⟨rfl,n7,nK⟩;have mr:Hid (Below w6.heap.size w6 w7):=qA (by rw[nK];exact qB (zac _ _) n7);have lP:=mr.out.size;clear nK)
         go_roundw
         case rel=>exact⟨m+1,q,G,by go_num,tO,eU.out,iZ.out,eH.out,mQ.out.stable EI.stable fun b hb=>mr.out.block b (eV.out b hb).2,X2.out,fun b hb=>⟨(eV.out b hb).1,zah (eV.out b hb).2 lP⟩,iA.out.bel mr.out⟩
         case measure=>(simp[intOf];omega)
      ·obtain rfl:m=M.length:=tO
       have sk:Hid (RES=lvGo M X.length (60-(k+1)) (k+1) q):=qA (gy.out.trans (qMd M X.length u k q));clear eB;go_wp2;go_roundw
       case rel=>exact⟨k+1,q,G,by go_num,tO,eU.out,sk.out,X1.out,X2.out,X3.out,X4.out⟩
       case measure=>(simp[intOf];omega)
    ·obtain rfl:k=q.length:=tO
     have jE:Hid (RES=some q):=qA (gy.out.trans (qKy M X.length _ q));obtain⟨W5,rfl⟩: ∃W:World,W=wr:=⟨_,rfl⟩;have Dn:=qA (eU.out.small oU.out);have fu:=qA (eU.out.el);go_wp2_with fail;go_loopw [13,14] (fun out i wi=> ∃(j:Nat) (G2:List Nat),i= .int .i64 j∧j≤q.length∧OwLf EI 24 1 wi out (srt cK (q.take j)) G2∧G2.Nodup∧(∀b∈G2,W5.heap.size≤b∧b<wi.heap.size)∧Below W5.heap.size W5 wi)
      (fun _ i _=>q.length-(intOf i).toNat)
     case atStart=>
      refine⟨0,[W5.heap.size],rfl,zak _,⟨[],rfl,(fun e he=>by cases he),?_,by simp[zau]⟩,by simp,fun b hb=> ?_,(zac _ _).alloc (zaa _) _⟩
      ·have:=qDf W5 [] (by simp) (zak _)
       simpa[srt] using this
      ·rw[zan] at hb;subst hb;simp
     case round=>
      obtain⟨j,G2,rfl,hj,y1,y2,y3,y4⟩:=hrel;have Y1:=qA y1;have Y2:=qA y2;have Y3:=qA y3;have Y4:=qA y4;obtain⟨Ao,mo,co,rfl⟩:=OwLf.formR y1;have wK:=y4.size;clear y1 y2 y3 y4;by_cases hltj:j<q.length
      ·obtain⟨b,off,rR,ey,uN,hb,aZ,_,_,lK⟩:=((qGq X1.out X2.out).below Y4.out).at hltj;subst uN;have od:=qA lK;have Ej:=qA (qOQ (c:=cK) q j hltj);have AQ:=qA (qNE (q:=q.take j) fun w hw=>Dn.out w (List.mem_of_mem_take hw));have lH:(srt cK (q.take j)).length≤1000:=by have:=qDT (c:=cK) (q.take j);rw[zaD] at this;omega
       have jl:=qA (Dn.out _ (zag hltj));have Dc:q[j].length≤1000:=by have:=(fu.out _ (zag hltj)).1;omega
       have vw:(j:Int)<(q.length:Int):=tO;generalize q[j]=u at*;clear lK;have CJ:=qA fun v (h:RdI wr v u)=>qLr (.slice Ao mo co) v (srt cK (q.take j)) u G2 wr Y1.out Y2.out (fun b hb=>(Y3.out b hb).2) h jl.out AQ.out lH Dc;rw[←Ej.out] at CJ;go_wp2_with (go_at_call 90;(with_reducible refine(CJ.out _ od.out).mono ?_);rintro e w9 ⟨r9,G9,rfl,o9,n9,f9,b9⟩;obtain⟨A9,m9,c9,rfl⟩:=OwLf.formR o9;have O9:=qA o9;have N9:=qA n9;have F9:=qA f9;have B9:=qA b9;clear o9 n9 f9 b9)
       have uA:=B9.out.size;go_roundw
       case rel=>
        refine⟨j+1,G9,by go_num,tO,O9.out,N9.out,fun c hc=>⟨?_,(F9.out c hc).2⟩,Y4.out.trans (B9.out.mono wK)⟩;rcases(F9.out c hc).1 with h | h
        ·exact(Y3.out c h).1
        ·omega
       case measure=>(simp[intOf];omega)
      ·obtain rfl:j=q.length:=tO
       have jH:Hid (OwLf EI 24 1 wr (.slice Ao mo co) (srt cK q) G2):=qA (by have h:=Y1.out;rw[zax] at h;exact h);have bP:Hid (Below w.heap.size w wr):=qA ((dl.out W5 X4.out).trans (Y4.out.mono tO));clear Y1;go_wp2;refine bodyPost_ret (v:= .tuple #[.slice Ao mo co, .bool true]) (by simp[results,Tryz.results40,go_sem]) rfl ⟨_,by rw[F.out,jE.out],?_,bP.out⟩;rw[F.out,jE.out];exact OwnL.of_f jH.out Y2.out fun b hb=>⟨by have:=(Y3.out b hb).1;omega,(Y3.out b hb).2⟩
  ·have F:=qA (qES (r:=r) (w:=xs) (by simp[h6]));rw[eb] at ib;clear eb;generalize (redF r xs).1=X at*;go_enter Tryz.func40,Tryz.ntmps40
   go_wp2_with (first
    | (go_at_call 22;(with_reducible refine(gT.out _ HX.out).mono ?_);rintro e w1 ⟨s1,t1,rfl,o1,o2,b1⟩;have B1:=qA b1;obtain⟨A1,c1,rfl,_⟩:=o1.form;obtain⟨A2,c2,rfl,_⟩:=o2.len;clear o1 o2 b1)
    | (go_at_call 25;(with_reducible refine(ib.out _ (HX.out.below B1.out).arg).mono ?_);rintro e w2 ⟨rfl,n2,rfl⟩))
   refine bodyPost_ret (v:= .tuple #[.slice (some ⟨w1.heap.size,0,none⟩) 0 0, .bool false]) (by simp[results,Tryz.results40,go_sem]) rfl ⟨_,by rw[F.out],?_,?_⟩
   ·rw[F.out];have:=qCe (w1.drewN n2) (lo:=w.heap.size) (by have:=B1.out.size;exact this)
    exact this.widen (zaa _) (by simp)
   ·exact(qB B1.out n2).alloc (by exact B1.out.size) _
section
open Go.RowKit Go.Shelf Go.Lib Go.Sort
def Tryz.sortW_ren:Go.Shelf.Ren:=⟨fun | 6=>86 | 15=>120 | 14=>119 | 28=>143 | 29=>144 | 20=>135 | 21=>136 | 22=>137 | 23=>138 | 24=>139 | 25=>140 | 26=>141 | 27=>142 | 46=>158 | 47=>159 | 48=>160 | 49=>161 | 50=>162 | 57=>178 | n=>n,fun | 22=>29 | 24=>24 | 25=>99 | 3=>3 | 39=>119 | 0=>0 | 53=>139 | 55=>141 | 4=>4 | 46=>132 | 45=>131 | 50=>136 | 5=>5 | 9=>9 | 66=>156 | 70=>160 | 76=>171 | 77=>172 | n=>n,fun | n=>n⟩
theorem Tryz.sortW:Go.Proofs.SlLaysF.n6 Tryz.prog Tryz.sortW_ren:= {
 mixed:=by kernel_rfl,
 f6:=⟨Tryz.f86.name,by decide,Tryz.func86.trans (congrArg some tK)⟩,
 f14:=⟨Tryz.f119.name,by decide,Tryz.func119.trans (congrArg some tK)⟩,
 f15:=Tryz.func120.trans (congrArg some tK),
 f20:=⟨Tryz.f135.name,by decide,Tryz.func135.trans (congrArg some tK)⟩,
 f21:=⟨Tryz.f136.name,by decide,Tryz.func136.trans (congrArg some tK)⟩,
 f22:=⟨Tryz.f137.name,by decide,Tryz.func137.trans (congrArg some tK)⟩,
 f23:=⟨Tryz.f138.name,by decide,Tryz.func138.trans (congrArg some tK)⟩,
 f24:=⟨Tryz.f139.name,by decide,Tryz.func139.trans (congrArg some tK)⟩,
 f25:=⟨Tryz.f140.name,by decide,Tryz.func140.trans (congrArg some tK)⟩,
 f26:=⟨Tryz.f141.name,by decide,Tryz.func141.trans (congrArg some tK)⟩,
 f27:=⟨Tryz.f142.name,by decide,Tryz.func142.trans (congrArg some tK)⟩,
 f28:=Tryz.func143.trans (congrArg some tK),
 f29:=Tryz.func144.trans (congrArg some tK),
 f46:=⟨Tryz.f158.name,by decide,Tryz.func158.trans (congrArg some tK)⟩,
 f47:=Tryz.func159.trans (congrArg some tK),
 f48:=Tryz.func160.trans (congrArg some tK),
 f49:=⟨Tryz.f161.name,by decide,Tryz.func161.trans (congrArg some tK)⟩,
 f50:=⟨Tryz.f162.name,by decide,Tryz.func162.trans (congrArg some tK)⟩,
 f57:=⟨Tryz.f178.name,by decide,Tryz.func178.trans (congrArg some tK)⟩,
 t0:=Tryz.underlying0,
 a0:=Tryz.isAgg0,
 z0:=Tryz.sizeOf0,
 v0:=Tryz.zeroValue0,
 t3:=Tryz.underlying3,
 a3:=Tryz.isAgg3,
 z3:=Tryz.sizeOf3,
 v3:=Tryz.zeroValue3,
 t4:=Tryz.underlying4,
 a4:=Tryz.isAgg4,
 z4:=Tryz.sizeOf4,
 v4:=Tryz.zeroValue4,
 t5:=Tryz.underlying5,
 a5:=Tryz.isAgg5,
 z5:=Tryz.sizeOf5,
 v5:=Tryz.zeroValue5,
 t9:=Tryz.underlying9,
 a9:=Tryz.isAgg9,
 z9:=Tryz.sizeOf9,
 v9:=Tryz.zeroValue9,
 t22:=Tryz.underlying29,
 a22:=Tryz.isAgg29,
 z22:=Tryz.sizeOf29,
 v22:=Tryz.zeroValue29,
 a24:=Tryz.isAgg24,
 z24:=Tryz.sizeOf24,
 t25:=Tryz.underlying99,
 a25:=Tryz.isAgg99,
 z25:=Tryz.sizeOf99,
 v25:=Tryz.zeroValue99,
 t39:=Tryz.underlying119,
 a39:=Tryz.isAgg119,
 z39:=Tryz.sizeOf119,
 v39:=Tryz.zeroValue119,
 t45:=Tryz.underlying131,
 a45:=Tryz.isAgg131,
 z45:=Tryz.sizeOf131,
 v45:=Tryz.zeroValue131,
 t46:=Tryz.underlying132,
 a46:=Tryz.isAgg132,
 z46:=Tryz.sizeOf132,
 v46:=Tryz.zeroValue132,
 t50:=Tryz.underlying136,
 a50:=Tryz.isAgg136,
 z50:=Tryz.sizeOf136,
 v50:=Tryz.zeroValue136,
 t53:=Tryz.underlying139,
 a53:=Tryz.isAgg139,
 z53:=Tryz.sizeOf139,
 v53:=Tryz.zeroValue139,
 t55:=Tryz.underlying141,
 a55:=Tryz.isAgg141,
 z55:=Tryz.sizeOf141,
 v55:=Tryz.zeroValue141,
 t66:=Tryz.underlying156,
 a66:=Tryz.isAgg156,
 z66:=Tryz.sizeOf156,
 v66:=Tryz.zeroValue156,
 t70:=Tryz.underlying160,
 a70:=Tryz.isAgg160,
 z70:=Tryz.sizeOf160,
 v70:=Tryz.zeroValue160,
 t76:=Tryz.underlying171,
 a76:=Tryz.isAgg171,
 z76:=Tryz.sizeOf171,
 v76:=Tryz.zeroValue171,
 t77:=Tryz.underlying172,
 a77:=Tryz.isAgg172,
 z77:=Tryz.sizeOf172,
 v77:=Tryz.zeroValue172}
theorem qQY {α:Type} (f:α→List Int):SWO (ltOf fun a b=>cK (f a) (f b)) where
 irrefl x:=by
  unfold ltOf;simpa using qDp.irrefl (f x)
 trans x y z h1 h2:=by
  unfold ltOf at*;simp only[decide_eq_true_eq] at*;exact qDp.trans h1 h2
 ntrans x y z h1 h2:=by
  unfold ltOf at*;simp only[decide_eq_false_iff_not] at*;intro h;rcases Int.lt_trichotomy (cK (f x) (f y)) 0 with p | p | p
  ·exact h1 p
  ·rw[qDp.zero.1 p] at h;exact h2 h
  ·have p:=qDp.anti.2 p;exact h2 (qDp.trans p h)
theorem qKH {α:Type} [Inhabited α] (enc:α→Value) (w:World) (g n:Nat) (d:Array α) (os:Array Obj) (b:Nat) (hb:b<w.heap.size):(sortWorld enc w g 0 n d os).heap[b]? =if g=b then(w.heap[b]?).map (onCells (putCells enc 0 d)) else w.heap[b]? :=by
 show((w.heap.modify g (onCells (putCells enc 0 d)))++os)[b]? =_
 rw[Array.getElem?_append_left (by simpa using hb),Array.getElem?_modify]
theorem qNu {α:Type} [Inhabited α] (enc:α→Value) (w:World) (g n:Nat) (d:Array α) (os:Array Obj):w.grownBy (sortWorld enc w g 0 n d os) (some g):=by
 refine⟨rfl,rfl,rfl,?_,fun b hb ai=> ?_⟩
 ·show w.heap.size≤((w.heap.modify g (onCells (putCells enc 0 d)))++os).size
  simp
 ·rw[qKH enc w g n d os b hb,if_neg (fun e=>ai (by rw[e]))]
theorem qNc (g m cap:Nat) (q:List (List Int)) (G:List Nat) (w:World) (h:OwLf EI 24 1 w (.slice (some ⟨g,0,none⟩) m cap) q G) (hn:G.Nodup) (hG: ∀b∈G,b<w.heap.size) (fJ:q.Nodup) (hsm: ∀x∈q,qCq x) (hl:q.length≤1000) (ai:q≠ []):
  Calls Tryz.prog 86 #[.slice (some ⟨g,0,none⟩) m cap, .func (.func 87) #[] #[]] w fun e w'=>
   e= .returned (.tuple #[])∧ ∃G',OwLf EI 24 1 w' (.slice (some ⟨g,0,none⟩) m cap) (srt cK q) G'∧G'.Nodup∧(∀b∈G',b∈G)∧w.grownBy w' (some g):=by
 obtain⟨es,h1,h2,h3,rfl⟩:=h;subst h1;obtain rfl:m=es.length:=by
  obtain⟨_,_,hv,_⟩:=qr h3;injection hv
 have aG:=fun k hk=>qPQ h2 h3 k hk;have gY:0<es.length:=by
  rcases Nat.eq_zero_or_pos es.length with h | h
  ·exact absurd (by rw[List.eq_nil_of_length_eq_zero h];rfl) ai
  ·exact h
 have nJ: ∀b∈(es.map (·.2.2)).flatten,b≠g:=fun b hb e=>by
  subst e;exact(zat.1 hn).2.2 b (by simp[zau]) b hb rfl
 have iw:g<w.heap.size:=(h3.lt g rfl).2;let α:= {e:Trip//e∈es}
 haveI:Inhabited α:=⟨⟨es[0],zag gY⟩⟩
 let enc:α→Value:=fun a=>a.1.1.headD undef
 have kZ: ∀a:α,a.1.1= [enc a]∧OwI w 0 (enc a) a.1.2.1∧a.1.2.2=(enc a).ownBlock.toList:=fun a=>by
  obtain⟨s,hs,ho,hf⟩:=(h2 a.1 a.2).2;have:enc a=s:=by show a.1.1.headD undef=s;rw[hs];rfl
  rw[this];exact⟨hs,ho,hf⟩
 have hO:OneCell enc:=fun a=>by
  obtain⟨A1,c1,hv,_⟩:=(kZ a).2.1.form;rw[hv];rfl
 let d:Array α:=es.attach.toArray
 have ro:d.size=es.length:=by
  show(es.attach.toArray).size=es.length
  rw[zaQ];exact List.length_attach
 have pn: ∀j (hj:j<es.length),d[j]! =⟨es[j],zag hj⟩:=fun j hj=>by
  rw[getElem!_pos d j (by rw[ro];exact hj)];show(es.attach.toArray)[j]=_
  rw[List.getElem_toArray];exact List.getElem_attach ..
 have hH:Holds enc w g 0 d:=fun j hj=>by
  have eP:j<es.length:=by rw[←ro];exact hj
  obtain⟨g',A1,c1,hA,_,hc,ae,_⟩:=aG j eP;injection hA with hA
  injection hA with hA
  subst hA;rw[Nat.zero_add,pn j eP];have:=(kZ ⟨es[j],zag eP⟩).1
  rw[hc] at this;injection this with this
  exact⟨by rw[ae,this],h3.frozenAt j⟩
 have kf: ∀(n:Nat) (os:Array Obj) (dk:Array α) (a:α),OwI (sortWorld enc w g 0 n dk os) 0 (enc a) a.1.2.1:=fun n os dk a=>by
  obtain⟨_,ho,hf⟩:=kZ a;refine⟨qZ ho.1 fun b hb=> ?_,ho.2⟩;have dS:b∈(es.map (·.2.2)).flatten:=zaJ.2 ⟨a.1.2.2,zar.2 ⟨a.1,a.2,rfl⟩,by rw[hf,hb];simp⟩;rw[qKH enc w g n dk os b (hG b (zaj.2 (.inr dS))),if_neg (fun e=>nJ b dS e.symm)]
 have Ae:CmpLays1 Tryz.prog 87 #[] enc (fun a b=>cK a.1.2.1 b.1.2.1) g 0 d.size w:=CmpReads.lays fun n os dk _ x y=>by
  have h:=qBg (enc x) (enc y) x.1.2.1 y.1.2.1 _ (kf n os dk x).arg (kf n os dk y).arg;rw[qPP (hsm _ (zar.2 ⟨x.1,x.2,rfl⟩)) (hsm _ (zar.2 ⟨y.1,y.2,rfl⟩))] at h;exact h
 have eg: ∀args w,(callFunc 87 args).run Tryz.prog w= .ok (.enter 87 args) w:=enters_of Tryz.func87 tK rfl;have Jq:es.length≤1000:=by simpa using hl
 have iV:=Any.slices_SortFunc Tryz.sortW enc hO (fun a b=>cK a.1.2.1 b.1.2.1) (qQY fun a:α=>a.1.2.1) 87 #[] g 0 cap d w eg Ae hH iw (by rw[ro];omega);rw[ro] at iV;change Calls Tryz.prog 86 _ _ _ at iV;refine iV.mono ?_;rintro e w' ⟨rfl,d',n,os,hp,hs,rfl⟩;obtain⟨p1,_,p3⟩:=hp;have ke:d'.size=es.length:=by rw[p1,ro]
 have oD:d'.toList.Perm es.attach:=by
  have e1:d'.extract 0 es.length=d':=by rw[←ke];simp
  have e2:d.extract 0 es.length=d:=by rw[←ro];simp
  rw[e1,e2] at p3;simpa[d] using p3
 let es':List Trip:=d'.toList.map (·.1)
 have da:es'.Perm es:=by
  have:=oD.map (·.1)
  have e:es.attach.map (fun a:α=>a.1)=es:=List.attach_map_subtype_val es;exact e▸this
 have kq:es'.length=es.length:=da.length_eq;have dC:=qNu enc w g n d' os;have lZ:=qJU da;refine⟨rfl,g::(es'.map (·.2.2)).flatten,⟨es',?_,fun e he=> ?_,?_,by simp[zau]⟩,?_,fun b hb=> ?_,dC⟩
 ·refine qKV qDp ?_ fun x=>(da.map (·.2.1)).mem_iff;have iY:(es'.map (·.2.1)).Nodup:=(da.map (·.2.1)).nodup_iff.2 fJ;have lk:(es'.map (·.2.1)).Pairwise fun a b=> ¬cK b a<0:=by
   rw[List.pairwise_iff_getElem];intro i j hi hj dh;have db:i<d'.size:=by simpa[es'] using hi
   have eP:j<d'.size:=by simpa[es'] using hj
   have:=hs i j (zak _) dh (by rw[←ke];exact eP)
   unfold ltOf at this;rw[decide_eq_false_iff_not,getElem!_pos d' j eP,getElem!_pos d' i db] at this;simpa[es'] using this
  refine(lk.and iY).imp fun {a b} ⟨h1,h2⟩=> ?_
  have h3:cK a b≠0:=fun e=>h2 (qDp.zero.1 e);have h4: ¬0<cK a b:=fun e=>h1 (qDp.anti.2 e);omega
 ·have hm:=da.mem_iff.1 he;refine⟨(h2 e hm).1,?_⟩;obtain⟨aA,_,hf⟩:=kZ ⟨e,hm⟩;exact⟨enc ⟨e,hm⟩,aA,kf n os d' ⟨e,hm⟩,hf⟩
 ·rcases h3.2 with ⟨hv,_⟩ | ⟨g',cap',cur,hv,hg,hh,hnc,fB,eR,htake⟩
  ·cases hv
  ·injection hv with e1 e2 e3
   injection e1 with e1
   injection e1 with e1
   subst e1 e3;have dJ:(es'.map (·.1)).flatten=d'.toList.map enc:=by
    have: ∀l:List α,((l.map (·.1)).map (·.1)).flatten=l.map enc:=by
     intro l;induction l with
     | nil=>rfl
     | cons a l ih=>simp only[zaN,List.flatten_cons,ih,(kZ a).1];rfl
    exact this d'.toList
   rw[dJ];refine⟨by simp[kq,ke], .inr ⟨g,cap,putCells enc 0 d' cur,by rw[kq],hg,?_,by rw[kq];exact hnc,fB,by simp[putCells,eR],?_⟩⟩
   ·rw[qKH enc w g n d' os g iw,if_pos rfl,hh];rfl
   ·apply List.ext_getElem?
    intro j;rw[List.getElem?_take];split
    ·rename_i hj
     have dT:j<d'.size:=by rw[ke];omega
     have pd:j<cur.size:=by rw[eR];omega
     rw[Array.getElem?_toList];simp only[putCells,Array.getElem?_mapIdx];rw[Array.getElem?_eq_getElem pd];simp only[Option.map_some,zak,true_and,Nat.zero_add,Nat.sub_zero];rw[if_pos dT,getElem!_pos d' j dT];simp[dT]
    ·rename_i hj
     rw[List.getElem?_eq_none (by simp[ke];omega)]
 ·refine zaV.2 ⟨fun hm=>nJ g (lZ.mem_iff.1 hm) rfl,lZ.nodup_iff.2 (zat.1 hn).2.1⟩
 ·rcases zaO.1 hb with rfl | hb
  ·simp[zau]
  ·exact zaj.2 (.inr (lZ.mem_iff.1 hb))
end
theorem qPZ {x:Int} {c:UInt8} (h:lt x= [c]):c≠49:=by
 rcases qDY x with ⟨_,e⟩ | ⟨_,e⟩ | ⟨_,e⟩ | ⟨_,e⟩ | ⟨_,e⟩ | ⟨_,e⟩ | ⟨_,e⟩<;>rw[e] at h<;>first | (injection h with h;subst h;decide) | cases h
def okT (y:List Int):Prop:= ∀x∈y,lt x≠ []
theorem qPG {y:List Int} (h:okT y):fmtW y=if y= [] then [49] else y.flatMap lt:=by
 unfold fmtW;rw[qPR fun j hj=>h _ (zag hj),if_pos rfl]
theorem qOt {a b:List Int} (ha:okT a) (hb:okT b) (h:fmtW a=fmtW b):a=b:=by
 rw[qPG ha,qPG hb] at h;have key: ∀y:List Int,okT y→y≠ []→ [49]≠y.flatMap lt:=fun y hy hn e=>by
  match y,hn with
  | x::l,_=>
    obtain⟨c,hc⟩:=qHU x (hy x (by simp));simp only[List.flatMap_cons,hc,List.cons_append,zaU,List.cons.injEq] at e;exact qPZ hc e.1.symm
 by_cases h1:a= []
 ·by_cases h2:b= []
  ·rw[h1,h2]
  ·rw[if_pos h1,if_neg h2] at h;exact absurd h (key b hb h2)
 ·by_cases h2:b= []
  ·rw[if_neg h1,if_pos h2] at h;exact absurd h.symm (key a ha h1)
  ·rw[if_neg h1,if_neg h2] at h;exact qKi ha hb h
theorem qOo (y:List Int):(fmtW y).length≤y.length+1:=by
 unfold fmtW;have:=qIr y
 repeat' split
 all_goals first | omega | simp
theorem qMc {r:Int} (hr:inB r 1 3=true) {w:List Int} (h: ∀x∈w,letB r x=true):okT w:=fun x hx=>by
 have h1:=qJA hr h x hx;have hb:=qP.1 hr;have h2:=(qAB hr).1 (h x hx);rcases qDY x with ⟨_,e⟩ | ⟨_,e⟩ | ⟨_,e⟩ | ⟨_,e⟩ | ⟨_,e⟩ | ⟨_,e⟩ | ⟨h,e⟩
 all_goals first | (exfalso;omega) | (rw[e];simp)
theorem strK:Go.Maps.Keyed Tryz.prog 9:=Go.Maps.string_keyed Tryz.underlying9
theorem qQf (w:World):(zeroValue 3).run Tryz.prog w= .ok (.int .i64 0) w:=by kernel_rfl
theorem qIK {y:List Int} (h:y.length≤1000):keyOf Tryz.prog 9 (.string ⟨(fmtW y).toArray⟩)=some (.string (fmtW y)):=by
 have:=Go.WideMaps.keyOf_string_mk (P:=Tryz.prog) (k:=9) Tryz.underlying9 (s:=⟨(fmtW y).toArray⟩) (by
  have:=qOo y
  show((fmtW y).toArray).size≤maxLen
  rw[zaQ];unfold maxLen;omega)
 simpa using this
theorem qOT {y:List Int} (h:y.length≤1000):WideAt.IsKeyLit (.string (fmtW y)):=strK.key (qIK h)
structure MapQ (D:DataW Unit) (q:List (List Int)):Prop where
 im:Go.Maps.IsMap D
 at_: ∀y,okT y→D.atKey (.string (fmtW y)) (.lit (.int .i64 0))= .lit (.int .i64 (if y∈q then 1 else 0))
theorem MapQ.nil:MapQ (.map []) []:=⟨Go.Maps.isMap_empty,fun y _=>by rfl⟩
theorem MapQ.put {D:DataW Unit} {q:List (List Int)} (h:MapQ D q) {y:List Int} (hy:okT y) (hl:y.length≤1000):MapQ (D.put (.string (fmtW y)) (.lit (.int .i64 1))) (q++ [y]):=by
 refine⟨h.im.put _ _,fun z hz=> ?_⟩;by_cases e:z=y
 ·subst e;rw[Go.Maps.atKey_put_same h.im (qOT hl)];simp
 ·have ai:(Lit.string (fmtW z))≠ .string (fmtW y):=fun h=>by
   injection h with h
   exact e (qOt hz hy h)
  rw[Go.Maps.atKey_put_other ai,h.at_ z hz];simp[e]
theorem qLn {P:Program} (w:World) {ops:Array Oper} {rest:List Oper} {o:Oper} {a:Act} {Q:Exit→Act→World→Prop}
  (hg:o.guard=none) (m x v:Operand) (t:TypeId) (hop:o.op=Op.insert t m x v)
  (k e:TypeId) (K:Go.Maps.Keyed P k) (ht:P.underlying t=some (.map k e)) (R:Value→Option (DataW Unit×List MemPlace)) (b n:Nat) (D:DataW Unit)
  (hm:a.eval m= .map (some b)) (ab:w.ownsMap P k R b n D) (hn:n<maxLen) (key val:Value) (kl:Lit) (hx:a.eval x=key) (hv:a.eval v=val) (hkey:keyOf P k key=some kl)
  (d:DataW Unit) (ps:List MemPlace) (lY:R val=some (d,ps))
  (hK: ∀w',w'.ownsMap P k R b (n+1) (D.put kl d)→w.grownBy w' (some b)→wpList P ops Q rest (a.put o.dst undef) w'):wpList P ops Q (o::rest) a w:=by
 refine wpList_plain hg fun K' hK'=> ?_;obtain⟨w',ce,r1,r2⟩:=ab.update K ht hn hkey lY;unfold Oper.wp;simp[execOp,hop,hm,hx,hv,ce,Result.andThen]
 exact hK' _ _ (hK w' r1 r2)
end Go.Proofs.YtlgcflpaekbopaaGreat
