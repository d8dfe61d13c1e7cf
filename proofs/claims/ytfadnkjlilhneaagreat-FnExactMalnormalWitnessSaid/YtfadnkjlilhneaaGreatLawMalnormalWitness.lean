/- The law FnExactMalnormalWitness: for every input the program answers as the reference, in memory of its own. -/
import Derived.Test.YtfadnkjlilhneaaGreatP01
import Derived.Test.YtfadnkjlilhneaaGreatP07
import Derived.Test.YtfadnkjlilhneaaGreatRows
import Derived.Test.YtfadnkjlilhneaaGreatCloMalnormalWitness
namespace Go.Proofs.YtfadnkjlilhneaaGreat.fnExactMalnormalWitness
set_option maxRecDepth 20000
set_option linter.unusedVariables false
set_option linter.unusedSimpArgs false
open Go.ChangeShapes Go.WideShapes Go.ChangeAt Go.RowKit
open Go.ChangeMaps (open_string shut_string)
set_option maxHeartbeats 3200000 in
theorem walk (v0:Value) (x0:GrD) (w:World) (h0:ArgG w v0 x0):
  Calls Tryz.prog 3 #[v0] w fun e w'=>e= .returned (.bool true)∧Below w.heap.size w w':=by
 obtain⟨sx0,rfl,hdx0,hd2x0,hax0⟩:=id (h0);obtain⟨Ax0,cx0,rfl,hc1x0,hc2x0,_⟩:=hax0;unfold maxLen at hc2x0
 clear hdx0 hd2x0
 by_cases hz0:(1048576:Int)-((x0.2.2.length:Nat):Int)<0
 ·skip
  go_enter Tryz.func3,Tryz.ntmps3
  go_wp2_with fail
  refine(szGraph_any _ x0 _ _ (h0.below (by repeat(first | exact Below.refl _ _ | (refine Below.setCell ?_ (by first | omega | (simp<;>omega)) _) | (refine bel_drewN ?_ _) | (refine Below.drew ?_) | (refine Below.alloc ?_ (by first | omega | (simp<;>omega)) _)))) (by omega) (by omega)).mono ?_
  rintro e wz0 ⟨rfl,bz0⟩
  have BZ0:=hDD bz0
  have hzs0:=bz0.size
  have hzq0:w.heap.size≤wz0.heap.size:=by first | omega | (have hq:=bz0.size;simp at hq;omega)
  simp only[if_pos (show((1048576:Int)-((x0.2.2.length:Nat):Int)<0) by omega)]
  clear bz0
  go_wp2
  go_ret
  exact⟨rfl,(by repeat(first | exact Below.refl _ _ | (refine Below.setCell ?_ (by first | omega | (simp<;>omega)) _) | (refine bel_drewN ?_ _) | (refine Below.drew ?_) | (refine Below.alloc ?_ (by first | omega | (simp<;>omega)) _) | (refine Below.trans ?_ (Below.mono (Hid.out BZ0) (by first | omega | (simp<;>omega))))))⟩
 have hm0:x0.2.2.length≤1048576:=by omega
 have X0:=hDD h0.ob
 clear h0
 have B:=hDD (Below.refl w.heap.size w)
 have hz0:=(mal_len x0).1
 have hz1:=(mal_len x0).2
 go_enter Tryz.func3,Tryz.ntmps3
 go_wp2_with fail
 obtain⟨u1,hw_u1⟩: ∃W,W=World.alloc w (Obj.cells #[.int .i64 (x0).1, .int .i64 (x0).2.1, .slice Ax0 (x0).2.2.length cx0] 24):=⟨_,rfl⟩
 rw[←hw_u1]
 have T:=hDD (Tr.alloc_eq hw_u1)
 have hsz_u1:=Tr.alloc_size hw_u1
 have hs_u1:=T.out.size
 replace X0:=hDD (X0.out.tr T.out (by omega))
 replace B:=hDD (bel_tr B.out T.out (by omega) (by omega))
 have BA0:=hDD (Box.new hw_u1)
 have hE_u1:u1.heap.size=w.heap.size+1:=by rw[hw_u1];simp
 clear T hw_u1
 try rw[←hE_u1]
 clear hE_u1
 have hlt_BA0:w.heap.size<u1.heap.size:=by omega
 have hb_BA0_0:=BA0.out.holds.cell_0
 have hb_BA0_1:=BA0.out.holds.cell_1
 have hb_BA0_2:=BA0.out.holds.cell_2
 go_wp2_with fail
 refine(szGraph_ob _ x0 _ _ X0.out.holds (by omega) (by omega)).mono ?_
 rintro e w2 ⟨rfl,b⟩
 have T:=hDD (Tr.below b)
 have hs_w2:=T.out.size
 replace X0:=hDD (X0.out.tr T.out (by omega))
 replace BA0:=hDD (BA0.out.tr T.out (by omega))
 replace B:=hDD (bel_tr B.out T.out (by omega) (by omega))
 clear b
 simp only[if_neg (show ¬((1048576:Int)-((x0.2.2.length:Nat):Int)<0) by omega)]
 clear T
 clear hlt_BA0
 clear hb_BA0_0
 clear hb_BA0_1
 clear hb_BA0_2
 have hlt_BA0:w.heap.size<w2.heap.size:=by omega
 have hb_BA0_0:=BA0.out.holds.cell_0
 have hb_BA0_1:=BA0.out.holds.cell_1
 have hb_BA0_2:=BA0.out.holds.cell_2
 go_wp2_with fail
 refine(toGraph_ob _ x0 _ X0.out.holds hm0).mono ?_
 rintro e w3 ⟨rY1,rfl,oo,b⟩
 have T:=hDD b
 have hs_w3:=T.out.size
 replace X0:=hDD (X0.out.tr T.out (by omega))
 replace BA0:=hDD (BA0.out.tr T.out (by omega))
 replace B:=hDD (bel_tr B.out T.out (by omega) (by omega))
 have Y1:=hDD oo
 clear oo b
 obtain⟨sY1,rfl,hdY1,hd2Y1,haY1⟩:=id (Y1.out.holds)
 obtain⟨AY1,cY1,rfl,_⟩:=OwE.form haY1.1
 clear hdY1 hd2Y1 haY1
 clear T
 clear hlt_BA0
 clear hb_BA0_0
 clear hb_BA0_1
 clear hb_BA0_2
 have hlt_BA0:w.heap.size<w3.heap.size:=by omega
 have hb_BA0_0:=BA0.out.holds.cell_0
 have hb_BA0_1:=BA0.out.holds.cell_1
 have hb_BA0_2:=BA0.out.holds.cell_2
 go_wp2_with fail
 refine(specMalnormalWitness_law _ x0 _ Y1.out.holds.arg).mono ?_
 rintro e w4 ⟨rS0,rS1,rfl,oS0,oS1,b⟩
 have T:=hDD (Tr.below b)
 have hs_w4:=T.out.size
 replace X0:=hDD (X0.out.tr T.out (by omega))
 replace BA0:=hDD (BA0.out.tr T.out (by omega))
 replace Y1:=hDD (Y1.out.tr T.out (by omega))
 replace B:=hDD (bel_tr B.out T.out (by omega) (by omega))
 have S0:=hDD oS0.ob
 have S1:=hDD oS1.ob
 clear oS0
 clear oS1
 clear b
 clear T
 clear Y1
 clear hlt_BA0
 clear hb_BA0_0
 clear hb_BA0_1
 clear hb_BA0_2
 have hlt_BA0:w.heap.size<w4.heap.size:=by omega
 have hb_BA0_0:=BA0.out.holds.cell_0
 have hb_BA0_1:=BA0.out.holds.cell_1
 have hb_BA0_2:=BA0.out.holds.cell_2
 go_wp2_with fail
 refine(toGraph_ob _ x0 _ X0.out.holds hm0).mono ?_
 rintro e w5 ⟨rY2,rfl,oo,b⟩
 have T:=hDD b
 have hs_w5:=T.out.size
 replace X0:=hDD (X0.out.tr T.out (by omega))
 replace BA0:=hDD (BA0.out.tr T.out (by omega))
 replace S0:=hDD (S0.out.tr T.out (by omega))
 replace S1:=hDD (S1.out.tr T.out (by omega))
 replace B:=hDD (bel_tr B.out T.out (by omega) (by omega))
 have Y2:=hDD oo
 clear oo b
 obtain⟨sY2,rfl,hdY2,hd2Y2,haY2⟩:=id (Y2.out.holds)
 obtain⟨AY2,cY2,rfl,_⟩:=OwE.form haY2.1
 clear hdY2 hd2Y2 haY2
 clear T
 clear hlt_BA0
 clear hb_BA0_0
 clear hb_BA0_1
 clear hb_BA0_2
 have hlt_BA0:w.heap.size<w5.heap.size:=by omega
 have hb_BA0_0:=BA0.out.holds.cell_0
 have hb_BA0_1:=BA0.out.holds.cell_1
 have hb_BA0_2:=BA0.out.holds.cell_2
 go_wp2_with fail
 obtain⟨u6,hw_u6⟩: ∃W,W=World.alloc w5 (Obj.cells #[.int .i64 (x0).1, .int .i64 (x0).2.1, .slice AY2 (x0).2.2.length cY2] 31):=⟨_,rfl⟩
 rw[←hw_u6]
 have T:=hDD (Tr.alloc_eq hw_u6)
 have hsz_u6:=Tr.alloc_size hw_u6
 have hs_u6:=T.out.size
 replace X0:=hDD (X0.out.tr T.out (by omega))
 replace BA0:=hDD (BA0.out.tr T.out (by omega))
 replace S0:=hDD (S0.out.tr T.out (by omega))
 replace S1:=hDD (S1.out.tr T.out (by omega))
 replace Y2:=hDD (Y2.out.tr T.out (by omega))
 replace B:=hDD (bel_tr B.out T.out (by omega) (by omega))
 have BXY2:=hDD (Box.new hw_u6)
 have hE_u6:u6.heap.size=w5.heap.size+1:=by rw[hw_u6];simp
 clear T hw_u6
 try rw[←hE_u6]
 clear hE_u6
 clear hlt_BA0
 clear hb_BA0_0
 clear hb_BA0_1
 clear hb_BA0_2
 have hlt_BA0:w.heap.size<u6.heap.size:=by omega
 have hb_BA0_0:=BA0.out.holds.cell_0
 have hb_BA0_1:=BA0.out.holds.cell_1
 have hb_BA0_2:=BA0.out.holds.cell_2
 have hlt_BXY2:w5.heap.size<u6.heap.size:=by omega
 have hb_BXY2_0:=BXY2.out.holds.cell_0
 have hb_BXY2_1:=BXY2.out.holds.cell_1
 have hb_BXY2_2:=BXY2.out.holds.cell_2
 go_wp2_with fail
 refine(implMalnormalWitness_sep _ x0 _ Y2.out.holds.arg).mono ?_
 rintro e w7 ⟨rG0,rG1,rfl,oG0,oG1,b⟩
 have T:=hDD (Tr.below b)
 have hs_w7:=T.out.size
 replace X0:=hDD (X0.out.tr T.out (by omega))
 replace BA0:=hDD (BA0.out.tr T.out (by omega))
 replace S0:=hDD (S0.out.tr T.out (by omega))
 replace S1:=hDD (S1.out.tr T.out (by omega))
 replace Y2:=hDD (Y2.out.tr T.out (by omega))
 replace BXY2:=hDD (BXY2.out.tr T.out (by omega))
 replace B:=hDD (bel_tr B.out T.out (by omega) (by omega))
 have G:=hDD (OPi.new oG0 oG1)
 clear oG0
 clear oG1
 clear b
 clear T
 clear hlt_BA0
 clear hb_BA0_0
 clear hb_BA0_1
 clear hb_BA0_2
 clear hlt_BXY2
 clear hb_BXY2_0
 clear hb_BXY2_1
 clear hb_BXY2_2
 have hlt_BA0:w.heap.size<w7.heap.size:=by omega
 have hb_BA0_0:=BA0.out.holds.cell_0
 have hb_BA0_1:=BA0.out.holds.cell_1
 have hb_BA0_2:=BA0.out.holds.cell_2
 have hlt_BXY2:w5.heap.size<w7.heap.size:=by omega
 have hb_BXY2_0:=BXY2.out.holds.cell_0
 have hb_BXY2_1:=BXY2.out.holds.cell_1
 have hb_BXY2_2:=BXY2.out.holds.cell_2
 go_wp2_with fail
 refine(eqIntS_ob _ _ ((malF x0).1) ((malF x0).1) _ (OPi.fst G.out).holds S0.out.holds).mono ?_
 rintro e w8 ⟨rfl,b⟩
 have T:=hDD b
 have hs_w8:=T.out.size
 replace X0:=hDD (X0.out.tr T.out (by omega))
 replace BA0:=hDD (BA0.out.tr T.out (by omega))
 replace S0:=hDD (S0.out.tr T.out (by omega))
 replace S1:=hDD (S1.out.tr T.out (by omega))
 replace Y2:=hDD (Y2.out.tr T.out (by omega))
 replace BXY2:=hDD (BXY2.out.tr T.out (by omega))
 replace G:=hDD (G.out.tr T.out (by omega))
 replace B:=hDD (bel_tr B.out T.out (by omega) (by omega))
 clear b
 simp only[decide_true]
 clear T
 clear hlt_BA0
 clear hb_BA0_0
 clear hb_BA0_1
 clear hb_BA0_2
 clear hlt_BXY2
 clear hb_BXY2_0
 clear hb_BXY2_1
 clear hb_BXY2_2
 have hlt_BA0:w.heap.size<w8.heap.size:=by omega
 have hb_BA0_0:=BA0.out.holds.cell_0
 have hb_BA0_1:=BA0.out.holds.cell_1
 have hb_BA0_2:=BA0.out.holds.cell_2
 have hlt_BXY2:w5.heap.size<w8.heap.size:=by omega
 have hb_BXY2_0:=BXY2.out.holds.cell_0
 have hb_BXY2_1:=BXY2.out.holds.cell_1
 have hb_BXY2_2:=BXY2.out.holds.cell_2
 go_wp2_with fail
 refine(eqIntS_ob _ _ ((malF x0).2.1) ((malF x0).2.1) _ (OPi.snd G.out).holds S1.out.holds).mono ?_
 rintro e w9 ⟨rfl,b⟩
 have T:=hDD b
 have hs_w9:=T.out.size
 replace X0:=hDD (X0.out.tr T.out (by omega))
 replace BA0:=hDD (BA0.out.tr T.out (by omega))
 replace S0:=hDD (S0.out.tr T.out (by omega))
 replace S1:=hDD (S1.out.tr T.out (by omega))
 replace Y2:=hDD (Y2.out.tr T.out (by omega))
 replace BXY2:=hDD (BXY2.out.tr T.out (by omega))
 replace G:=hDD (G.out.tr T.out (by omega))
 replace B:=hDD (bel_tr B.out T.out (by omega) (by omega))
 clear b
 simp only[decide_true]
 clear T
 clear hlt_BA0
 clear hb_BA0_0
 clear hb_BA0_1
 clear hb_BA0_2
 clear hlt_BXY2
 clear hb_BXY2_0
 clear hb_BXY2_1
 clear hb_BXY2_2
 have hq_BXY2:=BXY2.out.holds
 have hq_BA0:=BA0.out.holds
 clear hq_BXY2 hq_BA0
 have hlt_BA0:w.heap.size<w9.heap.size:=by omega
 have hb_BA0_0:=BA0.out.holds.cell_0
 have hb_BA0_1:=BA0.out.holds.cell_1
 have hb_BA0_2:=BA0.out.holds.cell_2
 have hlt_BXY2:w5.heap.size<w9.heap.size:=by omega
 have hb_BXY2_0:=BXY2.out.holds.cell_0
 have hb_BXY2_1:=BXY2.out.holds.cell_1
 have hb_BXY2_2:=BXY2.out.holds.cell_2
 go_wp2_with fail
 have T:=hDD (Tr.drew w9)
 have hs_d9:=T.out.size
 replace X0:=hDD (X0.out.tr T.out (by omega))
 replace BA0:=hDD (BA0.out.tr T.out (by omega))
 replace S0:=hDD (S0.out.tr T.out (by omega))
 replace S1:=hDD (S1.out.tr T.out (by omega))
 replace Y2:=hDD (Y2.out.tr T.out (by omega))
 replace BXY2:=hDD (BXY2.out.tr T.out (by omega))
 replace G:=hDD (G.out.tr T.out (by omega))
 replace B:=hDD (bel_tr B.out T.out (by omega) (by omega))
 clear T
 go_region_held3 (fun w'=>w'.cell? ⟨w5.heap.size,0,none⟩=some (.int .i64 (x0).1)∧w'.cell? ⟨w5.heap.size,1,none⟩=some (.int .i64 (x0).2.1)∧w'.cell? ⟨w5.heap.size,2,none⟩=some (.slice AY2 (x0).2.2.length cY2)∧w'.cell? ⟨w.heap.size,0,none⟩=some (.int .i64 (x0).1)∧w'.cell? ⟨w.heap.size,1,none⟩=some (.int .i64 (x0).2.1)∧w'.cell? ⟨w.heap.size,2,none⟩=some (.slice Ax0 (x0).2.2.length cx0))
  (first | go_keep | (exact⟨BXY2.out.holds.cell_0,BXY2.out.holds.cell_1,BXY2.out.holds.cell_2,BA0.out.holds.cell_0,BA0.out.holds.cell_1,BA0.out.holds.cell_2⟩))
  (first | (go_at_call 9;refine(toGraph_ob _ x0 _ X0.out.holds hm0).mono ?_;rintro e w10 ⟨rY3,rfl,oo,b⟩;have T:=hDD b;have hs_w10:=T.out.size;replace X0:=hDD (X0.out.tr T.out (by omega));replace BA0:=hDD (BA0.out.tr T.out (by omega));replace S0:=hDD (S0.out.tr T.out (by omega));replace S1:=hDD (S1.out.tr T.out (by omega));replace Y2:=hDD (Y2.out.tr T.out (by omega));replace BXY2:=hDD (BXY2.out.tr T.out (by omega));replace G:=hDD (G.out.tr T.out (by omega));replace B:=hDD (bel_tr B.out T.out (by omega) (by omega));have Y3:=hDD oo;clear oo b;obtain⟨sY3,rfl,hdY3,hd2Y3,haY3⟩:=id (Y3.out.holds);obtain⟨AY3,cY3,rfl,_⟩:=OwE.form haY3.1;clear hdY3 hd2Y3 haY3;clear T) | (go_at_call 12;refine(eqGraph_ob _ _ (x0) (x0) _ Y2.out.holds Y3.out.holds).mono ?_;rintro e w11 ⟨rfl,b⟩;have T:=hDD b;have hs_w11:=T.out.size;replace X0:=hDD (X0.out.tr T.out (by omega));replace BA0:=hDD (BA0.out.tr T.out (by omega));replace S0:=hDD (S0.out.tr T.out (by omega));replace S1:=hDD (S1.out.tr T.out (by omega));replace Y2:=hDD (Y2.out.tr T.out (by omega));replace BXY2:=hDD (BXY2.out.tr T.out (by omega));replace G:=hDD (G.out.tr T.out (by omega));replace Y3:=hDD (Y3.out.tr T.out (by omega));replace B:=hDD (bel_tr B.out T.out (by omega) (by omega));clear b;simp only[decide_true];clear T))
 clear Y3
 clear hlt_BA0
 clear hb_BA0_0
 clear hb_BA0_1
 clear hb_BA0_2
 clear hlt_BXY2
 clear hb_BXY2_0
 clear hb_BXY2_1
 clear hb_BXY2_2
 have hlt_BA0:w.heap.size<w11.heap.size:=by omega
 have hb_BA0_0:=BA0.out.holds.cell_0
 have hb_BA0_1:=BA0.out.holds.cell_1
 have hb_BA0_2:=BA0.out.holds.cell_2
 have hlt_BXY2:w5.heap.size<w11.heap.size:=by omega
 have hb_BXY2_0:=BXY2.out.holds.cell_0
 have hb_BXY2_1:=BXY2.out.holds.cell_1
 have hb_BXY2_2:=BXY2.out.holds.cell_2
 go_wp2_with fail
 refine(markGraph_ob _ (x0) _ _ _ _ Y2.out (by first | omega | exact size_ok) (by omega) (by omega)).mono ?_
 rintro e w12 ⟨rfl,oo,t⟩
 have T:=hDD t
 have hs_w12:=T.out.size
 replace X0:=hDD (X0.out.tr T.out (by omega))
 replace BA0:=hDD (BA0.out.tr T.out (by omega))
 replace S0:=hDD (S0.out.tr T.out (by omega))
 replace S1:=hDD (S1.out.tr T.out (by omega))
 replace BXY2:=hDD (BXY2.out.tr T.out (by omega))
 replace G:=hDD (G.out.tr T.out (by omega))
 replace B:=hDD (bel_tr B.out T.out (by omega) (by omega))
 replace Y2:=hDD oo
 clear t oo
 clear T
 clear hlt_BA0
 clear hb_BA0_0
 clear hb_BA0_1
 clear hb_BA0_2
 clear hlt_BXY2
 clear hb_BXY2_0
 clear hb_BXY2_1
 clear hb_BXY2_2
 have hlt_BA0:w.heap.size<w12.heap.size:=by omega
 have hb_BA0_0:=BA0.out.holds.cell_0
 have hb_BA0_1:=BA0.out.holds.cell_1
 have hb_BA0_2:=BA0.out.holds.cell_2
 have hlt_BXY2:w5.heap.size<w12.heap.size:=by omega
 have hb_BXY2_0:=BXY2.out.holds.cell_0
 have hb_BXY2_1:=BXY2.out.holds.cell_1
 have hb_BXY2_2:=BXY2.out.holds.cell_2
 go_wp2_with fail
 refine(eqIntS_ob _ _ ((malF x0).1) ((malF x0).1) _ (OPi.fst G.out).holds S0.out.holds).mono ?_
 rintro e w13 ⟨rfl,b⟩
 have T:=hDD b
 have hs_w13:=T.out.size
 replace X0:=hDD (X0.out.tr T.out (by omega))
 replace BA0:=hDD (BA0.out.tr T.out (by omega))
 replace S0:=hDD (S0.out.tr T.out (by omega))
 replace S1:=hDD (S1.out.tr T.out (by omega))
 replace BXY2:=hDD (BXY2.out.tr T.out (by omega))
 replace G:=hDD (G.out.tr T.out (by omega))
 replace Y2:=hDD (Y2.out.tr T.out (by omega))
 replace B:=hDD (bel_tr B.out T.out (by omega) (by omega))
 clear b
 simp only[decide_true]
 clear T
 clear hlt_BA0
 clear hb_BA0_0
 clear hb_BA0_1
 clear hb_BA0_2
 clear hlt_BXY2
 clear hb_BXY2_0
 clear hb_BXY2_1
 clear hb_BXY2_2
 have hlt_BA0:w.heap.size<w13.heap.size:=by omega
 have hb_BA0_0:=BA0.out.holds.cell_0
 have hb_BA0_1:=BA0.out.holds.cell_1
 have hb_BA0_2:=BA0.out.holds.cell_2
 have hlt_BXY2:w5.heap.size<w13.heap.size:=by omega
 have hb_BXY2_0:=BXY2.out.holds.cell_0
 have hb_BXY2_1:=BXY2.out.holds.cell_1
 have hb_BXY2_2:=BXY2.out.holds.cell_2
 go_wp2_with fail
 refine(eqIntS_ob _ _ ((malF x0).2.1) ((malF x0).2.1) _ (OPi.snd G.out).holds S1.out.holds).mono ?_
 rintro e w14 ⟨rfl,b⟩
 have T:=hDD b
 have hs_w14:=T.out.size
 replace X0:=hDD (X0.out.tr T.out (by omega))
 replace BA0:=hDD (BA0.out.tr T.out (by omega))
 replace S0:=hDD (S0.out.tr T.out (by omega))
 replace S1:=hDD (S1.out.tr T.out (by omega))
 replace BXY2:=hDD (BXY2.out.tr T.out (by omega))
 replace G:=hDD (G.out.tr T.out (by omega))
 replace Y2:=hDD (Y2.out.tr T.out (by omega))
 replace B:=hDD (bel_tr B.out T.out (by omega) (by omega))
 clear b
 simp only[decide_true]
 clear T
 clear hlt_BA0
 clear hb_BA0_0
 clear hb_BA0_1
 clear hb_BA0_2
 clear hlt_BXY2
 clear hb_BXY2_0
 clear hb_BXY2_1
 clear hb_BXY2_2
 have hlt_BA0:w.heap.size<w14.heap.size:=by omega
 have hb_BA0_0:=BA0.out.holds.cell_0
 have hb_BA0_1:=BA0.out.holds.cell_1
 have hb_BA0_2:=BA0.out.holds.cell_2
 have hlt_BXY2:w5.heap.size<w14.heap.size:=by omega
 have hb_BXY2_0:=BXY2.out.holds.cell_0
 have hb_BXY2_1:=BXY2.out.holds.cell_1
 have hb_BXY2_2:=BXY2.out.holds.cell_2
 go_wp2_with fail
 refine(markIntS_p1 _ _ ((malF x0).1) ((malF x0).2.1) _ _ _ _ G.out (mal_len x0).1 (by omega) (by omega)).mono ?_
 rintro e w15 ⟨rfl,oo,t⟩
 have T:=hDD t
 have hs_w15:=T.out.size
 replace X0:=hDD (X0.out.tr T.out (by omega))
 replace BA0:=hDD (BA0.out.tr T.out (by omega))
 replace S0:=hDD (S0.out.tr T.out (by omega))
 replace S1:=hDD (S1.out.tr T.out (by omega))
 replace BXY2:=hDD (BXY2.out.tr T.out (by omega))
 replace Y2:=hDD (Y2.out.tr T.out (by omega))
 replace B:=hDD (bel_tr B.out T.out (by omega) (by omega))
 replace G:=hDD oo
 clear t oo
 clear T
 clear hlt_BA0
 clear hb_BA0_0
 clear hb_BA0_1
 clear hb_BA0_2
 clear hlt_BXY2
 clear hb_BXY2_0
 clear hb_BXY2_1
 clear hb_BXY2_2
 have hlt_BA0:w.heap.size<w15.heap.size:=by omega
 have hb_BA0_0:=BA0.out.holds.cell_0
 have hb_BA0_1:=BA0.out.holds.cell_1
 have hb_BA0_2:=BA0.out.holds.cell_2
 have hlt_BXY2:w5.heap.size<w15.heap.size:=by omega
 have hb_BXY2_0:=BXY2.out.holds.cell_0
 have hb_BXY2_1:=BXY2.out.holds.cell_1
 have hb_BXY2_2:=BXY2.out.holds.cell_2
 go_wp2_with fail
 refine(markIntS_p2 _ _ (iota 1 ((malF x0).1).length) ((malF x0).2.1) _ _ _ _ G.out (mal_len x0).2 (by omega) (by omega)).mono ?_
 rintro e w16 ⟨rfl,oo,t⟩
 have T:=hDD t
 have hs_w16:=T.out.size
 replace X0:=hDD (X0.out.tr T.out (by omega))
 replace BA0:=hDD (BA0.out.tr T.out (by omega))
 replace S0:=hDD (S0.out.tr T.out (by omega))
 replace S1:=hDD (S1.out.tr T.out (by omega))
 replace BXY2:=hDD (BXY2.out.tr T.out (by omega))
 replace Y2:=hDD (Y2.out.tr T.out (by omega))
 replace B:=hDD (bel_tr B.out T.out (by omega) (by omega))
 replace G:=hDD oo
 clear t oo
 clear T
 clear hlt_BA0
 clear hb_BA0_0
 clear hb_BA0_1
 clear hb_BA0_2
 clear hlt_BXY2
 clear hb_BXY2_0
 clear hb_BXY2_1
 clear hb_BXY2_2
 have hlt_BA0:w.heap.size<w16.heap.size:=by omega
 have hb_BA0_0:=BA0.out.holds.cell_0
 have hb_BA0_1:=BA0.out.holds.cell_1
 have hb_BA0_2:=BA0.out.holds.cell_2
 have hlt_BXY2:w5.heap.size<w16.heap.size:=by omega
 have hb_BXY2_0:=BXY2.out.holds.cell_0
 have hb_BXY2_1:=BXY2.out.holds.cell_1
 have hb_BXY2_2:=BXY2.out.holds.cell_2
 go_wp2_with fail
 refine(heldIntS_ob _ ((malF x0).1) _ _ _ _ (OPi.fst G.out) (mal_len x0).1 (by omega) (by omega)).mono ?_
 rintro e w17 ⟨rfl,b⟩
 have T:=hDD b
 have hs_w17:=T.out.size
 replace X0:=hDD (X0.out.tr T.out (by omega))
 replace BA0:=hDD (BA0.out.tr T.out (by omega))
 replace S0:=hDD (S0.out.tr T.out (by omega))
 replace S1:=hDD (S1.out.tr T.out (by omega))
 replace BXY2:=hDD (BXY2.out.tr T.out (by omega))
 replace Y2:=hDD (Y2.out.tr T.out (by omega))
 replace G:=hDD (G.out.tr T.out (by omega))
 replace B:=hDD (bel_tr B.out T.out (by omega) (by omega))
 clear b
 clear T
 clear hlt_BA0
 clear hb_BA0_0
 clear hb_BA0_1
 clear hb_BA0_2
 clear hlt_BXY2
 clear hb_BXY2_0
 clear hb_BXY2_1
 clear hb_BXY2_2
 have hlt_BA0:w.heap.size<w17.heap.size:=by omega
 have hb_BA0_0:=BA0.out.holds.cell_0
 have hb_BA0_1:=BA0.out.holds.cell_1
 have hb_BA0_2:=BA0.out.holds.cell_2
 have hlt_BXY2:w5.heap.size<w17.heap.size:=by omega
 have hb_BXY2_0:=BXY2.out.holds.cell_0
 have hb_BXY2_1:=BXY2.out.holds.cell_1
 have hb_BXY2_2:=BXY2.out.holds.cell_2
 go_wp2_with fail
 refine(heldIntS_ob _ ((malF x0).2.1) _ _ _ _ (OPi.snd G.out) (mal_len x0).2 (by omega) (by omega)).mono ?_
 rintro e w18 ⟨rfl,b⟩
 have T:=hDD b
 have hs_w18:=T.out.size
 replace X0:=hDD (X0.out.tr T.out (by omega))
 replace BA0:=hDD (BA0.out.tr T.out (by omega))
 replace S0:=hDD (S0.out.tr T.out (by omega))
 replace S1:=hDD (S1.out.tr T.out (by omega))
 replace BXY2:=hDD (BXY2.out.tr T.out (by omega))
 replace Y2:=hDD (Y2.out.tr T.out (by omega))
 replace G:=hDD (G.out.tr T.out (by omega))
 replace B:=hDD (bel_tr B.out T.out (by omega) (by omega))
 clear b
 clear T
 clear hlt_BA0
 clear hb_BA0_0
 clear hb_BA0_1
 clear hb_BA0_2
 clear hlt_BXY2
 clear hb_BXY2_0
 clear hb_BXY2_1
 clear hb_BXY2_2
 have hlt_BA0:w.heap.size<w18.heap.size:=by omega
 have hb_BA0_0:=BA0.out.holds.cell_0
 have hb_BA0_1:=BA0.out.holds.cell_1
 have hb_BA0_2:=BA0.out.holds.cell_2
 have hlt_BXY2:w5.heap.size<w18.heap.size:=by omega
 have hb_BXY2_0:=BXY2.out.holds.cell_0
 have hb_BXY2_1:=BXY2.out.holds.cell_1
 have hb_BXY2_2:=BXY2.out.holds.cell_2
 go_wp2_with fail
 refine(toGraph_ob _ x0 _ X0.out.holds hm0).mono ?_
 rintro e w19 ⟨rY4,rfl,oo,b⟩
 have T:=hDD b
 have hs_w19:=T.out.size
 replace X0:=hDD (X0.out.tr T.out (by omega))
 replace BA0:=hDD (BA0.out.tr T.out (by omega))
 replace S0:=hDD (S0.out.tr T.out (by omega))
 replace S1:=hDD (S1.out.tr T.out (by omega))
 replace BXY2:=hDD (BXY2.out.tr T.out (by omega))
 replace Y2:=hDD (Y2.out.tr T.out (by omega))
 replace G:=hDD (G.out.tr T.out (by omega))
 replace B:=hDD (bel_tr B.out T.out (by omega) (by omega))
 have Y4:=hDD oo
 clear oo b
 obtain⟨sY4,rfl,hdY4,hd2Y4,haY4⟩:=id (Y4.out.holds)
 obtain⟨AY4,cY4,rfl,_⟩:=OwE.form haY4.1
 clear hdY4 hd2Y4 haY4
 clear T
 clear hlt_BA0
 clear hb_BA0_0
 clear hb_BA0_1
 clear hb_BA0_2
 clear hlt_BXY2
 clear hb_BXY2_0
 clear hb_BXY2_1
 clear hb_BXY2_2
 have hlt_BA0:w.heap.size<w19.heap.size:=by omega
 have hb_BA0_0:=BA0.out.holds.cell_0
 have hb_BA0_1:=BA0.out.holds.cell_1
 have hb_BA0_2:=BA0.out.holds.cell_2
 have hlt_BXY2:w5.heap.size<w19.heap.size:=by omega
 have hb_BXY2_0:=BXY2.out.holds.cell_0
 have hb_BXY2_1:=BXY2.out.holds.cell_1
 have hb_BXY2_2:=BXY2.out.holds.cell_2
 go_wp2_with fail
 refine(implMalnormalWitness_law _ x0 _ Y4.out.holds.arg).mono ?_
 rintro e w20 ⟨rH0,rH1,rfl,oH0,oH1,b⟩
 have T:=hDD (Tr.below b)
 have hs_w20:=T.out.size
 replace X0:=hDD (X0.out.tr T.out (by omega))
 replace BA0:=hDD (BA0.out.tr T.out (by omega))
 replace S0:=hDD (S0.out.tr T.out (by omega))
 replace S1:=hDD (S1.out.tr T.out (by omega))
 replace BXY2:=hDD (BXY2.out.tr T.out (by omega))
 replace Y2:=hDD (Y2.out.tr T.out (by omega))
 replace G:=hDD (G.out.tr T.out (by omega))
 replace Y4:=hDD (Y4.out.tr T.out (by omega))
 replace B:=hDD (bel_tr B.out T.out (by omega) (by omega))
 have H0:=hDD oH0.ob
 have H1:=hDD oH1.ob
 clear oH0
 clear oH1
 clear b
 clear T
 clear Y4
 clear hlt_BA0
 clear hb_BA0_0
 clear hb_BA0_1
 clear hb_BA0_2
 clear hlt_BXY2
 clear hb_BXY2_0
 clear hb_BXY2_1
 clear hb_BXY2_2
 have hlt_BA0:w.heap.size<w20.heap.size:=by omega
 have hb_BA0_0:=BA0.out.holds.cell_0
 have hb_BA0_1:=BA0.out.holds.cell_1
 have hb_BA0_2:=BA0.out.holds.cell_2
 have hlt_BXY2:w5.heap.size<w20.heap.size:=by omega
 have hb_BXY2_0:=BXY2.out.holds.cell_0
 have hb_BXY2_1:=BXY2.out.holds.cell_1
 have hb_BXY2_2:=BXY2.out.holds.cell_2
 go_wp2_with fail
 refine(eqIntS_ob _ _ ((malF x0).1) ((malF x0).1) _ H0.out.holds S0.out.holds).mono ?_
 rintro e w21 ⟨rfl,b⟩
 have T:=hDD b
 have hs_w21:=T.out.size
 replace X0:=hDD (X0.out.tr T.out (by omega))
 replace BA0:=hDD (BA0.out.tr T.out (by omega))
 replace S0:=hDD (S0.out.tr T.out (by omega))
 replace S1:=hDD (S1.out.tr T.out (by omega))
 replace BXY2:=hDD (BXY2.out.tr T.out (by omega))
 replace Y2:=hDD (Y2.out.tr T.out (by omega))
 replace G:=hDD (G.out.tr T.out (by omega))
 replace H0:=hDD (H0.out.tr T.out (by omega))
 replace H1:=hDD (H1.out.tr T.out (by omega))
 replace B:=hDD (bel_tr B.out T.out (by omega) (by omega))
 clear b
 simp only[decide_true]
 clear T
 clear hlt_BA0
 clear hb_BA0_0
 clear hb_BA0_1
 clear hb_BA0_2
 clear hlt_BXY2
 clear hb_BXY2_0
 clear hb_BXY2_1
 clear hb_BXY2_2
 have hlt_BA0:w.heap.size<w21.heap.size:=by omega
 have hb_BA0_0:=BA0.out.holds.cell_0
 have hb_BA0_1:=BA0.out.holds.cell_1
 have hb_BA0_2:=BA0.out.holds.cell_2
 have hlt_BXY2:w5.heap.size<w21.heap.size:=by omega
 have hb_BXY2_0:=BXY2.out.holds.cell_0
 have hb_BXY2_1:=BXY2.out.holds.cell_1
 have hb_BXY2_2:=BXY2.out.holds.cell_2
 go_wp2_with fail
 refine(eqIntS_ob _ _ ((malF x0).2.1) ((malF x0).2.1) _ H1.out.holds S1.out.holds).mono ?_
 rintro e w22 ⟨rfl,b⟩
 have T:=hDD b
 have hs_w22:=T.out.size
 replace X0:=hDD (X0.out.tr T.out (by omega))
 replace BA0:=hDD (BA0.out.tr T.out (by omega))
 replace S0:=hDD (S0.out.tr T.out (by omega))
 replace S1:=hDD (S1.out.tr T.out (by omega))
 replace BXY2:=hDD (BXY2.out.tr T.out (by omega))
 replace Y2:=hDD (Y2.out.tr T.out (by omega))
 replace G:=hDD (G.out.tr T.out (by omega))
 replace H0:=hDD (H0.out.tr T.out (by omega))
 replace H1:=hDD (H1.out.tr T.out (by omega))
 replace B:=hDD (bel_tr B.out T.out (by omega) (by omega))
 clear b
 simp only[decide_true]
 clear T
 clear hlt_BA0
 clear hb_BA0_0
 clear hb_BA0_1
 clear hb_BA0_2
 clear hlt_BXY2
 clear hb_BXY2_0
 clear hb_BXY2_1
 clear hb_BXY2_2
 have hlt_BA0:w.heap.size<w22.heap.size:=by omega
 have hb_BA0_0:=BA0.out.holds.cell_0
 have hb_BA0_1:=BA0.out.holds.cell_1
 have hb_BA0_2:=BA0.out.holds.cell_2
 have hlt_BXY2:w5.heap.size<w22.heap.size:=by omega
 have hb_BXY2_0:=BXY2.out.holds.cell_0
 have hb_BXY2_1:=BXY2.out.holds.cell_1
 have hb_BXY2_2:=BXY2.out.holds.cell_2
 go_wp2_with fail
 refine(heldIntS_ob _ ((malF x0).1) _ _ _ _ (OPi.fst G.out) (mal_len x0).1 (by omega) (by omega)).mono ?_
 rintro e w23 ⟨rfl,b⟩
 have T:=hDD b
 have hs_w23:=T.out.size
 replace X0:=hDD (X0.out.tr T.out (by omega))
 replace BA0:=hDD (BA0.out.tr T.out (by omega))
 replace S0:=hDD (S0.out.tr T.out (by omega))
 replace S1:=hDD (S1.out.tr T.out (by omega))
 replace BXY2:=hDD (BXY2.out.tr T.out (by omega))
 replace Y2:=hDD (Y2.out.tr T.out (by omega))
 replace G:=hDD (G.out.tr T.out (by omega))
 replace H0:=hDD (H0.out.tr T.out (by omega))
 replace H1:=hDD (H1.out.tr T.out (by omega))
 replace B:=hDD (bel_tr B.out T.out (by omega) (by omega))
 clear b
 clear T
 clear hlt_BA0
 clear hb_BA0_0
 clear hb_BA0_1
 clear hb_BA0_2
 clear hlt_BXY2
 clear hb_BXY2_0
 clear hb_BXY2_1
 clear hb_BXY2_2
 have hlt_BA0:w.heap.size<w23.heap.size:=by omega
 have hb_BA0_0:=BA0.out.holds.cell_0
 have hb_BA0_1:=BA0.out.holds.cell_1
 have hb_BA0_2:=BA0.out.holds.cell_2
 have hlt_BXY2:w5.heap.size<w23.heap.size:=by omega
 have hb_BXY2_0:=BXY2.out.holds.cell_0
 have hb_BXY2_1:=BXY2.out.holds.cell_1
 have hb_BXY2_2:=BXY2.out.holds.cell_2
 go_wp2_with fail
 refine(heldIntS_ob _ ((malF x0).2.1) _ _ _ _ (OPi.snd G.out) (mal_len x0).2 (by omega) (by omega)).mono ?_
 rintro e w24 ⟨rfl,b⟩
 have T:=hDD b
 have hs_w24:=T.out.size
 replace X0:=hDD (X0.out.tr T.out (by omega))
 replace BA0:=hDD (BA0.out.tr T.out (by omega))
 replace S0:=hDD (S0.out.tr T.out (by omega))
 replace S1:=hDD (S1.out.tr T.out (by omega))
 replace BXY2:=hDD (BXY2.out.tr T.out (by omega))
 replace Y2:=hDD (Y2.out.tr T.out (by omega))
 replace G:=hDD (G.out.tr T.out (by omega))
 replace H0:=hDD (H0.out.tr T.out (by omega))
 replace H1:=hDD (H1.out.tr T.out (by omega))
 replace B:=hDD (bel_tr B.out T.out (by omega) (by omega))
 clear b
 clear T
 clear hlt_BA0
 clear hb_BA0_0
 clear hb_BA0_1
 clear hb_BA0_2
 clear hlt_BXY2
 clear hb_BXY2_0
 clear hb_BXY2_1
 clear hb_BXY2_2
 have hlt_BA0:w.heap.size<w24.heap.size:=by omega
 have hb_BA0_0:=BA0.out.holds.cell_0
 have hb_BA0_1:=BA0.out.holds.cell_1
 have hb_BA0_2:=BA0.out.holds.cell_2
 have hlt_BXY2:w5.heap.size<w24.heap.size:=by omega
 have hb_BXY2_0:=BXY2.out.holds.cell_0
 have hb_BXY2_1:=BXY2.out.holds.cell_1
 have hb_BXY2_2:=BXY2.out.holds.cell_2
 go_wp2
 go_ret
 exact⟨rfl,B.out⟩
set_option maxRecDepth 100000 in
theorem lifted (os:Os) (started:os.Started) (H:Type) (enc:TypeId×Value→H):
  ReturnsInHanded {} Tryz.checked os 3 .any (Rows.fnExactMalnormalWitnessSpec.pre6 enc Tryz.prog Tryz.f3 Rows.fnExactMalnormalWitnessRow.domain false) (Rows.fnExactMalnormalWitnessSpec.post enc Tryz.prog Tryz.f3 false true false false):=by
 refine returnsInHanded_of_change (C:=Tryz.checked) own started (by kernel_rfl) Tryz.func3
  (ChangeSpec.witness6 (enc:=enc) (C:=Tryz.checked) false ⟨#[],#[.agg #[.int .i64 0, .int .i64 0, .slice none 0 0]],[]⟩ 8 (by kernel_rfl) (by kernel_rfl) (by kernel_rfl) (by kernel_rfl)) ?_
 intro W base args ds gs before hval0 hW hcnd _
 have hval: ∀(j:Nat) t v,Tryz.f3.params[j]? =some t→args[j]? =some v→Value.okWide Tryz.prog W .any base t v:=hval0
 have hW':=hW
 obtain⟨p,q,hA0,hV,rfl,hfz,hnd⟩:=hW
 have hA:DataW.TrodAll enc Tryz.prog W 0 (fun _=>true) true Tryz.f3.params.toList args.toList ds p:=hA0
 rw[Tryz.params3] at hA hval
 obtain⟨v0,vs0,d0,ds0,p0,q0,hargs,rfl,rfl,h0,r0⟩:=trodAll_cons hA
 obtain⟨rfl,rfl,rfl⟩:=trodAll_nil r0
 obtain rfl:args= #[v0]:=by cases args;simp_all
 obtain⟨rfl,rfl⟩:=trodVars_none hV
 have k0:=h0
 have lt0: ∀x∈p0,x.block<W.heap.size:=by obtain⟨m,hm⟩:=k0;exact DataW.trod_lt m _ _ _ hm
 obtain⟨x0,a0⟩:=open_argG (hval 0 24 v0 rfl rfl) h0
 clear hA0 hval0
 refine(walk v0 x0 W a0).mono fun e W' ⟨he,bel⟩=> ?_
 subst he
 exact⟨_,rfl,_,_,_,[],_,[],hW',trodAll_mk1 (shut_bool Tryz.underlying4 _),(trodAll_cons_mk (Below.trod laidOut (by kernel_rfl) (of_decide_eq_true (by kernel_rfl)) k0 bel lt0) trodAll_mk0),rfl,bel.frame _,fun h=>by cases h⟩
theorem proved:Rows.FnExactMalnormalWitnessSaid:=
 OpenClaim.holds_of_wide 3 Tryz.f3 rfl rfl rfl rfl rfl rfl rfl ⟨rfl,rfl,rfl,rfl,rfl⟩ rfl rfl rfl rfl rfl (by as_aux_lemma=>kernel_rfl) Tryz.func3 closed
  (of_decide_eq_true (by as_aux_lemma=>kernel_rfl)) (by unfold Func.isWrapper;first | (rw[if_pos (by decide+kernel)];kernel_rfl) | (rw[if_neg (by decide+kernel)];exact⟨rfl,rfl⟩))
  (fun os started H enc _=>lifted os started H enc)
#print axioms proved
end Go.Proofs.YtfadnkjlilhneaaGreat.fnExactMalnormalWitness
