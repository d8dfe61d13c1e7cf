/- The law FnExactDoubleCosetLoops: for every input the program answers as the reference, in memory of its own. -/
import Derived.Test.YtfadnkjlilhneaaGreatP01
import Derived.Test.YtfadnkjlilhneaaGreatP07
import Derived.Test.YtfadnkjlilhneaaGreatRows
import Derived.Test.YtfadnkjlilhneaaGreatCloDoubleCosetLoops
namespace Go.Proofs.YtfadnkjlilhneaaGreat.fnExactDoubleCosetLoops
set_option maxRecDepth 20000
set_option linter.unusedVariables false
set_option linter.unusedSimpArgs false
open Go.ChangeShapes Go.WideShapes Go.ChangeAt Go.RowKit
open Go.ChangeMaps (open_string shut_string)
set_option maxHeartbeats 3200000 in
theorem walk (v0:Value) (x0:GrD) (v1:Value) (x1:GrD) (v2:Value) (x2:List Int) (w:World) (h0:ArgG w v0 x0) (h1:ArgG w v1 x1) (h2:ArgI w v2 x2):
  Calls Tryz.prog 4 #[v0,v1,v2] w fun e w'=>e= .returned (.bool true)∧Below w.heap.size w w':=by
 obtain⟨sx0,rfl,hdx0,hd2x0,hax0⟩:=id (h0);obtain⟨Ax0,cx0,rfl,hc1x0,hc2x0,_⟩:=hax0;unfold maxLen at hc2x0
 clear hdx0 hd2x0
 obtain⟨sx1,rfl,hdx1,hd2x1,hax1⟩:=id (h1);obtain⟨Ax1,cx1,rfl,hc1x1,hc2x1,_⟩:=hax1;unfold maxLen at hc2x1
 clear hdx1 hd2x1
 obtain⟨Ax2,cx2,rfl⟩:=ArgI.form h2
 by_cases hl2:1048576<x2.length
 ·have hdl2:(1048576:Int)<(x2.length:Int):=by omega
  go_enter Tryz.func4,Tryz.ntmps4
  go_wp2
  go_ret
  exact⟨rfl,(by repeat(first | exact Below.refl _ _ | (refine Below.setCell ?_ (by first | omega | (simp<;>omega)) _) | (refine bel_drewN ?_ _) | (refine Below.drew ?_) | (refine Below.alloc ?_ (by first | omega | (simp<;>omega)) _)))⟩
 have hm2:x2.length≤1048576:=by omega
 by_cases hz0:(1048576:Int)-((x0.2.2.length:Nat):Int)<0
 ·skip
  go_enter Tryz.func4,Tryz.ntmps4
  go_wp2_with fail
  refine(szGraph_any _ x0 _ _ (h0.below (by repeat(first | exact Below.refl _ _ | (refine Below.setCell ?_ (by first | omega | (simp<;>omega)) _) | (refine bel_drewN ?_ _) | (refine Below.drew ?_) | (refine Below.alloc ?_ (by first | omega | (simp<;>omega)) _)))) (by omega) (by omega)).mono ?_
  rintro e wz0 ⟨rfl,bz0⟩
  have BZ0:=hD bz0
  have hzs0:=bz0.size
  have hzq0:w.heap.size≤wz0.heap.size:=by first | omega | (have hq:=bz0.size;simp at hq;omega)
  simp only[if_pos (show((1048576:Int)-((x0.2.2.length:Nat):Int)<0) by omega)]
  clear bz0
  go_wp2
  go_ret
  exact⟨rfl,(by repeat(first | exact Below.refl _ _ | (refine Below.setCell ?_ (by first | omega | (simp<;>omega)) _) | (refine bel_drewN ?_ _) | (refine Below.drew ?_) | (refine Below.alloc ?_ (by first | omega | (simp<;>omega)) _) | (refine Below.trans ?_ (Below.mono (Hid.out BZ0) (by first | omega | (simp<;>omega))))))⟩
 have hm0:x0.2.2.length≤1048576:=by omega
 by_cases hz1:((1048576:Int)-((x0.2.2.length:Nat):Int))-((x1.2.2.length:Nat):Int)<0
 ·skip
  go_enter Tryz.func4,Tryz.ntmps4
  go_wp2_with fail
  refine(szGraph_any _ x0 _ _ (h0.below (by repeat(first | exact Below.refl _ _ | (refine Below.setCell ?_ (by first | omega | (simp<;>omega)) _) | (refine bel_drewN ?_ _) | (refine Below.drew ?_) | (refine Below.alloc ?_ (by first | omega | (simp<;>omega)) _)))) (by omega) (by omega)).mono ?_
  rintro e wz0 ⟨rfl,bz0⟩
  have BZ0:=hD bz0
  have hzs0:=bz0.size
  have hzq0:w.heap.size≤wz0.heap.size:=by first | omega | (have hq:=bz0.size;simp at hq;omega)
  simp only[if_neg (show ¬((1048576:Int)-((x0.2.2.length:Nat):Int)<0) by omega)]
  clear bz0
  obtain⟨hcz0,_⟩:=bcell BZ0.out
  go_wp2_with fail
  refine(szGraph_any _ x1 _ _ (h1.below (by repeat(first | exact Below.refl _ _ | (refine Below.setCell ?_ (by first | omega | (simp<;>omega)) _) | (refine bel_drewN ?_ _) | (refine Below.drew ?_) | (refine Below.alloc ?_ (by first | omega | (simp<;>omega)) _) | (refine Below.trans ?_ (Below.mono (Hid.out BZ0) (by first | omega | (simp<;>omega))))))) (by omega) (by omega)).mono ?_
  rintro e wz1 ⟨rfl,bz1⟩
  have BZ1:=hD bz1
  have hzs1:=bz1.size
  have hzq1:w.heap.size≤wz1.heap.size:=by first | omega | (have hq:=bz1.size;simp at hq;omega)
  simp only[if_pos (show(((1048576:Int)-((x0.2.2.length:Nat):Int))-((x1.2.2.length:Nat):Int)<0) by omega)]
  clear bz1
  go_wp2
  go_ret
  exact⟨rfl,(by repeat(first | exact Below.refl _ _ | (refine Below.setCell ?_ (by first | omega | (simp<;>omega)) _) | (refine bel_drewN ?_ _) | (refine Below.drew ?_) | (refine Below.alloc ?_ (by first | omega | (simp<;>omega)) _) | (refine Below.trans ?_ (Below.mono (Hid.out BZ1) (by first | omega | (simp<;>omega)))) | (refine Below.trans ?_ (Below.mono (Hid.out BZ0) (by first | omega | (simp<;>omega))))))⟩
 have hm1:x1.2.2.length≤1048576:=by omega
 have X0:=hD h0.ob
 clear h0
 have X1:=hD h1.ob
 clear h1
 have X2:=hD h2.ob
 clear h2
 have B:=hD (Below.refl w.heap.size w)
 go_enter Tryz.func4,Tryz.ntmps4
 go_wp2_with fail
 obtain⟨u1,hw_u1⟩: ∃W,W=World.alloc w (Obj.cells #[.int .i64 (x0).1, .int .i64 (x0).2.1, .slice Ax0 (x0).2.2.length cx0] 24):=⟨_,rfl⟩
 rw[←hw_u1]
 have T:=hD (Tr.alloc_eq hw_u1)
 have hsz_u1:=Tr.alloc_size hw_u1
 have hs_u1:=T.out.size
 replace X0:=hD (X0.out.tr T.out (by omega))
 replace X1:=hD (X1.out.tr T.out (by omega))
 replace X2:=hD (X2.out.tr T.out (by omega))
 replace B:=hD (bel_tr B.out T.out (by omega) (by omega))
 have BA0:=hD (Box.new hw_u1)
 have hE_u1:u1.heap.size=w.heap.size+1:=by rw[hw_u1];simp
 clear T hw_u1
 try rw[←hE_u1]
 clear hE_u1
 obtain⟨u2,hw_u2⟩: ∃W,W=World.alloc u1 (Obj.cells #[.int .i64 (x1).1, .int .i64 (x1).2.1, .slice Ax1 (x1).2.2.length cx1] 24):=⟨_,rfl⟩
 rw[←hw_u2]
 have T:=hD (Tr.alloc_eq hw_u2)
 have hsz_u2:=Tr.alloc_size hw_u2
 have hs_u2:=T.out.size
 replace X0:=hD (X0.out.tr T.out (by omega))
 replace X1:=hD (X1.out.tr T.out (by omega))
 replace X2:=hD (X2.out.tr T.out (by omega))
 replace BA0:=hD (BA0.out.tr T.out (by omega))
 replace B:=hD (bel_tr B.out T.out (by omega) (by omega))
 have BA1:=hD (Box.new hw_u2)
 have hE_u2:u2.heap.size=u1.heap.size+1:=by rw[hw_u2];simp
 clear T hw_u2
 try rw[←hE_u2]
 clear hE_u2
 have hlt_BA0:w.heap.size<u2.heap.size:=by omega
 have hb_BA0_0:=BA0.out.holds.cell_0
 have hb_BA0_1:=BA0.out.holds.cell_1
 have hb_BA0_2:=BA0.out.holds.cell_2
 have hlt_BA1:u1.heap.size<u2.heap.size:=by omega
 have hb_BA1_0:=BA1.out.holds.cell_0
 have hb_BA1_1:=BA1.out.holds.cell_1
 have hb_BA1_2:=BA1.out.holds.cell_2
 go_wp2_with fail
 refine(szGraph_ob _ x0 _ _ X0.out.holds (by omega) (by omega)).mono ?_
 rintro e w3 ⟨rfl,b⟩
 have T:=hD (Tr.below b)
 have hs_w3:=T.out.size
 replace X0:=hD (X0.out.tr T.out (by omega))
 replace X1:=hD (X1.out.tr T.out (by omega))
 replace X2:=hD (X2.out.tr T.out (by omega))
 replace BA0:=hD (BA0.out.tr T.out (by omega))
 replace BA1:=hD (BA1.out.tr T.out (by omega))
 replace B:=hD (bel_tr B.out T.out (by omega) (by omega))
 clear b
 simp only[if_neg (show ¬((1048576:Int)-((x0.2.2.length:Nat):Int)<0) by omega)]
 clear T
 clear hlt_BA0
 clear hb_BA0_0
 clear hb_BA0_1
 clear hb_BA0_2
 clear hlt_BA1
 clear hb_BA1_0
 clear hb_BA1_1
 clear hb_BA1_2
 have hlt_BA0:w.heap.size<w3.heap.size:=by omega
 have hb_BA0_0:=BA0.out.holds.cell_0
 have hb_BA0_1:=BA0.out.holds.cell_1
 have hb_BA0_2:=BA0.out.holds.cell_2
 have hlt_BA1:u1.heap.size<w3.heap.size:=by omega
 have hb_BA1_0:=BA1.out.holds.cell_0
 have hb_BA1_1:=BA1.out.holds.cell_1
 have hb_BA1_2:=BA1.out.holds.cell_2
 go_wp2_with fail
 refine(szGraph_ob _ x1 _ _ X1.out.holds (by omega) (by omega)).mono ?_
 rintro e w4 ⟨rfl,b⟩
 have T:=hD (Tr.below b)
 have hs_w4:=T.out.size
 replace X0:=hD (X0.out.tr T.out (by omega))
 replace X1:=hD (X1.out.tr T.out (by omega))
 replace X2:=hD (X2.out.tr T.out (by omega))
 replace BA0:=hD (BA0.out.tr T.out (by omega))
 replace BA1:=hD (BA1.out.tr T.out (by omega))
 replace B:=hD (bel_tr B.out T.out (by omega) (by omega))
 clear b
 simp only[if_neg (show ¬(((1048576:Int)-((x0.2.2.length:Nat):Int))-((x1.2.2.length:Nat):Int)<0) by omega)]
 clear T
 clear hlt_BA0
 clear hb_BA0_0
 clear hb_BA0_1
 clear hb_BA0_2
 clear hlt_BA1
 clear hb_BA1_0
 clear hb_BA1_1
 clear hb_BA1_2
 have hlt_BA0:w.heap.size<w4.heap.size:=by omega
 have hb_BA0_0:=BA0.out.holds.cell_0
 have hb_BA0_1:=BA0.out.holds.cell_1
 have hb_BA0_2:=BA0.out.holds.cell_2
 have hlt_BA1:u1.heap.size<w4.heap.size:=by omega
 have hb_BA1_0:=BA1.out.holds.cell_0
 have hb_BA1_1:=BA1.out.holds.cell_1
 have hb_BA1_2:=BA1.out.holds.cell_2
 go_wp2_with fail
 have T:=hD (Tr.drew w4)
 have hs_d4:=T.out.size
 replace X0:=hD (X0.out.tr T.out (by omega))
 replace X1:=hD (X1.out.tr T.out (by omega))
 replace X2:=hD (X2.out.tr T.out (by omega))
 replace BA0:=hD (BA0.out.tr T.out (by omega))
 replace BA1:=hD (BA1.out.tr T.out (by omega))
 replace B:=hD (bel_tr B.out T.out (by omega) (by omega))
 clear T
 go_region_held3 (fun w'=>w'.cell? ⟨w.heap.size,0,none⟩=some (.int .i64 (x0).1)∧w'.cell? ⟨w.heap.size,1,none⟩=some (.int .i64 (x0).2.1)∧w'.cell? ⟨w.heap.size,2,none⟩=some (.slice Ax0 (x0).2.2.length cx0)∧w'.cell? ⟨u1.heap.size,0,none⟩=some (.int .i64 (x1).1)∧w'.cell? ⟨u1.heap.size,1,none⟩=some (.int .i64 (x1).2.1)∧w'.cell? ⟨u1.heap.size,2,none⟩=some (.slice Ax1 (x1).2.2.length cx1))
  (first | go_keep | (exact⟨BA0.out.holds.cell_0,BA0.out.holds.cell_1,BA0.out.holds.cell_2,BA1.out.holds.cell_0,BA1.out.holds.cell_1,BA1.out.holds.cell_2⟩))
  (first | ((fail_if_success clear Y1);go_at_call 9;refine(toGraph_ob _ x0 _ X0.out.holds hm0).mono ?_;rintro e w5 ⟨rY1,rfl,oo,b⟩;have T:=hD b;have hs_w5:=T.out.size;replace X0:=hD (X0.out.tr T.out (by omega));replace X1:=hD (X1.out.tr T.out (by omega));replace X2:=hD (X2.out.tr T.out (by omega));replace BA0:=hD (BA0.out.tr T.out (by omega));replace BA1:=hD (BA1.out.tr T.out (by omega));replace B:=hD (bel_tr B.out T.out (by omega) (by omega));have Y1:=hD oo;clear oo b;obtain⟨sY1,rfl,hdY1,hd2Y1,haY1⟩:=id (Y1.out.holds);obtain⟨AY1,cY1,rfl,_⟩:=OwE.form haY1.1;clear hdY1 hd2Y1 haY1;clear T) | ((fail_if_success clear Y2);go_at_call 9;refine(toGraph_ob _ x1 _ X1.out.holds hm1).mono ?_;rintro e w6 ⟨rY2,rfl,oo,b⟩;have T:=hD b;have hs_w6:=T.out.size;replace X0:=hD (X0.out.tr T.out (by omega));replace X1:=hD (X1.out.tr T.out (by omega));replace X2:=hD (X2.out.tr T.out (by omega));replace BA0:=hD (BA0.out.tr T.out (by omega));replace BA1:=hD (BA1.out.tr T.out (by omega));replace Y1:=hD (Y1.out.tr T.out (by omega));replace B:=hD (bel_tr B.out T.out (by omega) (by omega));have Y2:=hD oo;clear oo b;obtain⟨sY2,rfl,hdY2,hd2Y2,haY2⟩:=id (Y2.out.holds);obtain⟨AY2,cY2,rfl,_⟩:=OwE.form haY2.1;clear hdY2 hd2Y2 haY2;clear T) | ((fail_if_success clear Y3);go_at_call 17;refine(toIntS_ob _ x2 _ X2.out.holds hm2).mono ?_;rintro e w7 ⟨rY3,rfl,oo,b⟩;have T:=hD b;have hs_w7:=T.out.size;replace X0:=hD (X0.out.tr T.out (by omega));replace X1:=hD (X1.out.tr T.out (by omega));replace X2:=hD (X2.out.tr T.out (by omega));replace BA0:=hD (BA0.out.tr T.out (by omega));replace BA1:=hD (BA1.out.tr T.out (by omega));replace Y1:=hD (Y1.out.tr T.out (by omega));replace Y2:=hD (Y2.out.tr T.out (by omega));replace B:=hD (bel_tr B.out T.out (by omega) (by omega));have Y3:=hD oo;clear oo b;clear T) | (go_at_call 16;refine(specDoubleCosetLoops_any _ _ _ x0 x1 x2 _ Y1.out.holds.arg Y2.out.holds.arg Y3.out.holds.1.rd (by omega)).mono ?_;rintro e w8 ⟨rfl,b⟩;have T:=hD (Tr.below b);have hs_w8:=T.out.size;replace X0:=hD (X0.out.tr T.out (by omega));replace X1:=hD (X1.out.tr T.out (by omega));replace X2:=hD (X2.out.tr T.out (by omega));replace BA0:=hD (BA0.out.tr T.out (by omega));replace BA1:=hD (BA1.out.tr T.out (by omega));replace Y1:=hD (Y1.out.tr T.out (by omega));replace Y2:=hD (Y2.out.tr T.out (by omega));replace Y3:=hD (Y3.out.tr T.out (by omega));replace B:=hD (bel_tr B.out T.out (by omega) (by omega));clear b;clear T))
 clear Y1
 clear Y2
 clear Y3
 clear hlt_BA0
 clear hb_BA0_0
 clear hb_BA0_1
 clear hb_BA0_2
 clear hlt_BA1
 clear hb_BA1_0
 clear hb_BA1_1
 clear hb_BA1_2
 have hlt_BA0:w.heap.size<w8.heap.size:=by omega
 have hb_BA0_0:=BA0.out.holds.cell_0
 have hb_BA0_1:=BA0.out.holds.cell_1
 have hb_BA0_2:=BA0.out.holds.cell_2
 have hlt_BA1:u1.heap.size<w8.heap.size:=by omega
 have hb_BA1_0:=BA1.out.holds.cell_0
 have hb_BA1_1:=BA1.out.holds.cell_1
 have hb_BA1_2:=BA1.out.holds.cell_2
 go_wp2_with fail
 refine(toGraph_ob _ x0 _ X0.out.holds hm0).mono ?_
 rintro e w9 ⟨rY4,rfl,oo,b⟩
 have T:=hD b
 have hs_w9:=T.out.size
 replace X0:=hD (X0.out.tr T.out (by omega))
 replace X1:=hD (X1.out.tr T.out (by omega))
 replace X2:=hD (X2.out.tr T.out (by omega))
 replace BA0:=hD (BA0.out.tr T.out (by omega))
 replace BA1:=hD (BA1.out.tr T.out (by omega))
 replace B:=hD (bel_tr B.out T.out (by omega) (by omega))
 have Y4:=hD oo
 clear oo b
 obtain⟨sY4,rfl,hdY4,hd2Y4,haY4⟩:=id (Y4.out.holds)
 obtain⟨AY4,cY4,rfl,_⟩:=OwE.form haY4.1
 clear hdY4 hd2Y4 haY4
 clear T
 clear hlt_BA0
 clear hb_BA0_0
 clear hb_BA0_1
 clear hb_BA0_2
 clear hlt_BA1
 clear hb_BA1_0
 clear hb_BA1_1
 clear hb_BA1_2
 have hlt_BA0:w.heap.size<w9.heap.size:=by omega
 have hb_BA0_0:=BA0.out.holds.cell_0
 have hb_BA0_1:=BA0.out.holds.cell_1
 have hb_BA0_2:=BA0.out.holds.cell_2
 have hlt_BA1:u1.heap.size<w9.heap.size:=by omega
 have hb_BA1_0:=BA1.out.holds.cell_0
 have hb_BA1_1:=BA1.out.holds.cell_1
 have hb_BA1_2:=BA1.out.holds.cell_2
 go_wp2_with fail
 obtain⟨u10,hw_u10⟩: ∃W,W=World.alloc w9 (Obj.cells #[.int .i64 (x0).1, .int .i64 (x0).2.1, .slice AY4 (x0).2.2.length cY4] 31):=⟨_,rfl⟩
 rw[←hw_u10]
 have T:=hD (Tr.alloc_eq hw_u10)
 have hsz_u10:=Tr.alloc_size hw_u10
 have hs_u10:=T.out.size
 replace X0:=hD (X0.out.tr T.out (by omega))
 replace X1:=hD (X1.out.tr T.out (by omega))
 replace X2:=hD (X2.out.tr T.out (by omega))
 replace BA0:=hD (BA0.out.tr T.out (by omega))
 replace BA1:=hD (BA1.out.tr T.out (by omega))
 replace Y4:=hD (Y4.out.tr T.out (by omega))
 replace B:=hD (bel_tr B.out T.out (by omega) (by omega))
 have BXY4:=hD (Box.new hw_u10)
 have hE_u10:u10.heap.size=w9.heap.size+1:=by rw[hw_u10];simp
 clear T hw_u10
 try rw[←hE_u10]
 clear hE_u10
 clear hlt_BA0
 clear hb_BA0_0
 clear hb_BA0_1
 clear hb_BA0_2
 clear hlt_BA1
 clear hb_BA1_0
 clear hb_BA1_1
 clear hb_BA1_2
 have hlt_BA0:w.heap.size<u10.heap.size:=by omega
 have hb_BA0_0:=BA0.out.holds.cell_0
 have hb_BA0_1:=BA0.out.holds.cell_1
 have hb_BA0_2:=BA0.out.holds.cell_2
 have hlt_BA1:u1.heap.size<u10.heap.size:=by omega
 have hb_BA1_0:=BA1.out.holds.cell_0
 have hb_BA1_1:=BA1.out.holds.cell_1
 have hb_BA1_2:=BA1.out.holds.cell_2
 have hlt_BXY4:w9.heap.size<u10.heap.size:=by omega
 have hb_BXY4_0:=BXY4.out.holds.cell_0
 have hb_BXY4_1:=BXY4.out.holds.cell_1
 have hb_BXY4_2:=BXY4.out.holds.cell_2
 go_wp2_with fail
 refine(toGraph_ob _ x1 _ X1.out.holds hm1).mono ?_
 rintro e w11 ⟨rY5,rfl,oo,b⟩
 have T:=hD b
 have hs_w11:=T.out.size
 replace X0:=hD (X0.out.tr T.out (by omega))
 replace X1:=hD (X1.out.tr T.out (by omega))
 replace X2:=hD (X2.out.tr T.out (by omega))
 replace BA0:=hD (BA0.out.tr T.out (by omega))
 replace BA1:=hD (BA1.out.tr T.out (by omega))
 replace Y4:=hD (Y4.out.tr T.out (by omega))
 replace BXY4:=hD (BXY4.out.tr T.out (by omega))
 replace B:=hD (bel_tr B.out T.out (by omega) (by omega))
 have Y5:=hD oo
 clear oo b
 obtain⟨sY5,rfl,hdY5,hd2Y5,haY5⟩:=id (Y5.out.holds)
 obtain⟨AY5,cY5,rfl,_⟩:=OwE.form haY5.1
 clear hdY5 hd2Y5 haY5
 clear T
 clear hlt_BA0
 clear hb_BA0_0
 clear hb_BA0_1
 clear hb_BA0_2
 clear hlt_BA1
 clear hb_BA1_0
 clear hb_BA1_1
 clear hb_BA1_2
 clear hlt_BXY4
 clear hb_BXY4_0
 clear hb_BXY4_1
 clear hb_BXY4_2
 have hlt_BA0:w.heap.size<w11.heap.size:=by omega
 have hb_BA0_0:=BA0.out.holds.cell_0
 have hb_BA0_1:=BA0.out.holds.cell_1
 have hb_BA0_2:=BA0.out.holds.cell_2
 have hlt_BA1:u1.heap.size<w11.heap.size:=by omega
 have hb_BA1_0:=BA1.out.holds.cell_0
 have hb_BA1_1:=BA1.out.holds.cell_1
 have hb_BA1_2:=BA1.out.holds.cell_2
 have hlt_BXY4:w9.heap.size<w11.heap.size:=by omega
 have hb_BXY4_0:=BXY4.out.holds.cell_0
 have hb_BXY4_1:=BXY4.out.holds.cell_1
 have hb_BXY4_2:=BXY4.out.holds.cell_2
 go_wp2_with fail
 obtain⟨u12,hw_u12⟩: ∃W,W=World.alloc w11 (Obj.cells #[.int .i64 (x1).1, .int .i64 (x1).2.1, .slice AY5 (x1).2.2.length cY5] 31):=⟨_,rfl⟩
 rw[←hw_u12]
 have T:=hD (Tr.alloc_eq hw_u12)
 have hsz_u12:=Tr.alloc_size hw_u12
 have hs_u12:=T.out.size
 replace X0:=hD (X0.out.tr T.out (by omega))
 replace X1:=hD (X1.out.tr T.out (by omega))
 replace X2:=hD (X2.out.tr T.out (by omega))
 replace BA0:=hD (BA0.out.tr T.out (by omega))
 replace BA1:=hD (BA1.out.tr T.out (by omega))
 replace Y4:=hD (Y4.out.tr T.out (by omega))
 replace BXY4:=hD (BXY4.out.tr T.out (by omega))
 replace Y5:=hD (Y5.out.tr T.out (by omega))
 replace B:=hD (bel_tr B.out T.out (by omega) (by omega))
 have BXY5:=hD (Box.new hw_u12)
 have hE_u12:u12.heap.size=w11.heap.size+1:=by rw[hw_u12];simp
 clear T hw_u12
 try rw[←hE_u12]
 clear hE_u12
 clear hlt_BA0
 clear hb_BA0_0
 clear hb_BA0_1
 clear hb_BA0_2
 clear hlt_BA1
 clear hb_BA1_0
 clear hb_BA1_1
 clear hb_BA1_2
 clear hlt_BXY4
 clear hb_BXY4_0
 clear hb_BXY4_1
 clear hb_BXY4_2
 have hlt_BA0:w.heap.size<u12.heap.size:=by omega
 have hb_BA0_0:=BA0.out.holds.cell_0
 have hb_BA0_1:=BA0.out.holds.cell_1
 have hb_BA0_2:=BA0.out.holds.cell_2
 have hlt_BA1:u1.heap.size<u12.heap.size:=by omega
 have hb_BA1_0:=BA1.out.holds.cell_0
 have hb_BA1_1:=BA1.out.holds.cell_1
 have hb_BA1_2:=BA1.out.holds.cell_2
 have hlt_BXY4:w9.heap.size<u12.heap.size:=by omega
 have hb_BXY4_0:=BXY4.out.holds.cell_0
 have hb_BXY4_1:=BXY4.out.holds.cell_1
 have hb_BXY4_2:=BXY4.out.holds.cell_2
 have hlt_BXY5:w11.heap.size<u12.heap.size:=by omega
 have hb_BXY5_0:=BXY5.out.holds.cell_0
 have hb_BXY5_1:=BXY5.out.holds.cell_1
 have hb_BXY5_2:=BXY5.out.holds.cell_2
 go_wp2_with fail
 refine(toIntS_ob _ x2 _ X2.out.holds hm2).mono ?_
 rintro e w13 ⟨rY6,rfl,oo,b⟩
 have T:=hD b
 have hs_w13:=T.out.size
 replace X0:=hD (X0.out.tr T.out (by omega))
 replace X1:=hD (X1.out.tr T.out (by omega))
 replace X2:=hD (X2.out.tr T.out (by omega))
 replace BA0:=hD (BA0.out.tr T.out (by omega))
 replace BA1:=hD (BA1.out.tr T.out (by omega))
 replace Y4:=hD (Y4.out.tr T.out (by omega))
 replace BXY4:=hD (BXY4.out.tr T.out (by omega))
 replace Y5:=hD (Y5.out.tr T.out (by omega))
 replace BXY5:=hD (BXY5.out.tr T.out (by omega))
 replace B:=hD (bel_tr B.out T.out (by omega) (by omega))
 have Y6:=hD oo
 clear oo b
 clear T
 clear hlt_BA0
 clear hb_BA0_0
 clear hb_BA0_1
 clear hb_BA0_2
 clear hlt_BA1
 clear hb_BA1_0
 clear hb_BA1_1
 clear hb_BA1_2
 clear hlt_BXY4
 clear hb_BXY4_0
 clear hb_BXY4_1
 clear hb_BXY4_2
 clear hlt_BXY5
 clear hb_BXY5_0
 clear hb_BXY5_1
 clear hb_BXY5_2
 have hlt_BA0:w.heap.size<w13.heap.size:=by omega
 have hb_BA0_0:=BA0.out.holds.cell_0
 have hb_BA0_1:=BA0.out.holds.cell_1
 have hb_BA0_2:=BA0.out.holds.cell_2
 have hlt_BA1:u1.heap.size<w13.heap.size:=by omega
 have hb_BA1_0:=BA1.out.holds.cell_0
 have hb_BA1_1:=BA1.out.holds.cell_1
 have hb_BA1_2:=BA1.out.holds.cell_2
 have hlt_BXY4:w9.heap.size<w13.heap.size:=by omega
 have hb_BXY4_0:=BXY4.out.holds.cell_0
 have hb_BXY4_1:=BXY4.out.holds.cell_1
 have hb_BXY4_2:=BXY4.out.holds.cell_2
 have hlt_BXY5:w11.heap.size<w13.heap.size:=by omega
 have hb_BXY5_0:=BXY5.out.holds.cell_0
 have hb_BXY5_1:=BXY5.out.holds.cell_1
 have hb_BXY5_2:=BXY5.out.holds.cell_2
 go_wp2_with fail
 refine(implDoubleCosetLoops_any _ _ _ x0 x1 x2 _ Y4.out.holds.arg Y5.out.holds.arg Y6.out.holds.1.rd (by omega)).mono ?_
 rintro e w14 ⟨rfl,b⟩
 have T:=hD (Tr.below b)
 have hs_w14:=T.out.size
 replace X0:=hD (X0.out.tr T.out (by omega))
 replace X1:=hD (X1.out.tr T.out (by omega))
 replace X2:=hD (X2.out.tr T.out (by omega))
 replace BA0:=hD (BA0.out.tr T.out (by omega))
 replace BA1:=hD (BA1.out.tr T.out (by omega))
 replace Y4:=hD (Y4.out.tr T.out (by omega))
 replace BXY4:=hD (BXY4.out.tr T.out (by omega))
 replace Y5:=hD (Y5.out.tr T.out (by omega))
 replace BXY5:=hD (BXY5.out.tr T.out (by omega))
 replace Y6:=hD (Y6.out.tr T.out (by omega))
 replace B:=hD (bel_tr B.out T.out (by omega) (by omega))
 clear b
 clear T
 clear hlt_BA0
 clear hb_BA0_0
 clear hb_BA0_1
 clear hb_BA0_2
 clear hlt_BA1
 clear hb_BA1_0
 clear hb_BA1_1
 clear hb_BA1_2
 clear hlt_BXY4
 clear hb_BXY4_0
 clear hb_BXY4_1
 clear hb_BXY4_2
 clear hlt_BXY5
 clear hb_BXY5_0
 clear hb_BXY5_1
 clear hb_BXY5_2
 have hq_BXY4:=BXY4.out.holds
 have hq_BA0:=BA0.out.holds
 clear hq_BXY4 hq_BA0
 have hlt_BA0:w.heap.size<w14.heap.size:=by omega
 have hb_BA0_0:=BA0.out.holds.cell_0
 have hb_BA0_1:=BA0.out.holds.cell_1
 have hb_BA0_2:=BA0.out.holds.cell_2
 have hlt_BA1:u1.heap.size<w14.heap.size:=by omega
 have hb_BA1_0:=BA1.out.holds.cell_0
 have hb_BA1_1:=BA1.out.holds.cell_1
 have hb_BA1_2:=BA1.out.holds.cell_2
 have hlt_BXY4:w9.heap.size<w14.heap.size:=by omega
 have hb_BXY4_0:=BXY4.out.holds.cell_0
 have hb_BXY4_1:=BXY4.out.holds.cell_1
 have hb_BXY4_2:=BXY4.out.holds.cell_2
 have hlt_BXY5:w11.heap.size<w14.heap.size:=by omega
 have hb_BXY5_0:=BXY5.out.holds.cell_0
 have hb_BXY5_1:=BXY5.out.holds.cell_1
 have hb_BXY5_2:=BXY5.out.holds.cell_2
 go_wp2_with fail
 have T:=hD (Tr.drew w14)
 have hs_d14:=T.out.size
 replace X0:=hD (X0.out.tr T.out (by omega))
 replace X1:=hD (X1.out.tr T.out (by omega))
 replace X2:=hD (X2.out.tr T.out (by omega))
 replace BA0:=hD (BA0.out.tr T.out (by omega))
 replace BA1:=hD (BA1.out.tr T.out (by omega))
 replace Y4:=hD (Y4.out.tr T.out (by omega))
 replace BXY4:=hD (BXY4.out.tr T.out (by omega))
 replace Y5:=hD (Y5.out.tr T.out (by omega))
 replace BXY5:=hD (BXY5.out.tr T.out (by omega))
 replace Y6:=hD (Y6.out.tr T.out (by omega))
 replace B:=hD (bel_tr B.out T.out (by omega) (by omega))
 clear T
 go_region_held3 (fun w'=>w'.cell? ⟨w9.heap.size,0,none⟩=some (.int .i64 (x0).1)∧w'.cell? ⟨w9.heap.size,1,none⟩=some (.int .i64 (x0).2.1)∧w'.cell? ⟨w9.heap.size,2,none⟩=some (.slice AY4 (x0).2.2.length cY4)∧w'.cell? ⟨w.heap.size,0,none⟩=some (.int .i64 (x0).1)∧w'.cell? ⟨w.heap.size,1,none⟩=some (.int .i64 (x0).2.1)∧w'.cell? ⟨w.heap.size,2,none⟩=some (.slice Ax0 (x0).2.2.length cx0))
  (first | go_keep | (exact⟨BXY4.out.holds.cell_0,BXY4.out.holds.cell_1,BXY4.out.holds.cell_2,BA0.out.holds.cell_0,BA0.out.holds.cell_1,BA0.out.holds.cell_2⟩))
  (first | (go_at_call 9;refine(toGraph_ob _ x0 _ X0.out.holds hm0).mono ?_;rintro e w15 ⟨rY7,rfl,oo,b⟩;have T:=hD b;have hs_w15:=T.out.size;replace X0:=hD (X0.out.tr T.out (by omega));replace X1:=hD (X1.out.tr T.out (by omega));replace X2:=hD (X2.out.tr T.out (by omega));replace BA0:=hD (BA0.out.tr T.out (by omega));replace BA1:=hD (BA1.out.tr T.out (by omega));replace Y4:=hD (Y4.out.tr T.out (by omega));replace BXY4:=hD (BXY4.out.tr T.out (by omega));replace Y5:=hD (Y5.out.tr T.out (by omega));replace BXY5:=hD (BXY5.out.tr T.out (by omega));replace Y6:=hD (Y6.out.tr T.out (by omega));replace B:=hD (bel_tr B.out T.out (by omega) (by omega));have Y7:=hD oo;clear oo b;obtain⟨sY7,rfl,hdY7,hd2Y7,haY7⟩:=id (Y7.out.holds);obtain⟨AY7,cY7,rfl,_⟩:=OwE.form haY7.1;clear hdY7 hd2Y7 haY7;clear T) | (go_at_call 12;refine(eqGraph_ob _ _ (x0) (x0) _ Y4.out.holds Y7.out.holds).mono ?_;rintro e w16 ⟨rfl,b⟩;have T:=hD b;have hs_w16:=T.out.size;replace X0:=hD (X0.out.tr T.out (by omega));replace X1:=hD (X1.out.tr T.out (by omega));replace X2:=hD (X2.out.tr T.out (by omega));replace BA0:=hD (BA0.out.tr T.out (by omega));replace BA1:=hD (BA1.out.tr T.out (by omega));replace Y4:=hD (Y4.out.tr T.out (by omega));replace BXY4:=hD (BXY4.out.tr T.out (by omega));replace Y5:=hD (Y5.out.tr T.out (by omega));replace BXY5:=hD (BXY5.out.tr T.out (by omega));replace Y6:=hD (Y6.out.tr T.out (by omega));replace Y7:=hD (Y7.out.tr T.out (by omega));replace B:=hD (bel_tr B.out T.out (by omega) (by omega));clear b;simp only[decide_true];clear T))
 clear Y7
 clear hlt_BA0
 clear hb_BA0_0
 clear hb_BA0_1
 clear hb_BA0_2
 clear hlt_BA1
 clear hb_BA1_0
 clear hb_BA1_1
 clear hb_BA1_2
 clear hlt_BXY4
 clear hb_BXY4_0
 clear hb_BXY4_1
 clear hb_BXY4_2
 clear hlt_BXY5
 clear hb_BXY5_0
 clear hb_BXY5_1
 clear hb_BXY5_2
 have hq_BXY5:=BXY5.out.holds
 have hq_BA1:=BA1.out.holds
 clear hq_BXY5 hq_BA1
 have hlt_BA0:w.heap.size<w16.heap.size:=by omega
 have hb_BA0_0:=BA0.out.holds.cell_0
 have hb_BA0_1:=BA0.out.holds.cell_1
 have hb_BA0_2:=BA0.out.holds.cell_2
 have hlt_BA1:u1.heap.size<w16.heap.size:=by omega
 have hb_BA1_0:=BA1.out.holds.cell_0
 have hb_BA1_1:=BA1.out.holds.cell_1
 have hb_BA1_2:=BA1.out.holds.cell_2
 have hlt_BXY4:w9.heap.size<w16.heap.size:=by omega
 have hb_BXY4_0:=BXY4.out.holds.cell_0
 have hb_BXY4_1:=BXY4.out.holds.cell_1
 have hb_BXY4_2:=BXY4.out.holds.cell_2
 have hlt_BXY5:w11.heap.size<w16.heap.size:=by omega
 have hb_BXY5_0:=BXY5.out.holds.cell_0
 have hb_BXY5_1:=BXY5.out.holds.cell_1
 have hb_BXY5_2:=BXY5.out.holds.cell_2
 go_wp2_with fail
 have T:=hD (Tr.drew w16)
 have hs_d16:=T.out.size
 replace X0:=hD (X0.out.tr T.out (by omega))
 replace X1:=hD (X1.out.tr T.out (by omega))
 replace X2:=hD (X2.out.tr T.out (by omega))
 replace BA0:=hD (BA0.out.tr T.out (by omega))
 replace BA1:=hD (BA1.out.tr T.out (by omega))
 replace Y4:=hD (Y4.out.tr T.out (by omega))
 replace BXY4:=hD (BXY4.out.tr T.out (by omega))
 replace Y5:=hD (Y5.out.tr T.out (by omega))
 replace BXY5:=hD (BXY5.out.tr T.out (by omega))
 replace Y6:=hD (Y6.out.tr T.out (by omega))
 replace B:=hD (bel_tr B.out T.out (by omega) (by omega))
 clear T
 go_region_held3 (fun w'=>w'.cell? ⟨w11.heap.size,0,none⟩=some (.int .i64 (x1).1)∧w'.cell? ⟨w11.heap.size,1,none⟩=some (.int .i64 (x1).2.1)∧w'.cell? ⟨w11.heap.size,2,none⟩=some (.slice AY5 (x1).2.2.length cY5)∧w'.cell? ⟨u1.heap.size,0,none⟩=some (.int .i64 (x1).1)∧w'.cell? ⟨u1.heap.size,1,none⟩=some (.int .i64 (x1).2.1)∧w'.cell? ⟨u1.heap.size,2,none⟩=some (.slice Ax1 (x1).2.2.length cx1))
  (first | go_keep | (exact⟨BXY5.out.holds.cell_0,BXY5.out.holds.cell_1,BXY5.out.holds.cell_2,BA1.out.holds.cell_0,BA1.out.holds.cell_1,BA1.out.holds.cell_2⟩))
  (first | (go_at_call 9;refine(toGraph_ob _ x1 _ X1.out.holds hm1).mono ?_;rintro e w17 ⟨rY8,rfl,oo,b⟩;have T:=hD b;have hs_w17:=T.out.size;replace X0:=hD (X0.out.tr T.out (by omega));replace X1:=hD (X1.out.tr T.out (by omega));replace X2:=hD (X2.out.tr T.out (by omega));replace BA0:=hD (BA0.out.tr T.out (by omega));replace BA1:=hD (BA1.out.tr T.out (by omega));replace Y4:=hD (Y4.out.tr T.out (by omega));replace BXY4:=hD (BXY4.out.tr T.out (by omega));replace Y5:=hD (Y5.out.tr T.out (by omega));replace BXY5:=hD (BXY5.out.tr T.out (by omega));replace Y6:=hD (Y6.out.tr T.out (by omega));replace B:=hD (bel_tr B.out T.out (by omega) (by omega));have Y8:=hD oo;clear oo b;obtain⟨sY8,rfl,hdY8,hd2Y8,haY8⟩:=id (Y8.out.holds);obtain⟨AY8,cY8,rfl,_⟩:=OwE.form haY8.1;clear hdY8 hd2Y8 haY8;clear T) | (go_at_call 12;refine(eqGraph_ob _ _ (x1) (x1) _ Y5.out.holds Y8.out.holds).mono ?_;rintro e w18 ⟨rfl,b⟩;have T:=hD b;have hs_w18:=T.out.size;replace X0:=hD (X0.out.tr T.out (by omega));replace X1:=hD (X1.out.tr T.out (by omega));replace X2:=hD (X2.out.tr T.out (by omega));replace BA0:=hD (BA0.out.tr T.out (by omega));replace BA1:=hD (BA1.out.tr T.out (by omega));replace Y4:=hD (Y4.out.tr T.out (by omega));replace BXY4:=hD (BXY4.out.tr T.out (by omega));replace Y5:=hD (Y5.out.tr T.out (by omega));replace BXY5:=hD (BXY5.out.tr T.out (by omega));replace Y6:=hD (Y6.out.tr T.out (by omega));replace Y8:=hD (Y8.out.tr T.out (by omega));replace B:=hD (bel_tr B.out T.out (by omega) (by omega));clear b;simp only[decide_true];clear T))
 clear Y8
 clear hlt_BA0
 clear hb_BA0_0
 clear hb_BA0_1
 clear hb_BA0_2
 clear hlt_BA1
 clear hb_BA1_0
 clear hb_BA1_1
 clear hb_BA1_2
 clear hlt_BXY4
 clear hb_BXY4_0
 clear hb_BXY4_1
 clear hb_BXY4_2
 clear hlt_BXY5
 clear hb_BXY5_0
 clear hb_BXY5_1
 clear hb_BXY5_2
 have hlt_BA0:w.heap.size<w18.heap.size:=by omega
 have hb_BA0_0:=BA0.out.holds.cell_0
 have hb_BA0_1:=BA0.out.holds.cell_1
 have hb_BA0_2:=BA0.out.holds.cell_2
 have hlt_BA1:u1.heap.size<w18.heap.size:=by omega
 have hb_BA1_0:=BA1.out.holds.cell_0
 have hb_BA1_1:=BA1.out.holds.cell_1
 have hb_BA1_2:=BA1.out.holds.cell_2
 have hlt_BXY4:w9.heap.size<w18.heap.size:=by omega
 have hb_BXY4_0:=BXY4.out.holds.cell_0
 have hb_BXY4_1:=BXY4.out.holds.cell_1
 have hb_BXY4_2:=BXY4.out.holds.cell_2
 have hlt_BXY5:w11.heap.size<w18.heap.size:=by omega
 have hb_BXY5_0:=BXY5.out.holds.cell_0
 have hb_BXY5_1:=BXY5.out.holds.cell_1
 have hb_BXY5_2:=BXY5.out.holds.cell_2
 go_wp2_with fail
 refine(toIntS_ob _ x2 _ X2.out.holds hm2).mono ?_
 rintro e w19 ⟨rY9,rfl,oo,b⟩
 have T:=hD b
 have hs_w19:=T.out.size
 replace X0:=hD (X0.out.tr T.out (by omega))
 replace X1:=hD (X1.out.tr T.out (by omega))
 replace X2:=hD (X2.out.tr T.out (by omega))
 replace BA0:=hD (BA0.out.tr T.out (by omega))
 replace BA1:=hD (BA1.out.tr T.out (by omega))
 replace Y4:=hD (Y4.out.tr T.out (by omega))
 replace BXY4:=hD (BXY4.out.tr T.out (by omega))
 replace Y5:=hD (Y5.out.tr T.out (by omega))
 replace BXY5:=hD (BXY5.out.tr T.out (by omega))
 replace Y6:=hD (Y6.out.tr T.out (by omega))
 replace B:=hD (bel_tr B.out T.out (by omega) (by omega))
 have Y9:=hD oo
 clear oo b
 clear T
 clear hlt_BA0
 clear hb_BA0_0
 clear hb_BA0_1
 clear hb_BA0_2
 clear hlt_BA1
 clear hb_BA1_0
 clear hb_BA1_1
 clear hb_BA1_2
 clear hlt_BXY4
 clear hb_BXY4_0
 clear hb_BXY4_1
 clear hb_BXY4_2
 clear hlt_BXY5
 clear hb_BXY5_0
 clear hb_BXY5_1
 clear hb_BXY5_2
 have hlt_BA0:w.heap.size<w19.heap.size:=by omega
 have hb_BA0_0:=BA0.out.holds.cell_0
 have hb_BA0_1:=BA0.out.holds.cell_1
 have hb_BA0_2:=BA0.out.holds.cell_2
 have hlt_BA1:u1.heap.size<w19.heap.size:=by omega
 have hb_BA1_0:=BA1.out.holds.cell_0
 have hb_BA1_1:=BA1.out.holds.cell_1
 have hb_BA1_2:=BA1.out.holds.cell_2
 have hlt_BXY4:w9.heap.size<w19.heap.size:=by omega
 have hb_BXY4_0:=BXY4.out.holds.cell_0
 have hb_BXY4_1:=BXY4.out.holds.cell_1
 have hb_BXY4_2:=BXY4.out.holds.cell_2
 have hlt_BXY5:w11.heap.size<w19.heap.size:=by omega
 have hb_BXY5_0:=BXY5.out.holds.cell_0
 have hb_BXY5_1:=BXY5.out.holds.cell_1
 have hb_BXY5_2:=BXY5.out.holds.cell_2
 go_wp2_with fail
 refine(eqIntS_ob _ _ (x2) (x2) _ Y6.out.holds Y9.out.holds).mono ?_
 rintro e w20 ⟨rfl,b⟩
 have T:=hD b
 have hs_w20:=T.out.size
 replace X0:=hD (X0.out.tr T.out (by omega))
 replace X1:=hD (X1.out.tr T.out (by omega))
 replace X2:=hD (X2.out.tr T.out (by omega))
 replace BA0:=hD (BA0.out.tr T.out (by omega))
 replace BA1:=hD (BA1.out.tr T.out (by omega))
 replace Y4:=hD (Y4.out.tr T.out (by omega))
 replace BXY4:=hD (BXY4.out.tr T.out (by omega))
 replace Y5:=hD (Y5.out.tr T.out (by omega))
 replace BXY5:=hD (BXY5.out.tr T.out (by omega))
 replace Y6:=hD (Y6.out.tr T.out (by omega))
 replace Y9:=hD (Y9.out.tr T.out (by omega))
 replace B:=hD (bel_tr B.out T.out (by omega) (by omega))
 clear b
 simp only[decide_true]
 clear T
 clear Y9
 clear hlt_BA0
 clear hb_BA0_0
 clear hb_BA0_1
 clear hb_BA0_2
 clear hlt_BA1
 clear hb_BA1_0
 clear hb_BA1_1
 clear hb_BA1_2
 clear hlt_BXY4
 clear hb_BXY4_0
 clear hb_BXY4_1
 clear hb_BXY4_2
 clear hlt_BXY5
 clear hb_BXY5_0
 clear hb_BXY5_1
 clear hb_BXY5_2
 have hlt_BA0:w.heap.size<w20.heap.size:=by omega
 have hb_BA0_0:=BA0.out.holds.cell_0
 have hb_BA0_1:=BA0.out.holds.cell_1
 have hb_BA0_2:=BA0.out.holds.cell_2
 have hlt_BA1:u1.heap.size<w20.heap.size:=by omega
 have hb_BA1_0:=BA1.out.holds.cell_0
 have hb_BA1_1:=BA1.out.holds.cell_1
 have hb_BA1_2:=BA1.out.holds.cell_2
 have hlt_BXY4:w9.heap.size<w20.heap.size:=by omega
 have hb_BXY4_0:=BXY4.out.holds.cell_0
 have hb_BXY4_1:=BXY4.out.holds.cell_1
 have hb_BXY4_2:=BXY4.out.holds.cell_2
 have hlt_BXY5:w11.heap.size<w20.heap.size:=by omega
 have hb_BXY5_0:=BXY5.out.holds.cell_0
 have hb_BXY5_1:=BXY5.out.holds.cell_1
 have hb_BXY5_2:=BXY5.out.holds.cell_2
 go_wp2
 go_ret
 exact⟨rfl,B.out⟩
set_option maxRecDepth 100000 in
theorem lifted (os:Os) (started:os.Started) (H:Type) (enc:TypeId×Value→H):
  ReturnsInHanded {} Tryz.checked os 4 .any (Rows.fnExactDoubleCosetLoopsSpec.pre6 enc Tryz.prog Tryz.f4 Rows.fnExactDoubleCosetLoopsRow.domain false) (Rows.fnExactDoubleCosetLoopsSpec.post enc Tryz.prog Tryz.f4 false true false false):=by
 refine returnsInHanded_of_change (C:=Tryz.checked) own started (by kernel_rfl) Tryz.func4
  (ChangeSpec.witness6 (enc:=enc) (C:=Tryz.checked) false ⟨#[],#[.agg #[.int .i64 0, .int .i64 0, .slice none 0 0], .agg #[.int .i64 0, .int .i64 0, .slice none 0 0], .slice none 0 0],[]⟩ 8 (by kernel_rfl) (by kernel_rfl) (by kernel_rfl) (by kernel_rfl)) ?_
 intro W base args ds gs before hval0 hW hcnd _
 have hval: ∀(j:Nat) t v,Tryz.f4.params[j]? =some t→args[j]? =some v→Value.okWide Tryz.prog W .any base t v:=hval0
 have hW':=hW
 obtain⟨p,q,hA0,hV,rfl,hfz,hnd⟩:=hW
 have hA:DataW.TrodAll enc Tryz.prog W 0 (fun _=>true) true Tryz.f4.params.toList args.toList ds p:=hA0
 rw[Tryz.params4] at hA hval
 obtain⟨v0,vs0,d0,ds0,p0,q0,hargs,rfl,rfl,h0,r0⟩:=trodAll_cons hA
 obtain⟨v1,vs1,d1,ds1,p1,q1,rfl,rfl,rfl,h1,r1⟩:=trodAll_cons r0
 obtain⟨v2,vs2,d2,ds2,p2,q2,rfl,rfl,rfl,h2,r2⟩:=trodAll_cons r1
 obtain⟨rfl,rfl,rfl⟩:=trodAll_nil r2
 obtain rfl:args= #[v0,v1,v2]:=by cases args;simp_all
 obtain⟨rfl,rfl⟩:=trodVars_none hV
 have k0:=h0
 have lt0: ∀x∈p0,x.block<W.heap.size:=by obtain⟨m,hm⟩:=k0;exact DataW.trod_lt m _ _ _ hm
 obtain⟨x0,a0⟩:=open_argG (hval 0 24 v0 rfl rfl) h0
 have k1:=h1
 have lt1: ∀x∈p1,x.block<W.heap.size:=by obtain⟨m,hm⟩:=k1;exact DataW.trod_lt m _ _ _ hm
 obtain⟨x1,a1⟩:=open_argG (hval 1 24 v1 rfl rfl) h1
 have k2:=h2
 have lt2: ∀x∈p2,x.block<W.heap.size:=by obtain⟨m,hm⟩:=k2;exact DataW.trod_lt m _ _ _ hm
 obtain⟨x2,a2⟩:=open_argI (hval 2 26 v2 rfl rfl) h2
 clear hA0 hval0
 refine(walk v0 x0 v1 x1 v2 x2 W a0 a1 a2).mono fun e W' ⟨he,bel⟩=> ?_
 subst he
 exact⟨_,rfl,_,_,_,[],_,[],hW',trodAll_mk1 (shut_bool Tryz.underlying4 _),(trodAll_cons_mk (Below.trod laidOut (by kernel_rfl) (of_decide_eq_true (by kernel_rfl)) k0 bel lt0) (trodAll_cons_mk (Below.trod laidOut (by kernel_rfl) (of_decide_eq_true (by kernel_rfl)) k1 bel lt1) (trodAll_cons_mk (Below.trod laidOut (by kernel_rfl) (of_decide_eq_true (by kernel_rfl)) k2 bel lt2) trodAll_mk0))),rfl,bel.frame _,fun h=>by cases h⟩
theorem proved:Rows.FnExactDoubleCosetLoopsSaid:=
 OpenClaim.holds_of_wide 4 Tryz.f4 rfl rfl rfl rfl rfl rfl rfl ⟨rfl,rfl,rfl,rfl,rfl⟩ rfl rfl rfl rfl rfl (by as_aux_lemma=>kernel_rfl) Tryz.func4 closed
  (of_decide_eq_true (by as_aux_lemma=>kernel_rfl)) (by unfold Func.isWrapper;first | (rw[if_pos (by decide+kernel)];kernel_rfl) | (rw[if_neg (by decide+kernel)];exact⟨rfl,rfl⟩))
  (fun os started H enc _=>lifted os started H enc)
#print axioms proved
end Go.Proofs.YtfadnkjlilhneaaGreat.fnExactDoubleCosetLoops
