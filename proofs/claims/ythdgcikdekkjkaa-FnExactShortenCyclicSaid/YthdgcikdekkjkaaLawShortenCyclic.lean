/- The law FnExactShortenCyclic: for every input the program answers as the reference, in memory of its own. -/
import Derived.Test.YthdgcikdekkjkaaWh
import Derived.Test.YthdgcikdekkjkaaShortL
import Derived.Test.YthdgcikdekkjkaaFrame
import Derived.Test.YthdgcikdekkjkaaRows
import Derived.Test.YthdgcikdekkjkaaCloShortenCyclic
namespace Go.Proofs.Ythdgcikdekkjkaa.fnExactShortenCyclic
set_option maxRecDepth 20000
set_option linter.unusedVariables false
set_option linter.unusedSimpArgs false
open Go.ChangeShapes Go.WideShapes Go.ChangeAt Go.RowKit
open Go.ChangeMaps (open_string shut_string)

set_option maxHeartbeats 3200000 in
theorem walk (x0 : Int) (v1 : Value) (x1 : List Int) (w : World) (hx0 : I64 x0) (h1 : ArgI w v1 x1) :
    Calls Try.prog 14 #[.int .i64 x0, v1] w fun e w' => e = .returned (.bool true) ∧ Below w.heap.size w w' := by
  obtain ⟨Ax1, cx1, rfl⟩ := ArgI.form h1
  by_cases hl1 : 1048576 < x1.length
  · have hdl1 : (1048576 : Int) < (x1.length : Int) := by omega
    go_enter Try.func14, Try.ntmps14
    go_wp2
    go_ret
    exact ⟨rfl, (by repeat (first | exact Below.refl _ _ | (refine Below.setCell ?_ (by first | omega | (simp <;> omega)) _) | (refine bel_drewN ?_ _) | (refine Below.drew ?_) | (refine Below.alloc ?_ (by first | omega | (simp <;> omega)) _)))⟩
  have hm1 : x1.length ≤ 1048576 := by omega
  have X1 := Lib.hid h1.ob
  clear h1
  have B := Lib.hid (Below.refl w.heap.size w)
  go_enter Try.func14, Try.ntmps14
  go_wp2_with fail
  refine (toIntS_ob _ x1 _ X1.out.holds hm1).mono ?_
  rintro e w1 ⟨rY1, rfl, oo, b⟩
  have T := Lib.hid b
  have hs_w1 := T.out.size
  replace X1 := Lib.hid (X1.out.tr T.out (by omega))
  replace B := Lib.hid (bel_tr B.out T.out (by omega) (by omega))
  have Y1 := Lib.hid oo
  clear oo b
  clear T
  go_wp2_with fail
  refine (specShortenCyclic_any x0 _ x1 _ hx0 Y1.out.holds.1.rd (by omega)).mono ?_
  rintro e w2 ⟨rS0, rfl, oS0, b⟩
  have T := Lib.hid (Tr.below b)
  have hs_w2 := T.out.size
  replace X1 := Lib.hid (X1.out.tr T.out (by omega))
  replace Y1 := Lib.hid (Y1.out.tr T.out (by omega))
  replace B := Lib.hid (bel_tr B.out T.out (by omega) (by omega))
  have S0 := Lib.hid oS0.ob
  clear oS0
  clear b
  obtain ⟨sS0, rfl, hdS0, haS0⟩ := id (S0.out.holds)
  obtain ⟨AS0, cS0, rfl, _⟩ := OwI.form haS0.1
  clear hdS0 haS0
  clear T
  clear Y1
  go_wp2_with fail
  obtain ⟨u3, hw_u3⟩ : ∃ W, W = World.alloc w2 (Obj.cells #[.int .i64 ((shF x0 x1).1).1, .slice AS0 ((shF x0 x1).1).2.length cS0] 64) := ⟨_, rfl⟩
  rw [← hw_u3]
  have T := Lib.hid (Tr.alloc_eq hw_u3)
  have hsz_u3 := Tr.alloc_size hw_u3
  have hs_u3 := T.out.size
  replace X1 := Lib.hid (X1.out.tr T.out (by omega))
  replace S0 := Lib.hid (S0.out.tr T.out (by omega))
  replace B := Lib.hid (bel_tr B.out T.out (by omega) (by omega))
  have BXS0 := Lib.hid (Box.new hw_u3)
  clear T hw_u3
  have hlt_BXS0 : w2.heap.size < u3.heap.size := by omega
  have hb_BXS0_0 := BXS0.out.holds.cell_0
  have hb_BXS0_1 := BXS0.out.holds.cell_1
  go_wp2_with fail
  refine (toIntS_ob _ x1 _ X1.out.holds hm1).mono ?_
  rintro e w4 ⟨rY2, rfl, oo, b⟩
  have T := Lib.hid b
  have hs_w4 := T.out.size
  replace X1 := Lib.hid (X1.out.tr T.out (by omega))
  replace S0 := Lib.hid (S0.out.tr T.out (by omega))
  replace BXS0 := Lib.hid (BXS0.out.tr T.out (by omega))
  replace B := Lib.hid (bel_tr B.out T.out (by omega) (by omega))
  have Y2 := Lib.hid oo
  clear oo b
  clear T
  clear hlt_BXS0
  clear hb_BXS0_0
  clear hb_BXS0_1
  have hlt_BXS0 : w2.heap.size < w4.heap.size := by omega
  have hb_BXS0_0 := BXS0.out.holds.cell_0
  have hb_BXS0_1 := BXS0.out.holds.cell_1
  go_wp2_with fail
  refine (implShortenCyclic_any x0 _ x1 _ hx0 Y2.out.holds.1.rd (by omega)).mono ?_
  rintro e w5 ⟨rG0, rfl, oG0, b⟩
  have T := Lib.hid (Tr.below b)
  have hs_w5 := T.out.size
  replace X1 := Lib.hid (X1.out.tr T.out (by omega))
  replace S0 := Lib.hid (S0.out.tr T.out (by omega))
  replace BXS0 := Lib.hid (BXS0.out.tr T.out (by omega))
  replace Y2 := Lib.hid (Y2.out.tr T.out (by omega))
  replace B := Lib.hid (bel_tr B.out T.out (by omega) (by omega))
  have G0 := Lib.hid oG0.ob
  clear oG0
  clear b
  obtain ⟨sG0, rfl, hdG0, haG0⟩ := id (G0.out.holds)
  obtain ⟨AG0, cG0, rfl, _⟩ := OwI.form haG0.1
  clear hdG0 haG0
  clear T
  clear hlt_BXS0
  clear hb_BXS0_0
  clear hb_BXS0_1
  have hlt_BXS0 : w2.heap.size < w5.heap.size := by omega
  have hb_BXS0_0 := BXS0.out.holds.cell_0
  have hb_BXS0_1 := BXS0.out.holds.cell_1
  go_wp2_with fail
  obtain ⟨u6, hw_u6⟩ : ∃ W, W = World.alloc w5 (Obj.cells #[.int .i64 ((shF x0 x1).1).1, .slice AG0 ((shF x0 x1).1).2.length cG0] 64) := ⟨_, rfl⟩
  rw [← hw_u6]
  have T := Lib.hid (Tr.alloc_eq hw_u6)
  have hsz_u6 := Tr.alloc_size hw_u6
  have hs_u6 := T.out.size
  replace X1 := Lib.hid (X1.out.tr T.out (by omega))
  replace S0 := Lib.hid (S0.out.tr T.out (by omega))
  replace BXS0 := Lib.hid (BXS0.out.tr T.out (by omega))
  replace Y2 := Lib.hid (Y2.out.tr T.out (by omega))
  replace G0 := Lib.hid (G0.out.tr T.out (by omega))
  replace B := Lib.hid (bel_tr B.out T.out (by omega) (by omega))
  have BXG0 := Lib.hid (Box.new hw_u6)
  clear T hw_u6
  clear hlt_BXS0
  clear hb_BXS0_0
  clear hb_BXS0_1
  have hlt_BXS0 : w2.heap.size < u6.heap.size := by omega
  have hb_BXS0_0 := BXS0.out.holds.cell_0
  have hb_BXS0_1 := BXS0.out.holds.cell_1
  have hlt_BXG0 : w5.heap.size < u6.heap.size := by omega
  have hb_BXG0_0 := BXG0.out.holds.cell_0
  have hb_BXG0_1 := BXG0.out.holds.cell_1
  go_wp2_with fail
  refine (eqWhitehead_ob _ _ ((shF x0 x1).1) ((shF x0 x1).1) _ G0.out.holds S0.out.holds).mono ?_
  rintro e w7 ⟨rfl, b⟩
  have T := Lib.hid b
  have hs_w7 := T.out.size
  replace X1 := Lib.hid (X1.out.tr T.out (by omega))
  replace S0 := Lib.hid (S0.out.tr T.out (by omega))
  replace BXS0 := Lib.hid (BXS0.out.tr T.out (by omega))
  replace Y2 := Lib.hid (Y2.out.tr T.out (by omega))
  replace G0 := Lib.hid (G0.out.tr T.out (by omega))
  replace BXG0 := Lib.hid (BXG0.out.tr T.out (by omega))
  replace B := Lib.hid (bel_tr B.out T.out (by omega) (by omega))
  clear b
  simp only [decide_true]
  clear T
  clear hlt_BXS0
  clear hb_BXS0_0
  clear hb_BXS0_1
  clear hlt_BXG0
  clear hb_BXG0_0
  clear hb_BXG0_1
  have hlt_BXS0 : w2.heap.size < w7.heap.size := by omega
  have hb_BXS0_0 := BXS0.out.holds.cell_0
  have hb_BXS0_1 := BXS0.out.holds.cell_1
  have hlt_BXG0 : w5.heap.size < w7.heap.size := by omega
  have hb_BXG0_0 := BXG0.out.holds.cell_0
  have hb_BXG0_1 := BXG0.out.holds.cell_1
  go_wp2_with fail
  refine (toIntS_ob _ x1 _ X1.out.holds hm1).mono ?_
  rintro e w8 ⟨rY3, rfl, oo, b⟩
  have T := Lib.hid b
  have hs_w8 := T.out.size
  replace X1 := Lib.hid (X1.out.tr T.out (by omega))
  replace S0 := Lib.hid (S0.out.tr T.out (by omega))
  replace BXS0 := Lib.hid (BXS0.out.tr T.out (by omega))
  replace Y2 := Lib.hid (Y2.out.tr T.out (by omega))
  replace G0 := Lib.hid (G0.out.tr T.out (by omega))
  replace BXG0 := Lib.hid (BXG0.out.tr T.out (by omega))
  replace B := Lib.hid (bel_tr B.out T.out (by omega) (by omega))
  have Y3 := Lib.hid oo
  clear oo b
  clear T
  clear hlt_BXS0
  clear hb_BXS0_0
  clear hb_BXS0_1
  clear hlt_BXG0
  clear hb_BXG0_0
  clear hb_BXG0_1
  have hlt_BXS0 : w2.heap.size < w8.heap.size := by omega
  have hb_BXS0_0 := BXS0.out.holds.cell_0
  have hb_BXS0_1 := BXS0.out.holds.cell_1
  have hlt_BXG0 : w5.heap.size < w8.heap.size := by omega
  have hb_BXG0_0 := BXG0.out.holds.cell_0
  have hb_BXG0_1 := BXG0.out.holds.cell_1
  go_wp2_with fail
  refine (eqIntS_ob _ _ (x1) (x1) _ Y2.out.holds Y3.out.holds).mono ?_
  rintro e w9 ⟨rfl, b⟩
  have T := Lib.hid b
  have hs_w9 := T.out.size
  replace X1 := Lib.hid (X1.out.tr T.out (by omega))
  replace S0 := Lib.hid (S0.out.tr T.out (by omega))
  replace BXS0 := Lib.hid (BXS0.out.tr T.out (by omega))
  replace Y2 := Lib.hid (Y2.out.tr T.out (by omega))
  replace G0 := Lib.hid (G0.out.tr T.out (by omega))
  replace BXG0 := Lib.hid (BXG0.out.tr T.out (by omega))
  replace Y3 := Lib.hid (Y3.out.tr T.out (by omega))
  replace B := Lib.hid (bel_tr B.out T.out (by omega) (by omega))
  clear b
  simp only [decide_true]
  clear T
  clear Y3
  clear hlt_BXS0
  clear hb_BXS0_0
  clear hb_BXS0_1
  clear hlt_BXG0
  clear hb_BXG0_0
  clear hb_BXG0_1
  have hlt_BXS0 : w2.heap.size < w9.heap.size := by omega
  have hb_BXS0_0 := BXS0.out.holds.cell_0
  have hb_BXS0_1 := BXS0.out.holds.cell_1
  have hlt_BXG0 : w5.heap.size < w9.heap.size := by omega
  have hb_BXG0_0 := BXG0.out.holds.cell_0
  have hb_BXG0_1 := BXG0.out.holds.cell_1
  go_wp2_with fail
  refine (markIntS_ob _ (x1) _ _ _ _ Y2.out (by first | omega | exact shF_cnt _ _) (by omega) (by omega)).mono ?_
  rintro e w10 ⟨rfl, oo, t⟩
  have T := Lib.hid t
  have hs_w10 := T.out.size
  replace X1 := Lib.hid (X1.out.tr T.out (by omega))
  replace S0 := Lib.hid (S0.out.tr T.out (by omega))
  replace BXS0 := Lib.hid (BXS0.out.tr T.out (by omega))
  replace G0 := Lib.hid (G0.out.tr T.out (by omega))
  replace BXG0 := Lib.hid (BXG0.out.tr T.out (by omega))
  replace B := Lib.hid (bel_tr B.out T.out (by omega) (by omega))
  replace Y2 := Lib.hid oo
  clear t oo
  clear T
  clear hlt_BXS0
  clear hb_BXS0_0
  clear hb_BXS0_1
  clear hlt_BXG0
  clear hb_BXG0_0
  clear hb_BXG0_1
  have hlt_BXS0 : w2.heap.size < w10.heap.size := by omega
  have hb_BXS0_0 := BXS0.out.holds.cell_0
  have hb_BXS0_1 := BXS0.out.holds.cell_1
  have hlt_BXG0 : w5.heap.size < w10.heap.size := by omega
  have hb_BXG0_0 := BXG0.out.holds.cell_0
  have hb_BXG0_1 := BXG0.out.holds.cell_1
  go_wp2_with fail
  refine (eqWhitehead_ob _ _ ((shF x0 x1).1) ((shF x0 x1).1) _ G0.out.holds S0.out.holds).mono ?_
  rintro e w11 ⟨rfl, b⟩
  have T := Lib.hid b
  have hs_w11 := T.out.size
  replace X1 := Lib.hid (X1.out.tr T.out (by omega))
  replace S0 := Lib.hid (S0.out.tr T.out (by omega))
  replace BXS0 := Lib.hid (BXS0.out.tr T.out (by omega))
  replace G0 := Lib.hid (G0.out.tr T.out (by omega))
  replace BXG0 := Lib.hid (BXG0.out.tr T.out (by omega))
  replace Y2 := Lib.hid (Y2.out.tr T.out (by omega))
  replace B := Lib.hid (bel_tr B.out T.out (by omega) (by omega))
  clear b
  simp only [decide_true]
  clear T
  clear hlt_BXS0
  clear hb_BXS0_0
  clear hb_BXS0_1
  clear hlt_BXG0
  clear hb_BXG0_0
  clear hb_BXG0_1
  have hlt_BXS0 : w2.heap.size < w11.heap.size := by omega
  have hb_BXS0_0 := BXS0.out.holds.cell_0
  have hb_BXS0_1 := BXS0.out.holds.cell_1
  have hlt_BXG0 : w5.heap.size < w11.heap.size := by omega
  have hb_BXG0_0 := BXG0.out.holds.cell_0
  have hb_BXG0_1 := BXG0.out.holds.cell_1
  go_wp2_with fail
  refine (markWhitehead_ob _ ((shF x0 x1).1) _ _ _ _ G0.out (by first | omega | exact shF_cnt _ _) (by omega) (by omega)).mono ?_
  rintro e w12 ⟨rfl, oo, t⟩
  have T := Lib.hid t
  have hs_w12 := T.out.size
  replace X1 := Lib.hid (X1.out.tr T.out (by omega))
  replace S0 := Lib.hid (S0.out.tr T.out (by omega))
  replace BXS0 := Lib.hid (BXS0.out.tr T.out (by omega))
  replace BXG0 := Lib.hid (BXG0.out.tr T.out (by omega))
  replace Y2 := Lib.hid (Y2.out.tr T.out (by omega))
  replace B := Lib.hid (bel_tr B.out T.out (by omega) (by omega))
  replace G0 := Lib.hid oo
  clear t oo
  clear T
  clear hlt_BXS0
  clear hb_BXS0_0
  clear hb_BXS0_1
  clear hlt_BXG0
  clear hb_BXG0_0
  clear hb_BXG0_1
  have hlt_BXS0 : w2.heap.size < w12.heap.size := by omega
  have hb_BXS0_0 := BXS0.out.holds.cell_0
  have hb_BXS0_1 := BXS0.out.holds.cell_1
  have hlt_BXG0 : w5.heap.size < w12.heap.size := by omega
  have hb_BXG0_0 := BXG0.out.holds.cell_0
  have hb_BXG0_1 := BXG0.out.holds.cell_1
  go_wp2_with fail
  refine (heldWhitehead_ob _ ((shF x0 x1).1) _ _ _ _ G0.out (by first | omega | exact shF_cnt _ _) (by omega) (by omega)).mono ?_
  rintro e w13 ⟨rfl, b⟩
  have T := Lib.hid b
  have hs_w13 := T.out.size
  replace X1 := Lib.hid (X1.out.tr T.out (by omega))
  replace S0 := Lib.hid (S0.out.tr T.out (by omega))
  replace BXS0 := Lib.hid (BXS0.out.tr T.out (by omega))
  replace BXG0 := Lib.hid (BXG0.out.tr T.out (by omega))
  replace Y2 := Lib.hid (Y2.out.tr T.out (by omega))
  replace G0 := Lib.hid (G0.out.tr T.out (by omega))
  replace B := Lib.hid (bel_tr B.out T.out (by omega) (by omega))
  clear b
  clear T
  clear hlt_BXS0
  clear hb_BXS0_0
  clear hb_BXS0_1
  clear hlt_BXG0
  clear hb_BXG0_0
  clear hb_BXG0_1
  have hlt_BXS0 : w2.heap.size < w13.heap.size := by omega
  have hb_BXS0_0 := BXS0.out.holds.cell_0
  have hb_BXS0_1 := BXS0.out.holds.cell_1
  have hlt_BXG0 : w5.heap.size < w13.heap.size := by omega
  have hb_BXG0_0 := BXG0.out.holds.cell_0
  have hb_BXG0_1 := BXG0.out.holds.cell_1
  go_wp2_with fail
  refine (toIntS_ob _ x1 _ X1.out.holds hm1).mono ?_
  rintro e w14 ⟨rY4, rfl, oo, b⟩
  have T := Lib.hid b
  have hs_w14 := T.out.size
  replace X1 := Lib.hid (X1.out.tr T.out (by omega))
  replace S0 := Lib.hid (S0.out.tr T.out (by omega))
  replace BXS0 := Lib.hid (BXS0.out.tr T.out (by omega))
  replace BXG0 := Lib.hid (BXG0.out.tr T.out (by omega))
  replace Y2 := Lib.hid (Y2.out.tr T.out (by omega))
  replace G0 := Lib.hid (G0.out.tr T.out (by omega))
  replace B := Lib.hid (bel_tr B.out T.out (by omega) (by omega))
  have Y4 := Lib.hid oo
  clear oo b
  clear T
  clear hlt_BXS0
  clear hb_BXS0_0
  clear hb_BXS0_1
  clear hlt_BXG0
  clear hb_BXG0_0
  clear hb_BXG0_1
  have hlt_BXS0 : w2.heap.size < w14.heap.size := by omega
  have hb_BXS0_0 := BXS0.out.holds.cell_0
  have hb_BXS0_1 := BXS0.out.holds.cell_1
  have hlt_BXG0 : w5.heap.size < w14.heap.size := by omega
  have hb_BXG0_0 := BXG0.out.holds.cell_0
  have hb_BXG0_1 := BXG0.out.holds.cell_1
  go_wp2_with fail
  refine (implShortenCyclic_any x0 _ x1 _ hx0 Y4.out.holds.1.rd (by omega)).mono ?_
  rintro e w15 ⟨rH0, rfl, oH0, b⟩
  have T := Lib.hid (Tr.below b)
  have hs_w15 := T.out.size
  replace X1 := Lib.hid (X1.out.tr T.out (by omega))
  replace S0 := Lib.hid (S0.out.tr T.out (by omega))
  replace BXS0 := Lib.hid (BXS0.out.tr T.out (by omega))
  replace BXG0 := Lib.hid (BXG0.out.tr T.out (by omega))
  replace Y2 := Lib.hid (Y2.out.tr T.out (by omega))
  replace G0 := Lib.hid (G0.out.tr T.out (by omega))
  replace Y4 := Lib.hid (Y4.out.tr T.out (by omega))
  replace B := Lib.hid (bel_tr B.out T.out (by omega) (by omega))
  have H0 := Lib.hid oH0.ob
  clear oH0
  clear b
  obtain ⟨sH0, rfl, hdH0, haH0⟩ := id (H0.out.holds)
  obtain ⟨AH0, cH0, rfl, _⟩ := OwI.form haH0.1
  clear hdH0 haH0
  clear T
  clear Y4
  clear hlt_BXS0
  clear hb_BXS0_0
  clear hb_BXS0_1
  clear hlt_BXG0
  clear hb_BXG0_0
  clear hb_BXG0_1
  have hlt_BXS0 : w2.heap.size < w15.heap.size := by omega
  have hb_BXS0_0 := BXS0.out.holds.cell_0
  have hb_BXS0_1 := BXS0.out.holds.cell_1
  have hlt_BXG0 : w5.heap.size < w15.heap.size := by omega
  have hb_BXG0_0 := BXG0.out.holds.cell_0
  have hb_BXG0_1 := BXG0.out.holds.cell_1
  go_wp2_with fail
  obtain ⟨u16, hw_u16⟩ : ∃ W, W = World.alloc w15 (Obj.cells #[.int .i64 ((shF x0 x1).1).1, .slice AH0 ((shF x0 x1).1).2.length cH0] 64) := ⟨_, rfl⟩
  rw [← hw_u16]
  have T := Lib.hid (Tr.alloc_eq hw_u16)
  have hsz_u16 := Tr.alloc_size hw_u16
  have hs_u16 := T.out.size
  replace X1 := Lib.hid (X1.out.tr T.out (by omega))
  replace S0 := Lib.hid (S0.out.tr T.out (by omega))
  replace BXS0 := Lib.hid (BXS0.out.tr T.out (by omega))
  replace BXG0 := Lib.hid (BXG0.out.tr T.out (by omega))
  replace Y2 := Lib.hid (Y2.out.tr T.out (by omega))
  replace G0 := Lib.hid (G0.out.tr T.out (by omega))
  replace H0 := Lib.hid (H0.out.tr T.out (by omega))
  replace B := Lib.hid (bel_tr B.out T.out (by omega) (by omega))
  have BXH0 := Lib.hid (Box.new hw_u16)
  clear T hw_u16
  clear hlt_BXS0
  clear hb_BXS0_0
  clear hb_BXS0_1
  clear hlt_BXG0
  clear hb_BXG0_0
  clear hb_BXG0_1
  have hlt_BXS0 : w2.heap.size < u16.heap.size := by omega
  have hb_BXS0_0 := BXS0.out.holds.cell_0
  have hb_BXS0_1 := BXS0.out.holds.cell_1
  have hlt_BXG0 : w5.heap.size < u16.heap.size := by omega
  have hb_BXG0_0 := BXG0.out.holds.cell_0
  have hb_BXG0_1 := BXG0.out.holds.cell_1
  have hlt_BXH0 : w15.heap.size < u16.heap.size := by omega
  have hb_BXH0_0 := BXH0.out.holds.cell_0
  have hb_BXH0_1 := BXH0.out.holds.cell_1
  go_wp2_with fail
  refine (eqWhitehead_ob _ _ ((shF x0 x1).1) ((shF x0 x1).1) _ H0.out.holds S0.out.holds).mono ?_
  rintro e w17 ⟨rfl, b⟩
  have T := Lib.hid b
  have hs_w17 := T.out.size
  replace X1 := Lib.hid (X1.out.tr T.out (by omega))
  replace S0 := Lib.hid (S0.out.tr T.out (by omega))
  replace BXS0 := Lib.hid (BXS0.out.tr T.out (by omega))
  replace BXG0 := Lib.hid (BXG0.out.tr T.out (by omega))
  replace Y2 := Lib.hid (Y2.out.tr T.out (by omega))
  replace G0 := Lib.hid (G0.out.tr T.out (by omega))
  replace H0 := Lib.hid (H0.out.tr T.out (by omega))
  replace BXH0 := Lib.hid (BXH0.out.tr T.out (by omega))
  replace B := Lib.hid (bel_tr B.out T.out (by omega) (by omega))
  clear b
  simp only [decide_true]
  clear T
  clear hlt_BXS0
  clear hb_BXS0_0
  clear hb_BXS0_1
  clear hlt_BXG0
  clear hb_BXG0_0
  clear hb_BXG0_1
  clear hlt_BXH0
  clear hb_BXH0_0
  clear hb_BXH0_1
  have hlt_BXS0 : w2.heap.size < w17.heap.size := by omega
  have hb_BXS0_0 := BXS0.out.holds.cell_0
  have hb_BXS0_1 := BXS0.out.holds.cell_1
  have hlt_BXG0 : w5.heap.size < w17.heap.size := by omega
  have hb_BXG0_0 := BXG0.out.holds.cell_0
  have hb_BXG0_1 := BXG0.out.holds.cell_1
  have hlt_BXH0 : w15.heap.size < w17.heap.size := by omega
  have hb_BXH0_0 := BXH0.out.holds.cell_0
  have hb_BXH0_1 := BXH0.out.holds.cell_1
  go_wp2_with fail
  refine (heldWhitehead_ob _ ((shF x0 x1).1) _ _ _ _ G0.out (by first | omega | exact shF_cnt _ _) (by omega) (by omega)).mono ?_
  rintro e w18 ⟨rfl, b⟩
  have T := Lib.hid b
  have hs_w18 := T.out.size
  replace X1 := Lib.hid (X1.out.tr T.out (by omega))
  replace S0 := Lib.hid (S0.out.tr T.out (by omega))
  replace BXS0 := Lib.hid (BXS0.out.tr T.out (by omega))
  replace BXG0 := Lib.hid (BXG0.out.tr T.out (by omega))
  replace Y2 := Lib.hid (Y2.out.tr T.out (by omega))
  replace G0 := Lib.hid (G0.out.tr T.out (by omega))
  replace H0 := Lib.hid (H0.out.tr T.out (by omega))
  replace BXH0 := Lib.hid (BXH0.out.tr T.out (by omega))
  replace B := Lib.hid (bel_tr B.out T.out (by omega) (by omega))
  clear b
  clear T
  clear hlt_BXS0
  clear hb_BXS0_0
  clear hb_BXS0_1
  clear hlt_BXG0
  clear hb_BXG0_0
  clear hb_BXG0_1
  clear hlt_BXH0
  clear hb_BXH0_0
  clear hb_BXH0_1
  have hlt_BXS0 : w2.heap.size < w18.heap.size := by omega
  have hb_BXS0_0 := BXS0.out.holds.cell_0
  have hb_BXS0_1 := BXS0.out.holds.cell_1
  have hlt_BXG0 : w5.heap.size < w18.heap.size := by omega
  have hb_BXG0_0 := BXG0.out.holds.cell_0
  have hb_BXG0_1 := BXG0.out.holds.cell_1
  have hlt_BXH0 : w15.heap.size < w18.heap.size := by omega
  have hb_BXH0_0 := BXH0.out.holds.cell_0
  have hb_BXH0_1 := BXH0.out.holds.cell_1
  go_wp2
  go_ret
  exact ⟨rfl, B.out⟩

set_option maxRecDepth 100000 in
theorem lifted (os : Os) (started : os.Started) (H : Type) (enc : TypeId × Value → H) :
    ReturnsInHanded {} Try.checked os 14 .any (Rows.fnExactShortenCyclicSpec.pre6 enc Try.prog Try.f14 Rows.fnExactShortenCyclicRow.domain false) (Rows.fnExactShortenCyclicSpec.post enc Try.prog Try.f14 false true false false) := by
  refine returnsInHanded_of_change (C := Try.checked) own started (by kernel_rfl) Try.func14
    (ChangeSpec.witness6 (enc := enc) (C := Try.checked) false ⟨#[], #[.int .i64 0, .slice none 0 0], []⟩ 8 (by kernel_rfl) (by kernel_rfl) (by kernel_rfl) (by kernel_rfl)) ?_
  intro W base args ds gs before hval0 hW hcnd _
  have hval : ∀ (j : Nat) t v, Try.f14.params[j]? = some t → args[j]? = some v → Value.okWide Try.prog W .any base t v := hval0
  have hW' := hW
  obtain ⟨p, q, hA0, hV, rfl, hfz, hnd⟩ := hW
  have hA : DataW.TrodAll enc Try.prog W 0 (fun _ => true) true Try.f14.params.toList args.toList ds p := hA0
  rw [Try.params14] at hA hval
  obtain ⟨v0, vs0, d0, ds0, p0, q0, hargs, rfl, rfl, h0, r0⟩ := trodAll_cons hA
  obtain ⟨v1, vs1, d1, ds1, p1, q1, rfl, rfl, rfl, h1, r1⟩ := trodAll_cons r0
  obtain ⟨rfl, rfl, rfl⟩ := trodAll_nil r1
  obtain rfl : args = #[v0, v1] := by cases args; simp_all
  obtain ⟨rfl, rfl⟩ := trodVars_none hV
  have k0 := h0
  have lt0 : ∀ x ∈ p0, x.block < W.heap.size := by obtain ⟨m, hm⟩ := k0; exact DataW.trod_lt m _ _ _ hm
  obtain ⟨x0, rfl, rfl, rfl, w0⟩ := open_int Try.underlying3 (hval 0 3 v0 rfl rfl) h0
  have k1 := h1
  have lt1 : ∀ x ∈ p1, x.block < W.heap.size := by obtain ⟨m, hm⟩ := k1; exact DataW.trod_lt m _ _ _ hm
  obtain ⟨x1, a1⟩ := open_argI (hval 1 43 v1 rfl rfl) h1
  clear hA0 hval0
  refine (walk x0 v1 x1 W (wf_I64 w0) a1).mono fun e W' ⟨he, bel⟩ => ?_
  subst he
  exact ⟨_, rfl, _, _, _, [], _, [], hW', trodAll_mk1 (shut_bool Try.underlying4 _), (trodAll_cons_mk (Below.trod laidOut (by kernel_rfl) (of_decide_eq_true (by kernel_rfl)) k0 bel lt0) (trodAll_cons_mk (Below.trod laidOut (by kernel_rfl) (of_decide_eq_true (by kernel_rfl)) k1 bel lt1) trodAll_mk0)), rfl, bel.frame _, fun h => by cases h⟩

/-- The given statement. -/
theorem proved : Rows.FnExactShortenCyclicSaid :=
  OpenClaim.holds_of_wide 14 Try.f14 rfl rfl rfl rfl rfl rfl rfl ⟨rfl, rfl, rfl, rfl, rfl⟩ rfl rfl rfl rfl rfl (by as_aux_lemma => kernel_rfl) Try.func14 closed
    (of_decide_eq_true (by as_aux_lemma => kernel_rfl)) (by unfold Func.isWrapper; first | (rw [if_pos (by decide +kernel)]; kernel_rfl) | (rw [if_neg (by decide +kernel)]; exact ⟨rfl, rfl⟩))
    (fun os started H enc _ => lifted os started H enc)
#print axioms proved
end Go.Proofs.Ythdgcikdekkjkaa.fnExactShortenCyclic
