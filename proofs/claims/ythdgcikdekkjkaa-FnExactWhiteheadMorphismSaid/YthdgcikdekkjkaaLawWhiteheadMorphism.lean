/- The law FnExactWhiteheadMorphism: for every input the program answers as the reference, in memory of its own. -/
import Derived.Test.YthdgcikdekkjkaaWh
import Derived.Test.YthdgcikdekkjkaaMorL
import Derived.Test.YthdgcikdekkjkaaFrame
import Derived.Test.YthdgcikdekkjkaaFrameWh
import Derived.Test.YthdgcikdekkjkaaRows
namespace Go.Proofs.Ythdgcikdekkjkaa.fnExactWhiteheadMorphism
set_option maxRecDepth 20000
set_option linter.unusedVariables false
set_option linter.unusedSimpArgs false
open Go.ChangeShapes Go.WideShapes Go.ChangeAt Go.RowKit
open Go.ChangeMaps (open_string shut_string)

set_option maxHeartbeats 3200000 in
theorem walk (x0 : Int) (v1 : Value) (x1 : WhD) (w : World) (hx0 : I64 x0) (h1 : ArgWh w v1 x1) :
    Calls Try.prog 8 #[.int .i64 x0, v1] w fun e w' => e = .returned (.bool true) ∧ Below w.heap.size w w' := by
  obtain ⟨sx1, rfl, hdx1, hax1⟩ := id (h1); obtain ⟨Ax1, cx1, rfl, hc1x1, hc2x1, _⟩ := hax1; unfold maxLen at hc2x1
  clear hdx1
  by_cases hz0 : (1048576 : Int) - ((x1.2.length : Nat) : Int) < 0
  · skip
    go_enter Try.func8, Try.ntmps8
    go_wp2_with fail
    refine (szWhitehead_any _ x1 _ _ (h1.below (by repeat (first | exact Below.refl _ _ | (refine Below.setCell ?_ (by first | omega | (simp <;> omega)) _) | (refine bel_drewN ?_ _) | (refine Below.drew ?_) | (refine Below.alloc ?_ (by first | omega | (simp <;> omega)) _)))) (by omega) (by omega) (by omega)).mono ?_
    rintro e wz0 ⟨rfl, bz0⟩
    have BZ0 := Lib.hid bz0
    have hzs0 := bz0.size
    simp only [if_pos (show ((1048576 : Int) - ((x1.2.length : Nat) : Int) < 0) by omega)]
    clear bz0
    go_wp2
    go_ret
    exact ⟨rfl, (by repeat (first | exact Below.refl _ _ | (refine Below.setCell ?_ (by first | omega | (simp <;> omega)) _) | (refine bel_drewN ?_ _) | (refine Below.drew ?_) | (refine Below.alloc ?_ (by first | omega | (simp <;> omega)) _) | (refine Below.trans ?_ (Below.mono (Hid.out BZ0) (by first | omega | (simp <;> omega))))))⟩
  have hm1 : x1.2.length ≤ 1048576 := by omega
  have X1 := Lib.hid h1.ob
  clear h1
  have B := Lib.hid (Below.refl w.heap.size w)
  go_enter Try.func8, Try.ntmps8
  go_wp2_with fail
  obtain ⟨u1, hw_u1⟩ : ∃ W, W = World.alloc w (Obj.cells #[.int .i64 (x1).1, .slice Ax1 (x1).2.length cx1] 57) := ⟨_, rfl⟩
  rw [← hw_u1]
  have T := Lib.hid (Tr.alloc_eq hw_u1)
  have hsz_u1 := Tr.alloc_size hw_u1
  have hs_u1 := T.out.size
  replace X1 := Lib.hid (X1.out.tr T.out (by omega))
  replace B := Lib.hid (bel_tr B.out T.out (by omega) (by omega))
  have BA1 := Lib.hid (Box.new hw_u1)
  clear T hw_u1
  have hlt_BA1 : w.heap.size < u1.heap.size := by omega
  have hb_BA1_0 := BA1.out.holds.cell_0
  have hb_BA1_1 := BA1.out.holds.cell_1
  go_wp2_with fail
  refine (szWhitehead_any _ x1 _ _ X1.out.holds (by omega) (by omega) (by omega)).mono ?_
  rintro e w2 ⟨rfl, b⟩
  have T := Lib.hid (Tr.below b)
  have hs_w2 := T.out.size
  replace X1 := Lib.hid (X1.out.tr T.out (by omega))
  replace BA1 := Lib.hid (BA1.out.tr T.out (by omega))
  replace B := Lib.hid (bel_tr B.out T.out (by omega) (by omega))
  clear b
  simp only [if_neg (show ¬ ((1048576 : Int) - ((x1.2.length : Nat) : Int) < 0) by omega)]
  clear T
  clear hlt_BA1
  clear hb_BA1_0
  clear hb_BA1_1
  have hlt_BA1 : w.heap.size < w2.heap.size := by omega
  have hb_BA1_0 := BA1.out.holds.cell_0
  have hb_BA1_1 := BA1.out.holds.cell_1
  go_wp2_with fail
  refine (toWhitehead_ob _ x1 _ X1.out.holds hm1).mono ?_
  rintro e w3 ⟨rY1, rfl, oo, b⟩
  have T := Lib.hid b
  have hs_w3 := T.out.size
  replace X1 := Lib.hid (X1.out.tr T.out (by omega))
  replace BA1 := Lib.hid (BA1.out.tr T.out (by omega))
  replace B := Lib.hid (bel_tr B.out T.out (by omega) (by omega))
  have Y1 := Lib.hid oo
  clear oo b
  obtain ⟨sY1, rfl, hdY1, haY1⟩ := id (Y1.out.holds)
  obtain ⟨AY1, cY1, rfl, _⟩ := OwI.form haY1.1
  clear hdY1 haY1
  clear T
  clear hlt_BA1
  clear hb_BA1_0
  clear hb_BA1_1
  have hlt_BA1 : w.heap.size < w3.heap.size := by omega
  have hb_BA1_0 := BA1.out.holds.cell_0
  have hb_BA1_1 := BA1.out.holds.cell_1
  go_wp2_with fail
  refine (specWhiteheadMorphism_ow x0 _ x1 _ hx0 Y1.out.holds.arg (by omega)).mono ?_
  rintro e w4 ⟨rS0, rfl, oS0, b⟩
  have T := Lib.hid (Tr.below b)
  have hs_w4 := T.out.size
  replace X1 := Lib.hid (X1.out.tr T.out (by omega))
  replace BA1 := Lib.hid (BA1.out.tr T.out (by omega))
  replace Y1 := Lib.hid (Y1.out.tr T.out (by omega))
  replace B := Lib.hid (bel_tr B.out T.out (by omega) (by omega))
  have S0 := Lib.hid oS0.ob
  clear oS0
  clear b
  obtain ⟨sS0, rfl, hdS0, haS0⟩ := id (S0.out.holds)
  obtain ⟨AS0, cS0, rfl, _⟩ := OwnL.len haS0
  clear hdS0 haS0
  clear T
  clear Y1
  clear hlt_BA1
  clear hb_BA1_0
  clear hb_BA1_1
  have hlt_BA1 : w.heap.size < w4.heap.size := by omega
  have hb_BA1_0 := BA1.out.holds.cell_0
  have hb_BA1_1 := BA1.out.holds.cell_1
  go_wp2_with fail
  obtain ⟨u5, hw_u5⟩ : ∃ W, W = World.alloc w4 (Obj.cells #[.int .i64 (whM x0 x1).1, .slice AS0 (whM x0 x1).2.length cS0] 61) := ⟨_, rfl⟩
  rw [← hw_u5]
  have T := Lib.hid (Tr.alloc_eq hw_u5)
  have hsz_u5 := Tr.alloc_size hw_u5
  have hs_u5 := T.out.size
  replace X1 := Lib.hid (X1.out.tr T.out (by omega))
  replace BA1 := Lib.hid (BA1.out.tr T.out (by omega))
  replace S0 := Lib.hid (S0.out.tr T.out (by omega))
  replace B := Lib.hid (bel_tr B.out T.out (by omega) (by omega))
  have BXS0 := Lib.hid (Box.new hw_u5)
  clear T hw_u5
  clear hlt_BA1
  clear hb_BA1_0
  clear hb_BA1_1
  have hlt_BA1 : w.heap.size < u5.heap.size := by omega
  have hb_BA1_0 := BA1.out.holds.cell_0
  have hb_BA1_1 := BA1.out.holds.cell_1
  have hlt_BXS0 : w4.heap.size < u5.heap.size := by omega
  have hb_BXS0_0 := BXS0.out.holds.cell_0
  have hb_BXS0_1 := BXS0.out.holds.cell_1
  go_wp2_with fail
  refine (toWhitehead_ob _ x1 _ X1.out.holds hm1).mono ?_
  rintro e w6 ⟨rY2, rfl, oo, b⟩
  have T := Lib.hid b
  have hs_w6 := T.out.size
  replace X1 := Lib.hid (X1.out.tr T.out (by omega))
  replace BA1 := Lib.hid (BA1.out.tr T.out (by omega))
  replace S0 := Lib.hid (S0.out.tr T.out (by omega))
  replace BXS0 := Lib.hid (BXS0.out.tr T.out (by omega))
  replace B := Lib.hid (bel_tr B.out T.out (by omega) (by omega))
  have Y2 := Lib.hid oo
  clear oo b
  obtain ⟨sY2, rfl, hdY2, haY2⟩ := id (Y2.out.holds)
  obtain ⟨AY2, cY2, rfl, _⟩ := OwI.form haY2.1
  clear hdY2 haY2
  clear T
  clear hlt_BA1
  clear hb_BA1_0
  clear hb_BA1_1
  clear hlt_BXS0
  clear hb_BXS0_0
  clear hb_BXS0_1
  have hlt_BA1 : w.heap.size < w6.heap.size := by omega
  have hb_BA1_0 := BA1.out.holds.cell_0
  have hb_BA1_1 := BA1.out.holds.cell_1
  have hlt_BXS0 : w4.heap.size < w6.heap.size := by omega
  have hb_BXS0_0 := BXS0.out.holds.cell_0
  have hb_BXS0_1 := BXS0.out.holds.cell_1
  go_wp2_with fail
  obtain ⟨u7, hw_u7⟩ : ∃ W, W = World.alloc w6 (Obj.cells #[.int .i64 (x1).1, .slice AY2 (x1).2.length cY2] 64) := ⟨_, rfl⟩
  rw [← hw_u7]
  have T := Lib.hid (Tr.alloc_eq hw_u7)
  have hsz_u7 := Tr.alloc_size hw_u7
  have hs_u7 := T.out.size
  replace X1 := Lib.hid (X1.out.tr T.out (by omega))
  replace BA1 := Lib.hid (BA1.out.tr T.out (by omega))
  replace S0 := Lib.hid (S0.out.tr T.out (by omega))
  replace BXS0 := Lib.hid (BXS0.out.tr T.out (by omega))
  replace Y2 := Lib.hid (Y2.out.tr T.out (by omega))
  replace B := Lib.hid (bel_tr B.out T.out (by omega) (by omega))
  have BXY2 := Lib.hid (Box.new hw_u7)
  clear T hw_u7
  clear hlt_BA1
  clear hb_BA1_0
  clear hb_BA1_1
  clear hlt_BXS0
  clear hb_BXS0_0
  clear hb_BXS0_1
  have hlt_BA1 : w.heap.size < u7.heap.size := by omega
  have hb_BA1_0 := BA1.out.holds.cell_0
  have hb_BA1_1 := BA1.out.holds.cell_1
  have hlt_BXS0 : w4.heap.size < u7.heap.size := by omega
  have hb_BXS0_0 := BXS0.out.holds.cell_0
  have hb_BXS0_1 := BXS0.out.holds.cell_1
  have hlt_BXY2 : w6.heap.size < u7.heap.size := by omega
  have hb_BXY2_0 := BXY2.out.holds.cell_0
  have hb_BXY2_1 := BXY2.out.holds.cell_1
  go_wp2_with fail
  refine (implWhiteheadMorphism_ow x0 _ x1 _ hx0 Y2.out.holds.arg (by omega)).mono ?_
  rintro e w8 ⟨rG0, rfl, oG0, b⟩
  have T := Lib.hid (Tr.below b)
  have hs_w8 := T.out.size
  replace X1 := Lib.hid (X1.out.tr T.out (by omega))
  replace BA1 := Lib.hid (BA1.out.tr T.out (by omega))
  replace S0 := Lib.hid (S0.out.tr T.out (by omega))
  replace BXS0 := Lib.hid (BXS0.out.tr T.out (by omega))
  replace Y2 := Lib.hid (Y2.out.tr T.out (by omega))
  replace BXY2 := Lib.hid (BXY2.out.tr T.out (by omega))
  replace B := Lib.hid (bel_tr B.out T.out (by omega) (by omega))
  have G0 := Lib.hid oG0.ob
  clear oG0
  clear b
  obtain ⟨sG0, rfl, hdG0, haG0⟩ := id (G0.out.holds)
  obtain ⟨AG0, cG0, rfl, _⟩ := OwnL.len haG0
  clear hdG0 haG0
  clear T
  clear hlt_BA1
  clear hb_BA1_0
  clear hb_BA1_1
  clear hlt_BXS0
  clear hb_BXS0_0
  clear hb_BXS0_1
  clear hlt_BXY2
  clear hb_BXY2_0
  clear hb_BXY2_1
  have hlt_BA1 : w.heap.size < w8.heap.size := by omega
  have hb_BA1_0 := BA1.out.holds.cell_0
  have hb_BA1_1 := BA1.out.holds.cell_1
  have hlt_BXS0 : w4.heap.size < w8.heap.size := by omega
  have hb_BXS0_0 := BXS0.out.holds.cell_0
  have hb_BXS0_1 := BXS0.out.holds.cell_1
  have hlt_BXY2 : w6.heap.size < w8.heap.size := by omega
  have hb_BXY2_0 := BXY2.out.holds.cell_0
  have hb_BXY2_1 := BXY2.out.holds.cell_1
  go_wp2_with fail
  obtain ⟨u9, hw_u9⟩ : ∃ W, W = World.alloc w8 (Obj.cells #[.int .i64 (whM x0 x1).1, .slice AG0 (whM x0 x1).2.length cG0] 61) := ⟨_, rfl⟩
  rw [← hw_u9]
  have T := Lib.hid (Tr.alloc_eq hw_u9)
  have hsz_u9 := Tr.alloc_size hw_u9
  have hs_u9 := T.out.size
  replace X1 := Lib.hid (X1.out.tr T.out (by omega))
  replace BA1 := Lib.hid (BA1.out.tr T.out (by omega))
  replace S0 := Lib.hid (S0.out.tr T.out (by omega))
  replace BXS0 := Lib.hid (BXS0.out.tr T.out (by omega))
  replace Y2 := Lib.hid (Y2.out.tr T.out (by omega))
  replace BXY2 := Lib.hid (BXY2.out.tr T.out (by omega))
  replace G0 := Lib.hid (G0.out.tr T.out (by omega))
  replace B := Lib.hid (bel_tr B.out T.out (by omega) (by omega))
  have BXG0 := Lib.hid (Box.new hw_u9)
  clear T hw_u9
  clear hlt_BA1
  clear hb_BA1_0
  clear hb_BA1_1
  clear hlt_BXS0
  clear hb_BXS0_0
  clear hb_BXS0_1
  clear hlt_BXY2
  clear hb_BXY2_0
  clear hb_BXY2_1
  have hlt_BA1 : w.heap.size < u9.heap.size := by omega
  have hb_BA1_0 := BA1.out.holds.cell_0
  have hb_BA1_1 := BA1.out.holds.cell_1
  have hlt_BXS0 : w4.heap.size < u9.heap.size := by omega
  have hb_BXS0_0 := BXS0.out.holds.cell_0
  have hb_BXS0_1 := BXS0.out.holds.cell_1
  have hlt_BXY2 : w6.heap.size < u9.heap.size := by omega
  have hb_BXY2_0 := BXY2.out.holds.cell_0
  have hb_BXY2_1 := BXY2.out.holds.cell_1
  have hlt_BXG0 : w8.heap.size < u9.heap.size := by omega
  have hb_BXG0_0 := BXG0.out.holds.cell_0
  have hb_BXG0_1 := BXG0.out.holds.cell_1
  go_wp2_with fail
  refine (eqMorphism_ob _ _ (whM x0 x1) (whM x0 x1) _ G0.out S0.out).mono ?_
  rintro e w10 ⟨rfl, b⟩
  have T := Lib.hid b
  have hs_w10 := T.out.size
  replace X1 := Lib.hid (X1.out.tr T.out (by omega))
  replace BA1 := Lib.hid (BA1.out.tr T.out (by omega))
  replace S0 := Lib.hid (S0.out.tr T.out (by omega))
  replace BXS0 := Lib.hid (BXS0.out.tr T.out (by omega))
  replace Y2 := Lib.hid (Y2.out.tr T.out (by omega))
  replace BXY2 := Lib.hid (BXY2.out.tr T.out (by omega))
  replace G0 := Lib.hid (G0.out.tr T.out (by omega))
  replace BXG0 := Lib.hid (BXG0.out.tr T.out (by omega))
  replace B := Lib.hid (bel_tr B.out T.out (by omega) (by omega))
  clear b
  simp only [decide_true]
  clear T
  clear hlt_BA1
  clear hb_BA1_0
  clear hb_BA1_1
  clear hlt_BXS0
  clear hb_BXS0_0
  clear hb_BXS0_1
  clear hlt_BXY2
  clear hb_BXY2_0
  clear hb_BXY2_1
  clear hlt_BXG0
  clear hb_BXG0_0
  clear hb_BXG0_1
  have hq_BXY2 := BXY2.out.holds
  have hq_BA1 := BA1.out.holds
  clear hq_BXY2 hq_BA1
  have hlt_BA1 : w.heap.size < w10.heap.size := by omega
  have hb_BA1_0 := BA1.out.holds.cell_0
  have hb_BA1_1 := BA1.out.holds.cell_1
  have hlt_BXS0 : w4.heap.size < w10.heap.size := by omega
  have hb_BXS0_0 := BXS0.out.holds.cell_0
  have hb_BXS0_1 := BXS0.out.holds.cell_1
  have hlt_BXY2 : w6.heap.size < w10.heap.size := by omega
  have hb_BXY2_0 := BXY2.out.holds.cell_0
  have hb_BXY2_1 := BXY2.out.holds.cell_1
  have hlt_BXG0 : w8.heap.size < w10.heap.size := by omega
  have hb_BXG0_0 := BXG0.out.holds.cell_0
  have hb_BXG0_1 := BXG0.out.holds.cell_1
  go_wp2_with fail
  have T := Lib.hid (Tr.drew w10)
  have hs_d10 := T.out.size
  replace X1 := Lib.hid (X1.out.tr T.out (by omega))
  replace BA1 := Lib.hid (BA1.out.tr T.out (by omega))
  replace S0 := Lib.hid (S0.out.tr T.out (by omega))
  replace BXS0 := Lib.hid (BXS0.out.tr T.out (by omega))
  replace Y2 := Lib.hid (Y2.out.tr T.out (by omega))
  replace BXY2 := Lib.hid (BXY2.out.tr T.out (by omega))
  replace G0 := Lib.hid (G0.out.tr T.out (by omega))
  replace BXG0 := Lib.hid (BXG0.out.tr T.out (by omega))
  replace B := Lib.hid (bel_tr B.out T.out (by omega) (by omega))
  clear T
  go_region_held3 (fun w' => w'.cell? ⟨w6.heap.size, 0, none⟩ = some (.int .i64 (x1).1) ∧ w'.cell? ⟨w6.heap.size, 1, none⟩ = some (.slice AY2 (x1).2.length cY2) ∧ w'.cell? ⟨w.heap.size, 0, none⟩ = some (.int .i64 (x1).1) ∧ w'.cell? ⟨w.heap.size, 1, none⟩ = some (.slice Ax1 (x1).2.length cx1))
    (first | go_keep | (exact ⟨BXY2.out.holds.cell_0, BXY2.out.holds.cell_1, BA1.out.holds.cell_0, BA1.out.holds.cell_1⟩))
    (first | (go_at_call 45; refine (toWhitehead_ob _ x1 _ X1.out.holds hm1).mono ?_; rintro e w11 ⟨rY3, rfl, oo, b⟩; have T := Lib.hid b; have hs_w11 := T.out.size; replace X1 := Lib.hid (X1.out.tr T.out (by omega)); replace BA1 := Lib.hid (BA1.out.tr T.out (by omega)); replace S0 := Lib.hid (S0.out.tr T.out (by omega)); replace BXS0 := Lib.hid (BXS0.out.tr T.out (by omega)); replace Y2 := Lib.hid (Y2.out.tr T.out (by omega)); replace BXY2 := Lib.hid (BXY2.out.tr T.out (by omega)); replace G0 := Lib.hid (G0.out.tr T.out (by omega)); replace BXG0 := Lib.hid (BXG0.out.tr T.out (by omega)); replace B := Lib.hid (bel_tr B.out T.out (by omega) (by omega)); have Y3 := Lib.hid oo; clear oo b; obtain ⟨sY3, rfl, hdY3, haY3⟩ := id (Y3.out.holds); obtain ⟨AY3, cY3, rfl, _⟩ := OwI.form haY3.1; clear hdY3 haY3; clear T) | (go_at_call 48; refine (eqWhitehead_ob _ _ (x1) (x1) _ Y2.out.holds Y3.out.holds).mono ?_; rintro e w12 ⟨rfl, b⟩; have T := Lib.hid b; have hs_w12 := T.out.size; replace X1 := Lib.hid (X1.out.tr T.out (by omega)); replace BA1 := Lib.hid (BA1.out.tr T.out (by omega)); replace S0 := Lib.hid (S0.out.tr T.out (by omega)); replace BXS0 := Lib.hid (BXS0.out.tr T.out (by omega)); replace Y2 := Lib.hid (Y2.out.tr T.out (by omega)); replace BXY2 := Lib.hid (BXY2.out.tr T.out (by omega)); replace G0 := Lib.hid (G0.out.tr T.out (by omega)); replace BXG0 := Lib.hid (BXG0.out.tr T.out (by omega)); replace Y3 := Lib.hid (Y3.out.tr T.out (by omega)); replace B := Lib.hid (bel_tr B.out T.out (by omega) (by omega)); clear b; simp only [decide_true]; clear T))
  clear Y3
  clear hlt_BA1
  clear hb_BA1_0
  clear hb_BA1_1
  clear hlt_BXS0
  clear hb_BXS0_0
  clear hb_BXS0_1
  clear hlt_BXY2
  clear hb_BXY2_0
  clear hb_BXY2_1
  clear hlt_BXG0
  clear hb_BXG0_0
  clear hb_BXG0_1
  have hlt_BA1 : w.heap.size < w12.heap.size := by omega
  have hb_BA1_0 := BA1.out.holds.cell_0
  have hb_BA1_1 := BA1.out.holds.cell_1
  have hlt_BXS0 : w4.heap.size < w12.heap.size := by omega
  have hb_BXS0_0 := BXS0.out.holds.cell_0
  have hb_BXS0_1 := BXS0.out.holds.cell_1
  have hlt_BXY2 : w6.heap.size < w12.heap.size := by omega
  have hb_BXY2_0 := BXY2.out.holds.cell_0
  have hb_BXY2_1 := BXY2.out.holds.cell_1
  have hlt_BXG0 : w8.heap.size < w12.heap.size := by omega
  have hb_BXG0_0 := BXG0.out.holds.cell_0
  have hb_BXG0_1 := BXG0.out.holds.cell_1
  go_wp2_with fail
  refine (markWhitehead_ob _ (x1) _ _ _ _ Y2.out (by first | omega | exact whM_cnt _ _) (by omega) (by omega)).mono ?_
  rintro e w13 ⟨rfl, oo, t⟩
  have T := Lib.hid t
  have hs_w13 := T.out.size
  replace X1 := Lib.hid (X1.out.tr T.out (by omega))
  replace BA1 := Lib.hid (BA1.out.tr T.out (by omega))
  replace S0 := Lib.hid (S0.out.tr T.out (by omega))
  replace BXS0 := Lib.hid (BXS0.out.tr T.out (by omega))
  replace BXY2 := Lib.hid (BXY2.out.tr T.out (by omega))
  replace G0 := Lib.hid (G0.out.tr T.out (by omega))
  replace BXG0 := Lib.hid (BXG0.out.tr T.out (by omega))
  replace B := Lib.hid (bel_tr B.out T.out (by omega) (by omega))
  replace Y2 := Lib.hid oo
  clear t oo
  clear T
  clear hlt_BA1
  clear hb_BA1_0
  clear hb_BA1_1
  clear hlt_BXS0
  clear hb_BXS0_0
  clear hb_BXS0_1
  clear hlt_BXY2
  clear hb_BXY2_0
  clear hb_BXY2_1
  clear hlt_BXG0
  clear hb_BXG0_0
  clear hb_BXG0_1
  have hlt_BA1 : w.heap.size < w13.heap.size := by omega
  have hb_BA1_0 := BA1.out.holds.cell_0
  have hb_BA1_1 := BA1.out.holds.cell_1
  have hlt_BXS0 : w4.heap.size < w13.heap.size := by omega
  have hb_BXS0_0 := BXS0.out.holds.cell_0
  have hb_BXS0_1 := BXS0.out.holds.cell_1
  have hlt_BXY2 : w6.heap.size < w13.heap.size := by omega
  have hb_BXY2_0 := BXY2.out.holds.cell_0
  have hb_BXY2_1 := BXY2.out.holds.cell_1
  have hlt_BXG0 : w8.heap.size < w13.heap.size := by omega
  have hb_BXG0_0 := BXG0.out.holds.cell_0
  have hb_BXG0_1 := BXG0.out.holds.cell_1
  go_wp2_with fail
  refine (eqMorphism_ob _ _ (whM x0 x1) (whM x0 x1) _ G0.out S0.out).mono ?_
  rintro e w14 ⟨rfl, b⟩
  have T := Lib.hid b
  have hs_w14 := T.out.size
  replace X1 := Lib.hid (X1.out.tr T.out (by omega))
  replace BA1 := Lib.hid (BA1.out.tr T.out (by omega))
  replace S0 := Lib.hid (S0.out.tr T.out (by omega))
  replace BXS0 := Lib.hid (BXS0.out.tr T.out (by omega))
  replace BXY2 := Lib.hid (BXY2.out.tr T.out (by omega))
  replace G0 := Lib.hid (G0.out.tr T.out (by omega))
  replace BXG0 := Lib.hid (BXG0.out.tr T.out (by omega))
  replace Y2 := Lib.hid (Y2.out.tr T.out (by omega))
  replace B := Lib.hid (bel_tr B.out T.out (by omega) (by omega))
  clear b
  simp only [decide_true]
  clear T
  clear hlt_BA1
  clear hb_BA1_0
  clear hb_BA1_1
  clear hlt_BXS0
  clear hb_BXS0_0
  clear hb_BXS0_1
  clear hlt_BXY2
  clear hb_BXY2_0
  clear hb_BXY2_1
  clear hlt_BXG0
  clear hb_BXG0_0
  clear hb_BXG0_1
  have hlt_BA1 : w.heap.size < w14.heap.size := by omega
  have hb_BA1_0 := BA1.out.holds.cell_0
  have hb_BA1_1 := BA1.out.holds.cell_1
  have hlt_BXS0 : w4.heap.size < w14.heap.size := by omega
  have hb_BXS0_0 := BXS0.out.holds.cell_0
  have hb_BXS0_1 := BXS0.out.holds.cell_1
  have hlt_BXY2 : w6.heap.size < w14.heap.size := by omega
  have hb_BXY2_0 := BXY2.out.holds.cell_0
  have hb_BXY2_1 := BXY2.out.holds.cell_1
  have hlt_BXG0 : w8.heap.size < w14.heap.size := by omega
  have hb_BXG0_0 := BXG0.out.holds.cell_0
  have hb_BXG0_1 := BXG0.out.holds.cell_1
  go_wp2_with fail
  refine (markMorphism_ob _ (whM x0 x1) _ _ _ _ G0.out (by first | omega | exact whM_cnt _ _) (by omega) (by omega)).mono ?_
  rintro e w15 ⟨rfl, oo, t⟩
  have T := Lib.hid t
  have hs_w15 := T.out.size
  replace X1 := Lib.hid (X1.out.tr T.out (by omega))
  replace BA1 := Lib.hid (BA1.out.tr T.out (by omega))
  replace S0 := Lib.hid (S0.out.tr T.out (by omega))
  replace BXS0 := Lib.hid (BXS0.out.tr T.out (by omega))
  replace BXY2 := Lib.hid (BXY2.out.tr T.out (by omega))
  replace BXG0 := Lib.hid (BXG0.out.tr T.out (by omega))
  replace Y2 := Lib.hid (Y2.out.tr T.out (by omega))
  replace B := Lib.hid (bel_tr B.out T.out (by omega) (by omega))
  replace G0 := Lib.hid oo
  clear t oo
  clear T
  clear hlt_BA1
  clear hb_BA1_0
  clear hb_BA1_1
  clear hlt_BXS0
  clear hb_BXS0_0
  clear hb_BXS0_1
  clear hlt_BXY2
  clear hb_BXY2_0
  clear hb_BXY2_1
  clear hlt_BXG0
  clear hb_BXG0_0
  clear hb_BXG0_1
  have hlt_BA1 : w.heap.size < w15.heap.size := by omega
  have hb_BA1_0 := BA1.out.holds.cell_0
  have hb_BA1_1 := BA1.out.holds.cell_1
  have hlt_BXS0 : w4.heap.size < w15.heap.size := by omega
  have hb_BXS0_0 := BXS0.out.holds.cell_0
  have hb_BXS0_1 := BXS0.out.holds.cell_1
  have hlt_BXY2 : w6.heap.size < w15.heap.size := by omega
  have hb_BXY2_0 := BXY2.out.holds.cell_0
  have hb_BXY2_1 := BXY2.out.holds.cell_1
  have hlt_BXG0 : w8.heap.size < w15.heap.size := by omega
  have hb_BXG0_0 := BXG0.out.holds.cell_0
  have hb_BXG0_1 := BXG0.out.holds.cell_1
  go_wp2_with fail
  refine (heldMorphism_ob _ (whM x0 x1) _ _ _ _ G0.out (by first | omega | exact whM_cnt _ _) (by omega) (by omega)).mono ?_
  rintro e w16 ⟨rfl, b⟩
  have T := Lib.hid b
  have hs_w16 := T.out.size
  replace X1 := Lib.hid (X1.out.tr T.out (by omega))
  replace BA1 := Lib.hid (BA1.out.tr T.out (by omega))
  replace S0 := Lib.hid (S0.out.tr T.out (by omega))
  replace BXS0 := Lib.hid (BXS0.out.tr T.out (by omega))
  replace BXY2 := Lib.hid (BXY2.out.tr T.out (by omega))
  replace BXG0 := Lib.hid (BXG0.out.tr T.out (by omega))
  replace Y2 := Lib.hid (Y2.out.tr T.out (by omega))
  replace G0 := Lib.hid (G0.out.tr T.out (by omega))
  replace B := Lib.hid (bel_tr B.out T.out (by omega) (by omega))
  clear b
  clear T
  clear hlt_BA1
  clear hb_BA1_0
  clear hb_BA1_1
  clear hlt_BXS0
  clear hb_BXS0_0
  clear hb_BXS0_1
  clear hlt_BXY2
  clear hb_BXY2_0
  clear hb_BXY2_1
  clear hlt_BXG0
  clear hb_BXG0_0
  clear hb_BXG0_1
  have hlt_BA1 : w.heap.size < w16.heap.size := by omega
  have hb_BA1_0 := BA1.out.holds.cell_0
  have hb_BA1_1 := BA1.out.holds.cell_1
  have hlt_BXS0 : w4.heap.size < w16.heap.size := by omega
  have hb_BXS0_0 := BXS0.out.holds.cell_0
  have hb_BXS0_1 := BXS0.out.holds.cell_1
  have hlt_BXY2 : w6.heap.size < w16.heap.size := by omega
  have hb_BXY2_0 := BXY2.out.holds.cell_0
  have hb_BXY2_1 := BXY2.out.holds.cell_1
  have hlt_BXG0 : w8.heap.size < w16.heap.size := by omega
  have hb_BXG0_0 := BXG0.out.holds.cell_0
  have hb_BXG0_1 := BXG0.out.holds.cell_1
  go_wp2_with fail
  refine (toWhitehead_ob _ x1 _ X1.out.holds hm1).mono ?_
  rintro e w17 ⟨rY4, rfl, oo, b⟩
  have T := Lib.hid b
  have hs_w17 := T.out.size
  replace X1 := Lib.hid (X1.out.tr T.out (by omega))
  replace BA1 := Lib.hid (BA1.out.tr T.out (by omega))
  replace S0 := Lib.hid (S0.out.tr T.out (by omega))
  replace BXS0 := Lib.hid (BXS0.out.tr T.out (by omega))
  replace BXY2 := Lib.hid (BXY2.out.tr T.out (by omega))
  replace BXG0 := Lib.hid (BXG0.out.tr T.out (by omega))
  replace Y2 := Lib.hid (Y2.out.tr T.out (by omega))
  replace G0 := Lib.hid (G0.out.tr T.out (by omega))
  replace B := Lib.hid (bel_tr B.out T.out (by omega) (by omega))
  have Y4 := Lib.hid oo
  clear oo b
  obtain ⟨sY4, rfl, hdY4, haY4⟩ := id (Y4.out.holds)
  obtain ⟨AY4, cY4, rfl, _⟩ := OwI.form haY4.1
  clear hdY4 haY4
  clear T
  clear hlt_BA1
  clear hb_BA1_0
  clear hb_BA1_1
  clear hlt_BXS0
  clear hb_BXS0_0
  clear hb_BXS0_1
  clear hlt_BXY2
  clear hb_BXY2_0
  clear hb_BXY2_1
  clear hlt_BXG0
  clear hb_BXG0_0
  clear hb_BXG0_1
  have hlt_BA1 : w.heap.size < w17.heap.size := by omega
  have hb_BA1_0 := BA1.out.holds.cell_0
  have hb_BA1_1 := BA1.out.holds.cell_1
  have hlt_BXS0 : w4.heap.size < w17.heap.size := by omega
  have hb_BXS0_0 := BXS0.out.holds.cell_0
  have hb_BXS0_1 := BXS0.out.holds.cell_1
  have hlt_BXY2 : w6.heap.size < w17.heap.size := by omega
  have hb_BXY2_0 := BXY2.out.holds.cell_0
  have hb_BXY2_1 := BXY2.out.holds.cell_1
  have hlt_BXG0 : w8.heap.size < w17.heap.size := by omega
  have hb_BXG0_0 := BXG0.out.holds.cell_0
  have hb_BXG0_1 := BXG0.out.holds.cell_1
  go_wp2_with fail
  refine (implWhiteheadMorphism_ow x0 _ x1 _ hx0 Y4.out.holds.arg (by omega)).mono ?_
  rintro e w18 ⟨rH0, rfl, oH0, b⟩
  have T := Lib.hid (Tr.below b)
  have hs_w18 := T.out.size
  replace X1 := Lib.hid (X1.out.tr T.out (by omega))
  replace BA1 := Lib.hid (BA1.out.tr T.out (by omega))
  replace S0 := Lib.hid (S0.out.tr T.out (by omega))
  replace BXS0 := Lib.hid (BXS0.out.tr T.out (by omega))
  replace BXY2 := Lib.hid (BXY2.out.tr T.out (by omega))
  replace BXG0 := Lib.hid (BXG0.out.tr T.out (by omega))
  replace Y2 := Lib.hid (Y2.out.tr T.out (by omega))
  replace G0 := Lib.hid (G0.out.tr T.out (by omega))
  replace Y4 := Lib.hid (Y4.out.tr T.out (by omega))
  replace B := Lib.hid (bel_tr B.out T.out (by omega) (by omega))
  have H0 := Lib.hid oH0.ob
  clear oH0
  clear b
  obtain ⟨sH0, rfl, hdH0, haH0⟩ := id (H0.out.holds)
  obtain ⟨AH0, cH0, rfl, _⟩ := OwnL.len haH0
  clear hdH0 haH0
  clear T
  clear Y4
  clear hlt_BA1
  clear hb_BA1_0
  clear hb_BA1_1
  clear hlt_BXS0
  clear hb_BXS0_0
  clear hb_BXS0_1
  clear hlt_BXY2
  clear hb_BXY2_0
  clear hb_BXY2_1
  clear hlt_BXG0
  clear hb_BXG0_0
  clear hb_BXG0_1
  have hlt_BA1 : w.heap.size < w18.heap.size := by omega
  have hb_BA1_0 := BA1.out.holds.cell_0
  have hb_BA1_1 := BA1.out.holds.cell_1
  have hlt_BXS0 : w4.heap.size < w18.heap.size := by omega
  have hb_BXS0_0 := BXS0.out.holds.cell_0
  have hb_BXS0_1 := BXS0.out.holds.cell_1
  have hlt_BXY2 : w6.heap.size < w18.heap.size := by omega
  have hb_BXY2_0 := BXY2.out.holds.cell_0
  have hb_BXY2_1 := BXY2.out.holds.cell_1
  have hlt_BXG0 : w8.heap.size < w18.heap.size := by omega
  have hb_BXG0_0 := BXG0.out.holds.cell_0
  have hb_BXG0_1 := BXG0.out.holds.cell_1
  go_wp2_with fail
  obtain ⟨u19, hw_u19⟩ : ∃ W, W = World.alloc w18 (Obj.cells #[.int .i64 (whM x0 x1).1, .slice AH0 (whM x0 x1).2.length cH0] 61) := ⟨_, rfl⟩
  rw [← hw_u19]
  have T := Lib.hid (Tr.alloc_eq hw_u19)
  have hsz_u19 := Tr.alloc_size hw_u19
  have hs_u19 := T.out.size
  replace X1 := Lib.hid (X1.out.tr T.out (by omega))
  replace BA1 := Lib.hid (BA1.out.tr T.out (by omega))
  replace S0 := Lib.hid (S0.out.tr T.out (by omega))
  replace BXS0 := Lib.hid (BXS0.out.tr T.out (by omega))
  replace BXY2 := Lib.hid (BXY2.out.tr T.out (by omega))
  replace BXG0 := Lib.hid (BXG0.out.tr T.out (by omega))
  replace Y2 := Lib.hid (Y2.out.tr T.out (by omega))
  replace G0 := Lib.hid (G0.out.tr T.out (by omega))
  replace H0 := Lib.hid (H0.out.tr T.out (by omega))
  replace B := Lib.hid (bel_tr B.out T.out (by omega) (by omega))
  have BXH0 := Lib.hid (Box.new hw_u19)
  clear T hw_u19
  clear hlt_BA1
  clear hb_BA1_0
  clear hb_BA1_1
  clear hlt_BXS0
  clear hb_BXS0_0
  clear hb_BXS0_1
  clear hlt_BXY2
  clear hb_BXY2_0
  clear hb_BXY2_1
  clear hlt_BXG0
  clear hb_BXG0_0
  clear hb_BXG0_1
  have hlt_BA1 : w.heap.size < u19.heap.size := by omega
  have hb_BA1_0 := BA1.out.holds.cell_0
  have hb_BA1_1 := BA1.out.holds.cell_1
  have hlt_BXS0 : w4.heap.size < u19.heap.size := by omega
  have hb_BXS0_0 := BXS0.out.holds.cell_0
  have hb_BXS0_1 := BXS0.out.holds.cell_1
  have hlt_BXY2 : w6.heap.size < u19.heap.size := by omega
  have hb_BXY2_0 := BXY2.out.holds.cell_0
  have hb_BXY2_1 := BXY2.out.holds.cell_1
  have hlt_BXG0 : w8.heap.size < u19.heap.size := by omega
  have hb_BXG0_0 := BXG0.out.holds.cell_0
  have hb_BXG0_1 := BXG0.out.holds.cell_1
  have hlt_BXH0 : w18.heap.size < u19.heap.size := by omega
  have hb_BXH0_0 := BXH0.out.holds.cell_0
  have hb_BXH0_1 := BXH0.out.holds.cell_1
  go_wp2_with fail
  refine (eqMorphism_ob _ _ (whM x0 x1) (whM x0 x1) _ H0.out S0.out).mono ?_
  rintro e w20 ⟨rfl, b⟩
  have T := Lib.hid b
  have hs_w20 := T.out.size
  replace X1 := Lib.hid (X1.out.tr T.out (by omega))
  replace BA1 := Lib.hid (BA1.out.tr T.out (by omega))
  replace S0 := Lib.hid (S0.out.tr T.out (by omega))
  replace BXS0 := Lib.hid (BXS0.out.tr T.out (by omega))
  replace BXY2 := Lib.hid (BXY2.out.tr T.out (by omega))
  replace BXG0 := Lib.hid (BXG0.out.tr T.out (by omega))
  replace Y2 := Lib.hid (Y2.out.tr T.out (by omega))
  replace G0 := Lib.hid (G0.out.tr T.out (by omega))
  replace H0 := Lib.hid (H0.out.tr T.out (by omega))
  replace BXH0 := Lib.hid (BXH0.out.tr T.out (by omega))
  replace B := Lib.hid (bel_tr B.out T.out (by omega) (by omega))
  clear b
  simp only [decide_true]
  clear T
  clear hlt_BA1
  clear hb_BA1_0
  clear hb_BA1_1
  clear hlt_BXS0
  clear hb_BXS0_0
  clear hb_BXS0_1
  clear hlt_BXY2
  clear hb_BXY2_0
  clear hb_BXY2_1
  clear hlt_BXG0
  clear hb_BXG0_0
  clear hb_BXG0_1
  clear hlt_BXH0
  clear hb_BXH0_0
  clear hb_BXH0_1
  have hlt_BA1 : w.heap.size < w20.heap.size := by omega
  have hb_BA1_0 := BA1.out.holds.cell_0
  have hb_BA1_1 := BA1.out.holds.cell_1
  have hlt_BXS0 : w4.heap.size < w20.heap.size := by omega
  have hb_BXS0_0 := BXS0.out.holds.cell_0
  have hb_BXS0_1 := BXS0.out.holds.cell_1
  have hlt_BXY2 : w6.heap.size < w20.heap.size := by omega
  have hb_BXY2_0 := BXY2.out.holds.cell_0
  have hb_BXY2_1 := BXY2.out.holds.cell_1
  have hlt_BXG0 : w8.heap.size < w20.heap.size := by omega
  have hb_BXG0_0 := BXG0.out.holds.cell_0
  have hb_BXG0_1 := BXG0.out.holds.cell_1
  have hlt_BXH0 : w18.heap.size < w20.heap.size := by omega
  have hb_BXH0_0 := BXH0.out.holds.cell_0
  have hb_BXH0_1 := BXH0.out.holds.cell_1
  go_wp2_with fail
  refine (heldMorphism_ob _ (whM x0 x1) _ _ _ _ G0.out (by first | omega | exact whM_cnt _ _) (by omega) (by omega)).mono ?_
  rintro e w21 ⟨rfl, b⟩
  have T := Lib.hid b
  have hs_w21 := T.out.size
  replace X1 := Lib.hid (X1.out.tr T.out (by omega))
  replace BA1 := Lib.hid (BA1.out.tr T.out (by omega))
  replace S0 := Lib.hid (S0.out.tr T.out (by omega))
  replace BXS0 := Lib.hid (BXS0.out.tr T.out (by omega))
  replace BXY2 := Lib.hid (BXY2.out.tr T.out (by omega))
  replace BXG0 := Lib.hid (BXG0.out.tr T.out (by omega))
  replace Y2 := Lib.hid (Y2.out.tr T.out (by omega))
  replace G0 := Lib.hid (G0.out.tr T.out (by omega))
  replace H0 := Lib.hid (H0.out.tr T.out (by omega))
  replace BXH0 := Lib.hid (BXH0.out.tr T.out (by omega))
  replace B := Lib.hid (bel_tr B.out T.out (by omega) (by omega))
  clear b
  clear T
  clear hlt_BA1
  clear hb_BA1_0
  clear hb_BA1_1
  clear hlt_BXS0
  clear hb_BXS0_0
  clear hb_BXS0_1
  clear hlt_BXY2
  clear hb_BXY2_0
  clear hb_BXY2_1
  clear hlt_BXG0
  clear hb_BXG0_0
  clear hb_BXG0_1
  clear hlt_BXH0
  clear hb_BXH0_0
  clear hb_BXH0_1
  have hlt_BA1 : w.heap.size < w21.heap.size := by omega
  have hb_BA1_0 := BA1.out.holds.cell_0
  have hb_BA1_1 := BA1.out.holds.cell_1
  have hlt_BXS0 : w4.heap.size < w21.heap.size := by omega
  have hb_BXS0_0 := BXS0.out.holds.cell_0
  have hb_BXS0_1 := BXS0.out.holds.cell_1
  have hlt_BXY2 : w6.heap.size < w21.heap.size := by omega
  have hb_BXY2_0 := BXY2.out.holds.cell_0
  have hb_BXY2_1 := BXY2.out.holds.cell_1
  have hlt_BXG0 : w8.heap.size < w21.heap.size := by omega
  have hb_BXG0_0 := BXG0.out.holds.cell_0
  have hb_BXG0_1 := BXG0.out.holds.cell_1
  have hlt_BXH0 : w18.heap.size < w21.heap.size := by omega
  have hb_BXH0_0 := BXH0.out.holds.cell_0
  have hb_BXH0_1 := BXH0.out.holds.cell_1
  go_wp2
  go_ret
  exact ⟨rfl, B.out⟩

set_option maxRecDepth 100000 in
theorem lifted (os : Os) (started : os.Started) (H : Type) (enc : TypeId × Value → H) :
    ReturnsInHanded {} Try.checked os 8 .any (Rows.fnExactWhiteheadMorphismSpec.pre6 enc Try.prog Try.f8 Rows.fnExactWhiteheadMorphismRow.domain false) (Rows.fnExactWhiteheadMorphismSpec.post enc Try.prog Try.f8 false true false false) := by
  refine returnsInHanded_of_change (C := Try.checked) own started (by kernel_rfl) Try.func8
    (ChangeSpec.witness6 (enc := enc) (C := Try.checked) false ⟨#[], #[.int .i64 0, .agg #[.int .i64 0, .slice none 0 0]], []⟩ 8 (by kernel_rfl) (by kernel_rfl) (by kernel_rfl) (by kernel_rfl)) ?_
  intro W base args ds gs before hval0 hW hcnd _
  have hval : ∀ (j : Nat) t v, Try.f8.params[j]? = some t → args[j]? = some v → Value.okWide Try.prog W .any base t v := hval0
  have hW' := hW
  obtain ⟨p, q, hA0, hV, rfl, hfz, hnd⟩ := hW
  have hA : DataW.TrodAll enc Try.prog W 0 (fun _ => true) true Try.f8.params.toList args.toList ds p := hA0
  rw [Try.params8] at hA hval
  obtain ⟨v0, vs0, d0, ds0, p0, q0, hargs, rfl, rfl, h0, r0⟩ := trodAll_cons hA
  obtain ⟨v1, vs1, d1, ds1, p1, q1, rfl, rfl, rfl, h1, r1⟩ := trodAll_cons r0
  obtain ⟨rfl, rfl, rfl⟩ := trodAll_nil r1
  obtain rfl : args = #[v0, v1] := by cases args; simp_all
  obtain ⟨rfl, rfl⟩ := trodVars_none hV
  have k0 := h0
  have lt0 : ∀ x ∈ p0, x.block < W.heap.size := by obtain ⟨m, hm⟩ := k0; exact DataW.trod_lt m _ _ _ hm
  obtain ⟨x0, rfl, rfl, rfl, w0⟩ := open_int Try.underlying3 (hval 0 3 v0 rfl rfl) h0
  have k1 := h1
  have lt1 : ∀ x ∈ p1, x.block < W.heap.size := by obtain ⟨m, hm⟩ := k1; exact DataW.trod_lt m _ _ _ hm
  obtain ⟨x1, a1⟩ := open_argWh (hval 1 57 v1 rfl rfl) h1
  clear hA0 hval0
  refine (walk x0 v1 x1 W (wf_I64 w0) a1).mono fun e W' ⟨he, bel⟩ => ?_
  subst he
  exact ⟨_, rfl, _, _, _, [], _, [], hW', trodAll_mk1 (shut_bool Try.underlying4 _), (trodAll_cons_mk (Below.trod laidOut (by kernel_rfl) (of_decide_eq_true (by kernel_rfl)) k0 bel lt0) (trodAll_cons_mk (Below.trod laidOut (by kernel_rfl) (of_decide_eq_true (by kernel_rfl)) k1 bel lt1) trodAll_mk0)), rfl, bel.frame _, fun h => by cases h⟩

theorem closed : joinedFacts Try.pinned.checked.prog 8 Try.f8 Rows.fnExactWhiteheadMorphismSpec Rows.fnExactWhiteheadMorphismRow = true := by kernel_rfl

/-- The given statement. -/
theorem proved : Rows.FnExactWhiteheadMorphismSaid :=
  OpenClaim.holds_of_wide 8 Try.f8 rfl rfl rfl rfl rfl rfl rfl ⟨rfl, rfl, rfl, rfl, rfl⟩ rfl rfl rfl rfl rfl (by as_aux_lemma => kernel_rfl) Try.func8 closed
    (of_decide_eq_true (by as_aux_lemma => kernel_rfl)) (by unfold Func.isWrapper; first | (rw [if_pos (by decide +kernel)]; kernel_rfl) | (rw [if_neg (by decide +kernel)]; exact ⟨rfl, rfl⟩))
    (fun os started H enc _ => lifted os started H enc)
#print axioms proved
end Go.Proofs.Ythdgcikdekkjkaa.fnExactWhiteheadMorphism
