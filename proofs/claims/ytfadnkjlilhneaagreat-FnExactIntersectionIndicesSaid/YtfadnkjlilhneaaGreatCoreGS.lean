/- The reference's CoreGraph. The reference's TrimGraph, CoreGraph. -/
import Derived.Test.YtfadnkjlilhneaaGreatFoldU
import Derived.Test.YtfadnkjlilhneaaGreatCanG
namespace Go.Proofs.YtfadnkjlilhneaaGreat
set_option maxRecDepth 20000
set_option linter.unusedVariables false
set_option linter.unusedSimpArgs false
open Go.RowKit

def Tw (base : Nat) (w : World) (vo : Value) (lo : List Int) (vr : Value) (lr : List Int) : Prop := OwI w base vo lo ∧ OwI w base vr lr ∧ ∀ b, vo.ownBlock = some b → vr.ownBlock ≠ some b
section
variable {base : Nat} {w wa w' : World} {vo vr vo' : Value} {lo lr lo' : List Int}
theorem Tw.swap (h : Tw base w vo lo vr lr) : Tw base w vr lr vo lo := ⟨h.2.1, h.1, fun b hb e => h.2.2 b e hb⟩
theorem Tw.below (h : Tw base w vo lo vr lr) (hb : Below w.heap.size w w') : Tw base w' vo lo vr lr := ⟨h.1.below hb, h.2.1.below hb, h.2.2⟩
theorem Tw.push (h : Tw base w vo lo vr lr) (hb : Below w.heap.size w wa) (o : OwI w' base vo' lo') (g : wa.grownBy w' vo.ownBlock) (hat : vo'.ownBlock = vo.ownBlock ∨ vo'.ownBlock = some wa.heap.size) : Tw base w' vo' lo' vr lr := by
 refine ⟨o, (h.2.1.below hb).kept g ?_, fun b hv e => ?_⟩
 ·rcases e : vr.ownBlock with _ | b
  ·exact .inl rfl
  ·exact .inr fun e2 => h.2.2 b e2.symm e
 ·rcases hat with q | q
  ·exact h.2.2 b (by rw [← q]; exact hv) e
  ·rw [q] at hv
   injection hv with hv
   have := (h.2.1.1.lt b e).2
   have := hb.size
   omega
end
theorem leafV_pos {es : List EdD} {n : Nat} (h : ¬ leafV es n < 0) : 1 ≤ leafV es n ∧ leafV es n < n := by
 have := leafV_range es n
 omega
set_option maxHeartbeats 4000000 in
theorem specTrimGraph_any (v : Value) (g : GrD) (w : World) (h : ArgG w v g) (hg : grB g = true) :
  Calls Tryz.prog 120 #[v] w fun e w' => ∃ r o, e = .returned (.tuple #[r, o]) ∧ OwG w' w.heap.size r (trimG g).1 ∧ Below w.heap.size w w' := by
 have HG := Lib.hid h
 have HGR := Lib.hid hg
 obtain ⟨h13, h40, h120, _⟩ := grB_parts hg
 have HTG : Hid ((trimF (g.2.1.toNat - 0) g ((List.range g.2.1.toNat).map fun v => ((v : Nat) : Int))).1 = (trimG g).1) := Lib.hid rfl
 generalize (trimG g).1 = TG at *
 obtain ⟨s, rfl, hi1, hi2, ha⟩ := h
 obtain ⟨A, cap, rfl⟩ := ha.form
 obtain ⟨g1, N, es⟩ := g
 simp only at *
 clear ha hg
 go_enter Tryz.func120, Tryz.ntmps120
 have bx : Below w.heap.size w ((w.alloc (Obj.cells #[Value.int IntKind.i64 g1, Value.int IntKind.i64 N, .slice A es.length cap] 31)).alloc (Obj.cells #[Value.int IntKind.i64 0, Value.int IntKind.i64 0, .slice none 0 0] 31)) := (by repeat (first | exact Below.refl _ _ | (refine Below.setCell ?_ (by first | omega | (simp <;> omega)) _) | (refine bel_drewN ?_ _) | (refine Below.drew ?_) | (refine Below.alloc ?_ (by first | omega | (simp <;> omega)) _)))
 go_wp2_with fail
 obtain ⟨W, hW⟩ : ∃ W, W = ((w.alloc (Obj.cells #[Value.int IntKind.i64 g1, Value.int IntKind.i64 N, .slice A es.length cap] 31)).alloc (Obj.cells #[Value.int IntKind.i64 0, Value.int IntKind.i64 0, .slice none 0 0] 31)) := ⟨_, rfl⟩
 rw [← hW] at bx ⊢
 have hsW : W.heap.size = w.heap.size + 2 := by rw [hW]; simp
 have L0 : Hid (W.cell? ⟨w.heap.size, 0, none⟩ = some (.int .i64 g1)) := Lib.hid (by rw [hW]; simp [go_sem])
 have L1 : Hid (W.cell? ⟨w.heap.size, 1, none⟩ = some (.int .i64 N)) := Lib.hid (by rw [hW]; simp [go_sem])
 have L2 : Hid (W.cell? ⟨w.heap.size, 2, none⟩ = some (.slice A es.length cap)) := Lib.hid (by rw [hW]; simp [go_sem])
 have R0 : Hid (W.cell? ⟨w.heap.size + 1, 0, none⟩ = some (.int .i64 0)) := Lib.hid (by rw [hW]; simp [go_sem])
 have R1 : Hid (W.cell? ⟨w.heap.size + 1, 1, none⟩ = some (.int .i64 0)) := Lib.hid (by rw [hW]; simp [go_sem])
 have R2 : Hid (W.cell? ⟨w.heap.size + 1, 2, none⟩ = some (.slice none 0 0)) := Lib.hid (by rw [hW]; simp [go_sem])
 have RF : Hid (∀ j, W.frozen? ⟨w.heap.size + 1, j, none⟩ = false) := Lib.hid fun j => by rw [hW]; simp [go_sem]
 have BX := Lib.hid bx
 have HIG : Hid (∀ W', Below W.heap.size W W' → Calls Tryz.prog 95 #[.agg #[.int .i64 g1, .int .i64 N, .slice A es.length cap]] W' fun e w' => e = .returned (.bool true) ∧ Below W'.heap.size W' w') := Lib.hid fun W' hb => by
  have := specIsGraph_any _ (g1, N, es) W' (HG.out.below (BX.out.trans (hb.mono BX.out.size)))
  rw [HGR.out] at this
  exact this
 have HCL : Hid (∀ w', Below W.heap.size W w' → w'.cell? ⟨w.heap.size, 0, none⟩ = some (.int .i64 g1) ∧ w'.cell? ⟨w.heap.size, 1, none⟩ = some (.int .i64 N) ∧ w'.cell? ⟨w.heap.size, 2, none⟩ = some (.slice A es.length cap)) := Lib.hid fun w' hb =>
  ⟨(hb.cell (p := ⟨w.heap.size, 0, none⟩) (by show w.heap.size < _; omega)).trans L0.out, (hb.cell (p := ⟨w.heap.size, 1, none⟩) (by show w.heap.size < _; omega)).trans L1.out, (hb.cell (p := ⟨w.heap.size, 2, none⟩) (by show w.heap.size < _; omega)).trans L2.out⟩
 clear hW bx L0 L1 L2
 refine (l4Copy_any _ (g1, N, es) W (HG.out.below BX.out) (by simp only; omega)).mono ?_
 rintro e w1 ⟨r, rfl, o1, b1⟩
 have B1 := Lib.hid b1
 have hs1 := b1.size
 obtain ⟨s1, rfl, _, _, oe1⟩ := o1
 obtain ⟨A1, c1, rfl, _⟩ := oe1.form
 simp only at *
 have OE1 := Lib.hid oe1
 clear b1 oe1
 have HOU : Hid (OwI ((w1.alloc (Obj.cells #[Value.int IntKind.i64 g1, Value.int IntKind.i64 N, .slice A1 es.length c1] 31)).alloc (.cells #[] 3)) (w1.heap.size + 1) (.slice (some ⟨w1.heap.size + 1, 0, none⟩) 0 0) []) := Lib.hid (OwI_litN (w1.alloc (Obj.cells #[Value.int IntKind.i64 g1, Value.int IntKind.i64 N, .slice A1 es.length c1] 31)) [] (w1.heap.size + 1) (by simp) I64s_nil (by simp) (by omega))
 have bX : Below w1.heap.size w1 ((w1.alloc (Obj.cells #[Value.int IntKind.i64 g1, Value.int IntKind.i64 N, .slice A1 es.length c1] 31)).alloc (.cells #[] 3)) := (by repeat (first | exact Below.refl _ _ | (refine Below.setCell ?_ (by first | omega | (simp <;> omega)) _) | (refine bel_drewN ?_ _) | (refine Below.drew ?_) | (refine Below.alloc ?_ (by first | omega | (simp <;> omega)) _)))
 go_wp2
 obtain ⟨W2, hW2⟩ : ∃ W, W = (w1.alloc (Obj.cells #[Value.int IntKind.i64 g1, Value.int IntKind.i64 N, .slice A1 es.length c1] 31)).alloc (.cells #[] 3) := ⟨_, rfl⟩
 rw [← hW2] at bX HOU ⊢
 have hsW2 : W2.heap.size = w1.heap.size + 2 := by rw [hW2]; simp
 have X0 : Hid (W2.cell? ⟨w1.heap.size, 0, none⟩ = some (.int .i64 g1)) := Lib.hid (by rw [hW2]; simp [go_sem])
 have X1 : Hid (W2.cell? ⟨w1.heap.size, 1, none⟩ = some (.int .i64 N)) := Lib.hid (by rw [hW2]; simp [go_sem])
 have X2 : Hid (W2.cell? ⟨w1.heap.size, 2, none⟩ = some (.slice A1 es.length c1)) := Lib.hid (by rw [hW2]; simp [go_sem])
 have XF : Hid (∀ j, W2.frozen? ⟨w1.heap.size, j, none⟩ = false) := Lib.hid fun j => by rw [hW2]; simp [go_sem]
 have BX2 := Lib.hid bX
 have B2 := Lib.hid (B1.out.trans (bX.mono hs1))
 have OEX : Hid (OwE W2 (w.heap.size + 2) (.slice A1 es.length c1) es) := Lib.hid ((OE1.out.below bX).mono (by omega))
 have HNX : Hid (∀ b, (Value.slice A1 es.length c1).ownBlock = some b → b < w1.heap.size) := Lib.hid fun b hb => (OE1.out.1.lt b hb).2
 obtain ⟨n, rfl⟩ : ∃ n : Nat, N = (n : Int) := ⟨N.toNat, by omega⟩
 clear hW2 bX OE1
 go_loopw [5, 6] (fun lf i wr => ∃ (k : Nat) (lv : List Int), k ≤ n ∧ i = .int .i64 k ∧ lv.length = k ∧ OwI wr (w1.heap.size + 1) lf lv ∧ Below (w1.heap.size + 1) W2 wr) (fun _ i _ => n - (intOf i).toNat)
 case atStart => exact ⟨0, [], Nat.zero_le _, rfl, rfl, HOU.out, (Below.refl W2.heap.size W2).mono (by omega)⟩
 case round =>
  obtain ⟨k, lv, hk, rfl, hlv, hol, hb⟩ := hrel
  have HOL := Lib.hid hol
  have HB := Lib.hid hb
  have HLV := Lib.hid hlv
  obtain ⟨wk, rfl⟩ : ∃ wk : World, wk = wr := ⟨_, rfl⟩
  clear hol hb hlv
  have hwk := HB.out.size
  have HBW := Lib.hid (B2.out.trans (HB.out.mono (by omega)))
  obtain ⟨q0, q1, q2⟩ := HCL.out wk HBW.out
  by_cases hlt : k < n
  ·have hkI : (k : Int) < (n : Int) := by omega
   go_wp2_with fail
   refine (HIG.out wk HBW.out).mono ?_
   rintro e w3 ⟨rfl, b3⟩
   have HOL3 := Lib.hid (HOL.out.below b3)
   have hs3 := b3.size
   have HB3 := Lib.hid (HB.out.trans (b3.mono (by omega)))
   have hlk : lv.length ≤ 1099511627776 := by rw [HLV.out]; omega
   clear b3 q0 q1 q2
   go_wp2_with (at_builtin; refine push_int rfl (.tmp 25) (.tmp 27) rfl (w1.heap.size + 1) _ lv (HOL3.out.alloc _) rfl _ (k : Int) rfl (cell_new1 _ _ _) (by unfold I64; omega) hlk (by simp <;> omega) ?_; intro v4 w4 o4 g4 p4; have O4 := Lib.hid o4; have B4 : Hid (Below (w1.heap.size + 1) W2 w4) := Lib.hid ((HB3.out.alloc (by omega) (.cells #[.int .i64 k] 3)).grown g4 (by simp <;> omega) (fun c hc => (HOL3.out.1.lt c hc).1)); clear o4 g4 p4)
   go_roundw
   case rel => exact ⟨k + 1, lv ++ [(k : Int)], by omega, by go_num, by rw [List.length_append, HLV.out]; rfl, O4.out, B4.out⟩
   case measure => simp [intOf]; omega
  ·obtain rfl : k = n := by omega
   go_wp2
   have HN2 : Hid (∀ j, wk.frozen? ⟨w1.heap.size, j, none⟩ = false) := Lib.hid fun j => (HB.out.frozen (p := ⟨w1.heap.size, j, none⟩) (by show w1.heap.size < _; omega)).trans (XF.out j)
   have HX0 := Lib.hid ((HB.out.cell (p := ⟨w1.heap.size, 0, none⟩) (by show w1.heap.size < _; omega)).trans X0.out)
   have HX1 := Lib.hid ((HB.out.cell (p := ⟨w1.heap.size, 1, none⟩) (by show w1.heap.size < _; omega)).trans X1.out)
   have HX2 := Lib.hid ((HB.out.cell (p := ⟨w1.heap.size, 2, none⟩) (by show w1.heap.size < _; omega)).trans X2.out)
   have HOE : Hid (OwE wk (w.heap.size + 2) (.slice A1 es.length c1) es) := Lib.hid (OwE.keep OEX.out fun b hb => HB.out.block b (by have := HNX.out b hb; omega))
   have HBK : Hid (Below w1.heap.size w1 wk) := Lib.hid (BX2.out.trans (HB.out.mono (by omega)))
   clear q0 q1 q2
   go_loopw [5, 7] (fun lf i wr => ∃ (k' : Nat) (gk : GrD) (A2 : Option Addr) (c2 : Nat) (lv lx : List Int), k' ≤ 40 ∧ i = .int .i64 k' ∧ grB gk = true ∧ (trimF (k - k') gk lx).1 = TG ∧ gk.2.1 + k' ≤ k ∧ (lv.length : Int) = gk.2.1 ∧ wr.cell? ⟨w1.heap.size, 0, none⟩ = some (.int .i64 gk.1) ∧ wr.cell? ⟨w1.heap.size, 1, none⟩ = some (.int .i64 gk.2.1) ∧ wr.cell? ⟨w1.heap.size, 2, none⟩ = some (.slice A2 gk.2.2.length c2) ∧
    (∀ j, wr.frozen? ⟨w1.heap.size, j, none⟩ = false) ∧ OwE wr (w.heap.size + 2) (.slice A2 gk.2.2.length c2) gk.2.2 ∧ (∀ b, (Value.slice A2 gk.2.2.length c2).ownBlock = some b → b ≠ w1.heap.size) ∧ OwI wr (w1.heap.size + 1) lf lv ∧ Below w1.heap.size w1 wr ∧ w1.heap.size < wr.heap.size) (fun _ i _ => 40 - (intOf i).toNat)
   case atStart => exact ⟨0, (g1, (k : Int), es), A1, c1, lv, (List.range k).map fun v => ((v : Nat) : Int), Nat.zero_le _, rfl, HGR.out, HTG.out, by simp, by rw [HLV.out], HX0.out, HX1.out, HX2.out, HN2.out, HOE.out, fun b hb => by have := HNX.out b hb; omega, HOL.out, HBK.out, by omega⟩
   case round =>
    obtain ⟨j, gk, A2, c2, lv', lx, hj, rfl, hgk, htf, hsz, hll, hx0, hx1, hx2, hxf, hoe, hnx, hol, hbr, hxr⟩ := hrel
    obtain ⟨k13, k40, k120, _⟩ := grB_parts hgk
    have HGK := Lib.hid hgk
    have HTF := Lib.hid htf
    have HOE2 := Lib.hid hoe
    have HNX2 := Lib.hid hnx
    have HOL2 := Lib.hid hol
    have HBR := Lib.hid hbr
    have HLL := Lib.hid hll
    have B4 := Lib.hid (B1.out.trans (hbr.mono hs1))
    have HAK : Hid (ArgG wr (.agg #[.int .i64 gk.1, .int .i64 gk.2.1, .slice A2 gk.2.2.length c2]) gk) := Lib.hid ⟨_, rfl, (by unfold I64; omega), (by unfold I64; omega), hoe.arg⟩
    obtain ⟨wj, rfl⟩ : ∃ wj : World, wj = wr := ⟨_, rfl⟩
    obtain ⟨q0, q1, q2⟩ := HCL.out wj B4.out
    have HX0 := Lib.hid hx0
    have HX1 := Lib.hid hx1
    have HX2 := Lib.hid hx2
    have HXF := Lib.hid hxf
    clear hgk htf hoe hnx hol hbr hll hx0 hx1 hx2 hxf
    have hj40 : j < 40 := by omega
    have hjI : (j : Int) < 40 := by omega
    go_wp2_with fail
    refine (HIG.out wj B4.out).mono ?_
    rintro e w4 ⟨rfl, b4⟩
    have hs4 := b4.size
    have z0 := (b4.cell (p := ⟨w1.heap.size, 0, none⟩) hxr).trans HX0.out
    have z1 := (b4.cell (p := ⟨w1.heap.size, 1, none⟩) hxr).trans HX1.out
    have z2 := (b4.cell (p := ⟨w1.heap.size, 2, none⟩) hxr).trans HX2.out
    have B4' := Lib.hid b4
    have HAK4 := Lib.hid (HAK.out.below b4)
    clear b4 q0 q1 q2
    go_wp2_with fail
    refine (l8Leaf_any _ gk w4 HAK4.out HGK.out).mono ?_
    rintro e w5 ⟨rfl, b5⟩
    have hs5 := b5.size
    have B5' := Lib.hid (B4'.out.trans (b5.mono hs4))
    have B5 := Lib.hid (HBR.out.trans (B5'.out.mono (by omega)))
    have y0 := (b5.cell (p := ⟨w1.heap.size, 0, none⟩) (by show w1.heap.size < _; omega)).trans z0
    have y1 := (b5.cell (p := ⟨w1.heap.size, 1, none⟩) (by show w1.heap.size < _; omega)).trans z1
    have y2 := (b5.cell (p := ⟨w1.heap.size, 2, none⟩) (by show w1.heap.size < _; omega)).trans z2
    have YF : Hid (∀ j, w5.frozen? ⟨w1.heap.size, j, none⟩ = false) := Lib.hid fun j => (B5'.out.frozen (p := ⟨w1.heap.size, j, none⟩) hxr).trans (HXF.out j)
    have OE5 := Lib.hid (HOE2.out.below B5'.out)
    have OL5 := Lib.hid (HOL2.out.below B5'.out)
    have BW5 := Lib.hid (B1.out.trans (B5.out.mono hs1))
    clear b5 z0 z1 z2 HX0 HX1 HX2 HXF HAK4
    obtain ⟨m, hm⟩ : ∃ m : Nat, gk.2.1 = (m : Int) := ⟨gk.2.1.toNat, by omega⟩
    rcases e4 : decide (leafV gk.2.2 gk.2.1.toNat < 0) with _ | _
    ·have hlf : ¬ leafV gk.2.2 gk.2.1.toNat < 0 := by simpa using e4
     have hlp := leafV_pos hlf
     have hmn : gk.2.1.toNat = m := by omega
     have HTN : Hid (∃ lx', (trimF (k - (j + 1)) (rnG gk (delO m (leafV gk.2.2 gk.2.1.toNat))) lx').1 = TG) := Lib.hid (by
      obtain ⟨f, hf⟩ : ∃ f, k - j = f + 1 := ⟨k - j - 1, by omega⟩
      have h := HTF.out
      rw [hf] at h
      unfold trimF at h
      rw [if_neg hlf] at h
      refine ⟨lx.take (leafV gk.2.2 gk.2.1.toNat).toNat ++ lx.drop ((leafV gk.2.2 gk.2.1.toNat).toNat + 1), ?_⟩
      rw [show k - (j + 1) = f by omega, ← hmn]
      exact h)
     have HGN : Hid (grB (rnG gk (delO m (leafV gk.2.2 gk.2.1.toNat))) = true ∧ OrdOk gk.2.1 (delO m (leafV gk.2.2 gk.2.1.toNat))) := Lib.hid (by
      have hok := delO_ok (n := m) (x := leafV gk.2.2 gk.2.1.toNat) (by omega) (by omega)
      rw [← hm] at hok
      exact ⟨grB_rnG HGK.out hok, hok⟩)
     have hdl := delO_len (n := m) (x := leafV gk.2.2 gk.2.1.toNat) (by omega) (by omega)
     rw [hmn] at hlp
     generalize leafV gk.2.2 gk.2.1.toNat = x at *
     have HM := Lib.hid hm
     have HLM : Hid (lv'.length = m) := Lib.hid (by have := HLL.out; omega)
     clear hm hlf HTF
     have hmI : (0 : Int) ≤ (m : Int) := by omega
     have bo : Below w5.heap.size w5 ((w5.alloc (.cells #[] 3)).alloc (.cells #[] 3)) := (by repeat (first | exact Below.refl _ _ | (refine Below.setCell ?_ (by first | omega | (simp <;> omega)) _) | (refine bel_drewN ?_ _) | (refine Below.drew ?_) | (refine Below.alloc ?_ (by first | omega | (simp <;> omega)) _)))
     have HTW : Hid (Tw w5.heap.size ((w5.alloc (.cells #[] 3)).alloc (.cells #[] 3)) (.slice (some ⟨w5.heap.size, 0, none⟩) 0 0) [] (.slice (some ⟨w5.heap.size + 1, 0, none⟩) 0 0) []) := Lib.hid
      ⟨(OwI_lit w5 [] I64s_nil (by simp) (Nat.le_refl _)).alloc _, OwI_litN (w5.alloc (.cells #[] 3)) [] (w5.heap.size + 1) (by simp) I64s_nil (by simp) (by omega), fun b h1 h2 => by simp [Value.ownBlock] at h1 h2; omega⟩
     go_wp2
     obtain ⟨w6, hw6⟩ : ∃ W, W = (w5.alloc (.cells #[] 3)).alloc (.cells #[] 3) := ⟨_, rfl⟩
     rw [← hw6] at bo HTW ⊢
     have hs6 : w6.heap.size = w5.heap.size + 2 := by rw [hw6]; simp
     have BO := Lib.hid bo
     obtain ⟨Al, cl_, rfl, _, _, _, hgl⟩ := OwI.form OL5.out
     obtain ⟨gl, rfl, _, _⟩ := hgl (by rw [HLM.out]; omega)
     have hy1 := HM.out ▸ y1
     have Y0 := Lib.hid y0
     have Y1 := Lib.hid hy1
     have Y2 := Lib.hid y2
     clear bo hw6 y0 y1 y2 hy1 hgl
     go_loopw [9, 10, 11] (fun vo vr i wr => ∃ (q : Nat) (lr : List Int), q ≤ m ∧ i = .int .i64 q ∧ lr.length = (delO q x).length ∧ Tw w5.heap.size wr vo (delO q x) vr lr ∧ Below w5.heap.size w5 wr) (fun _ _ i _ => m - (intOf i).toNat)
     case atStart => exact ⟨0, [], Nat.zero_le _, rfl, rfl, HTW.out, BO.out⟩
     case round =>
      obtain ⟨q, lr, hq, rfl, hlr, htw, hb⟩ := hrel
      have HTWq := Lib.hid htw
      have HBQ := Lib.hid hb
      have HLR := Lib.hid hlr
      obtain ⟨wq, rfl⟩ : ∃ wq : World, wq = wr := ⟨_, rfl⟩
      clear htw hb hlr
      have hsq := HBQ.out.size
      have z1 := (HBQ.out.cell (p := ⟨w1.heap.size, 1, none⟩) (by show w1.heap.size < _; omega)).trans Y1.out
      by_cases hlt : q < m
      ·have hqI : (q : Int) < (m : Int) := by omega
       have HDS := Lib.hid (delO_succ q x)
       have hdq : (delO q x).length ≤ 1099511627776 := by
        have h1 : (delO q x).length ≤ q := by
         unfold delO
         refine Nat.le_trans (List.length_filter_le _ _) ?_
         simp
        omega
       have hlrq : lr.length ≤ 1099511627776 := by rw [HLR.out]; exact hdq
       have hql : q < lv'.length := by rw [HLM.out]; exact hlt
       have HV64 := Lib.hid (OL5.out.2 lv'[q] (List.getElem_mem hql))
       rcases e6 : ((q : Int) != x) with _ | _
       ·have hqx : (q : Int) = x := by simpa using e6
        have HD : Hid (delO (q + 1) x = delO q x) := Lib.hid (by rw [HDS.out, if_neg (by simp [hqx])])
        clear hqx
        go_wp2
        go_roundw
        case rel => exact ⟨q + 1, lr, by omega, by go_num, by rw [HD.out]; exact HLR.out, by rw [HD.out]; exact HTWq.out, HBQ.out⟩
        case measure => simp [intOf]; omega
       ·have hqx : (q : Int) ≠ x := by simpa using e6
        have HD : Hid (delO (q + 1) x = delO q x ++ [(q : Int)]) := Lib.hid (by rw [HDS.out, if_pos hqx])
        have hlI : (q : Int) < (lv'.length : Int) := by omega
        have HCQ := Lib.hid (fun W' (h : OwI W' (w1.heap.size + 1) (.slice (some ⟨gl, 0, none⟩) lv'.length cl_) lv') => h.cellAt q hql)
        clear hqx
        generalize lv'[q] = lq at HV64 HCQ
        go_wp2_with (first
         | (at_builtin; refine push_int rfl (.tmp 54) (.tmp 56) rfl w5.heap.size _ (delO q x) (HTWq.out.1.alloc _) rfl _ (q : Int) rfl (cell_new1 _ _ _) (by unfold I64; omega) hdq (by simp <;> omega) ?_; intro v7 w7 o7 g7 p7; have T7 := Lib.hid (HTWq.out.push ((Below.refl _ _).alloc (Nat.le_refl _) (.cells #[.int .i64 q] 3)) o7 g7 p7); have B7 : Hid (Below w5.heap.size w5 w7) := Lib.hid ((HBQ.out.alloc hsq (.cells #[.int .i64 q] 3)).grown g7 (by simp <;> omega) (fun c hc => (HTWq.out.1.1.lt c hc).1)); have hs7 := B7.out.size; have hcl7 := HCQ.out w7 (OL5.out.below B7.out); clear o7 g7 p7)
         | (at_builtin; refine push_int rfl (.tmp 58) (.tmp 63) rfl w5.heap.size _ lr (T7.out.2.1.alloc _) rfl _ lq rfl (cell_new1 _ _ _) HV64.out hlrq (by simp <;> omega) ?_; intro v8 w8 o8 g8 p8; have T8 := Lib.hid (T7.out.swap.push ((Below.refl _ _).alloc (Nat.le_refl _) (.cells #[.int .i64 lq] 3)) o8 g8 p8).swap; have B8 : Hid (Below w5.heap.size w5 w8) := Lib.hid ((B7.out.alloc hs7 (.cells #[.int .i64 lq] 3)).grown g8 (by simp <;> omega) (fun c hc => (T7.out.2.1.1.lt c hc).1)); clear o8 g8 p8))
        go_roundw
        case rel => exact ⟨q + 1, lr ++ [lq], by omega, by go_num, by rw [HD.out, List.length_append, List.length_append, HLR.out]; rfl, by rw [HD.out]; exact T8.out, B8.out⟩
        case measure => simp [intOf]; omega
      ·obtain rfl : q = m := by omega
       have HAKQ := Lib.hid ((HAK.out.below B5'.out).below HBQ.out)
       have z0 := (HBQ.out.cell (p := ⟨w1.heap.size, 0, none⟩) (by show w1.heap.size < _; omega)).trans Y0.out
       have z2 := (HBQ.out.cell (p := ⟨w1.heap.size, 2, none⟩) (by show w1.heap.size < _; omega)).trans Y2.out
       have ZF : Hid (∀ j, wq.frozen? ⟨w1.heap.size, j, none⟩ = false) := Lib.hid fun j => (HBQ.out.frozen (p := ⟨w1.heap.size, j, none⟩) (by show w1.heap.size < _; omega)).trans (YF.out j)
       have hvo := HTWq.out.1.rd.arg.form
       obtain ⟨Avo, cvo, rfl⟩ := hvo
       go_wp2_with fail
       rw [← HM.out]
       refine (specRenumber_any _ _ gk (delO q x) wq HAKQ.out HTWq.out.1.rd HGK.out HGN.out.2).mono ?_
       rintro e w9 ⟨r, rfl, o9, b9⟩
       have hs9 := b9.size
       have B9 := Lib.hid (B5.out.trans ((HBQ.out.trans (b9.mono hsq)).mono (by omega)))
       have x0 := (b9.cell (p := ⟨w1.heap.size, 0, none⟩) (by show w1.heap.size < _; omega)).trans z0
       have x1 := (b9.cell (p := ⟨w1.heap.size, 1, none⟩) (by show w1.heap.size < _; omega)).trans z1
       have x2 := (b9.cell (p := ⟨w1.heap.size, 2, none⟩) (by show w1.heap.size < _; omega)).trans z2
       have X9 : Hid (∀ j, w9.frozen? ⟨w1.heap.size, j, none⟩ = false) := Lib.hid fun j => (b9.frozen (p := ⟨w1.heap.size, j, none⟩) (by show w1.heap.size < _; omega)).trans (ZF.out j)
       have xf0 := X9.out 0
       have xf1 := X9.out 1
       have xf2 := X9.out 2
       have T9 := Lib.hid (HTWq.out.below b9)
       have HG1 : Hid (grB (rnG gk (delO q x)) = true ∧ (rnG gk (delO q x)).2.1 = ((delO q x).length : Int)) := Lib.hid ⟨HGN.out.1, rfl⟩
       clear b9 z0 z1 z2 HGN
       generalize rnG gk (delO q x) = M at *
       obtain ⟨m1, m2, ms⟩ := M
       obtain ⟨s9, rfl, hj1, hj2, oe9⟩ := o9
       obtain ⟨A9, c9, rfl, _⟩ := oe9.form
       simp only at hj1 hj2 oe9
       have OE9 := Lib.hid oe9
       clear oe9
       obtain ⟨e0, e1, e2⟩ := cells3F (.int .i64 m1) (.int .i64 m2) (.slice A9 ms.length c9) x0 x1 x2
       have NB : Hid (Below w1.heap.size w1 (((w9.setCell ⟨w1.heap.size, 0, none⟩ (.int .i64 m1)).setCell ⟨w1.heap.size, 1, none⟩ (.int .i64 m2)).setCell ⟨w1.heap.size, 2, none⟩ (.slice A9 ms.length c9))) := Lib.hid (((B9.out.setCell (Nat.le_refl _) _).setCell (Nat.le_refl _) _).setCell (Nat.le_refl _) _)
       have NE : Hid (OwE (((w9.setCell ⟨w1.heap.size, 0, none⟩ (.int .i64 m1)).setCell ⟨w1.heap.size, 1, none⟩ (.int .i64 m2)).setCell ⟨w1.heap.size, 2, none⟩ (.slice A9 ms.length c9)) (w.heap.size + 2) (.slice A9 ms.length c9) ms) := Lib.hid (OwE.mono (((OE9.out.far (by show w1.heap.size < _; omega) _).far (by show w1.heap.size < _; omega) _).far (by show w1.heap.size < _; omega) _) (by omega))
       have NX : Hid (∀ b, (Value.slice A9 ms.length c9).ownBlock = some b → b ≠ w1.heap.size) := Lib.hid fun b hb => by have := (OE9.out.1.lt b hb).1; omega
       have NF : Hid (∀ j, ((((w9.setCell ⟨w1.heap.size, 0, none⟩ (.int .i64 m1)).setCell ⟨w1.heap.size, 1, none⟩ (.int .i64 m2)).setCell ⟨w1.heap.size, 2, none⟩ (.slice A9 ms.length c9))).frozen? ⟨w1.heap.size, j, none⟩ = false) := Lib.hid fun j => by rw [World.frozen?_setCell, World.frozen?_setCell, World.frozen?_setCell]; exact X9.out j
       have NR : Hid (OwI (((w9.setCell ⟨w1.heap.size, 0, none⟩ (.int .i64 m1)).setCell ⟨w1.heap.size, 1, none⟩ (.int .i64 m2)).setCell ⟨w1.heap.size, 2, none⟩ (.slice A9 ms.length c9)) (w1.heap.size + 1) u10 lr) := Lib.hid (OwI.mono (((T9.out.2.1.far (by show w1.heap.size < _; omega) _).far (by show w1.heap.size < _; omega) _).far (by show w1.heap.size < _; omega) _) (by omega))
       have E0 := Lib.hid e0
       have E1 := Lib.hid e1
       have E2 := Lib.hid e2
       obtain ⟨lx', hlx'⟩ := HTN.out
       have HTX := Lib.hid hlx'
       have hsz9 : w1.heap.size < ((((w9.setCell ⟨w1.heap.size, 0, none⟩ (.int .i64 m1)).setCell ⟨w1.heap.size, 1, none⟩ (.int .i64 m2)).setCell ⟨w1.heap.size, 2, none⟩ (.slice A9 ms.length c9))).heap.size := by simp <;> omega
       clear e0 e1 e2 hlx' HTN
       go_wp2
       go_roundw
       case rel => exact ⟨j + 1, (m1, m2, ms), A9, c9, lr, lx', by omega, by go_num, HG1.out.1, HTX.out, by have := HG1.out.2; simp only at this ⊢; omega, by have := HG1.out.2; rw [HLR.out]; exact this.symm, E0.out, E1.out, E2.out, NF.out, NE.out, NX.out, NR.out, NB.out, hsz9⟩
       case measure => simp [intOf]; omega
    ·have hlf : leafV gk.2.2 gk.2.1.toNat < 0 := by simpa using e4
     have HT : Hid (TG = gk) := Lib.hid (by rw [← HTF.out, trimF_stop _ hlf])
     have r0 := (BW5.out.cell (p := ⟨w.heap.size + 1, 0, none⟩) (by show w.heap.size + 1 < _; omega)).trans R0.out
     have r1 := (BW5.out.cell (p := ⟨w.heap.size + 1, 1, none⟩) (by show w.heap.size + 1 < _; omega)).trans R1.out
     have r2 := (BW5.out.cell (p := ⟨w.heap.size + 1, 2, none⟩) (by show w.heap.size + 1 < _; omega)).trans R2.out
     have rf0 := (BW5.out.frozen (p := ⟨w.heap.size + 1, 0, none⟩) (by show w.heap.size + 1 < _; omega)).trans (RF.out 0)
     have rf1 := (BW5.out.frozen (p := ⟨w.heap.size + 1, 1, none⟩) (by show w.heap.size + 1 < _; omega)).trans (RF.out 1)
     have rf2 := (BW5.out.frozen (p := ⟨w.heap.size + 1, 2, none⟩) (by show w.heap.size + 1 < _; omega)).trans (RF.out 2)
     have hne1 : w.heap.size + 1 ≠ w1.heap.size := by omega
     have HBF := Lib.hid (BX.out.trans (BW5.out.mono BX.out.size))
     obtain ⟨Al, cl_, rfl, _⟩ := OwI.form OL5.out
     have HM := Lib.hid hm
     clear hm
     go_wp2
     obtain ⟨e0, e1, e2⟩ := cells3F (.int .i64 gk.1) (.int .i64 gk.2.1) (.slice A2 gk.2.2.length c2) r0 r1 r2
     have bw : Below w.heap.size w (((w5.setCell ⟨w.heap.size + 1, 0, none⟩ (.int .i64 gk.1)).setCell ⟨w.heap.size + 1, 1, none⟩ (.int .i64 gk.2.1)).setCell ⟨w.heap.size + 1, 2, none⟩ (.slice A2 gk.2.2.length c2)) := (((HBF.out.setCell (by simp <;> omega) _).setCell (by simp <;> omega) _).setCell (by simp <;> omega) _)
     have ow : OwE (((w5.setCell ⟨w.heap.size + 1, 0, none⟩ (.int .i64 gk.1)).setCell ⟨w.heap.size + 1, 1, none⟩ (.int .i64 gk.2.1)).setCell ⟨w.heap.size + 1, 2, none⟩ (.slice A2 gk.2.2.length c2)) (w.heap.size + 2) (.slice A2 gk.2.2.length c2) gk.2.2 := ((OE5.out.far (by show w.heap.size + 1 < _; omega) _).far (by show w.heap.size + 1 < _; omega) _).far (by show w.heap.size + 1 < _; omega) _
     generalize (((w5.setCell ⟨w.heap.size + 1, 0, none⟩ (.int .i64 gk.1)).setCell ⟨w.heap.size + 1, 1, none⟩ (.int .i64 gk.2.1)).setCell ⟨w.heap.size + 1, 2, none⟩ (.slice A2 gk.2.2.length c2)) = wf at *
     rw [HT.out]
     exact bodyPost_ret (v := .tuple #[.agg #[.int .i64 gk.1, .int .i64 gk.2.1, .slice A2 gk.2.2.length c2], .slice Al lv'.length cl_]) (by simp [results, Tryz.results120, go_sem, e0, e1, e2]) rfl ⟨_, _, rfl, ⟨.slice A2 gk.2.2.length c2, rfl, (by unfold I64; omega), (by unfold I64; omega), ow.mono (by omega)⟩, bw⟩
set_option maxHeartbeats 1000000 in
theorem specCoreGraph_any (v : Value) (g : GrD) (w : World) (h : ArgG w v g) (hg : grB g = true) :
  Calls Tryz.prog 78 #[v] w fun e w' => ∃ r, e = .returned r ∧ OwG w' w.heap.size r (coreG g) ∧ Below w.heap.size w w' := by
 have HG := Lib.hid h
 have HFA := Lib.hid (folA_ok hg)
 have HFB := Lib.hid (foldB_parts HFA.out).1
 have HTB := Lib.hid (trimG_fold HFA.out)
 have HCG : Hid (coreG g = canG (trimG (folA g)).1) := Lib.hid rfl
 have HFO := Lib.hid (fun W h => specFoldAll_any v g W h hg)
 have HTR := Lib.hid (fun u W h => specTrimGraph_any u (folA g) W h HFB.out)
 have HCA := Lib.hid (fun u W h => specCanonicalGraph_any u (trimG (folA g)).1 W h HTB.out)
 generalize canG (trimG (folA g)).1 = CG at *
 generalize (trimG (folA g)).1 = TG at *
 generalize folA g = FG at *
 obtain ⟨s, rfl, hi1, hi2, ha⟩ := h
 obtain ⟨A, cap, rfl⟩ := ha.form
 obtain ⟨g1, N, es⟩ := g
 simp only at *
 clear ha hg
 go_enter Tryz.func78, Tryz.ntmps78
 have bx : Below w.heap.size w ((w.alloc (Obj.cells #[Value.int IntKind.i64 g1, Value.int IntKind.i64 N, .slice A es.length cap] 31)).alloc (Obj.cells #[Value.int IntKind.i64 0, Value.int IntKind.i64 0, .slice none 0 0] 31)) := (by repeat (first | exact Below.refl _ _ | (refine Below.setCell ?_ (by first | omega | (simp <;> omega)) _) | (refine bel_drewN ?_ _) | (refine Below.drew ?_) | (refine Below.alloc ?_ (by first | omega | (simp <;> omega)) _)))
 go_wp2_with fail
 obtain ⟨W, hW⟩ : ∃ W, W = ((w.alloc (Obj.cells #[Value.int IntKind.i64 g1, Value.int IntKind.i64 N, .slice A es.length cap] 31)).alloc (Obj.cells #[Value.int IntKind.i64 0, Value.int IntKind.i64 0, .slice none 0 0] 31)) := ⟨_, rfl⟩
 rw [← hW] at bx ⊢
 have hsW : W.heap.size = w.heap.size + 2 := by rw [hW]; simp
 have R0 : Hid (W.cell? ⟨w.heap.size + 1, 0, none⟩ = some (.int .i64 0)) := Lib.hid (by rw [hW]; simp [go_sem])
 have R1 : Hid (W.cell? ⟨w.heap.size + 1, 1, none⟩ = some (.int .i64 0)) := Lib.hid (by rw [hW]; simp [go_sem])
 have R2 : Hid (W.cell? ⟨w.heap.size + 1, 2, none⟩ = some (.slice none 0 0)) := Lib.hid (by rw [hW]; simp [go_sem])
 have RF : Hid (∀ j, W.frozen? ⟨w.heap.size + 1, j, none⟩ = false) := Lib.hid fun j => by rw [hW]; simp [go_sem]
 have BX := Lib.hid bx
 clear hW bx
 refine (HFO.out W (HG.out.below BX.out)).mono ?_
 rintro e w1 ⟨r, o, rfl, o1, b1⟩
 have B1 := Lib.hid b1
 have hs1 := b1.size
 have O1 := Lib.hid o1
 obtain ⟨f1, f2, fs⟩ := FG
 obtain ⟨s1, rfl, _, _, oe1⟩ := o1
 obtain ⟨A1, c1, rfl, _⟩ := oe1.form
 simp only at *
 clear b1 oe1
 have bf : Below w1.heap.size w1 (w1.alloc (Obj.cells #[Value.int IntKind.i64 f1, Value.int IntKind.i64 f2, .slice A1 fs.length c1] 31)) := (Below.refl _ _).alloc (Nat.le_refl _) _
 go_wp2_with fail
 refine (HTR.out _ _ (O1.out.arg.below bf)).mono ?_
 rintro e w3 ⟨r3, o3, rfl, o3', b3⟩
 have hsf := bf.size
 have B3 := Lib.hid (B1.out.trans ((bf.trans (b3.mono hsf)).mono hs1))
 have hs3 := b3.size
 have O3 := Lib.hid o3'
 obtain ⟨t1, t2, ts⟩ := TG
 obtain ⟨s3, rfl, _, _, oe3⟩ := o3'
 obtain ⟨A3, c3, rfl, _⟩ := oe3.form
 simp only at *
 clear b3 oe3 bf
 have bt : Below w3.heap.size w3 (w3.alloc (Obj.cells #[Value.int IntKind.i64 t1, Value.int IntKind.i64 t2, .slice A3 ts.length c3] 31)) := (Below.refl _ _).alloc (Nat.le_refl _) _
 go_wp2_with fail
 refine (HCA.out _ _ (O3.out.arg.below bt)).mono ?_
 rintro e w5 ⟨r5, rfl, o5, b5⟩
 have hst := bt.size
 have hs33 := B3.out.size
 have B5 := Lib.hid (B3.out.trans ((bt.trans (b5.mono hst)).mono hs33))
 have hs5 := B5.out.size
 have hb5 := b5.size
 obtain ⟨c1', c2', cs⟩ := CG
 obtain ⟨s5, rfl, hj1, hj2, oe5⟩ := o5
 obtain ⟨A5, k5, rfl, _⟩ := oe5.form
 simp only at *
 have OE5 := Lib.hid oe5
 have r0 := (B5.out.cell (p := ⟨w.heap.size + 1, 0, none⟩) (by show w.heap.size + 1 < _; omega)).trans R0.out
 have r1 := (B5.out.cell (p := ⟨w.heap.size + 1, 1, none⟩) (by show w.heap.size + 1 < _; omega)).trans R1.out
 have r2 := (B5.out.cell (p := ⟨w.heap.size + 1, 2, none⟩) (by show w.heap.size + 1 < _; omega)).trans R2.out
 have rf0 := (B5.out.frozen (p := ⟨w.heap.size + 1, 0, none⟩) (by show w.heap.size + 1 < _; omega)).trans (RF.out 0)
 have rf1 := (B5.out.frozen (p := ⟨w.heap.size + 1, 1, none⟩) (by show w.heap.size + 1 < _; omega)).trans (RF.out 1)
 have rf2 := (B5.out.frozen (p := ⟨w.heap.size + 1, 2, none⟩) (by show w.heap.size + 1 < _; omega)).trans (RF.out 2)
 have HBF := Lib.hid (BX.out.trans (B5.out.mono BX.out.size))
 clear b5 oe5 bt
 go_wp2
 obtain ⟨e0, e1, e2⟩ := cells3F (.int .i64 c1') (.int .i64 c2') (.slice A5 cs.length k5) r0 r1 r2
 have bw : Below w.heap.size w (((w5.setCell ⟨w.heap.size + 1, 0, none⟩ (.int .i64 c1')).setCell ⟨w.heap.size + 1, 1, none⟩ (.int .i64 c2')).setCell ⟨w.heap.size + 1, 2, none⟩ (.slice A5 cs.length k5)) := (((HBF.out.setCell (by simp <;> omega) _).setCell (by simp <;> omega) _).setCell (by simp <;> omega) _)
 have ow : OwE (((w5.setCell ⟨w.heap.size + 1, 0, none⟩ (.int .i64 c1')).setCell ⟨w.heap.size + 1, 1, none⟩ (.int .i64 c2')).setCell ⟨w.heap.size + 1, 2, none⟩ (.slice A5 cs.length k5)) w.heap.size (.slice A5 cs.length k5) cs := OwE.mono (((OE5.out.far (by show w.heap.size + 1 < _; omega) _).far (by show w.heap.size + 1 < _; omega) _).far (by show w.heap.size + 1 < _; omega) _) (by omega)
 generalize (((w5.setCell ⟨w.heap.size + 1, 0, none⟩ (.int .i64 c1')).setCell ⟨w.heap.size + 1, 1, none⟩ (.int .i64 c2')).setCell ⟨w.heap.size + 1, 2, none⟩ (.slice A5 cs.length k5)) = wf at *
 rw [HCG.out]
 exact bodyPost_ret (v := .agg #[.int .i64 c1', .int .i64 c2', .slice A5 cs.length k5]) (by simp [results, Tryz.results78, go_sem, e0, e1, e2]) rfl ⟨_, rfl, ⟨.slice A5 cs.length k5, rfl, hj1, hj2, ow⟩, bw⟩
end Go.Proofs.YtfadnkjlilhneaaGreat
