/- The first vertex that no loop needs: the reference's l8Leaf. -/
import Derived.Test.YtpemfkncjhhagaaGreatCanP
import Derived.Test.YtpemfkncjhhagaaGreatGrG
namespace Go.Proofs.YtpemfkncjhhagaaGreat
set_option maxRecDepth 20000
set_option linter.unusedVariables false
set_option linter.unusedSimpArgs false
open Go.RowKit

def leafB (es : List EdD) (v : Nat) : Bool := decide (degL es v < 2) || !hasB (reachL es 0) v
/-- The first leaf from v on, below n; -1 if there is none. -/
def leafFrom (es : List EdD) (n : Nat) : Nat → Nat → Int
  | 0, _ => -1
  | f + 1, v => if v < n then (if leafB es v then (v : Int) else leafFrom es n f (v + 1)) else -1
def leafV (es : List EdD) (n : Nat) : Int := leafFrom es n (n - 1) 1
theorem leafFrom_end (es : List EdD) (n f : Nat) : leafFrom es n f n = -1 := by
  cases f with
  | zero => rfl
  | succ f => unfold leafFrom; rw [if_neg (Nat.lt_irrefl n)]
theorem leafFrom_hit {es : List EdD} {n v : Nat} (hv : v < n) (h : leafB es v = true) : leafFrom es n (n - v) v = v := by
  obtain ⟨f, hf⟩ : ∃ f, n - v = f + 1 := ⟨n - v - 1, by omega⟩
  rw [hf]
  unfold leafFrom
  rw [if_pos hv, if_pos h]
theorem leafFrom_miss {es : List EdD} {n v : Nat} (hv : v < n) (h : leafB es v = false) : leafFrom es n (n - v) v = leafFrom es n (n - (v + 1)) (v + 1) := by
  obtain ⟨f, hf⟩ : ∃ f, n - v = f + 1 := ⟨n - v - 1, by omega⟩
  rw [hf]
  rw [leafFrom, if_pos hv, if_neg (by simp [h]), show n - (v + 1) = f by omega]
set_option maxHeartbeats 2000000 in
theorem l8Leaf_any (v : Value) (g : GrD) (w : World) (h : ArgG w v g) (hg : grB g = true) :
    Calls Tryz.prog 107 #[v] w fun e w' => e = .returned (.int .i64 (leafV g.2.2 g.2.1.toNat)) ∧ Below w.heap.size w w' := by
  have HG := Lib.hid h
  have HGR := Lib.hid hg
  obtain ⟨_, hsz40, hl120, _⟩ := grB_parts hg
  have hu : inB 0 0 (wrap64 (g.2.1 - 1)) = true := by
    rw [IntWalk.wrap64_in _ ⟨by omega, by omega⟩]
    exact inB_iff.2 ⟨Int.le_refl _, by omega⟩
  have HU := Lib.hid hu
  obtain ⟨N, hN⟩ : ∃ N : Nat, g.2.1 = (N : Int) := ⟨g.2.1.toNat, by omega⟩
  clear hu hg
  obtain ⟨s, rfl, _, _, ha⟩ := h
  obtain ⟨A, cap, rfl⟩ := ha.form
  obtain ⟨r, n, es⟩ := g
  simp only at hN hsz40 hl120
  subst hN
  simp only [Int.toNat_natCast]
  have hN1 : 1 ≤ N := by omega
  have hN2 : N ≤ 40 := by omega
  obtain ⟨R, hR⟩ : ∃ R, R = leafV es N := ⟨_, rfl⟩
  rw [← hR]
  have HR := Lib.hid hR
  clear hR ha hsz40
  have bx : Below w.heap.size w (w.alloc (Obj.cells #[Value.int IntKind.i64 r, Value.int IntKind.i64 N, .slice A es.length cap] 45)) := (by repeat (first | exact Below.refl _ _ | (refine Below.setCell ?_ (by first | omega | (simp <;> omega)) _) | (refine bel_drewN ?_ _) | (refine Below.drew ?_) | (refine Below.alloc ?_ (by first | omega | (simp <;> omega)) _)))
  have k0 : (w.alloc (Obj.cells #[Value.int IntKind.i64 r, Value.int IntKind.i64 N, .slice A es.length cap] 45)).cell? ⟨w.heap.size, 0, none⟩ = some (.int .i64 r) := by simp [go_sem]
  have k1 : (w.alloc (Obj.cells #[Value.int IntKind.i64 r, Value.int IntKind.i64 N, .slice A es.length cap] 45)).cell? ⟨w.heap.size, 1, none⟩ = some (.int .i64 N) := by simp [go_sem]
  have k2 : (w.alloc (Obj.cells #[Value.int IntKind.i64 r, Value.int IntKind.i64 N, .slice A es.length cap] 45)).cell? ⟨w.heap.size, 2, none⟩ = some (.slice A es.length cap) := by simp [go_sem]
  have sx : w.heap.size < (w.alloc (Obj.cells #[Value.int IntKind.i64 r, Value.int IntKind.i64 N, .slice A es.length cap] 45)).heap.size := by simp
  have BX := Lib.hid bx
  have K0 := Lib.hid k0
  have K1 := Lib.hid k1
  have K2 := Lib.hid k2
  clear k0 k1 k2 bx
  go_enter Tryz.func107, Tryz.ntmps107
  go_wp2_with fail
  refine (reachedFrom_any _ (r, (N : Int), es) 0 _ (HG.out.below BX.out) HGR.out HU.out ⟨by decide, by decide⟩).mono ?_
  rintro e w1 ⟨rs, rfl, o1, b1⟩
  have HB := Lib.hid (BX.out.trans (b1.mono BX.out.size))
  have s1 := b1.size
  have hs0 : w.heap.size < w1.heap.size := by omega
  have q0 := (b1.cell (p := ⟨w.heap.size, 0, none⟩) sx).trans K0.out
  have q1 := (b1.cell (p := ⟨w.heap.size, 1, none⟩) sx).trans K1.out
  have q2 := (b1.cell (p := ⟨w.heap.size, 2, none⟩) sx).trans K2.out
  have Q0 := Lib.hid q0
  have Q1 := Lib.hid q1
  have Q2 := Lib.hid q2
  have O1 := Lib.hid o1
  obtain ⟨A1, cap1, rfl, _⟩ := o1.form
  have hrl : (reachL es 0).length ≤ 100000 := by
    have := iterR_len es 0 (es.length + 1) hl120
    unfold reachL
    omega
  have HLB : Hid (∀ v : Nat, leafB es v = (decide (degL es v < 2) || !hasB (reachL es 0) v)) := Lib.hid fun v => rfl
  clear q0 q1 q2 b1 o1 K0 K1 K2 s1 sx
  simp only at O1 hrl
  generalize reachL es 0 = L at *
  go_wp2
  go_loopw [4] (fun i wr => ∃ k : Nat, 1 ≤ k ∧ k ≤ N ∧ i = .int .i64 k ∧ R = leafFrom es N (N - k) k ∧ Below w1.heap.size w1 wr) (fun i _ => N - (intOf i).toNat)
  case atStart => exact ⟨1, Nat.le_refl _, hN1, rfl, HR.out, Below.refl _ _⟩
  case round =>
    obtain ⟨k, hk1, hk, rfl, hrem, hbel⟩ := hrel
    have HREM := Lib.hid hrem
    have HB2 := Lib.hid hbel
    have HB3 := Lib.hid (HB.out.trans (hbel.mono HB.out.size))
    have hsz := hbel.size
    have p0 := (hbel.cell (p := ⟨w.heap.size, 0, none⟩) hs0).trans Q0.out
    have p1 := (hbel.cell (p := ⟨w.heap.size, 1, none⟩) hs0).trans Q1.out
    have p2 := (hbel.cell (p := ⟨w.heap.size, 2, none⟩) hs0).trans Q2.out
    have OL := Lib.hid (O1.out.below hbel)
    clear hrem hbel
    by_cases hlt : k < N
    · have hlti : (k : Int) < (N : Int) := by omega
      have hdle : degL es k ≤ 240 := by have := degL_le es k es.length; rw [List.take_length] at this; omega
      have LB := Lib.hid (HLB.out k)
      go_wp2_with fail
      refine (specDegreeOf_any _ (r, (N : Int), es) k _ (HG.out.below HB3.out) (by simp only; omega)).mono ?_
      rintro e w2 ⟨rfl, b2⟩
      have B2 := Lib.hid b2
      have s2 := b2.size
      have OL2 := Lib.hid (OL.out.below b2)
      clear b2
      simp only
      generalize degL es k = d at *
      by_cases hd : d < 2
      · have hdi : (d : Int) < 2 := by omega
        have F := Lib.hid (leafFrom_hit hlt (by rw [LB.out]; simp [hd]))
        go_wp2
        go_ret
        exact ⟨ret_int (by rw [HREM.out, F.out]), HB3.out.trans (B2.out.mono (by omega))⟩
      · have hdi : ¬ (d : Int) < 2 := by omega
        go_wp2_with fail
        refine (l4Has_any _ L k _ OL2.out.rd.arg (by omega)).mono ?_
        rintro e' w' ⟨rfl, rfl⟩
        rcases h1 : hasB L k with _ | _
        · have F := Lib.hid (leafFrom_hit hlt (by rw [LB.out, h1]; simp))
          go_wp2
          go_ret
          exact ⟨ret_int (by rw [HREM.out, F.out]), HB3.out.trans (B2.out.mono (by omega))⟩
        · have F := Lib.hid (leafFrom_miss hlt (by rw [LB.out, h1]; simp [hd]))
          go_wp2
          go_roundw
          case rel => exact ⟨k + 1, by omega, by omega, by go_num, by rw [HREM.out, F.out], HB2.out.trans (B2.out.mono (by omega))⟩
          case measure => simp [intOf]; omega
    · obtain rfl : k = N := by omega
      have F : Hid (R = -1) := Lib.hid (by rw [HREM.out, leafFrom_end])
      go_wp2
      go_ret
      exact ⟨ret_int F.out.symm, HB3.out⟩
end Go.Proofs.YtpemfkncjhhagaaGreat
