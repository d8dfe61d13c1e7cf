/- Where a word leads in a folded graph: the reference's WalkWord. -/
import Derived.Test.YtgoghkboklehnaaCanP
import Derived.Test.YtgoghkboklehnaaGrF
namespace Go.Proofs.Ytgoghkboklehnaa
set_option maxRecDepth 20000
set_option linter.unusedVariables false
set_option linter.unusedSimpArgs false
open Go.RowKit

theorem letters_mem {r : Nat} {x : Int} : x ∈ lettersL r ↔ (1 ≤ x ∧ x ≤ r) ∨ (-(r : Int) ≤ x ∧ x ≤ -1) := by
  induction r with
  | zero => simp [lettersL]; omega
  | succ n ih =>
    unfold lettersL
    rw [List.mem_append, ih]
    simp
    omega
/-- A step can be taken back. -/
theorem nextV_mem {es : List EdD} {v x : Int} (h : 0 ≤ nextV es v x) : ∃ e ∈ es, mt v x e = some (nextV es v x) := by
  unfold nextV at *
  cases hs : stepsL es v x with
  | nil => rw [hs] at h; simp at h
  | cons y l =>
    have hy : y ∈ stepsL es v x := by rw [hs]; simp
    unfold stepsL at hy
    obtain ⟨e, he, hm⟩ := List.mem_filterMap.1 hy
    exact ⟨e, he, by simpa using hm⟩
theorem nextV_of {es : List EdD} (hf : Fol es) {v x y : Int} {e : EdD} (he : e ∈ es) (hm : mt v x e = some y) : nextV es v x = y := by
  have hy : y ∈ stepsL es v x := List.mem_filterMap.2 ⟨e, he, hm⟩
  have h1 := steps_one hf v x
  unfold nextV
  cases hs : stepsL es v x with
  | nil => rw [hs] at hy; simp at hy
  | cons z l =>
    rw [hs] at h1 hy
    have : l = [] := by simpa using h1
    subst this
    simp at hy
    simp [hy]
theorem nextV_back {g : GrD} (hg : grB g = true) (hf : Fol g.2.2) {v x : Int} (hx : -3 ≤ x ∧ x ≤ 3) (h : 0 ≤ nextV g.2.2 v x) : nextV g.2.2 (nextV g.2.2 v x) (-x) = v := by
  obtain ⟨e, he, hm⟩ := nextV_mem h
  refine nextV_of hf he ?_
  generalize nextV g.2.2 v x = y at *
  have hw1 : wrap64 (-x) = -x := IntWalk.wrap64_in _ ⟨by omega, by omega⟩
  have hw2 : wrap64 (- -x) = x := by rw [Int.neg_neg]; exact IntWalk.wrap64_in _ ⟨by omega, by omega⟩
  unfold mt at hm ⊢
  by_cases hp : 0 < x
  · rw [if_pos hp] at hm
    split at hm
    · rename_i a
      injection hm with hm
      rw [if_neg (by omega), if_pos (by omega), hw2, if_pos ⟨a.1, hm⟩, a.2]
    · cases hm
  · rw [if_neg hp] at hm
    by_cases hn : x < 0
    · rw [if_pos hn, hw1] at hm
      split at hm
      · rename_i a
        injection hm with hm
        rw [if_pos (by omega), if_pos ⟨a.1, hm⟩, a.2]
      · cases hm
    · rw [if_neg hn] at hm; cases hm

/-- Where a word leads; -1 if it cannot be read. -/
def walkF (es : List EdD) : Int → List Int → Int
  | v, [] => v
  | v, x :: w => if nextV es v x < 0 then -1 else walkF es (nextV es v x) w
theorem walkF_step (es : List EdD) (v : Int) (w : List Int) (k : Nat) (h : k < w.length) : walkF es v (w.drop k) = if nextV es v w[k] < 0 then -1 else walkF es (nextV es v w[k]) (w.drop (k + 1)) := by
  rw [List.drop_eq_getElem_cons h]
  rfl
theorem walkF_range {g : GrD} (hg : grB g = true) : ∀ (w : List Int) (v : Int), 0 ≤ v ∧ v < g.2.1 → walkF g.2.2 v w = -1 ∨ (0 ≤ walkF g.2.2 v w ∧ walkF g.2.2 v w < g.2.1)
  | [], v, hv => .inr hv
  | x :: w, v, hv => by
    unfold walkF
    rcases nextV_range hg v x with h | h
    · rw [if_pos (by omega)]; exact .inl rfl
    · rw [if_neg (by omega)]; exact walkF_range hg w _ h
set_option maxHeartbeats 1000000 in
theorem walkWord_any (v vw : Value) (g : GrD) (u : Int) (ws : List Int) (w : World) (h : ArgG w v g) (hw : RdI w vw ws) (hf : foldB g = true) (hu : 0 ≤ u ∧ u < g.2.1) :
    Calls Try.prog 65 #[v, .int .i64 u, vw] w fun e w' => e = .returned (.tuple #[.int .i64 (walkF g.2.2 u ws), .bool (decide (0 ≤ walkF g.2.2 u ws))]) ∧ Below w.heap.size w w' := by
  have HG := Lib.hid h
  have HW := Lib.hid hw
  have HF := Lib.hid hf
  obtain ⟨hg, hfol⟩ := foldB_parts hf
  have ONE := Lib.hid (steps_one hfol)
  obtain ⟨hr13, hsz40, hl120, _⟩ := grB_parts hg
  have NV : Hid (∀ v x, nextV g.2.2 v x = -1 ∨ (0 ≤ nextV g.2.2 v x ∧ nextV g.2.2 v x < g.2.1)) := Lib.hid fun v x => nextV_range hg v x
  have hin : inB u 0 (wrap64 (g.2.1 - 1)) = true := by
    rw [IntWalk.wrap64_in _ ⟨by omega, by omega⟩]
    exact inB_iff.2 ⟨hu.1, by omega⟩
  have hsub : IntKind.i64.wrap (g.2.1 - 1) = g.2.1 - 1 := by rw [IntKind.wrap_i64]; omega
  have hin' : inB u 0 (g.2.1 - 1) = true := inB_iff.2 ⟨hu.1, by omega⟩
  have HIN := Lib.hid hin
  have HIN2 := Lib.hid hin'
  obtain ⟨s, rfl, hi1, hi2, ha⟩ := h
  obtain ⟨A, cap, rfl⟩ := ha.form
  obtain ⟨Aw, capw, rfl, hcw, hmw, _⟩ := hw.arg
  unfold maxLen at hmw
  clear hf hg hfol ha hw hin hin'
  have HR : Hid (walkF g.2.2 u ws = walkF g.2.2 u (ws.drop 0)) := Lib.hid (by rw [List.drop_zero])
  generalize walkF g.2.2 u ws = R at *
  go_enter Try.func65, Try.ntmps65
  go_wp2_with fail
  have bx : Below w.heap.size w (w.alloc (Obj.cells #[Value.int IntKind.i64 g.1, Value.int IntKind.i64 g.2.1, .slice A g.2.2.length cap] 56)) := (by repeat (first | exact Below.refl _ _ | (refine Below.setCell ?_ (by first | omega | (simp <;> omega)) _) | (refine bel_drewN ?_ _) | (refine Below.drew ?_) | (refine Below.alloc ?_ (by first | omega | (simp <;> omega)) _)))
  have l0 : (w.alloc (Obj.cells #[Value.int IntKind.i64 g.1, Value.int IntKind.i64 g.2.1, .slice A g.2.2.length cap] 56)).cell? ⟨w.heap.size, 0, none⟩ = some (.int .i64 g.1) := by simp [go_sem]
  have l1 : (w.alloc (Obj.cells #[Value.int IntKind.i64 g.1, Value.int IntKind.i64 g.2.1, .slice A g.2.2.length cap] 56)).cell? ⟨w.heap.size, 1, none⟩ = some (.int .i64 g.2.1) := by simp [go_sem]
  have l2 : (w.alloc (Obj.cells #[Value.int IntKind.i64 g.1, Value.int IntKind.i64 g.2.1, .slice A g.2.2.length cap] 56)).cell? ⟨w.heap.size, 2, none⟩ = some (.slice A g.2.2.length cap) := by simp [go_sem]
  have sA : w.heap.size < (w.alloc (Obj.cells #[Value.int IntKind.i64 g.1, Value.int IntKind.i64 g.2.1, .slice A g.2.2.length cap] 56)).heap.size := by simp
  generalize w.alloc (Obj.cells #[Value.int IntKind.i64 g.1, Value.int IntKind.i64 g.2.1, .slice A g.2.2.length cap] 56) = W at bx l0 l1 l2 sA ⊢
  have BX := Lib.hid bx
  have HA : Hid (∀ w', Below W.heap.size W w' → ArgG w' (.agg #[.int .i64 g.1, .int .i64 g.2.1, .slice A g.2.2.length cap]) g) := Lib.hid fun w' hb => HG.out.below (BX.out.trans (hb.mono (by omega)))
  have hif := specIsFolded_any _ g W (HA.out _ (Below.refl _ _))
  rw [HF.out] at hif
  have HIF := Lib.hid hif
  clear bx hif
  refine HIF.out.mono ?_
  rintro e w1 ⟨rfl, b1⟩
  have q0 := (b1.cell (p := ⟨w.heap.size, 0, none⟩) sA).trans l0
  have q1 := (b1.cell (p := ⟨w.heap.size, 1, none⟩) sA).trans l1
  have q2 := (b1.cell (p := ⟨w.heap.size, 2, none⟩) sA).trans l2
  have BW := Lib.hid b1
  have L0 := Lib.hid l0
  have L1 := Lib.hid l1
  have L2 := Lib.hid l2
  clear b1 HIF l0 l1 l2
  go_wp2_with fail
  refine (l1In_any _ _ _ _).mono ?_
  rintro e w2 ⟨rfl, rfl⟩
  simp only [HIN2.out]
  go_wp2
  go_loopw [1, 8] (fun a i wr => ∃ (k : Nat) (u' : Int), k ≤ ws.length ∧ i = .int .i64 k ∧ a = .int .i64 u' ∧ (0 ≤ u' ∧ u' < g.2.1) ∧ R = walkF g.2.2 u' (ws.drop k) ∧ Below W.heap.size W wr) (fun _ i _ => ws.length - (intOf i).toNat)
  case atStart => exact ⟨0, u, Nat.zero_le _, rfl, rfl, hu, HR.out, BW.out⟩
  case round =>
    obtain ⟨k, u', hk, rfl, rfl, hu', hR, hbel⟩ := hrel
    have HB := Lib.hid hbel
    have HRk := Lib.hid hR
    have hs := hbel.size
    have q0 := (hbel.cell (p := ⟨w.heap.size, 0, none⟩) sA).trans L0.out
    have q1 := (hbel.cell (p := ⟨w.heap.size, 1, none⟩) sA).trans L1.out
    have q2 := (hbel.cell (p := ⟨w.heap.size, 2, none⟩) sA).trans L2.out
    have hwr : w.heap.size < wr.heap.size := by omega
    by_cases hlt : k < ws.length
    · have HRW := Lib.hid (HW.out.below (BX.out.trans (hbel.mono (by omega))))
      obtain ⟨bw, offw, rfl, hbw, hcw2⟩ := HRW.out.at (by omega)
      have c0 := hcw2 k hlt
      have ST := Lib.hid (walkF_step g.2.2 u' ws k hlt)
      generalize ws[k] = x at c0 ST
      have NX := Lib.hid (NV.out u' x)
      have HNX := Lib.hid (fun W' (h : ArgG W' (.agg #[.int .i64 g.1, .int .i64 g.2.1, .slice A g.2.2.length cap]) g) => specNextVertex_any _ g u' x W' h (ONE.out u' x))
      clear hbel hR hcw2
      go_wp2_with fail
      have f0 := BelW.cell q0 hwr
      have f1 := BelW.cell q1 hwr
      have f2 := BelW.cell q2 hwr
      have f3 := BelW.cell c0 hbw
      (refine wp_region_quiet_bel (by kernel_rfl) (by kernel_rfl) ?_; (repeat (go_big_quiet_step (first | (go_at_call 66; exact Calls.bel_of (HNX.out _ (HA.out _ (HB.out.trans ((BelW.h _).mono (by omega))))))))); refine wpQuiet_nil ?_; intro wq hw'; obtain ⟨pq, hw''⟩ := hw'; have bq := pq.h; rw [← hw''] at bq; clear hw'' pq)
      clear f0 f1 f2 f3 q0 q1 q2 c0
      have HQ := Lib.hid (HB.out.trans (bq.mono (by omega)))
      have sq := bq.size
      clear bq
      generalize nextV g.2.2 u' x = y at *
      rcases NX.out with hy | hy
      · subst hy
        have F : Hid (R = -1) := Lib.hid (by rw [HRk.out, ST.out]; rfl)
        go_wp2
        exact bodyPost_ret (v := .tuple #[.int .i64 (-1), .bool false]) (by simp [results, Try.results65]) rfl ⟨by rw [F.out]; rfl, BX.out.trans (HQ.out.mono (by omega))⟩
      · have hy0 : ¬ y < 0 := by omega
        have F : Hid (R = walkF g.2.2 y (ws.drop (k + 1))) := Lib.hid (by rw [HRk.out, ST.out, if_neg hy0])
        go_wp2
        go_roundw
        case rel => exact ⟨k + 1, y, by omega, by go_num, rfl, hy, F.out, HQ.out⟩
        case measure => simp [intOf]; omega
    · obtain rfl : k = ws.length := by omega
      have F : Hid (R = u') := Lib.hid (by rw [HRk.out, List.drop_length]; rfl)
      have hd : Hid (decide (0 ≤ u') = true) := Lib.hid (by simp [hu'.1])
      clear hbel hR
      go_wp2
      exact bodyPost_ret (v := .tuple #[.int .i64 u', .bool true]) (by simp [results, Try.results65]) rfl ⟨by rw [F.out, hd.out], BX.out.trans (HB.out.mono (by omega))⟩
end Go.Proofs.Ytgoghkboklehnaa
