/- An edge put in its place: the reference's l4Put. -/
import Derived.Test.YtgoghkboklehnaaGrG
namespace Go.Proofs.Ytgoghkboklehnaa
set_option maxRecDepth 20000
set_option linter.unusedVariables false
set_option linter.unusedSimpArgs false
open Go.RowKit

theorem edC_new (w : World) (e : EdD) (t : TypeId) (j : Nat) (u : Value) (h : (edC e)[j]? = some u) : (w.alloc (.cells #[.int .i64 e.1, .int .i64 e.2.1, .int .i64 e.2.2] t)).cell? ⟨w.heap.size, j, none⟩ = some u := by
  match j with
  | 0 => simp [edC] at h; subst h; simp [go_sem]
  | 1 => simp [edC] at h; subst h; simp [go_sem]
  | 2 => simp [edC] at h; subst h; simp [go_sem]
  | n + 3 => simp [edC] at h
theorem bel_pushE {B base : Nat} {w0 w w1 : World} {v : Value} {o : Obj} {es : List EdD} (hb : Below B w0 w) (hB : B ≤ w.heap.size) (ho : OwE w base v es) (hbB : B ≤ base) (hg : (w.alloc o).grownBy w1 v.ownBlock) : Below B w0 w1 :=
  bel_push hb hB ho.1 hbB hg
def insE (e : EdD) (es : List EdD) (k : Nat) : List EdD × Bool := (es.take k).foldl (insS cmpE e) ([], false)
theorem insE_succ (y : EdD) (xs : List EdD) (k : Nat) (h : k < xs.length) : insE y xs (k + 1) = insS cmpE y (insE y xs k) xs[k] := by
  unfold insE
  rw [List.take_succ_eq_append_getElem h, List.foldl_append]
  rfl
theorem insE_len (y : EdD) (xs : List EdD) (k : Nat) (h : k ≤ xs.length) : (insE y xs k).1.length ≤ 2 * k := by
  induction k with
  | zero => simp [insE]
  | succ k ih =>
    rw [insE_succ y xs k (by omega)]
    have := ih (by omega)
    unfold insS
    split
    · simp; omega
    · split <;> (simp; omega)
set_option maxHeartbeats 2000000 in
theorem l4Put_any (v : Value) (es : List EdD) (e : EdD) (w : World) (h : ArgE w v es) (he : E64 e) (hl : es.length ≤ 268435456) :
    Calls Try.prog 71 #[v, edV e] w fun e' w' => ∃ r, e' = .returned r ∧ OwE w' w.heap.size r (insF cmpE es e) ∧ Below w.heap.size w w' := by
  have H := Lib.hid h
  obtain ⟨A, cap, rfl, hcap, hm, _, hr, _⟩ := h
  have HR := Lib.hid hr
  have HE := Lib.hid he
  unfold maxLen at hm
  clear hr he
  unfold edV
  go_enter Try.func71, Try.ntmps71
  go_wp2
  have hb : Below w.heap.size w ((w.alloc (Obj.cells #[Value.int IntKind.i64 e.1, Value.int IntKind.i64 e.2.1, Value.int IntKind.i64 e.2.2] 79)).alloc (Obj.cells #[] 79)) := (by repeat (first | exact Below.refl _ _ | (refine Below.setCell ?_ (by first | omega | (simp <;> omega)) _) | (refine bel_drewN ?_ _) | (refine Below.drew ?_) | (refine Below.alloc ?_ (by first | omega | (simp <;> omega)) _)))
  have k0 : ((w.alloc (Obj.cells #[Value.int IntKind.i64 e.1, Value.int IntKind.i64 e.2.1, Value.int IntKind.i64 e.2.2] 79)).alloc (Obj.cells #[] 79)).cell? ⟨w.heap.size, 0, none⟩ = some (.int .i64 e.1) := by simp [go_sem]
  have k1 : ((w.alloc (Obj.cells #[Value.int IntKind.i64 e.1, Value.int IntKind.i64 e.2.1, Value.int IntKind.i64 e.2.2] 79)).alloc (Obj.cells #[] 79)).cell? ⟨w.heap.size, 1, none⟩ = some (.int .i64 e.2.1) := by simp [go_sem]
  have k2 : ((w.alloc (Obj.cells #[Value.int IntKind.i64 e.1, Value.int IntKind.i64 e.2.1, Value.int IntKind.i64 e.2.2] 79)).alloc (Obj.cells #[] 79)).cell? ⟨w.heap.size, 2, none⟩ = some (.int .i64 e.2.2) := by simp [go_sem]
  have hs0 : w.heap.size + 1 < ((w.alloc (Obj.cells #[Value.int IntKind.i64 e.1, Value.int IntKind.i64 e.2.1, Value.int IntKind.i64 e.2.2] 79)).alloc (Obj.cells #[] 79)).heap.size := by simp
  have o0 : OwE ((w.alloc (Obj.cells #[Value.int IntKind.i64 e.1, Value.int IntKind.i64 e.2.1, Value.int IntKind.i64 e.2.2] 79)).alloc (Obj.cells #[] 79)) (w.heap.size + 1) (.slice (some ⟨w.heap.size + 1, 0, none⟩) 0 0) [] := OwE_litN (w.alloc (Obj.cells #[Value.int IntKind.i64 e.1, Value.int IntKind.i64 e.2.1, Value.int IntKind.i64 e.2.2] 79)) (w.heap.size + 1) (by simp) (Nat.le_refl _)
  generalize (w.alloc (Obj.cells #[Value.int IntKind.i64 e.1, Value.int IntKind.i64 e.2.1, Value.int IntKind.i64 e.2.2] 79)).alloc (Obj.cells #[] 79) = w1 at hb k0 k1 k2 hs0 o0 ⊢
  have HB := Lib.hid hb
  have K0 := Lib.hid k0
  have K1 := Lib.hid k1
  have K2 := Lib.hid k2
  have O0 := Lib.hid o0
  clear hb k0 k1 k2 o0
  go_loopw [5, 6, 7] (fun out p i wr => ∃ k : Nat, k ≤ es.length ∧ i = .int .i64 k ∧ p = .bool (insE e es k).2 ∧ OwE wr (w.heap.size + 1) out (insE e es k).1 ∧ Below (w.heap.size + 1) w1 wr)
    (fun _ _ i _ => es.length - (intOf i).toNat)
  case atStart => exact ⟨0, Nat.zero_le _, rfl, rfl, O0.out, Below.refl _ _⟩
  case round =>
    obtain ⟨k, hk, rfl, rfl, hown, hbel⟩ := hrel
    have hsz := hbel.size
    have hal := insE_len e es k hk
    have HB3 := Lib.hid (HB.out.trans (hbel.mono (by omega)))
    have HB2 := Lib.hid hbel
    have p0 := (hbel.cell (p := ⟨w.heap.size, 0, none⟩) (show w.heap.size < w.heap.size + 1 by omega)).trans K0.out
    have p1 := (hbel.cell (p := ⟨w.heap.size, 1, none⟩) (show w.heap.size < w.heap.size + 1 by omega)).trans K1.out
    have p2 := (hbel.cell (p := ⟨w.heap.size, 2, none⟩) (show w.heap.size < w.heap.size + 1 by omega)).trans K2.out
    clear hbel
    by_cases hlt : k < es.length
    · obtain ⟨b, off, rfl, hbw, c0, c1, c2, _⟩ := H.out.at hlt
      have hbl : b < wr.heap.size := by omega
      have hwr : w.heap.size < wr.heap.size := by omega
      have HC0 := Lib.hid c0
      have HC1 := Lib.hid c1
      have HC2 := Lib.hid c2
      replace c0 := (HB3.out.cell (p := ⟨b, off + k * 3, none⟩) hbw).trans c0
      replace c1 := (HB3.out.cell (p := ⟨b, off + k * 3 + 1, none⟩) hbw).trans c1
      replace c2 := (HB3.out.cell (p := ⟨b, off + k * 3 + 2, none⟩) hbw).trans c2
      have HS := Lib.hid (insE_succ e es k hlt)
      have HX := Lib.hid (HR.out es[k] (by simp))
      generalize hs : insE e es k = s at hown HS hal ⊢
      obtain ⟨o, p⟩ := s
      generalize es[k] = z at c0 c1 c2 HC0 HC1 HC2 HS HX
      clear hs
      simp only at hal
      obtain ⟨A1, cap1, rfl, hcap1, hm1, _, _⟩ := hown.form
      have HO0 := Lib.hid hown
      clear hown
      go_wp2_with fail
      have f0 := BelW.cell p0 hwr
      have f1 := BelW.cell p1 hwr
      have f2 := BelW.cell p2 hwr
      have f3 := BelW.cell c0 hbl
      have f4 := BelW.cell c1 hbl
      have f5 := BelW.cell c2 hbl
      (refine wp_region_quiet_bel (by kernel_rfl) (by kernel_rfl) ?_; (repeat (go_big_quiet_step (first | (go_at_call 73; exact Calls.bel_of (specCompareEdges_any e z _))))); refine wpQuiet_nil ?_; intro wq hw'; obtain ⟨pq, hw''⟩ := hw'; have bq := pq.h; rw [← hw''] at bq; clear hw'' pq)
      replace p0 := f0 ⟨wq, bq⟩
      replace p1 := f1 ⟨wq, bq⟩
      replace p2 := f2 ⟨wq, bq⟩
      replace c0 := f3 ⟨wq, bq⟩
      replace c1 := f4 ⟨wq, bq⟩
      replace c2 := f5 ⟨wq, bq⟩
      simp only at p0 p1 p2 c0 c1 c2
      clear f0 f1 f2 f3 f4 f5
      have hsq := bq.size
      have hbq : b < wq.heap.size := by omega
      have hwq : w.heap.size < wq.heap.size := by omega
      have HO := Lib.hid (HO0.out.below bq)
      have HQ2 := Lib.hid (HB2.out.trans (bq.mono (by omega)))
      have HQ3 := Lib.hid (HB3.out.trans (bq.mono (by omega)))
      clear bq
      have HS2 : Hid (insE e es (k + 1) = (if cmpE e z = 0 then (o ++ [z], true) else if cmpE e z < 0 ∧ p = false then (o ++ [e, z], true) else (o ++ [z], p))) := Lib.hid HS.out
      have HCC : Hid (cmpE e z = 0 ∨ cmpE e z < 0 ∨ 0 < cmpE e z) := Lib.hid (by omega)
      clear HS
      generalize cmpE e z = c at *
      rcases HCC.out with hc | hc | hc
      · subst hc
        have F : Hid (insE e es (k + 1) = (o ++ [z], true)) := Lib.hid (by rw [HS2.out]; rfl)
        clear HS2
        go_wp2_with (at_builtin; refine push_edge rfl (.tmp 34) (.tmp 39) rfl _ _ _ (HO.out.alloc _) rfl _ z rfl (edC_new _ _ _) HX.out (by first | omega | (simp; omega)) (by first | omega | (simp; omega)) ?_; intro v2 wv2 o2 g2 p2)
        go_roundw
        case rel => exact ⟨k + 1, by omega, by go_num, by rw [F.out], by rw [F.out]; exact o2, bel_pushE HQ2.out (by omega) HO.out (Nat.le_refl _) g2⟩
        case measure => simp [intOf]; omega
      · have hc0 : (c == 0) = false := by simp; omega
        cases p
        · have F : Hid (insE e es (k + 1) = (o ++ [e, z], true)) := Lib.hid (by rw [HS2.out]; rw [if_neg (by omega), if_pos ⟨hc, rfl⟩])
          clear HS2
          go_wp2_with (first | (at_builtin; refine push_edge rfl (.tmp 30) (.tmp 32) rfl _ _ _ (HO.out.alloc _) rfl _ e rfl (edC_new _ _ _) HE.out (by first | omega | (simp; omega)) (by first | omega | (simp; omega)) ?_; intro v1 wv1 o1 g1 p1; have hz1 := g1.size; simp at hz1; have hb1 := bel_pushE HQ3.out (show w.heap.size ≤ wq.heap.size by omega) HO.out (show w.heap.size ≤ w.heap.size + 1 by omega) g1; replace c0 := (hb1.cell (p := ⟨b, off + k * 3, none⟩) hbw).trans HC0.out; replace c1 := (hb1.cell (p := ⟨b, off + k * 3 + 1, none⟩) hbw).trans HC1.out; replace c2 := (hb1.cell (p := ⟨b, off + k * 3 + 2, none⟩) hbw).trans HC2.out; have hb1v : b < wv1.heap.size := (by omega); clear hb1) | (at_builtin; refine push_edge rfl (.tmp 34) (.tmp 39) rfl _ _ _ (o1.alloc _) rfl _ z rfl (edC_new _ _ _) HX.out (by first | omega | (simp; omega)) (by first | omega | (simp; omega)) ?_; intro v2 wv2 o2 g2 p2))
          go_roundw
          case rel =>
            have hb1 := bel_pushE HQ2.out (show w.heap.size + 1 ≤ wq.heap.size by omega) HO.out (Nat.le_refl _) g1
            exact ⟨k + 1, by omega, by go_num, by rw [F.out], by rw [F.out]; simpa using o2, bel_pushE hb1 (by omega) o1 (Nat.le_refl _) g2⟩
          case measure => simp [intOf]; omega
        · have F : Hid (insE e es (k + 1) = (o ++ [z], true)) := Lib.hid (by rw [HS2.out]; rw [if_neg (by omega), if_neg (by simp)])
          clear HS2
          go_wp2_with (at_builtin; refine push_edge rfl (.tmp 34) (.tmp 39) rfl _ _ _ (HO.out.alloc _) rfl _ z rfl (edC_new _ _ _) HX.out (by first | omega | (simp; omega)) (by first | omega | (simp; omega)) ?_; intro v2 wv2 o2 g2 p2)
          go_roundw
          case rel => exact ⟨k + 1, by omega, by go_num, by rw [F.out], by rw [F.out]; exact o2, bel_pushE HQ2.out (by omega) HO.out (Nat.le_refl _) g2⟩
          case measure => simp [intOf]; omega
      · have hc0 : (c == 0) = false := by simp; omega
        have hc1 : ¬ c < 0 := by omega
        have F : Hid (insE e es (k + 1) = (o ++ [z], p)) := Lib.hid (by rw [HS2.out]; rw [if_neg (by omega), if_neg (fun h => hc1 h.1)])
        clear HS2
        go_wp2_with (at_builtin; refine push_edge rfl (.tmp 34) (.tmp 39) rfl _ _ _ (HO.out.alloc _) rfl _ z rfl (edC_new _ _ _) HX.out (by first | omega | (simp; omega)) (by first | omega | (simp; omega)) ?_; intro v2 wv2 o2 g2 p2)
        go_roundw
        case rel => exact ⟨k + 1, by omega, by go_num, by rw [F.out], by rw [F.out]; exact o2, bel_pushE HQ2.out (by omega) HO.out (Nat.le_refl _) g2⟩
        case measure => simp [intOf]; omega
    · obtain rfl : k = es.length := by omega
      have HF : Hid (insF cmpE es e = if (insE e es es.length).2 then (insE e es es.length).1 else (insE e es es.length).1 ++ [e]) := Lib.hid (by unfold insF insE; rw [List.take_length])
      have hwr : w.heap.size < wr.heap.size := by omega
      generalize insE e es es.length = s at hown HF hal ⊢
      obtain ⟨o, p⟩ := s
      have HO := Lib.hid hown
      obtain ⟨A1, cap1, rfl, hcap1, hm1, _, _⟩ := hown.form
      clear hown
      simp only at hal
      cases p
      · go_wp2_with (at_builtin; refine push_edge rfl (.tmp 43) (.tmp 45) rfl _ _ _ (HO.out.alloc _) rfl _ e rfl (edC_new _ _ _) HE.out (by first | omega | (simp; omega)) (by first | omega | (simp; omega)) ?_; intro v2 wv2 o2 g2 p2)
        go_ret
        exact ⟨_, rfl, by rw [HF.out]; exact o2.mono (by omega), bel_pushE HB3.out (by omega) HO.out (by omega) g2⟩
      · go_wp2
        go_ret
        exact ⟨_, rfl, by rw [HF.out]; exact HO.out.mono (by omega), HB3.out⟩
end Go.Proofs.Ytgoghkboklehnaa
