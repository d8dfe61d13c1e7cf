/- The vertices that are reached from one: the reference's ReachedFrom. -/
import Derived.Test.YtodkandjcodnjaaConn
import Derived.Test.YtodkandjcodnjaaHas
import Derived.Test.YtodkandjcodnjaaGrD
import Derived.Test.YtodkandjcodnjaaGrB
namespace Go.Proofs.Ytodkandjcodnjaa
set_option maxRecDepth 20000
set_option linter.unusedVariables false
set_option linter.unusedSimpArgs false
open Go.RowKit

theorem hasB_iff {l : List Int} {x : Int} : hasB l x = true ↔ x ∈ l := by
  unfold hasB
  rw [List.any_eq_true]
  constructor
  · rintro ⟨y, hy, h⟩
    have : y = x := by simpa using h
    rw [← this]; exact hy
  · intro h
    exact ⟨x, h, by simp⟩
theorem hasB_not {l : List Int} {x : Int} (h : hasB l x = false) : x ∉ l := fun hm => by
  rw [hasB_iff.2 hm] at h
  cases h
theorem stepR_len (o : List Int) (e : EdD) : (stepR o e).length ≤ o.length + 2 := by
  unfold stepR
  have h1 : (if e.1 ∈ o then insF cmpI o e.2.2 else o).length ≤ o.length + 1 := by
    split
    · exact insF_len _ _
    · omega
  generalize (if e.1 ∈ o then insF cmpI o e.2.2 else o) = o1 at h1 ⊢
  split
  · have := insF_len (c := cmpI) o1 e.1
    omega
  · omega
theorem foldR_len (es : List EdD) (o : List Int) : (es.foldl stepR o).length ≤ o.length + 2 * es.length := by
  induction es generalizing o with
  | nil => simp
  | cons e es ih =>
    have h1 := ih (stepR o e)
    have h2 := stepR_len o e
    simp only [List.foldl_cons, List.length_cons]
    omega
theorem iterR_len (es : List EdD) (v : Int) (i : Nat) (hl : es.length ≤ 120) : (iterR es v i).length ≤ 1 + 240 * i := by
  induction i with
  | zero => simp [iterR]
  | succ i ih =>
    have := foldR_len es (iterR es v i)
    show (passR es (iterR es v i)).length ≤ _
    unfold passR
    omega
def rsL (es : List EdD) (v : Int) (i k : Nat) : List Int := (es.take k).foldl stepR (iterR es v i)
theorem rsL_succ (es : List EdD) (v : Int) (i k : Nat) (h : k < es.length) : rsL es v i (k + 1) = stepR (rsL es v i k) es[k] := by
  unfold rsL
  rw [List.take_succ_eq_append_getElem h, List.foldl_append]
  rfl
theorem rsL_len (es : List EdD) (v : Int) (i k : Nat) (hl : es.length ≤ 120) (hi : i ≤ 121) (hk : k ≤ 120) : (rsL es v i k).length ≤ 100000 := by
  have h1 := iterR_len es v i hl
  have h2 := foldR_len (es.take k) (iterR es v i)
  have h3 : (es.take k).length ≤ k := List.length_take_le _ _
  unfold rsL
  omega
theorem stepR_ff {o : List Int} {e : EdD} (h1 : hasB o e.1 = false) (h2 : hasB o e.2.2 = false) : stepR o e = o := by
  unfold stepR
  rw [if_neg (hasB_not h1), if_neg (hasB_not h2)]
theorem stepR_ft {o : List Int} {e : EdD} (h1 : hasB o e.1 = false) (h2 : hasB o e.2.2 = true) : stepR o e = insF cmpI o e.1 := by
  unfold stepR
  rw [if_neg (hasB_not h1), if_pos (hasB_iff.1 h2)]
theorem stepR_t {o : List Int} {e : EdD} (h1 : hasB o e.1 = true) : stepR o e = insF cmpI (insF cmpI o e.2.2) e.1 := by
  unfold stepR
  rw [if_pos (hasB_iff.1 h1), if_pos (insF_mem.2 (.inl rfl))]
set_option maxHeartbeats 800000 in
theorem reachedFrom_any (v : Value) (g : GrD) (u : Int) (w : World) (h : ArgG w v g) (hg : grB g = true) (hu : inB u 0 (wrap64 (g.2.1 - 1)) = true) (hu64 : I64 u) :
    Calls Try.prog 63 #[v, .int .i64 u] w fun e w' => ∃ r, e = .returned r ∧ OwI w' w.heap.size r (reachL g.2.2 u) ∧ Below w.heap.size w w' := by
  have HG := Lib.hid h
  obtain ⟨_, hsz40, hl120, _⟩ := grB_parts hg
  have hw1 : wrap64 (g.2.1 - 1) = g.2.1 - 1 := IntWalk.wrap64_in _ ⟨by omega, by omega⟩
  rw [hw1] at hu
  clear hw1
  have HU := Lib.hid hu64
  clear hu64
  obtain ⟨s, rfl, _, _, ha⟩ := h
  have H := Lib.hid ha
  obtain ⟨A, cap, rfl, hcap, hm, _, hr, _⟩ := ha
  have HR := Lib.hid hr
  unfold maxLen at hm
  have bx : Below w.heap.size w (w.alloc (Obj.cells #[Value.int IntKind.i64 g.1, Value.int IntKind.i64 g.2.1, .slice A g.2.2.length cap] 36)) := (by repeat (first | exact Below.refl _ _ | (refine Below.setCell ?_ (by first | omega | (simp <;> omega)) _) | (refine bel_drewN ?_ _) | (refine Below.drew ?_) | (refine Below.alloc ?_ (by first | omega | (simp <;> omega)) _)))
  have kx1 : (w.alloc (Obj.cells #[Value.int IntKind.i64 g.1, Value.int IntKind.i64 g.2.1, .slice A g.2.2.length cap] 36)).cell? ⟨w.heap.size, 1, none⟩ = some (.int .i64 g.2.1) := by simp [go_sem]
  have kx : (w.alloc (Obj.cells #[Value.int IntKind.i64 g.1, Value.int IntKind.i64 g.2.1, .slice A g.2.2.length cap] 36)).cell? ⟨w.heap.size, 2, none⟩ = some (.slice A g.2.2.length cap) := by simp [go_sem]
  have sx : w.heap.size < (w.alloc (Obj.cells #[Value.int IntKind.i64 g.1, Value.int IntKind.i64 g.2.1, .slice A g.2.2.length cap] 36)).heap.size := by simp
  have BX := Lib.hid bx
  have KX := Lib.hid kx
  have KX1 := Lib.hid kx1
  clear bx kx kx1 hr
  go_enter Try.func63, Try.ntmps63
  go_wp2_with fail
  have hgr := specIsGraph_any _ g _ (HG.out.below BX.out)
  rw [hg] at hgr
  have HGR := Lib.hid hgr
  clear hgr
  refine HGR.out.mono ?_
  rintro e w0 ⟨rfl, b1⟩
  have B0 := Lib.hid (BX.out.trans (b1.mono BX.out.size))
  have k2 := (b1.cell (p := ⟨w.heap.size, 2, none⟩) sx).trans KX.out
  have k1 := (b1.cell (p := ⟨w.heap.size, 1, none⟩) sx).trans KX1.out
  have hs0 : w.heap.size < w0.heap.size := by have := b1.size; omega
  clear b1 sx HGR
  go_wp2_with fail
  have hin := l1In_any u 0 (g.2.1 - 1) w0
  rw [hu] at hin
  have HIN := Lib.hid hin
  clear hin
  refine HIN.out.mono ?_
  rintro e w' ⟨rfl, rfl⟩
  clear HIN
  go_wp2
  have hb : Below w0.heap.size w0 (w0.alloc (Obj.cells #[Value.int IntKind.i64 u] 3)) := (Below.refl _ _).alloc (Nat.le_refl _) _
  have o0 : OwI (w0.alloc (Obj.cells #[Value.int IntKind.i64 u] 3)) w0.heap.size (.slice (some ⟨w0.heap.size, 0, none⟩) 1 1) [u] := OwI_lit w0 [u] (fun x hx => by simp at hx; subst hx; exact HU.out) (by simp) (Nat.le_refl _)
  have hs1 : w0.heap.size < (w0.alloc (Obj.cells #[Value.int IntKind.i64 u] 3)).heap.size := by simp
  generalize w0.alloc (Obj.cells #[Value.int IntKind.i64 u] 3) = w1 at hb o0 hs1 ⊢
  have HB := Lib.hid (B0.out.trans (hb.mono B0.out.size))
  have K2 := Lib.hid ((hb.cell (p := ⟨w.heap.size, 2, none⟩) hs0).trans k2)
  have O0 := Lib.hid (o0.mono (base' := w.heap.size + 1) (by omega))
  clear hb k1 k2 o0
  go_loopw [5, 6] (fun out i wo => ∃ k : Nat, k ≤ g.2.2.length + 1 ∧ i = .int .i64 k ∧ OwI wo (w.heap.size + 1) out (iterR g.2.2 u k) ∧ Below (w.heap.size + 1) w1 wo) (fun _ i _ => g.2.2.length + 1 - (intOf i).toNat)
  case atStart => exact ⟨0, Nat.zero_le _, rfl, O0.out, Below.refl _ _⟩
  case round =>
    obtain ⟨k, hk, rfl, hown, hbel⟩ := hrel
    obtain ⟨wo, rfl⟩ : ∃ wo : World, wo = wr := ⟨_, rfl⟩
    have HB2 := Lib.hid hbel
    have HB3 := Lib.hid (HB.out.trans (hbel.mono (by omega)))
    have hsz := hbel.size
    have p2 := (hbel.cell (p := ⟨w.heap.size, 2, none⟩) (show w.heap.size < w.heap.size + 1 by omega)).trans K2.out
    have hws : w.heap.size < wo.heap.size := by omega
    have hil := iterR_len g.2.2 u k hl120
    have HO := Lib.hid hown
    obtain ⟨A1, cap1, rfl, _⟩ := hown.form
    clear hown hbel
    by_cases hlt : k < g.2.2.length + 1
    · have hlt' : (k : Int) < (g.2.2.length : Int) + 1 := by omega
      go_wp2
      go_loopw [5, 7] (fun out j wr => ∃ m : Nat, m ≤ g.2.2.length ∧ j = .int .i64 m ∧ OwI wr (w.heap.size + 1) out (rsL g.2.2 u k m) ∧ Below (w.heap.size + 1) wo wr) (fun _ j _ => g.2.2.length - (intOf j).toNat)
      case atStart => exact ⟨0, Nat.zero_le _, rfl, HO.out, Below.refl _ _⟩
      case round =>
        obtain ⟨m, hm1, rfl, hown, hbi⟩ := hrel
        have hsi := hbi.size
        have p2 := (hbi.cell (p := ⟨w.heap.size, 2, none⟩) (show w.heap.size < w.heap.size + 1 by omega)).trans p2
        have HBI := Lib.hid hbi
        have HB4 := Lib.hid (HB3.out.trans (hbi.mono (by omega)))
        have hwr : w.heap.size < wr.heap.size := by omega
        have hrl := rsL_len g.2.2 u k m hl120 (by omega) (by omega)
        clear hbi
        by_cases hlt2 : m < g.2.2.length
        · obtain ⟨b, off, rfl, hbl, c0, c1, c2, _⟩ := (H.out.below HB4.out).at hlt2
          have HX := Lib.hid (HR.out g.2.2[m] (by simp))
          have HS := Lib.hid (rsL_succ g.2.2 u k m hlt2)
          generalize g.2.2[m] = e at *
          generalize rsL g.2.2 u k m = o at *
          have HO2 := Lib.hid hown
          obtain ⟨A2, cap2, rfl, _⟩ := hown.form
          clear hown
          go_wp2_with fail
          obtain ⟨W, hW⟩ : ∃ W, W = World.alloc wr (Obj.cells #[Value.int IntKind.i64 e.1, Value.int IntKind.i64 e.2.1, Value.int IntKind.i64 e.2.2] 62) := ⟨_, rfl⟩
          rw [← hW]
          have bW : Below wr.heap.size wr W := by rw [hW]; exact (Below.refl _ _).alloc (Nat.le_refl _) _
          have sW : wr.heap.size < W.heap.size := by rw [hW]; simp
          have l0 : W.cell? ⟨wr.heap.size, 0, none⟩ = some (.int .i64 e.1) := by rw [hW]; simp [go_sem]
          have l2 : W.cell? ⟨wr.heap.size, 2, none⟩ = some (.int .i64 e.2.2) := by rw [hW]; simp [go_sem]
          have OW := Lib.hid (HO2.out.below bW)
          have BW := Lib.hid (HBI.out.trans (bW.mono (by omega)))
          clear hW bW p2 c0 c1 c2
          refine (l4Has_any _ o e.1 _ OW.out.rd.arg (by omega)).mono ?_
          rintro e' w' ⟨rfl, rfl⟩
          rcases h1 : hasB o e.1 with _ | _
          · go_wp2_with fail
            refine (l4Has_any _ o e.2.2 _ OW.out.rd.arg (by omega)).mono ?_
            rintro e' w' ⟨rfl, rfl⟩
            rcases h2 : hasB o e.2.2 with _ | _
            · have F := Lib.hid (stepR_ff h1 h2)
              go_wp2
              go_roundw
              case rel => exact ⟨m + 1, by omega, by go_num, by rw [HS.out, F.out]; exact OW.out, BW.out⟩
              case measure => simp [intOf]; omega
            · have F := Lib.hid (stepR_ft h1 h2)
              go_wp2_with fail
              refine (l4Add_any _ o e.1 _ OW.out.rd HX.out.1 (by omega)).mono ?_
              rintro e' w2 ⟨r2, rfl, o2, b2⟩
              have O2 := Lib.hid o2
              have B2 := Lib.hid b2
              obtain ⟨A3, cap3, rfl, _⟩ := o2.form
              clear o2 b2
              go_wp2
              go_roundw
              case rel => exact ⟨m + 1, by omega, by go_num, by rw [HS.out, F.out]; exact O2.out.mono (by omega), BW.out.trans (B2.out.mono (by omega))⟩
              case measure => simp [intOf]; omega
          · have F := Lib.hid (stepR_t h1)
            go_wp2_with fail
            refine (l4Add_any _ o e.2.2 _ OW.out.rd HX.out.2.2 (by omega)).mono ?_
            rintro e' w2 ⟨r2, rfl, o2, b2⟩
            have O2 := Lib.hid o2
            have B2 := Lib.hid b2
            have s2 := b2.size
            have hq0 := (b2.cell (p := ⟨wr.heap.size, 0, none⟩) sW).trans l0
            have hq2 := (b2.cell (p := ⟨wr.heap.size, 2, none⟩) sW).trans l2
            obtain ⟨A3, cap3, rfl, _⟩ := o2.form
            have hl2 := insF_len (c := cmpI) o e.2.2
            have hm2 : hasB (insF cmpI o e.2.2) e.2.2 = true := hasB_iff.2 (insF_mem.2 (.inl rfl))
            have HM2 := Lib.hid hm2
            clear o2 b2 l0 l2 hm2
            generalize insF cmpI o e.2.2 = o1 at *
            go_wp2_with fail
            refine (l4Has_any _ o1 e.2.2 _ O2.out.rd.arg (by omega)).mono ?_
            rintro e' w' ⟨rfl, rfl⟩
            rw [HM2.out]
            go_wp2_with fail
            refine (l4Add_any _ o1 e.1 _ O2.out.rd HX.out.1 (by omega)).mono ?_
            rintro e' w3 ⟨r3, rfl, o3, b3⟩
            have O3 := Lib.hid o3
            have B3 := Lib.hid b3
            obtain ⟨A4, cap4, rfl, _⟩ := o3.form
            clear o3 b3
            go_wp2
            go_roundw
            case rel => exact ⟨m + 1, by omega, by go_num, by rw [HS.out, F.out]; exact O3.out.mono (by omega), (BW.out.trans (B2.out.mono (by omega))).trans (B3.out.mono (by omega))⟩
            case measure => simp [intOf]; omega
        · obtain rfl : m = g.2.2.length := by omega
          have F : Hid (rsL g.2.2 u k g.2.2.length = iterR g.2.2 u (k + 1)) := Lib.hid (by unfold rsL; rw [List.take_length]; rfl)
          have HO2 := Lib.hid hown
          obtain ⟨A2, cap2, rfl, _⟩ := hown.form
          clear hown
          go_wp2
          go_roundw
          case rel => exact ⟨k + 1, by omega, by go_num, by rw [← F.out]; exact HO2.out, HB2.out.trans HBI.out⟩
          case measure => simp [intOf]; omega
    · obtain rfl : k = g.2.2.length + 1 := by omega
      have hge : ¬ ((g.2.2.length : Int) + 1 < (g.2.2.length : Int) + 1) := by omega
      go_wp2
      go_ret
      exact ⟨_, rfl, HO.out.mono (by omega), HB3.out⟩
end Go.Proofs.Ytodkandjcodnjaa
