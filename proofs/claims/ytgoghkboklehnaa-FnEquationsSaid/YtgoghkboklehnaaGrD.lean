/- A number put in its place; the steps from a vertex by a letter; the next vertex: the reference's. -/
import Derived.Test.YtgoghkboklehnaaOrd
import Derived.Test.YtgoghkboklehnaaQuiC
namespace Go.Proofs.Ytgoghkboklehnaa
set_option maxRecDepth 20000
set_option linter.unusedVariables false
set_option linter.unusedSimpArgs false
open Go.RowKit

theorem insF_I64 {xs : List Int} {y : Int} (h : I64s xs) (hy : I64 y) : I64s (insF cmpI xs y) := by
  intro z hz
  rw [insF_eq, insR_mem y xs cmpI_ord] at hz
  rcases hz with rfl | hz
  · exact hy
  · exact h z hz
def insA (y : Int) (xs : List Int) (k : Nat) : List Int × Bool := (xs.take k).foldl (insS cmpI y) ([], false)
theorem insA_succ (y : Int) (xs : List Int) (k : Nat) (h : k < xs.length) : insA y xs (k + 1) = insS cmpI y (insA y xs k) xs[k] := by
  unfold insA
  rw [List.take_succ_eq_append_getElem h, List.foldl_append]
  rfl
theorem insA_len (y : Int) (xs : List Int) (k : Nat) (h : k ≤ xs.length) : (insA y xs k).1.length ≤ 2 * k := by
  induction k with
  | zero => simp [insA]
  | succ k ih =>
    rw [insA_succ y xs k (by omega)]
    have := ih (by omega)
    unfold insS
    split
    · simp; omega
    · split <;> (simp; omega)
set_option maxHeartbeats 1000000 in
theorem l4Add_any (v : Value) (xs : List Int) (y : Int) (w : World) (h : RdI w v xs) (hy : I64 y) (hl : xs.length ≤ 1073741824) :
    Calls Try.prog 74 #[v, .int .i64 y] w fun e w' => ∃ r, e = .returned r ∧ OwI w' w.heap.size r (insF cmpI xs y) ∧ Below w.heap.size w w' := by
  have H := Lib.hid h
  obtain ⟨A, cap, rfl, hcap, hm, hr, hb⟩ := h.arg
  have HR := Lib.hid hr
  have HY := Lib.hid hy
  clear h hb hr hy
  go_enter Try.func74, Try.ntmps74
  go_wp2
  go_loopw [5, 6, 7] (fun out p i wr => ∃ k : Nat, k ≤ xs.length ∧ i = .int .i64 k ∧ p = .bool (insA y xs k).2 ∧ OwI wr w.heap.size out (insA y xs k).1 ∧ Below w.heap.size w wr)
    (fun _ _ i _ => xs.length - (intOf i).toNat)
  case atStart => exact ⟨0, Nat.zero_le _, rfl, rfl, OwI_lit _ [] I64s_nil (by simp) (Nat.le_refl _), (Below.refl _ _).alloc (Nat.le_refl _) _⟩
  case round =>
    obtain ⟨k, hk, rfl, rfl, hown, hbel⟩ := hrel
    have hsz := hbel.size
    have hal := insA_len y xs k hk
    by_cases hlt : k < xs.length
    · obtain ⟨b, off, rfl, hbw, hc⟩ := H.out.at (by omega)
      have hcw := hc k hlt
      have hbl : b < wr.heap.size := by omega
      have hcell := (hbel.cell (p := ⟨b, off + k, none⟩) hbw).trans hcw
      have HS := Lib.hid (insA_succ y xs k hlt)
      have HX := Lib.hid (HR.out xs[k] (by simp))
      generalize hs : insA y xs k = s at hown HS hal ⊢
      obtain ⟨o, p⟩ := s
      generalize xs[k] = z at hcell hcw HS HX
      have HCW := Lib.hid hcw
      clear hc hs hcw
      have HO := Lib.hid hown
      obtain ⟨A1, cap1, rfl, hcap1, hm1, _, _⟩ := hown.form
      clear hown
      simp only at hal
      rcases e1 : (z == y) with _ | _
      · have hzy : z ≠ y := by simpa using e1
        by_cases h2 : y < z
        · cases p
          · have F : Hid (insA y xs (k + 1) = (o ++ [y, z], true)) := Lib.hid (by rw [HS.out]; unfold insS; rw [if_neg (fun e => hzy (cmpI_zero.1 e).symm), if_pos ⟨cmpI_neg.2 h2, rfl⟩])
            clear hzy
            go_wp2_with (first | ((at_builtin; refine push_int rfl (.tmp 31) (.tmp 33) rfl _ _ _ (OwI.alloc HO.out _) rfl _ _ rfl (cell_new1 _ _ _) HY.out (by first | omega | (simp <;> omega)) (by first | omega | (simp <;> omega)) ?_; intro v1 wv1 o1 g1 p1); have hz1 := g1.size; simp at hz1; have hb1 := bel_push hbel hsz HO.out.1 (Nat.le_refl _) g1; have hcell2 := (hb1.cell (p := ⟨b, off + k, none⟩) hbw).trans HCW.out; clear hb1) | (at_builtin; refine push_int rfl (.tmp 35) (.tmp 40) rfl _ _ _ (OwI.alloc o1 _) rfl _ _ rfl (cell_new1 _ _ _) HX.out (by first | omega | (simp <;> omega)) (by first | omega | (simp <;> omega)) ?_; intro v2 wv2 o2 g2 p2))
            go_roundw
            case rel =>
              have hb1 := bel_push hbel hsz HO.out.1 (Nat.le_refl _) g1
              exact ⟨k + 1, by omega, by go_num, by rw [F.out], by rw [F.out]; simpa using o2, bel_push hb1 hb1.size o1.1 (Nat.le_refl _) g2⟩
            case measure => simp [intOf]; omega
          · have F : Hid (insA y xs (k + 1) = (o ++ [z], true)) := Lib.hid (by rw [HS.out]; unfold insS; rw [if_neg (fun e => hzy (cmpI_zero.1 e).symm), if_neg (by simp)])
            clear hzy
            go_wp2_with (at_builtin; refine push_int rfl (.tmp 35) (.tmp 40) rfl _ _ _ (OwI.alloc HO.out _) rfl _ _ rfl (cell_new1 _ _ _) HX.out (by first | omega | (simp <;> omega)) (by first | omega | (simp <;> omega)) ?_; intro v2 wv2 o2 g2 p2)
            go_roundw
            case rel => exact ⟨k + 1, by omega, by go_num, by rw [F.out], by rw [F.out]; exact o2, bel_push hbel hsz HO.out.1 (Nat.le_refl _) g2⟩
            case measure => simp [intOf]; omega
        · have F : Hid (insA y xs (k + 1) = (o ++ [z], p)) := Lib.hid (by rw [HS.out]; unfold insS; rw [if_neg (fun e => hzy (cmpI_zero.1 e).symm), if_neg (fun e => h2 (cmpI_neg.1 e.1))])
          clear hzy
          go_wp2_with (at_builtin; refine push_int rfl (.tmp 35) (.tmp 40) rfl _ _ _ (OwI.alloc HO.out _) rfl _ _ rfl (cell_new1 _ _ _) HX.out (by first | omega | (simp <;> omega)) (by first | omega | (simp <;> omega)) ?_; intro v2 wv2 o2 g2 p2)
          go_roundw
          case rel => exact ⟨k + 1, by omega, by go_num, by rw [F.out], by rw [F.out]; exact o2, bel_push hbel hsz HO.out.1 (Nat.le_refl _) g2⟩
          case measure => simp [intOf]; omega
      · have hzy : z = y := by simpa using e1
        have F : Hid (insA y xs (k + 1) = (o ++ [z], true)) := Lib.hid (by rw [HS.out]; unfold insS; rw [if_pos (cmpI_zero.2 hzy.symm)])
        have h2 : ¬ y < z := by omega
        clear hzy
        go_wp2_with (at_builtin; refine push_int rfl (.tmp 35) (.tmp 40) rfl _ _ _ (OwI.alloc HO.out _) rfl _ _ rfl (cell_new1 _ _ _) HX.out (by first | omega | (simp <;> omega)) (by first | omega | (simp <;> omega)) ?_; intro v2 wv2 o2 g2 p2)
        go_roundw
        case rel => exact ⟨k + 1, by omega, by go_num, by rw [F.out], by rw [F.out]; exact o2, bel_push hbel hsz HO.out.1 (Nat.le_refl _) g2⟩
        case measure => simp [intOf]; omega
    · obtain rfl : k = xs.length := by omega
      have HF : Hid (insF cmpI xs y = if (insA y xs xs.length).2 then (insA y xs xs.length).1 else (insA y xs xs.length).1 ++ [y]) := Lib.hid (by unfold insF insA; rw [List.take_length])
      generalize insA y xs xs.length = s at hown HF hal ⊢
      obtain ⟨o, p⟩ := s
      have HO := Lib.hid hown
      obtain ⟨A1, cap1, rfl, hcap1, hm1, _, _⟩ := hown.form
      clear hown
      simp only at hal
      cases p
      · go_wp2_with (at_builtin; refine push_int rfl (.tmp 44) (.tmp 46) rfl _ _ _ (OwI.alloc HO.out _) rfl _ _ rfl (cell_new1 _ _ _) HY.out (by first | omega | (simp <;> omega)) (by first | omega | (simp <;> omega)) ?_; intro v2 wv2 o2 g2 p2)
        go_ret
        exact ⟨_, rfl, by rw [HF.out]; exact o2, bel_push hbel hsz HO.out.1 (Nat.le_refl _) g2⟩
      · go_wp2
        go_ret
        exact ⟨_, rfl, by rw [HF.out]; exact HO.out, hbel⟩
/-- Where an edge leads from v by the letter x. -/
def mt (v x : Int) (e : EdD) : Option Int :=
  if 0 < x then (if e.2.1 = x ∧ e.1 = v then some e.2.2 else none) else if x < 0 then (if e.2.1 = wrap64 (-x) ∧ e.2.2 = v then some e.1 else none) else none
def stepsL (es : List EdD) (v x : Int) : List Int := es.filterMap (mt v x)
def nextV (es : List EdD) (v x : Int) : Int := (stepsL es v x).headD (-1)
theorem stepsL_succ (es : List EdD) (v x : Int) (k : Nat) (h : k < es.length) : stepsL (es.take (k + 1)) v x = stepsL (es.take k) v x ++ (mt v x es[k]).toList := by
  unfold stepsL
  rw [List.take_succ_eq_append_getElem h, List.filterMap_append]
  congr 1
theorem stepsL_take (es : List EdD) (v x : Int) (k : Nat) : (stepsL (es.take k) v x).length ≤ (stepsL es v x).length := by
  unfold stepsL
  conv => rhs; rw [← List.take_append_drop k es, List.filterMap_append]
  simp
theorem mt_I64 {v x y : Int} {e : EdD} (he : E64 e) (h : mt v x e = some y) : I64 y := by
  unfold mt at h
  split at h
  · split at h
    · injection h with h; subst h; exact he.2.2
    · cases h
  · split at h
    · split at h
      · injection h with h; subst h; exact he.1
      · cases h
    · cases h
theorem stepsL_I64 {es : List EdD} {v x : Int} (h : E64s es) : I64s (stepsL es v x) := by
  intro y hy
  obtain ⟨e, he, hm⟩ := List.mem_filterMap.1 hy
  exact mt_I64 (h e he) hm
theorem insF_one (y : Int) : insF cmpI [] y = [y] := by rw [insF_eq]; rfl
set_option maxHeartbeats 2000000 in
theorem specStepsFrom_any (v : Value) (g : GrD) (u x : Int) (w : World) (h : ArgG w v g) (hone : (stepsL g.2.2 u x).length ≤ 1) :
    Calls Try.prog 72 #[v, .int .i64 u, .int .i64 x] w fun e w' => ∃ r, e = .returned r ∧ OwI w' w.heap.size r (stepsL g.2.2 u x) ∧ Below w.heap.size w w' := by
  obtain ⟨s, rfl, _, _, ha⟩ := h
  have H := Lib.hid ha
  obtain ⟨A, cap, rfl, hcap, hm, _, hr, _⟩ := ha
  have HR := Lib.hid hr
  unfold maxLen at hm
  clear hr
  go_enter Try.func72, Try.ntmps72
  go_wp2
  have hb : Below w.heap.size w ((w.alloc (Obj.cells #[Value.int IntKind.i64 g.1, Value.int IntKind.i64 g.2.1, .slice A g.2.2.length cap] 56)).alloc (Obj.cells #[] 3)) := (by repeat (first | exact Below.refl _ _ | (refine Below.setCell ?_ (by first | omega | (simp <;> omega)) _) | (refine bel_drewN ?_ _) | (refine Below.drew ?_) | (refine Below.alloc ?_ (by first | omega | (simp <;> omega)) _)))
  have k2 : ((w.alloc (Obj.cells #[Value.int IntKind.i64 g.1, Value.int IntKind.i64 g.2.1, .slice A g.2.2.length cap] 56)).alloc (Obj.cells #[] 3)).cell? ⟨w.heap.size, 2, none⟩ = some (.slice A g.2.2.length cap) := by simp [go_sem]
  have hs0 : w.heap.size + 1 < ((w.alloc (Obj.cells #[Value.int IntKind.i64 g.1, Value.int IntKind.i64 g.2.1, .slice A g.2.2.length cap] 56)).alloc (Obj.cells #[] 3)).heap.size := by simp
  have o0 : OwI ((w.alloc (Obj.cells #[Value.int IntKind.i64 g.1, Value.int IntKind.i64 g.2.1, .slice A g.2.2.length cap] 56)).alloc (Obj.cells #[] 3)) (w.heap.size + 1) (.slice (some ⟨w.heap.size + 1, 0, none⟩) 0 0) [] := OwI_litN (w.alloc (Obj.cells #[Value.int IntKind.i64 g.1, Value.int IntKind.i64 g.2.1, .slice A g.2.2.length cap] 56)) [] (w.heap.size + 1) (by simp) I64s_nil (by simp) (Nat.le_refl _)
  generalize (w.alloc (Obj.cells #[Value.int IntKind.i64 g.1, Value.int IntKind.i64 g.2.1, .slice A g.2.2.length cap] 56)).alloc (Obj.cells #[] 3) = w1 at hb k2 hs0 o0 ⊢
  have HB := Lib.hid hb
  have K2 := Lib.hid k2
  have O0 := Lib.hid o0
  clear hb k2 o0
  go_loopw [7, 8] (fun out i wr => ∃ k : Nat, k ≤ g.2.2.length ∧ i = .int .i64 k ∧ OwI wr (w.heap.size + 1) out (stepsL (g.2.2.take k) u x) ∧ Below (w.heap.size + 1) w1 wr) (fun _ i _ => g.2.2.length - (intOf i).toNat)
  case atStart => exact ⟨0, Nat.zero_le _, rfl, O0.out, Below.refl _ _⟩
  case round =>
    obtain ⟨k, hk, rfl, hown, hbel⟩ := hrel
    have hsz := hbel.size
    have HB3 := Lib.hid (HB.out.trans (hbel.mono (by omega)))
    have p2 := (hbel.cell (p := ⟨w.heap.size, 2, none⟩) (show w.heap.size < w.heap.size + 1 by omega)).trans K2.out
    have HO := Lib.hid hown
    have HB2 := Lib.hid hbel
    obtain ⟨A1, cap1, rfl, hcap1, hm1, _, _⟩ := hown.form
    clear hbel
    by_cases hlt : k < g.2.2.length
    · obtain ⟨b, off, rfl, hbl, c0, c1, c2, _⟩ := (H.out.below HB3.out).at hlt
      have HS := Lib.hid (stepsL_succ g.2.2 u x k hlt)
      have HX := Lib.hid (HR.out g.2.2[k] (by simp))
      have hl1 := stepsL_take g.2.2 u x (k + 1)
      have HL1 : Hid ((stepsL (g.2.2.take (k + 1)) u x).length ≤ 1) := Lib.hid (by omega)
      clear hl1 hown
      generalize g.2.2[k] = e at *
      obtain ⟨f, l, t⟩ := e
      simp only at c0 c1 c2
      have keep : mt u x (f, l, t) = none → stepsL (g.2.2.take (k + 1)) u x = stepsL (g.2.2.take k) u x := fun e => by rw [HS.out, e]; simp
      have KE := Lib.hid keep
      have put : ∀ y, mt u x (f, l, t) = some y → stepsL (g.2.2.take k) u x = [] ∧ stepsL (g.2.2.take (k + 1)) u x = [y] := fun y e => by
        have h1 := HS.out
        have h2 := HL1.out
        rw [e] at h1
        rw [h1] at h2
        simp at h2
        refine ⟨h2, by rw [h1, h2]; rfl⟩
      have PU := Lib.hid put
      clear keep put
      by_cases hp : 0 < x
      · have hn : ¬ x < 0 := by omega
        rcases e1 : (l == x) with _ | _
        · have F := Lib.hid (KE.out (by simp at e1; simp [mt, hp, e1]))
          go_wp2
          go_roundw
          case rel => exact ⟨k + 1, by omega, by go_num, by rw [F.out]; exact HO.out.alloc _, HB2.out.alloc (by omega) _⟩
          case measure => simp [intOf]; omega
        · rcases e2 : (f == u) with _ | _
          · have F := Lib.hid (KE.out (by simp at e2; simp [mt, hp, e2]))
            go_wp2
            go_roundw
            case rel => exact ⟨k + 1, by omega, by go_num, by rw [F.out]; exact HO.out.alloc _, HB2.out.alloc (by omega) _⟩
            case measure => simp [intOf]; omega
          · have F := Lib.hid (PU.out t (by simp at e1 e2; simp [mt, hp, e1, e2]))
            have HO2 := HO.out
            rw [F.out.1] at HO2
            have HO3 := Lib.hid HO2
            clear HO2
            have hz : (stepsL (g.2.2.take k) u x).length = 0 := by rw [F.out.1]; rfl
            rw [hz]
            go_wp2_with fail
            refine (l4Add_any _ [] t _ ((HO3.out.alloc _).rd) HX.out.2.2 (by simp)).mono ?_
            rintro e w9 ⟨r9, rfl, o9, b9⟩
            rw [insF_one] at o9
            have O9 := Lib.hid (o9.mono (base' := w.heap.size + 1) (by simp; omega))
            have B9 : Hid (Below (w.heap.size + 1) w1 w9) := Lib.hid ((HB2.out.alloc (by omega) _).trans (b9.mono (by simp; omega)))
            obtain ⟨A9, cap9, rfl, _⟩ := o9.form
            clear o9 b9
            go_wp2
            go_roundw
            case rel => exact ⟨k + 1, by omega, by go_num, by rw [F.out.2]; exact O9.out, B9.out⟩
            case measure => simp [intOf]; omega
      · by_cases hn : x < 0
        · rcases e1 : (l == wrap64 (-x)) with _ | _
          · have F := Lib.hid (KE.out (by simp at e1; simp [mt, hp, hn, e1]))
            go_wp2
            go_roundw
            case rel => exact ⟨k + 1, by omega, by go_num, by rw [F.out]; exact HO.out.alloc _, HB2.out.alloc (by omega) _⟩
            case measure => simp [intOf]; omega
          · rcases e2 : (t == u) with _ | _
            · have F := Lib.hid (KE.out (by simp at e2; simp [mt, hp, hn, e2]))
              go_wp2
              go_roundw
              case rel => exact ⟨k + 1, by omega, by go_num, by rw [F.out]; exact HO.out.alloc _, HB2.out.alloc (by omega) _⟩
              case measure => simp [intOf]; omega
            · have F := Lib.hid (PU.out f (by simp at e1 e2; simp [mt, hp, hn, e1, e2]))
              have HO2 := HO.out
              rw [F.out.1] at HO2
              have HO3 := Lib.hid HO2
              clear HO2
              have hz : (stepsL (g.2.2.take k) u x).length = 0 := by rw [F.out.1]; rfl
              rw [hz]
              go_wp2_with fail
              refine (l4Add_any _ [] f _ ((HO3.out.alloc _).rd) HX.out.1 (by simp)).mono ?_
              rintro e w9 ⟨r9, rfl, o9, b9⟩
              rw [insF_one] at o9
              have O9 := Lib.hid (o9.mono (base' := w.heap.size + 1) (by simp; omega))
              have B9 : Hid (Below (w.heap.size + 1) w1 w9) := Lib.hid ((HB2.out.alloc (by omega) _).trans (b9.mono (by simp; omega)))
              obtain ⟨A9, cap9, rfl, _⟩ := o9.form
              clear o9 b9
              go_wp2
              go_roundw
              case rel => exact ⟨k + 1, by omega, by go_num, by rw [F.out.2]; exact O9.out, B9.out⟩
              case measure => simp [intOf]; omega
        · have F := Lib.hid (KE.out (by simp [mt, hp, hn]))
          go_wp2
          go_roundw
          case rel => exact ⟨k + 1, by omega, by go_num, by rw [F.out]; exact HO.out.alloc _, HB2.out.alloc (by omega) _⟩
          case measure => simp [intOf]; omega
    · obtain rfl : k = g.2.2.length := by omega
      clear hown
      go_wp2
      go_ret
      exact ⟨_, rfl, by have := HO.out.mono (base' := w.heap.size) (by omega); rw [List.take_length] at this; rw [List.take_length]; exact this, HB3.out⟩
set_option maxHeartbeats 1000000 in
theorem specNextVertex_any (v : Value) (g : GrD) (u x : Int) (w : World) (h : ArgG w v g) (hone : (stepsL g.2.2 u x).length ≤ 1) :
    Calls Try.prog 66 #[v, .int .i64 u, .int .i64 x] w fun e w' => e = .returned (.int .i64 (nextV g.2.2 u x)) ∧ Below w.heap.size w w' := by
  have H := Lib.hid h
  obtain ⟨s, rfl, _, _, ha⟩ := h
  obtain ⟨A, cap, rfl⟩ := ha.form
  obtain ⟨R, hR⟩ : ∃ R, R = nextV g.2.2 u x := ⟨_, rfl⟩
  rw [← hR]
  unfold nextV at hR
  have HR := Lib.hid hR
  clear hR
  go_enter Try.func66, Try.ntmps66
  go_wp2_with fail
  have hb : Below w.heap.size w (w.alloc (Obj.cells #[Value.int IntKind.i64 g.1, Value.int IntKind.i64 g.2.1, .slice A g.2.2.length cap] 56)) := (by repeat (first | exact Below.refl _ _ | (refine Below.setCell ?_ (by first | omega | (simp <;> omega)) _) | (refine bel_drewN ?_ _) | (refine Below.drew ?_) | (refine Below.alloc ?_ (by first | omega | (simp <;> omega)) _)))
  refine (specStepsFrom_any _ g u x _ (H.out.below hb) hone).mono ?_
  rintro e w1 ⟨r, rfl, o1, b1⟩
  have B1 := Lib.hid (hb.trans (b1.mono hb.size))
  generalize stepsL g.2.2 u x = L at o1 HR
  clear hb b1 ha
  obtain ⟨A1, cap1, rfl, hc1, hm1, _, _⟩ := o1.form
  match L, o1, HR with
  | [], o1, HR =>
    have F : Hid (R = -1) := HR
    clear o1
    go_wp2
    go_ret
    exact ⟨ret_int F.out.symm, B1.out⟩
  | y :: L, o1, HR =>
    obtain rfl : R = y := HR.out
    clear HR
    obtain ⟨b, off, rfl, hbl, hc⟩ := o1.rd.at (by simp)
    have c0 := hc 0 (by simp)
    simp only [List.getElem_cons_zero, Nat.add_zero] at c0
    clear o1 hc
    go_wp2
    go_ret
    exact ⟨rfl, B1.out⟩
end Go.Proofs.Ytgoghkboklehnaa
