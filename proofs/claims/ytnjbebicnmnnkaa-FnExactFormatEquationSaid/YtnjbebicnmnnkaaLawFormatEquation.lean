/- The law FnExactFormatEquation: for every input the program answers as the reference, in memory of its own. -/
import Derived.Test.YtnjbebicnmnnkaaLaw
import Derived.Test.YtnjbebicnmnnkaaFmt
import Derived.Test.YtnjbebicnmnnkaaFrame
import Derived.Test.YtnjbebicnmnnkaaRows
namespace Go.Proofs.Ytnjbebicnmnnkaa.fnExactFormatEquation
open Go.ChangeShapes Go.WideShapes Go.ChangeAt Go.RowKit
open Go.ChangeMaps (open_string shut_string)

set_option maxHeartbeats 1600000 in
theorem walk (v0 : Value) (x0 : List Int) (w : World) (h0 : ArgI w v0 x0) :
    Calls Try.prog 7 #[v0] w fun e w' => e = .returned (.bool true) ∧ Below w.heap.size w w' := by
  obtain ⟨A0, cap0, rfl⟩ := ArgI.form h0
  by_cases hl0 : 1048576 < x0.length
  · have hd0 : (1048576 : Int) < (x0.length : Int) := by omega
    go_enter Try.func7, Try.ntmps7
    go_wp2
    go_ret
    exact ⟨rfl, Below.refl _ _⟩
  have hm0 : x0.length ≤ 1048576 := by omega
  have X0 := Lib.hid h0.ob
  clear h0
  have B := Lib.hid (Below.refl w.heap.size w)
  go_enter Try.func7, Try.ntmps7
  go_wp2_with fail
  refine (toIntS_ob _ x0 _ X0.out.holds hm0).mono ?_
  rintro e w1 ⟨r1, rfl, oo, b⟩
  have T := Lib.hid b
  have hs1 := T.out.size
  replace X0 := Lib.hid (X0.out.tr T.out (by omega))
  replace B := Lib.hid (bel_tr B.out T.out (by omega) (by omega))
  have Y1 := Lib.hid oo
  clear T
  clear oo b
  go_wp2_with fail
  refine (specFormatEquation_any _ x0 _ Y1.out.holds.1.rd (by omega)).mono ?_
  rintro e w2 ⟨rfl, b⟩
  have T := Lib.hid (Tr.below b)
  have hs2 := T.out.size
  replace X0 := Lib.hid (X0.out.tr T.out (by omega))
  replace Y1 := Lib.hid (Y1.out.tr T.out (by omega))
  replace B := Lib.hid (bel_tr B.out T.out (by omega) (by omega))
  clear T
  simp only [str]
  clear b
  clear Y1
  go_wp2_with fail
  refine (toIntS_ob _ x0 _ X0.out.holds hm0).mono ?_
  rintro e w3 ⟨r3, rfl, oo, b⟩
  have T := Lib.hid b
  have hs3 := T.out.size
  replace X0 := Lib.hid (X0.out.tr T.out (by omega))
  replace B := Lib.hid (bel_tr B.out T.out (by omega) (by omega))
  have Y2 := Lib.hid oo
  clear T
  clear oo b
  go_wp2_with fail
  refine (same_bel (implFormatEquation_any _ x0 _ Y2.out.holds.1.arg (by omega))).mono ?_
  rintro e w4 ⟨rfl, b⟩
  have T := Lib.hid (Tr.below b)
  have hs4 := T.out.size
  replace X0 := Lib.hid (X0.out.tr T.out (by omega))
  replace Y2 := Lib.hid (Y2.out.tr T.out (by omega))
  replace B := Lib.hid (bel_tr B.out T.out (by omega) (by omega))
  clear T
  simp only [str]
  clear b
  go_wp2_with fail
  refine (toIntS_ob _ x0 _ X0.out.holds hm0).mono ?_
  rintro e w5 ⟨r5, rfl, oo, b⟩
  have T := Lib.hid b
  have hs5 := T.out.size
  replace X0 := Lib.hid (X0.out.tr T.out (by omega))
  replace Y2 := Lib.hid (Y2.out.tr T.out (by omega))
  replace B := Lib.hid (bel_tr B.out T.out (by omega) (by omega))
  have Y3 := Lib.hid oo
  clear T
  clear oo b
  go_wp2_with fail
  refine (eqIntS_ob _ _ (x0) (x0) _ Y2.out.holds Y3.out.holds).mono ?_
  rintro e w6 ⟨rfl, b⟩
  have T := Lib.hid b
  have hs6 := T.out.size
  replace X0 := Lib.hid (X0.out.tr T.out (by omega))
  replace Y2 := Lib.hid (Y2.out.tr T.out (by omega))
  replace Y3 := Lib.hid (Y3.out.tr T.out (by omega))
  replace B := Lib.hid (bel_tr B.out T.out (by omega) (by omega))
  clear T
  clear b
  simp only [decide_true]
  clear Y3
  go_wp2
  go_ret
  exact ⟨rfl, B.out⟩

set_option maxRecDepth 100000 in
theorem lifted (os : Os) (started : os.Started) (H : Type) (enc : TypeId × Value → H) :
    ReturnsInHanded {} Try.checked os 7 .any (Rows.fnExactFormatEquationSpec.pre6 enc Try.prog Try.f7 Rows.fnExactFormatEquationRow.domain false) (Rows.fnExactFormatEquationSpec.post enc Try.prog Try.f7 false true false false) := by
  refine returnsInHanded_of_change (C := Try.checked) own started (by kernel_rfl) Try.func7
    (ChangeSpec.witness6 (enc := enc) (C := Try.checked) false ⟨#[], #[.slice none 0 0], []⟩ 8 (by kernel_rfl) (by kernel_rfl) (by kernel_rfl) (by kernel_rfl)) ?_
  intro W base args ds gs before hval0 hW hcnd _
  have hval : ∀ (j : Nat) t v, Try.f7.params[j]? = some t → args[j]? = some v → Value.okWide Try.prog W .any base t v := hval0
  have hW' := hW
  obtain ⟨p, q, hA0, hV, rfl, hfz, hnd⟩ := hW
  have hA : DataW.TrodAll enc Try.prog W 0 (fun _ => true) true Try.f7.params.toList args.toList ds p := hA0
  rw [Try.params7] at hA hval
  obtain ⟨v0, vs0, d0, ds0, p0, q0, hargs, rfl, rfl, h0, r0⟩ := trodAll_cons hA
  obtain ⟨rfl, rfl, rfl⟩ := trodAll_nil r0
  obtain rfl : args = #[v0] := by cases args; simp_all
  obtain ⟨rfl, rfl⟩ := trodVars_none hV
  have k0 := h0
  have lt0 : ∀ x ∈ p0, x.block < W.heap.size := by obtain ⟨m, hm⟩ := k0; exact DataW.trod_lt m _ _ _ hm
  obtain ⟨x0, a0⟩ := open_argI (hval 0 24 v0 rfl rfl) h0
  clear hA0 hval0
  refine (walk v0 x0 W a0).mono fun e W' ⟨he, bel⟩ => ?_
  subst he
  exact ⟨_, rfl, _, _, _, [], _, [], hW', trodAll_mk1 (shut_bool Try.underlying4 _), (trodAll_cons_mk (Below.trod laidOut (by kernel_rfl) (of_decide_eq_true (by kernel_rfl)) k0 bel lt0) trodAll_mk0), rfl, bel.frame _, fun h => by cases h⟩

/-- The given statement. -/
theorem proved : Rows.FnExactFormatEquationSaid :=
  OpenClaim.holds_of_wide 7 Try.f7 rfl rfl rfl rfl rfl rfl rfl ⟨rfl, rfl, rfl, rfl, rfl⟩ rfl rfl rfl rfl rfl (by kernel_rfl) Try.func7 (by kernel_rfl)
    (of_decide_eq_true (by kernel_rfl)) (by unfold Func.isWrapper; first | (rw [if_pos (by decide +kernel)]; kernel_rfl) | (rw [if_neg (by decide +kernel)]; exact ⟨rfl, rfl⟩))
    (fun os started H enc _ => lifted os started H enc)
#print axioms proved
end Go.Proofs.Ytnjbebicnmnnkaa.fnExactFormatEquation
