/- The law FnExactUnknownSum: for every slice the program's UnknownSum answers as the reference's. No condition. -/
import Derived.Test.YtnjbebicnmnnkaaHelp
import Derived.Test.YtnjbebicnmnnkaaEq
import Derived.Test.YtnjbebicnmnnkaaFrame
import Derived.Test.YtnjbebicnmnnkaaRows
namespace Go.Proofs.Ytnjbebicnmnnkaa.fnExactUnknownSum
open Go.ChangeShapes Go.WideShapes Go.ChangeAt Go.RowKit
open Go.ChangeMaps (open_string shut_string)

set_option maxHeartbeats 400000 in
theorem walk (v0 : Value) (xs : List Int) (w : World) (h0 : ArgI w v0 xs) :
    Calls Try.prog 4 #[v0] w fun e w' => e = .returned (.bool true) ∧ Below w.heap.size w w' := by
  obtain ⟨A, cap, rfl, _⟩ := id h0
  by_cases hl : 1048576 < xs.length
  · have hd : (1048576 : Int) < (xs.length : Int) := by omega
    go_enter Try.func4, Try.ntmps4
    go_wp2
    go_ret
    exact ⟨rfl, Below.refl _ _⟩
  · have hl' : xs.length ≤ 1048576 := by omega
    have H0 := Lib.hid h0
    clear h0
    go_enter Try.func4, Try.ntmps4
    go_wp2_with fail
    refine (toIntS_any _ xs _ H0.out hl').mono ?_
    rintro e w1 ⟨r1, rfl, o1, b1⟩
    have H1 := Lib.hid o1
    have B1 := Lib.hid b1
    clear o1 b1
    go_wp2_with fail
    refine (specUnknownSum_any _ xs _ H1.out.arg hl').mono ?_
    rintro e w1 ⟨rfl, rfl⟩
    go_wp2_with fail
    refine (toIntS_any _ xs _ (H0.out.below B1.out) hl').mono ?_
    rintro e w2 ⟨r2, rfl, o2, b2⟩
    have H2 := Lib.hid o2
    have B2 := Lib.hid b2
    clear o2 b2
    go_wp2_with fail
    refine (implUnknownSum_any _ xs _ H2.out.arg hl').mono ?_
    rintro e w2 ⟨rfl, rfl⟩
    go_wp2_with fail
    refine (toIntS_any _ xs _ ((H0.out.below B1.out).below B2.out) hl').mono ?_
    rintro e w3 ⟨r3, rfl, o3, b3⟩
    have H3 := Lib.hid o3
    have B3 := Lib.hid b3
    clear o3 b3
    go_wp2_with fail
    refine (eqIntS_any _ _ xs xs _ (H2.out.below B3.out).arg H3.out.arg).mono ?_
    rintro e w4 ⟨rfl, n, rfl⟩
    simp only [decide_true]
    go_wp2
    go_ret
    exact ⟨rfl, bel_drewN (B1.out.trans ((B2.out.mono B1.out.size).trans (B3.out.mono (Nat.le_trans B1.out.size B2.out.size)))) _⟩

set_option maxRecDepth 100000 in
theorem lifted (os : Os) (started : os.Started) (H : Type) (enc : TypeId × Value → H) :
    ReturnsInHanded {} Try.checked os 4 .any (Rows.fnExactUnknownSumSpec.pre6 enc Try.prog Try.f4 Rows.fnExactUnknownSumRow.domain false) (Rows.fnExactUnknownSumSpec.post enc Try.prog Try.f4 false true false false) := by
  refine returnsInHanded_of_change (C := Try.checked) own started (by kernel_rfl) Try.func4
    (ChangeSpec.witness6 (enc := enc) (C := Try.checked) false ⟨#[], #[.slice none 0 0], []⟩ 8 (by kernel_rfl) (by kernel_rfl) (by kernel_rfl) (by kernel_rfl)) ?_
  intro W base args ds gs before hval0 hW hcnd _
  have hval : ∀ (j : Nat) t v, Try.f4.params[j]? = some t → args[j]? = some v → Value.okWide Try.prog W .any base t v := hval0
  have hW' := hW
  obtain ⟨p, q, hA0, hV, rfl, hfz, hnd⟩ := hW
  have hA : DataW.TrodAll enc Try.prog W 0 (fun _ => true) true Try.f4.params.toList args.toList ds p := hA0
  rw [Try.params4] at hA hval
  obtain ⟨v0, vs0, d0, ds0, p0, q0, hargs, rfl, rfl, h0, r0⟩ := trodAll_cons hA
  obtain ⟨rfl, rfl, rfl⟩ := trodAll_nil r0
  obtain rfl : args = #[v0] := by cases args; simp_all
  obtain ⟨rfl, rfl⟩ := trodVars_none hV
  have k0 := h0
  have lt0 : ∀ x ∈ p0, x.block < W.heap.size := by obtain ⟨m, hm⟩ := k0; exact DataW.trod_lt m _ _ _ hm
  obtain ⟨x0, a0⟩ := open_argI (hval 0 24 v0 rfl rfl) h0
  clear hA0 hval0
  refine (walk v0 x0 W a0).mono fun e W' ⟨he, bel⟩ => ?_
  subst he
  exact ⟨_, rfl, _, _, _, [], _, [], hW', trodAll_mk1 (shut_bool Try.underlying4 _), (trodAll_cons_mk (Below.trod laidOut (by kernel_rfl) (of_decide_eq_true (by kernel_rfl)) k0 bel lt0) trodAll_mk0), rfl, bel.frame _, fun h => by cases h⟩

/-- The given statement. -/
theorem proved : Rows.FnExactUnknownSumSaid :=
  OpenClaim.holds_of_wide 4 Try.f4 rfl rfl rfl rfl rfl rfl rfl ⟨rfl, rfl, rfl, rfl, rfl⟩ rfl rfl rfl rfl rfl (by kernel_rfl) Try.func4 (by kernel_rfl)
    (of_decide_eq_true (by kernel_rfl)) (by unfold Func.isWrapper; first | (rw [if_pos (by decide +kernel)]; kernel_rfl) | (rw [if_neg (by decide +kernel)]; exact ⟨rfl, rfl⟩))
    (fun os started H enc _ => lifted os started H enc)
#print axioms proved

end Go.Proofs.Ytnjbebicnmnnkaa.fnExactUnknownSum
