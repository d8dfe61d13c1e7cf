/- The law FnExactParseEquation: for every input the program answers as the reference, in memory of its own. -/
import Derived.Test.YthdgcikdekkjkaaLaw
import Derived.Test.YthdgcikdekkjkaaParS
import Derived.Test.YthdgcikdekkjkaaFrame
import Derived.Test.YthdgcikdekkjkaaRows
import Derived.Test.YthdgcikdekkjkaaCloParseEquation
namespace Go.Proofs.Ythdgcikdekkjkaa.fnExactParseEquation
set_option maxRecDepth 20000
set_option linter.unusedVariables false
set_option linter.unusedSimpArgs false
open Go.ChangeShapes Go.WideShapes Go.ChangeAt Go.RowKit
open Go.ChangeMaps (open_string shut_string)

set_option maxHeartbeats 3200000 in
theorem walk (x0 : Int) (x1 : ByteArray) (w : World) (hx0 : I64 x0) (hx1 : x1.size ≤ maxLen) :
    Calls Try.prog 6 #[.int .i64 x0, .string x1] w fun e w' => e = .returned (.bool true) ∧ Below w.heap.size w w' := by
  obtain ⟨t1, rfl⟩ : ∃ t : List UInt8, x1 = ⟨t.toArray⟩ := ⟨x1.data.toList, by simp⟩
  by_cases hl1 : 1048576 < t1.length
  · have hdl1 : (1048576 : Int) < (t1.length : Int) := by omega
    go_enter Try.func6, Try.ntmps6
    go_wp2
    go_ret
    exact ⟨rfl, (by repeat (first | exact Below.refl _ _ | (refine Below.setCell ?_ (by first | omega | (simp <;> omega)) _) | (refine bel_drewN ?_ _) | (refine Below.drew ?_) | (refine Below.alloc ?_ (by first | omega | (simp <;> omega)) _)))⟩
  have hm1 : t1.length ≤ 1048576 := by omega
  have B := Lib.hid (Below.refl w.heap.size w)
  go_enter Try.func6, Try.ntmps6
  go_wp2_with fail
  refine (specParseEquation_any x0 t1 _ hm1).mono ?_
  rintro e w1 ⟨rS0, rfl, oS0, b⟩
  have T := Lib.hid (Tr.below b)
  have hs_w1 := T.out.size
  replace B := Lib.hid (bel_tr B.out T.out (by omega) (by omega))
  have S0 := Lib.hid oS0.ob
  clear oS0
  clear b
  clear T
  go_wp2_with fail
  refine (implParseEquation_any x0 t1 _ hm1).mono ?_
  rintro e w2 ⟨rG0, rfl, oG0, b⟩
  have T := Lib.hid (Tr.below b)
  have hs_w2 := T.out.size
  replace S0 := Lib.hid (S0.out.tr T.out (by omega))
  replace B := Lib.hid (bel_tr B.out T.out (by omega) (by omega))
  have G0 := Lib.hid oG0.ob
  clear oG0
  clear b
  clear T
  go_wp2_with fail
  refine (eqIntS_ob _ _ ((parF x0 t1).1) ((parF x0 t1).1) _ G0.out.holds S0.out.holds).mono ?_
  rintro e w3 ⟨rfl, b⟩
  have T := Lib.hid b
  have hs_w3 := T.out.size
  replace S0 := Lib.hid (S0.out.tr T.out (by omega))
  replace G0 := Lib.hid (G0.out.tr T.out (by omega))
  replace B := Lib.hid (bel_tr B.out T.out (by omega) (by omega))
  clear b
  simp only [decide_true]
  clear T
  go_wp2_with fail
  refine (markIntS_ob _ ((parF x0 t1).1) _ _ _ _ G0.out (by first | omega | exact Nat.le_trans (parF_len _ _) (by omega)) (by omega) (by omega)).mono ?_
  rintro e w4 ⟨rfl, oo, t⟩
  have T := Lib.hid t
  have hs_w4 := T.out.size
  replace S0 := Lib.hid (S0.out.tr T.out (by omega))
  replace B := Lib.hid (bel_tr B.out T.out (by omega) (by omega))
  replace G0 := Lib.hid oo
  clear t oo
  clear T
  go_wp2_with fail
  refine (heldIntS_ob _ ((parF x0 t1).1) _ _ _ _ G0.out (by first | omega | exact Nat.le_trans (parF_len _ _) (by omega)) (by omega) (by omega)).mono ?_
  rintro e w5 ⟨rfl, b⟩
  have T := Lib.hid b
  have hs_w5 := T.out.size
  replace S0 := Lib.hid (S0.out.tr T.out (by omega))
  replace G0 := Lib.hid (G0.out.tr T.out (by omega))
  replace B := Lib.hid (bel_tr B.out T.out (by omega) (by omega))
  clear b
  clear T
  go_wp2_with fail
  refine (implParseEquation_any x0 t1 _ hm1).mono ?_
  rintro e w6 ⟨rH0, rfl, oH0, b⟩
  have T := Lib.hid (Tr.below b)
  have hs_w6 := T.out.size
  replace S0 := Lib.hid (S0.out.tr T.out (by omega))
  replace G0 := Lib.hid (G0.out.tr T.out (by omega))
  replace B := Lib.hid (bel_tr B.out T.out (by omega) (by omega))
  have H0 := Lib.hid oH0.ob
  clear oH0
  clear b
  clear T
  go_wp2_with fail
  refine (eqIntS_ob _ _ ((parF x0 t1).1) ((parF x0 t1).1) _ H0.out.holds S0.out.holds).mono ?_
  rintro e w7 ⟨rfl, b⟩
  have T := Lib.hid b
  have hs_w7 := T.out.size
  replace S0 := Lib.hid (S0.out.tr T.out (by omega))
  replace G0 := Lib.hid (G0.out.tr T.out (by omega))
  replace H0 := Lib.hid (H0.out.tr T.out (by omega))
  replace B := Lib.hid (bel_tr B.out T.out (by omega) (by omega))
  clear b
  simp only [decide_true]
  clear T
  go_wp2_with fail
  refine (heldIntS_ob _ ((parF x0 t1).1) _ _ _ _ G0.out (by first | omega | exact Nat.le_trans (parF_len _ _) (by omega)) (by omega) (by omega)).mono ?_
  rintro e w8 ⟨rfl, b⟩
  have T := Lib.hid b
  have hs_w8 := T.out.size
  replace S0 := Lib.hid (S0.out.tr T.out (by omega))
  replace G0 := Lib.hid (G0.out.tr T.out (by omega))
  replace H0 := Lib.hid (H0.out.tr T.out (by omega))
  replace B := Lib.hid (bel_tr B.out T.out (by omega) (by omega))
  clear b
  clear T
  go_wp2
  go_ret
  exact ⟨rfl, B.out⟩

set_option maxRecDepth 100000 in
theorem lifted (os : Os) (started : os.Started) (H : Type) (enc : TypeId × Value → H) :
    ReturnsInHanded {} Try.checked os 6 .any (Rows.fnExactParseEquationSpec.pre6 enc Try.prog Try.f6 Rows.fnExactParseEquationRow.domain false) (Rows.fnExactParseEquationSpec.post enc Try.prog Try.f6 false true false false) := by
  refine returnsInHanded_of_change (C := Try.checked) own started (by kernel_rfl) Try.func6
    (ChangeSpec.witness6 (enc := enc) (C := Try.checked) false ⟨#[], #[.int .i64 0, .string ByteArray.empty], []⟩ 8 (by kernel_rfl) (by kernel_rfl) (by kernel_rfl) (by kernel_rfl)) ?_
  intro W base args ds gs before hval0 hW hcnd _
  have hval : ∀ (j : Nat) t v, Try.f6.params[j]? = some t → args[j]? = some v → Value.okWide Try.prog W .any base t v := hval0
  have hW' := hW
  obtain ⟨p, q, hA0, hV, rfl, hfz, hnd⟩ := hW
  have hA : DataW.TrodAll enc Try.prog W 0 (fun _ => true) true Try.f6.params.toList args.toList ds p := hA0
  rw [Try.params6] at hA hval
  obtain ⟨v0, vs0, d0, ds0, p0, q0, hargs, rfl, rfl, h0, r0⟩ := trodAll_cons hA
  obtain ⟨v1, vs1, d1, ds1, p1, q1, rfl, rfl, rfl, h1, r1⟩ := trodAll_cons r0
  obtain ⟨rfl, rfl, rfl⟩ := trodAll_nil r1
  obtain rfl : args = #[v0, v1] := by cases args; simp_all
  obtain ⟨rfl, rfl⟩ := trodVars_none hV
  have k0 := h0
  have lt0 : ∀ x ∈ p0, x.block < W.heap.size := by obtain ⟨m, hm⟩ := k0; exact DataW.trod_lt m _ _ _ hm
  obtain ⟨x0, rfl, rfl, rfl, w0⟩ := open_int Try.underlying3 (hval 0 3 v0 rfl rfl) h0
  have k1 := h1
  have lt1 : ∀ x ∈ p1, x.block < W.heap.size := by obtain ⟨m, hm⟩ := k1; exact DataW.trod_lt m _ _ _ hm
  obtain ⟨x1, rfl, rfl, rfl, w1⟩ := Go.ChangeMaps.open_string Try.underlying9 (hval 1 9 v1 rfl rfl) h1
  clear hA0 hval0
  refine (walk x0 x1 W (wf_I64 w0) w1).mono fun e W' ⟨he, bel⟩ => ?_
  subst he
  exact ⟨_, rfl, _, _, _, [], _, [], hW', trodAll_mk1 (shut_bool Try.underlying4 _), (trodAll_cons_mk (Below.trod laidOut (by kernel_rfl) (of_decide_eq_true (by kernel_rfl)) k0 bel lt0) (trodAll_cons_mk (Below.trod laidOut (by kernel_rfl) (of_decide_eq_true (by kernel_rfl)) k1 bel lt1) trodAll_mk0)), rfl, bel.frame _, fun h => by cases h⟩

/-- The given statement. -/
theorem proved : Rows.FnExactParseEquationSaid :=
  OpenClaim.holds_of_wide 6 Try.f6 rfl rfl rfl rfl rfl rfl rfl ⟨rfl, rfl, rfl, rfl, rfl⟩ rfl rfl rfl rfl rfl (by as_aux_lemma => kernel_rfl) Try.func6 closed
    (of_decide_eq_true (by as_aux_lemma => kernel_rfl)) (by unfold Func.isWrapper; first | (rw [if_pos (by decide +kernel)]; kernel_rfl) | (rw [if_neg (by decide +kernel)]; exact ⟨rfl, rfl⟩))
    (fun os started H enc _ => lifted os started H enc)
#print axioms proved
end Go.Proofs.Ythdgcikdekkjkaa.fnExactParseEquation
