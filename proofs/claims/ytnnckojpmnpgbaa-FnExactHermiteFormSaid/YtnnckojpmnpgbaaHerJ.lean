/- The reference's copy of a list of rows. -/
import Derived.Test.YtnnckojpmnpgbaaHerF
import Derived.Test.YtnnckojpmnpgbaaHM
namespace Go.Proofs.Ytnnckojpmnpgbaa
set_option maxRecDepth 20000
set_option linter.unusedVariables false
set_option linter.unusedSimpArgs false
open Go.RowKit

set_option maxHeartbeats 800000 in
theorem l20Copy_any (v : Value) (L : List (List Int)) (w : World) (h : RdII w v L) (hl : L.length ≤ 1073741824) (hr : ∀ r ∈ L, r.length ≤ 1073741824) :
    Calls Try.prog 30 #[v] w fun e w' => ∃ r, e = .returned r ∧ OwII w.heap.size w'.heap.size r L w' ∧ Below w.heap.size w w' := by
  have H := Lib.hid h
  have HR := Lib.hid hr
  obtain ⟨A, cap, rfl, hcap, hm, _⟩ := h.form
  unfold maxLen at hm
  clear h hr
  have O0 : Hid (OwII w.heap.size (w.alloc (.cells #[] 27)).heap.size (.slice (some ⟨w.heap.size, 0, none⟩) 0 0) [] (w.alloc (.cells #[] 27))) := Lib.hid (by have := OwII_lit (lo := w.heap.size) w (Nat.le_refl _); simpa using this)
  have B0 : Hid (Below w.heap.size w (w.alloc (.cells #[] 27))) := Lib.hid ((Below.refl _ _).alloc (Nat.le_refl _) _)
  go_enter Try.func30, Try.ntmps30
  go_wp2
  go_loopw [3, 4] (fun out i wr => ∃ k : Nat, k ≤ L.length ∧ i = .int .i64 k ∧ OwII w.heap.size wr.heap.size out (L.take k) wr ∧ Below w.heap.size w wr) (fun _ i _ => L.length - (intOf i).toNat)
  case atStart => exact ⟨0, Nat.zero_le _, rfl, O0.out, B0.out⟩
  case round =>
    obtain ⟨k, hk, rfl, hown, hbel⟩ := hrel
    have HO := Lib.hid hown
    have HB := Lib.hid hbel
    have hsz := hbel.size
    obtain ⟨Ao, co, rfl, _⟩ := OwnL.len hown
    by_cases hlt : k < L.length
    · obtain ⟨b, off, A1, cap1, rfl, hb, hcell, hc1, hm1, hrd⟩ := (H.out.below hbel).at hlt
      have HRD := Lib.hid hrd
      have hln := HR.out L[k] (by simp)
      have HTK : Hid (L.take (k + 1) = L.take k ++ [L[k]]) := Lib.hid (List.take_succ_eq_append_getElem hlt)
      have htl : (L.take k).length = k := by rw [List.length_take]; omega
      clear hown hbel hrd
      generalize L[k] = row at *
      generalize L.take k = LK at *
      subst htl
      go_wp2_with (first
        | (at_builtin; refine append_ints rfl (.tmp 13) (.tmp 17) rfl wr.heap.size _ [] (OwI_lit _ [] I64s_nil (by simp) (Nat.le_refl _)) rfl _ _ (HRD.out.alloc _) rfl (by simp; omega) (by simp) ?_; intro v1 w1 o1 g1 p1; have B1 : Hid (Below wr.heap.size wr w1) := Lib.hid (((Below.refl _ _).alloc (Nat.le_refl _) _).grown g1 (by simp) (fun k hk => by simp [Value.ownBlock] at hk; omega)); have O1 : Hid (OwI w1 wr.heap.size v1 row) := Lib.hid (by simpa using o1); have hs1 := B1.out.size; obtain ⟨A2, c2, rfl, _⟩ := OwI.form O1.out; clear o1 g1 p1)
        | (at_builtin; refine push_ints rfl (.tmp 12) (.tmp 19) rfl (w0 := wr) HO.out (by omega) (B1.out.alloc (by omega) _) rfl _ _ _ rfl (O1.out.alloc _) (Nat.le_refl _) (cell_new1 _ _ _) rfl (by omega) ?_; intro vz wz oz gz; have OZ := Lib.hid oz; have GZ := Lib.hid gz; have hz := gz.size; simp at hz; clear oz gz))
      go_roundw
      case rel => exact ⟨LK.length + 1, by omega, by go_num, by rw [HTK.out]; exact OZ.out, ((HB.out.trans (B1.out.mono (by omega))).alloc (by omega) _).grown GZ.out (by simp; omega) fun j hj => (HO.out.lt hj).1⟩
      case measure => simp [intOf]; omega
    · obtain rfl : k = L.length := by omega
      clear hown
      simp only [List.take_length] at HO ⊢
      go_wp2
      go_ret
      exact ⟨_, rfl, HO.out, hbel⟩
end Go.Proofs.Ytnnckojpmnpgbaa
