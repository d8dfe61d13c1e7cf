/- The program's HermiteForm and LatticeIndex. -/
import Derived.Test.YtnnckojpmnpgbaaHerG
namespace Go.Proofs.Ytnnckojpmnpgbaa
set_option maxRecDepth 20000
set_option linter.unusedVariables false
set_option linter.unusedSimpArgs false
open Go.RowKit

set_option maxHeartbeats 400000 in
theorem implHermiteForm_any (v : Value) (L : List (List Int)) (n : Int) (w : World) (h : RdII w v L) (hl : L.length ≤ 1073741824) (hr : ∀ r ∈ L, r.length ≤ 1073741824) :
    Calls Try.prog 16 #[v, .int .i64 n] w fun e w' => ∃ s, e = .returned s ∧ OwII w.heap.size w'.heap.size s (hermF n L).1 w' ∧ Below w.heap.size w w' := by
  have H := Lib.hid (hermite_any v L n w h hl hr)
  obtain ⟨A, cap, rfl, _⟩ := h.form
  clear h hr
  generalize hermF n L = R at *
  go_enter Try.func16, Try.ntmps16
  go_wp2_with fail
  refine H.out.mono ?_
  rintro e w1 ⟨s, rfl, o1, b1⟩
  obtain ⟨A1, c1, rfl, _⟩ := OwnL.len o1
  have O1 := Lib.hid o1
  have B1 := Lib.hid b1
  clear o1 b1
  go_wp2
  go_ret
  exact ⟨_, rfl, O1.out, B1.out⟩
set_option maxHeartbeats 800000 in
theorem implLatticeIndex_any (v : Value) (L : List (List Int)) (n : Int) (w : World) (h : RdII w v L) (hl : L.length ≤ 1073741824) (hr : ∀ r ∈ L, r.length ≤ 1073741824) :
    Calls Try.prog 9 #[v, .int .i64 n] w fun e w' => e = .returned (.int .i64 (latN L n)) ∧ Below w.heap.size w w' := by
  have H := Lib.hid (hermite_any v L n w h hl hr)
  have HE := Lib.hid (fun e => hermF_ech (n := n) (rows := L) e)
  have HN : Hid (latN L n = if (hermF n L).2 = true ∧ ¬ ((hermF n L).1.length : Int) < n then prodD (hermF n L).1 n.toNat else -1) := Lib.hid rfl
  have HI : Hid ((hermF n L).2 = true → inB n 1 3 = true) := Lib.hid fun e => by
    rw [← rows27_eq] at e
    unfold rows27 at e
    simp only [Bool.and_eq_true] at e
    exact e.1.1.1
  obtain ⟨A, cap, rfl, _⟩ := h.form
  clear h hr
  generalize latN L n = RES at *
  generalize hermF n L = R at *
  obtain ⟨l, ok⟩ := R
  dsimp only at HN HE HI H
  go_enter Try.func9, Try.ntmps9
  go_wp2_with fail
  refine H.out.mono ?_
  rintro e w1 ⟨s, rfl, o1, b1⟩
  obtain ⟨A1, c1, rfl, hc1, hm1, _⟩ := OwnL.len o1
  unfold maxLen at hm1
  have O1 := Lib.hid o1.rd
  have B1 := Lib.hid b1
  clear o1 b1
  cases ok
  · have F : Hid (RES = -1) := Lib.hid (by rw [HN.out, if_neg (fun h => by cases h.1)])
    go_wp2
    go_ret
    exact ⟨ret_int F.out.symm, B1.out⟩
  rcases e1 : decide ((l.length : Int) < n) with _ | _
  rotate_left
  · have F : Hid (RES = -1) := Lib.hid (by rw [HN.out, if_neg (fun h => by have h2 := h.2; simp at e1; omega)])
    go_wp2
    go_ret
    exact ⟨ret_int F.out.symm, B1.out⟩
  have hnl : ¬ (l.length : Int) < n := by simpa using e1
  have hn13 := inB_iff.1 (HI.out rfl)
  have hech := HE.out rfl
  have hlen := hech.length
  have hln : l.length = n.toNat := by omega
  have F : Hid (RES = prodD l l.length) := Lib.hid (by rw [HN.out, if_pos ⟨rfl, by omega⟩, hln])
  have HLN : Hid (∀ k (hk : k < l.length), l[k].length = l.length) := Lib.hid fun k hk => by rw [hech.len _ (List.getElem_mem hk), hln]
  have hl3 : l.length ≤ 3 := by omega
  clear hln hech hlen HE HI
  go_wp2
  go_loop [7, 26] (fun k i => ∃ q : Nat, q ≤ l.length ∧ i = .int .i64 q ∧ k = .int .i64 (prodD l q)) (fun _ i => l.length - (intOf i).toNat)
  case atStart => exact ⟨0, Nat.zero_le _, rfl, rfl⟩
  case round =>
    obtain ⟨q, hq, rfl, rfl⟩ := hrel
    by_cases hlt : q < l.length
    · obtain ⟨b, off, A2, c2, rfl, hb, hcell, hc2, hm2, hrd⟩ := O1.out.at hlt
      have HS := Lib.hid (prodD_succ l q)
      have hrl := HLN.out q hlt
      have HRL := Lib.hid hrl
      rw [rw_mem hlt] at HS
      have hql : q < l[q].length := by rw [hrl]; exact hlt
      clear hrl
      unfold maxLen at hm2
      generalize l[q] = r at *
      obtain ⟨b3, off3, rfl, hb3, hcc⟩ := hrd.at (by omega)
      have hc3 := hcc q hql
      rw [← cl_get hql] at hc3
      have hqI : (q : Int) < (r.length : Int) := by omega
      clear hcc hrd
      generalize cl r q = x at *
      generalize prodD l q = P at *
      go_wp2
      go_round
      case rel => exact ⟨q + 1, by omega, by go_num, by rw [HS.out]⟩
      case measure => simp [intOf]; omega
    · obtain rfl : q = l.length := by omega
      go_wp2
      go_ret
      exact ⟨ret_int F.out.symm, B1.out⟩
end Go.Proofs.Ytnnckojpmnpgbaa
