/- The helpers of the laws over slices of ints: toIntS copies, eqIntS compares, markIntS writes, heldIntS reads. -/
import Derived.Test.YtpemfkncjhhagaaGreatBase
namespace Go.Proofs.YtpemfkncjhhagaaGreat
set_option maxRecDepth 20000
set_option linter.unusedVariables false
set_option linter.unusedSimpArgs false
open Go.RowKit

theorem set_of_zeros (xs : List Int) (k : Nat) (hk : k < xs.length) :
    (((xs.take k).map (Value.int .i64)) ++ List.replicate (xs.length - k) (Value.int .i64 0)).set k (.int .i64 xs[k]) = ((xs.take (k + 1)).map (Value.int .i64)) ++ List.replicate (xs.length - (k + 1)) (Value.int .i64 0) := by
  have e : xs.length - k = (xs.length - (k + 1)) + 1 := by omega
  rw [e, List.replicate_succ, List.set_append_right _ _ (by simp; omega), List.length_map, List.length_take, Nat.min_eq_left (by omega), Nat.sub_self, List.set_cons_zero, List.take_succ_eq_append_getElem hk]
  simp only [List.map_append, List.map_cons, List.map_nil, List.append_assoc, List.cons_append, List.nil_append]

set_option maxHeartbeats 400000 in
theorem eqIntS_any (v u : Value) (xs ys : List Int) (w : World) (h : ArgI w v xs) (h' : ArgI w u ys) :
    Calls Tryz.prog 19 #[v, u] w fun e w' => e = .returned (.bool (decide (xs = ys))) ∧ ∃ n, w' = w.drewN n := by
  obtain ⟨A, cap, rfl, hcap, hm, hr, hb⟩ := h
  obtain ⟨A', cap', rfl, hcap', hm', hr', hb'⟩ := h'
  unfold maxLen at hm hm'
  by_cases hne : xs.length = ys.length
  · have hd : ((xs.length : Int) != (ys.length : Int)) = false := by simp [hne]
    have HNE := Lib.hid hne
    clear hne
    go_enter Tryz.func19, Tryz.ntmps19
    go_wp2
    go_loopw [5] (fun i wr => ∃ k : Nat, k ≤ xs.length ∧ i = .int .i64 k ∧ xs.take k = ys.take k ∧ ∃ n, wr = w.drewN n) (fun i _ => xs.length - (intOf i).toNat)
    case atStart => exact ⟨0, Nat.zero_le _, rfl, by simp, 0, rfl⟩
    case round =>
      obtain ⟨k, hk, rfl, heq, n, rfl⟩ := hrel
      have HEQ := Lib.hid heq
      clear heq
      by_cases hlt : k < xs.length
      · obtain ⟨b, off, rfl, hc⟩ := hb (by omega)
        have hlt' : k < ys.length := by have := HNE.out; omega
        obtain ⟨b', off', rfl, hc'⟩ := hb' (by omega)
        have hcell := hc k hlt
        have hcell' := hc' k hlt'
        clear hc hc' hb hb'
        by_cases hx : xs[k] = ys[k]
        · have hx1 : (xs[k] != ys[k]) = false := by simp [hx]
          have HX := Lib.hid hx
          clear hx
          go_wp2
          go_quiet (fail)
          go_wp2
          go_roundw
          case rel => exact ⟨k + 1, by omega, by go_num, take_eq_succ HEQ.out hlt hlt' HX.out, _, rfl⟩
          case measure => simp [intOf]; omega
        · have hx1 : (xs[k] != ys[k]) = true := by simp [hx]
          go_wp2
          go_quiet (fail)
          go_wp2
          go_ret
          exact ⟨ret_bool (by symm; rw [decide_eq_false_iff_not]; rintro rfl; exact hx rfl), _, World.drewN_drewN _ _ _⟩
      · obtain rfl : k = xs.length := by omega
        go_wp2
        go_ret
        refine ⟨ret_bool ?_, n, rfl⟩
        have h1 := HEQ.out
        rw [List.take_length, HNE.out, List.take_length] at h1
        simp [h1]
  · have hd : ((xs.length : Int) != (ys.length : Int)) = true := by simp; omega
    go_enter Tryz.func19, Tryz.ntmps19
    go_wp2
    go_ret
    exact ⟨ret_bool (by symm; rw [decide_eq_false_iff_not]; rintro rfl; exact hne rfl), 0, rfl⟩

def iota (k : Int) (n : Nat) : List Int := (List.range n).map fun i => k + (i : Nat)
theorem iota_length (k : Int) (n : Nat) : (iota k n).length = n := by simp [iota]
theorem iota_get (k : Int) (n i : Nat) (h : i < n) : (iota k n)[i]'(by simp [iota, h]) = k + (i : Nat) := by simp [iota]
theorem mark_step (k : Int) (xs : List Int) (i : Nat) (hi : i < xs.length) :
    (((iota k i ++ xs.drop i).map (Value.int .i64)).set i (.int .i64 (k + (i : Nat)))) = (iota k (i + 1) ++ xs.drop (i + 1)).map (Value.int .i64) := by
  have e : xs.drop i = xs[i] :: xs.drop (i + 1) := List.drop_eq_getElem_cons hi
  rw [e, ← List.map_set, List.set_append_right _ _ (by simp [iota])]
  simp only [iota, List.length_map, List.length_range, Nat.sub_self, List.set_cons_zero, List.range_succ, List.map_append, List.map_cons, List.map_nil, List.append_assoc, List.cons_append, List.nil_append]

set_option maxHeartbeats 400000 in
/-- markIntS over a row of the caller's own. -/
theorem markIntS_any (v : Value) (xs : List Int) (k : Int) (base : Nat) (w : World) (h : OwI w base v xs) (hl : xs.length ≤ 1073741824) (hk0 : 0 ≤ k) (hk : k ≤ 1125899906842624) :
    Calls Tryz.prog 20 #[v, .int .i64 k] w fun e w' => e = .returned (.int .i64 (k + xs.length)) ∧ OwI w' base v (iota k xs.length) ∧ w.grownBy w' v.ownBlock := by
  obtain ⟨hown, hr⟩ := h
  rcases hown.2 with ⟨rfl, hn⟩ | ⟨g, cap, cur, rfl, hg, hh, hnc, hcm, hcs, htake⟩
  · have : xs = [] := List.eq_nil_of_length_eq_zero hn
    subst this
    go_enter Tryz.func20, Tryz.ntmps20
    go_wp2
    refine wp_loop_rounds 1 ?_
    rw [rounds_succ]
    go_wp2
    go_ret
    exact ⟨ret_int (by simp), ⟨by simpa [iota] using hown, fun x hx => by simp [iota] at hx⟩, World.grownBy.refl _ _⟩
  · clear hh hcs htake cur
    go_enter Tryz.func20, Tryz.ntmps20
    go_wp2
    go_loopw [1, 5] (fun kk i wr => ∃ j : Nat, j ≤ xs.length ∧ i = .int .i64 j ∧ kk = .int .i64 (k + (j : Nat)) ∧
        wr.ownsRow base 3 1 (.slice (some ⟨g, 0, none⟩) xs.length cap) xs.length ((iota k j ++ xs.drop j).map (Value.int .i64)) ∧ w.grownBy wr (some g))
      (fun _ i _ => xs.length - (intOf i).toNat)
    case atStart => exact ⟨0, Nat.zero_le _, rfl, by simp, by simpa [iota] using hown, World.grownBy.refl _ _⟩
    case round =>
      obtain ⟨j, hj, rfl, rfl, hown1, hgr⟩ := hrel
      by_cases hlt : j < xs.length
      · have hfr := hown1.frozenAt j
        have hold := hown1.cellAt j (by omega)
        have hold' : wr.cell? ⟨g, j, none⟩ = some (.int .i64 xs[j]) := by
          rw [hold]; simp [List.getElem?_append, iota, hlt]
        have HS := Lib.hid (hown1.stored j (.int .i64 (k + (j : Nat))))
        clear hold
        go_wp2
        go_roundw
        case rel => exact ⟨j + 1, by omega, by go_num, by go_num, by rw [← mark_step k xs j hlt]; exact HS.out.1, hgr.trans HS.out.2⟩
        case measure => simp [intOf]; omega
      · obtain rfl : j = xs.length := by omega
        go_wp2
        go_ret
        exact ⟨rfl, ⟨by simpa [iota] using hown1, fun x hx => by simp [iota] at hx; obtain ⟨a, ha, rfl⟩ := hx; unfold I64; omega⟩, hgr⟩

set_option maxHeartbeats 400000 in
/-- heldIntS over what markIntS has written. -/
theorem heldIntS_any (v : Value) (n : Nat) (k : Int) (w : World) (h : ArgI w v (iota k n)) (hl : n ≤ 1073741824) (hk0 : 0 ≤ k) (hk : k ≤ 1125899906842624) :
    Calls Tryz.prog 21 #[v, .int .i64 k] w fun e w' => e = .returned (.int .i64 (k + n)) ∧ w = w' := by
  obtain ⟨A, cap, hv, hcap, hm, hr, hb⟩ := h
  rw [iota_length] at hv hcap
  subst hv
  go_enter Tryz.func21, Tryz.ntmps21
  go_wp2
  go_loop [1, 5] (fun kk i => ∃ j : Nat, j ≤ n ∧ i = .int .i64 j ∧ kk = .int .i64 (k + (j : Nat))) (fun _ i => n - (intOf i).toNat)
  case atStart => exact ⟨0, Nat.zero_le _, rfl, by simp⟩
  case round =>
    obtain ⟨j, hj, rfl, rfl⟩ := hrel
    by_cases hlt : j < n
    · obtain ⟨b, off, rfl, hc⟩ := hb (by rw [iota_length]; omega)
      have hcell := hc j (by rw [iota_length]; omega)
      rw [iota_get k n j hlt] at hcell
      clear hc hb
      go_wp2
      go_round
      case rel => exact ⟨j + 1, by omega, by go_num, by go_num⟩
      case measure => simp [intOf]; omega
    · obtain rfl : j = n := by omega
      go_wp2
      go_ret
      exact ⟨rfl, rfl⟩

end Go.Proofs.YtpemfkncjhhagaaGreat
