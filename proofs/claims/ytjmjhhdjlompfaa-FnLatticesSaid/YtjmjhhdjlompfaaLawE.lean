/- The laws' own small functions: equal lists, drawn words. -/
import Derived.Test.YtjmjhhdjlompfaaDraw
import Derived.Test.YtjmjhhdjlompfaaIIL
namespace Go.Proofs.Ytjmjhhdjlompfaa
set_option maxRecDepth 20000
set_option linter.unusedVariables false
set_option linter.unusedSimpArgs false
open Go.RowKit
theorem lt_cell0 {w : World} {b o : Nat} {v : Value} (h : w.cell? ⟨b, o, none⟩ = some v) : b < w.heap.size := by
  rcases Nat.lt_or_ge b w.heap.size with h' | h'
  · exact h'
  · simp [World.cell?, Array.getElem?_eq_none h'] at h
theorem ArgC.below {w w' : World} {v : Value} {cs : List Int} (h : ArgC w v cs) (hb : Below w.heap.size w w') : ArgC w' v cs := by
  obtain ⟨A, cap, hv, h1, h2, h3, h4⟩ := h
  refine ⟨A, cap, hv, h1, h2, h3, fun h0 => ?_⟩
  obtain ⟨b, off, hA, hc⟩ := h4 h0
  exact ⟨b, off, hA, fun i hi => (World.cell?_of_block (w := w) (hb.block b (lt_cell0 (hc 0 h0)))).trans (hc i hi)⟩
set_option maxHeartbeats 400000 in
theorem sameInts_any (v u : Value) (xs ys : List Int) (w : World) (h : ArgI w v xs) (h' : ArgI w u ys) :
    Calls Try.prog 18 #[v, u] w fun e w' => e = .returned (.bool (decide (xs = ys))) ∧ ∃ n, w' = w.drewN n := by
  obtain ⟨A, cap, rfl, hcap, hm, hr, hb⟩ := h
  obtain ⟨A', cap', rfl, hcap', hm', hr', hb'⟩ := h'
  unfold maxLen at hm hm'
  by_cases hne : xs.length = ys.length
  · have hd : ((xs.length : Int) != (ys.length : Int)) = false := by simp [hne]
    have HNE := Lib.hid hne
    clear hne
    go_enter Try.func18, Try.ntmps18
    go_wp2
    go_loopw [5] (fun i wr => ∃ k : Nat, k ≤ xs.length ∧ i = .int .i64 k ∧ xs.take k = ys.take k ∧ ∃ n, wr = w.drewN n) (fun i _ => xs.length - (intOf i).toNat)
    case atStart => exact ⟨0, Nat.zero_le _, rfl, by simp, 0, rfl⟩
    case round =>
      obtain ⟨k, hk, rfl, heq, n, rfl⟩ := hrel
      have HEQ := Lib.hid heq
      clear heq
      by_cases hlt : k < xs.length
      · obtain ⟨b, off, rfl, hc⟩ := hb (by omega)
        have hlt' : k < ys.length := by have := HNE.out; omega
        obtain ⟨b', off', rfl, hc'⟩ := hb' (by omega)
        have hcell := hc k hlt
        have hcell' := hc' k hlt'
        clear hc hc' hb hb'
        by_cases hx : xs[k] = ys[k]
        · have hx1 : (xs[k] != ys[k]) = false := by simp [hx]
          have HX := Lib.hid hx
          clear hx
          go_wp2
          go_quiet (fail)
          go_wp2
          go_roundw
          case rel => exact ⟨k + 1, by omega, by go_num, take_eq_succ HEQ.out hlt hlt' HX.out, _, rfl⟩
          case measure => simp [intOf]; omega
        · have hx1 : (xs[k] != ys[k]) = true := by simp [hx]
          go_wp2
          go_quiet (fail)
          go_wp2
          go_ret
          exact ⟨ret_bool (by symm; rw [decide_eq_false_iff_not]; rintro rfl; exact hx rfl), _, World.drewN_drewN _ _ _⟩
      · obtain rfl : k = xs.length := by omega
        go_wp2
        go_ret
        refine ⟨ret_bool ?_, n, rfl⟩
        have h1 := HEQ.out
        rw [List.take_length, HNE.out, List.take_length] at h1
        simp [h1]
  · have hd : ((xs.length : Int) != (ys.length : Int)) = true := by simp; omega
    go_enter Try.func18, Try.ntmps18
    go_wp2
    go_ret
    exact ⟨ret_bool (by symm; rw [decide_eq_false_iff_not]; rintro rfl; exact hne rfl), 0, rfl⟩

set_option maxHeartbeats 1000000 in
theorem sameWords_any (v u : Value) (ds ds' : List (List Int)) (w : World) {lo hi lo' hi' : Nat} (h : OIIs lo hi v ds w) (h' : OIIs lo' hi' u ds' w) (hh : hi ≤ w.heap.size) (hh' : hi' ≤ w.heap.size) :
    Calls Try.prog 7 #[v, u] w fun e w' => e = .returned (.bool (decide (ds = ds'))) ∧ Below w.heap.size w w' := by
  obtain ⟨A, cap, rfl, hcap, hm, _⟩ := h.len
  obtain ⟨A', cap', rfl, hcap', hm', _⟩ := h'.len
  have H := Lib.hid h
  have H' := Lib.hid h'
  unfold maxLen at hm hm'
  clear h h'
  by_cases hne : ds.length = ds'.length
  · have hd : ((ds.length : Int) != (ds'.length : Int)) = false := by simp [hne]
    have HNE := Lib.hid hne
    clear hne
    go_enter Try.func7, Try.ntmps7
    go_wp2
    go_loopw [5] (fun i wr => ∃ k : Nat, k ≤ ds.length ∧ i = .int .i64 k ∧ ds.take k = ds'.take k ∧ Below w.heap.size w wr) (fun i _ => ds.length - (intOf i).toNat)
    case atStart => exact ⟨0, Nat.zero_le _, rfl, by simp, Below.refl _ _⟩
    case round =>
      obtain ⟨k, hk, rfl, heq, hbel⟩ := hrel
      have HEQ := Lib.hid heq
      have HB := Lib.hid hbel
      have hsz := hbel.size
      by_cases hlt : k < ds.length
      · have hlt' : k < ds'.length := by have := HNE.out; omega
        obtain ⟨g, cs, Fe, rfl, _, hg, hE, hcw, _, _, hc, _⟩ := (H.out.keep EI.stable (w' := wr) fun b _ hb => hbel.block b (by omega)).focus EI.stable hlt
        obtain ⟨g', cs', Fe', rfl, _, hg', hE', hcw', _, _, hc', _⟩ := (H'.out.keep EI.stable (w' := wr) fun b _ hb => hbel.block b (by omega)).focus EI.stable hlt'
        obtain ⟨s, rfl, ho, _⟩ := hE
        obtain ⟨s', rfl, ho', _⟩ := hE'
        have c0 := hc 0 (by simp)
        have c0' := hc' 0 (by simp)
        simp only [List.getElem_cons_zero, Nat.add_zero, Nat.mul_one] at c0 c0'
        have HQ : Hid (ds.take (k + 1) = ds'.take (k + 1) ↔ ds[k] = ds'[k]) := Lib.hid ⟨fun e => by
          have := congrArg (fun l => l[k]?) e
          simpa [hlt, hlt'] using this, fun e => take_eq_succ HEQ.out hlt hlt' e⟩
        have HN : Hid (ds[k] ≠ ds'[k] → ds ≠ ds') := Lib.hid (fun e1 e2 => by subst e2; exact e1 rfl)
        have X1 := Lib.hid ho
        have X2 := Lib.hid ho'
        have hgw : g < wr.heap.size := by omega
        have hgw' : g' < wr.heap.size := by omega
        clear hc hc' heq hbel ho ho'
        generalize ds[k] = d at *
        generalize ds'[k] = d' at *
        obtain ⟨A2, c2, rfl, _⟩ := OwI.form X1.out
        obtain ⟨A3, c3, rfl, _⟩ := OwI.form X2.out
        go_wp2_with fail
        go_quiet ((go_at_call 18; exact (sameInts_any _ _ d d' _ (X1.out.arg.drewN _) (X2.out.arg.drewN _)).mono fun _ _ ⟨he, n, hn⟩ => ⟨he, by rw [hn]; exact ⟨_, World.drewN_drewN _ _ _⟩⟩))
        rcases e2 : decide (d = d') with _ | _
        · go_wp2
          go_ret
          exact ⟨ret_bool (by symm; rw [decide_eq_false_iff_not]; exact HN.out (by simpa using e2)), bel_drewN HB.out _⟩
        · go_wp2
          go_roundw
          case rel => exact ⟨k + 1, by omega, by go_num, HQ.out.2 (by simpa using e2), bel_drewN HB.out _⟩
          case measure => simp [intOf]; omega
      · obtain rfl : k = ds.length := by omega
        go_wp2
        go_ret
        refine ⟨ret_bool ?_, HB.out⟩
        have h1 := HEQ.out
        rw [List.take_length, HNE.out, List.take_length] at h1
        simp [h1]
  · have hd : ((ds.length : Int) != (ds'.length : Int)) = true := by simp; omega
    go_enter Try.func7, Try.ntmps7
    go_wp2
    go_ret
    exact ⟨ret_bool (by symm; rw [decide_eq_false_iff_not]; rintro rfl; exact hne rfl), Below.refl _ _⟩
/-- A list of lists of ints that is read. -/
def LsW (w : World) (v : Value) (L : List (List Int)) : Prop := ∃ lo hi, OwII lo hi v L w ∧ hi ≤ w.heap.size
theorem LsW.below {w w' : World} {v : Value} {L : List (List Int)} (h : LsW w v L) (hb : Below w.heap.size w w') : LsW w' v L := by
  obtain ⟨lo, hi, h, hh⟩ := h
  exact ⟨lo, hi, h.keep EI.stable fun b _ hb' => hb.block b (by omega), Nat.le_trans hh hb.size⟩
theorem LsW.form {w : World} {v : Value} {L : List (List Int)} (h : LsW w v L) : ∃ A c, v = .slice A L.length c := by
  obtain ⟨lo, hi, h, hh⟩ := h
  obtain ⟨A, c, hv, _⟩ := h.len
  exact ⟨A, c, hv⟩
theorem LsW.row {w : World} {A : Option Addr} {c : Nat} {L : List (List Int)} (h : LsW w (.slice A L.length c) L) {k : Nat} (hk : k < L.length) :
    ∃ g A2 c2, A = some ⟨g, 0, none⟩ ∧ g < w.heap.size ∧ w.cell? ⟨g, k, none⟩ = some (.slice A2 L[k].length c2) ∧ RdI w (.slice A2 L[k].length c2) L[k] := by
  obtain ⟨lo, hi, h, hh⟩ := h
  obtain ⟨g, cs, Fe, hA, _, hg, hE, hcw, _, _, hc, _⟩ := h.focus EI.stable hk
  obtain ⟨s, rfl, ho, _⟩ := hE
  have c0 := hc 0 (by simp)
  simp only [List.getElem_cons_zero, Nat.add_zero, Nat.mul_one] at c0
  obtain ⟨A2, c2, rfl, _⟩ := OwI.form ho
  refine ⟨g, A2, c2, hA, by omega, c0, ho.rd⟩
theorem sameI (v u : Value) (xs ys : List Int) (w : World) (h : RdI w v xs) (h' : RdI w u ys) :
    Calls Try.prog 18 #[v, u] w fun e w' => e = .returned (.bool (decide (xs = ys))) ∧ Below w.heap.size w w' :=
  (sameInts_any v u xs ys w h.arg h'.arg).mono fun _ _ ⟨he, n, hn⟩ => ⟨he, by rw [hn]; exact bel_drewN (Below.refl _ _) _⟩
theorem sameL (v u : Value) (L L' : List (List Int)) (w : World) (h : LsW w v L) (h' : LsW w u L') :
    Calls Try.prog 7 #[v, u] w fun e w' => e = .returned (.bool (decide (L = L'))) ∧ Below w.heap.size w w' := by
  obtain ⟨_, _, h, hh⟩ := h
  obtain ⟨_, _, h', hh'⟩ := h'
  exact sameWords_any v u L L' w h h' hh hh'
theorem big_any (v : Value) (cs : List Int) (w : World) (h : ArgC w v cs) :
    Calls Try.prog 4 #[v] w fun e w' => e = .returned (.bool (decide ((1048576 : Int) < cs.length))) ∧ w = w' := by
  obtain ⟨A, cap, rfl, _⟩ := h
  go_enter Try.func4, Try.ntmps4
  go_wp2
  exact bodyPost_ret (v := .bool (decide ((1048576 : Int) < cs.length))) (by simp [results, Try.results4, go_sem]) rfl ⟨rfl, rfl⟩
end Go.Proofs.Ytjmjhhdjlompfaa
