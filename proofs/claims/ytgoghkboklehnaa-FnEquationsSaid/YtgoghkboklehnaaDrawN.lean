/- The cursor is made; the draws of the equations' law. -/
import Derived.Test.YtgoghkboklehnaaDrawE
namespace Go.Proofs.Ytgoghkboklehnaa
set_option maxRecDepth 20000
set_option linter.unusedVariables false
set_option linter.unusedSimpArgs false
open Go.RowKit
theorem lt_cell {w : World} {b o : Nat} {v : Value} (h : w.cell? ⟨b, o, none⟩ = some v) : b < w.heap.size := by
  rcases Nat.lt_or_ge b w.heap.size with h' | h'
  · exact h'
  · simp [World.cell?, Array.getElem?_eq_none h'] at h
set_option maxHeartbeats 1000000 in
theorem l1New_any (v : Value) (cs : List Int) (w : World) (h : ArgC w v cs) (hl : cs.length ≤ 1048576) :
    Calls Try.prog 28 #[v] w fun e w' => ∃ p A cap, e = .returned (.pointer (some ⟨p, 0, none⟩)) ∧ Cur p A cap cs w' ∧ w.heap.size ≤ p ∧ Below w.heap.size w w' := by
  obtain ⟨A, cap, rfl, hcap, hm, hby, hat⟩ := h
  have HBY := Lib.hid hby
  have HAT := Lib.hid hat
  unfold maxLen at hm
  clear hby hat
  go_enter Try.func28, Try.ntmps28
  go_wp2
  go_loop [3, 4] (fun hv i => ∃ (k : Nat) (x : Int), k ≤ cs.length ∧ i = .int .i64 k ∧ hv = .int .i64 x) (fun _ i => cs.length - (intOf i).toNat)
  case atStart => exact ⟨0, _, Nat.zero_le _, rfl, rfl⟩
  case round =>
    obtain ⟨k, x, hk, rfl, rfl⟩ := hrel
    by_cases hlt : k < cs.length
    · rcases h4 : decide ((k : Int) < 4000) with _ | _
      · have h4' : ¬ (k : Int) < 4000 := of_decide_eq_false h4
        clear h4
        go_wp2
        refine bodyPost_ret (v := .pointer (some ⟨w.heap.size, 0, none⟩)) (by simp [results, Try.results28, go_sem]) rfl ⟨w.heap.size, rfl, ⟨A, cap, ?_⟩, Nat.le_refl _, (Below.refl _ _).alloc (Nat.le_refl _) _⟩
        refine ⟨by simp [go_sem], ⟨0, Nat.zero_le _, by simp [go_sem]⟩, ⟨x, by simp [go_sem]⟩, fun j => by simp [go_sem], by simp, hl, HBY.out, fun h0 => ?_⟩
        obtain ⟨b, off, hA, hc⟩ := HAT.out h0
        have hb : b < w.heap.size := lt_cell (hc 0 h0)
        exact ⟨b, off, hA, by omega, by simp; omega, fun i hi => (World.cell?_alloc_past _ _ _ hb).trans (hc i hi)⟩
      · obtain ⟨b, off, rfl, hc⟩ := HAT.out (by omega)
        have hcell := hc k hlt
        have hz := HBY.out _ (List.getElem_mem hlt)
        generalize cs[k] = z at *
        have hcv : IntKind.i64.wrap z = z := by rw [IntKind.wrap_i64]; omega
        clear hc
        go_wp2
        go_round
        case rel => exact ⟨k + 1, _, by omega, by go_num, rfl⟩
        case measure => (simp [intOf]; omega)
    · obtain rfl : k = cs.length := by omega
      go_wp2
      refine bodyPost_ret (v := .pointer (some ⟨w.heap.size, 0, none⟩)) (by simp [results, Try.results28, go_sem]) rfl ⟨w.heap.size, rfl, ⟨A, cap, ?_⟩, Nat.le_refl _, (Below.refl _ _).alloc (Nat.le_refl _) _⟩
      refine ⟨by simp [go_sem], ⟨0, Nat.zero_le _, by simp [go_sem]⟩, ⟨x, by simp [go_sem]⟩, fun j => by simp [go_sem], by simp, hl, HBY.out, fun h0 => ?_⟩
      obtain ⟨b, off, hA, hc⟩ := HAT.out h0
      have hb : b < w.heap.size := lt_cell (hc 0 h0)
      exact ⟨b, off, hA, by omega, by simp; omega, fun i hi => (World.cell?_alloc_past _ _ _ hb).trans (hc i hi)⟩
set_option maxHeartbeats 1000000 in
theorem drawSols_any (v : Value) (cs : List Int) (w : World) (h : ArgC w v cs) (hl : cs.length ≤ 1048576) :
    Calls Try.prog 5 #[v] w fun e w' => ∃ (r : Int) (ev : Value) (m : Int) (es : List Int), e = .returned (.tuple #[.int .i64 r, ev, .int .i64 m]) ∧ (1 ≤ r ∧ r ≤ 3) ∧ (-1 ≤ m ∧ m ≤ 3) ∧ es.length ≤ 100 ∧ OwI w' w.heap.size ev es ∧ Below w.heap.size w w' := by
  have HN := Lib.hid (l1New_any v cs w h hl)
  clear h
  go_enter Try.func5, Try.ntmps5
  go_wp2_with fail
  refine HN.out.mono ?_
  rintro e w1 ⟨p, A, cap, rfl, c1, hp, b1⟩
  have C1 := Lib.hid c1
  have B1 := Lib.hid b1
  have s1 := b1.size
  clear c1 b1
  go_wp2_with fail
  refine (l26Equation_any p A cap cs _ C1.out).mono ?_
  rintro e w2 ⟨r, ev, es, rfl, ⟨r1, r3⟩, oe, hel, c2, t2⟩
  have C2 := Lib.hid c2
  have E2 := Lib.hid oe
  have T2 : Hid (Below w.heap.size w w2) := Lib.hid (B1.out.trans ⟨t2.os, t2.tape, t2.output, t2.size, fun b hb => t2.block b (by omega) (by omega)⟩)
  have s2 := T2.out.size
  have hpe : p < w1.heap.size := C1.out.lt
  obtain ⟨Ae, me, ce, rfl⟩ := oe.any2
  clear c2 oe t2
  go_wp2_with fail
  refine (l1Below_any p A cap cs 4 _ C2.out (by omega) (by omega)).mono ?_
  rintro e w3 ⟨x, rfl, ⟨x0, x4⟩, c3, t3⟩
  have C3 := Lib.hid c3
  have E3 := Lib.hid (E2.out.trP t3 hpe)
  have T3 : Hid (Below w.heap.size w w3) := Lib.hid (T2.out.trans ⟨t3.os, t3.tape, t3.output, t3.size, fun b hb => t3.block b (by omega) (by omega)⟩)
  have s3 := T3.out.size
  clear c3 t3
  go_wp2_with fail
  refine (l1Below_any p A cap cs 2 _ C3.out (by omega) (by omega)).mono ?_
  rintro e w4 ⟨y, rfl, ⟨y0, y2⟩, c4, t4⟩
  have E4 := Lib.hid (E3.out.trP t4 hpe)
  have T4 : Hid (Below w.heap.size w w4) := Lib.hid (T3.out.trans ⟨t4.os, t4.tape, t4.output, t4.size, fun b hb => t4.block b (by omega) (by omega)⟩)
  have hxy : IntKind.i64.wrap (x - y) = x - y := by rw [IntKind.wrap_i64]; omega
  clear c4 t4
  go_wp2
  exact bodyPost_ret (v := .tuple #[.int .i64 r, .slice Ae me ce, .int .i64 (x - y)]) (by simp [results, Try.results5, go_sem]) rfl ⟨r, _, x - y, es, rfl, ⟨r1, r3⟩, ⟨by omega, by omega⟩, hel, E4.out.mono s1, T4.out⟩
set_option maxHeartbeats 1000000 in
theorem drawSubst_any (v : Value) (cs : List Int) (w : World) (h : ArgC w v cs) (hl : cs.length ≤ 1048576) :
    Calls Try.prog 24 #[v] w fun e w' => ∃ (ev xv : Value) (es xs : List Int), e = .returned (.tuple #[ev, xv]) ∧ es.length ≤ 100 ∧ xs.length ≤ 100 ∧ OwI w' w.heap.size ev es ∧ OwI w' w.heap.size xv xs ∧ Below w.heap.size w w' := by
  have HN := Lib.hid (l1New_any v cs w h hl)
  clear h
  go_enter Try.func24, Try.ntmps24
  go_wp2_with fail
  refine HN.out.mono ?_
  rintro e w1 ⟨p, A, cap, rfl, c1, hp, b1⟩
  have C1 := Lib.hid c1
  have B1 := Lib.hid b1
  have s1 := b1.size
  clear c1 b1
  go_wp2_with fail
  refine (l26Equation_any p A cap cs _ C1.out).mono ?_
  rintro e w2 ⟨r, ev, es, rfl, ⟨r1, r3⟩, oe, hel, c2, t2⟩
  have C2 := Lib.hid c2
  have E2 := Lib.hid oe
  have T2 : Hid (Below w.heap.size w w2) := Lib.hid (B1.out.trans ⟨t2.os, t2.tape, t2.output, t2.size, fun b hb => t2.block b (by omega) (by omega)⟩)
  have s2 := T2.out.size
  have hpe : p < w1.heap.size := C1.out.lt
  obtain ⟨Ae, me, ce, rfl⟩ := oe.any2
  clear c2 oe t2
  go_wp2_with fail
  refine (l2Of_any p A cap cs r 4 _ C2.out r1 r3 (by omega) (by omega)).mono ?_
  rintro e w3 ⟨xv, xs, rfl, ox, ⟨hxl, _, _⟩, c3, t3⟩
  have E3 := Lib.hid (E2.out.trP t3 hpe)
  have X3 := Lib.hid ox
  have T3 : Hid (Below w.heap.size w w3) := Lib.hid (T2.out.trans ⟨t3.os, t3.tape, t3.output, t3.size, fun b hb => t3.block b (by omega) (by omega)⟩)
  obtain ⟨Ax, mx, cx, rfl⟩ := ox.any2
  clear c3 t3 ox
  go_wp2
  exact bodyPost_ret (v := .tuple #[.slice Ae me ce, .slice Ax mx cx]) (by simp [results, Try.results24, go_sem]) rfl ⟨_, _, es, xs, rfl, hel, by omega, E3.out.mono s1, X3.out.mono s2, T3.out⟩
end Go.Proofs.Ytgoghkboklehnaa
