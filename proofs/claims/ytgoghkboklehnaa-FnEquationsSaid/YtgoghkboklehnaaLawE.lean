/- The laws' own small functions: equal lists, drawn words. -/
import Derived.Test.YtgoghkboklehnaaDrawW
import Derived.Test.YtgoghkboklehnaaIIL
namespace Go.Proofs.Ytgoghkboklehnaa
set_option maxRecDepth 20000
set_option linter.unusedVariables false
set_option linter.unusedSimpArgs false
open Go.RowKit
theorem lt_cell0 {w : World} {b o : Nat} {v : Value} (h : w.cell? ⟨b, o, none⟩ = some v) : b < w.heap.size := by
  rcases Nat.lt_or_ge b w.heap.size with h' | h'
  · exact h'
  · simp [World.cell?, Array.getElem?_eq_none h'] at h
theorem ArgC.below {w w' : World} {v : Value} {cs : List Int} (h : ArgC w v cs) (hb : Below w.heap.size w w') : ArgC w' v cs := by
  obtain ⟨A, cap, hv, h1, h2, h3, h4⟩ := h
  refine ⟨A, cap, hv, h1, h2, h3, fun h0 => ?_⟩
  obtain ⟨b, off, hA, hc⟩ := h4 h0
  exact ⟨b, off, hA, fun i hi => (World.cell?_of_block (w := w) (hb.block b (lt_cell0 (hc 0 h0)))).trans (hc i hi)⟩
set_option maxHeartbeats 400000 in
theorem sameInts_any (v u : Value) (xs ys : List Int) (w : World) (h : ArgI w v xs) (h' : ArgI w u ys) :
    Calls Try.prog 16 #[v, u] w fun e w' => e = .returned (.bool (decide (xs = ys))) ∧ ∃ n, w' = w.drewN n := by
  obtain ⟨A, cap, rfl, hcap, hm, hr, hb⟩ := h
  obtain ⟨A', cap', rfl, hcap', hm', hr', hb'⟩ := h'
  unfold maxLen at hm hm'
  by_cases hne : xs.length = ys.length
  · have hd : ((xs.length : Int) != (ys.length : Int)) = false := by simp [hne]
    have HNE := Lib.hid hne
    clear hne
    go_enter Try.func16, Try.ntmps16
    go_wp2
    go_loopw [5] (fun i wr => ∃ k : Nat, k ≤ xs.length ∧ i = .int .i64 k ∧ xs.take k = ys.take k ∧ ∃ n, wr = w.drewN n) (fun i _ => xs.length - (intOf i).toNat)
    case atStart => exact ⟨0, Nat.zero_le _, rfl, by simp, 0, rfl⟩
    case round =>
      obtain ⟨k, hk, rfl, heq, n, rfl⟩ := hrel
      have HEQ := Lib.hid heq
      clear heq
      by_cases hlt : k < xs.length
      · obtain ⟨b, off, rfl, hc⟩ := hb (by omega)
        have hlt' : k < ys.length := by have := HNE.out; omega
        obtain ⟨b', off', rfl, hc'⟩ := hb' (by omega)
        have hcell := hc k hlt
        have hcell' := hc' k hlt'
        clear hc hc' hb hb'
        by_cases hx : xs[k] = ys[k]
        · have hx1 : (xs[k] != ys[k]) = false := by simp [hx]
          have HX := Lib.hid hx
          clear hx
          go_wp2
          go_quiet (fail)
          go_wp2
          go_roundw
          case rel => exact ⟨k + 1, by omega, by go_num, take_eq_succ HEQ.out hlt hlt' HX.out, _, rfl⟩
          case measure => simp [intOf]; omega
        · have hx1 : (xs[k] != ys[k]) = true := by simp [hx]
          go_wp2
          go_quiet (fail)
          go_wp2
          go_ret
          exact ⟨ret_bool (by symm; rw [decide_eq_false_iff_not]; rintro rfl; exact hx rfl), _, World.drewN_drewN _ _ _⟩
      · obtain rfl : k = xs.length := by omega
        go_wp2
        go_ret
        refine ⟨ret_bool ?_, n, rfl⟩
        have h1 := HEQ.out
        rw [List.take_length, HNE.out, List.take_length] at h1
        simp [h1]
  · have hd : ((xs.length : Int) != (ys.length : Int)) = true := by simp; omega
    go_enter Try.func16, Try.ntmps16
    go_wp2
    go_ret
    exact ⟨ret_bool (by symm; rw [decide_eq_false_iff_not]; rintro rfl; exact hne rfl), 0, rfl⟩

set_option maxHeartbeats 1000000 in
theorem sameWords_any (v u : Value) (ds ds' : List (List Int)) (w : World) {lo hi lo' hi' : Nat} (h : OIIs lo hi v ds w) (h' : OIIs lo' hi' u ds' w) (hh : hi ≤ w.heap.size) (hh' : hi' ≤ w.heap.size) :
    Calls Try.prog 8 #[v, u] w fun e w' => e = .returned (.bool (decide (ds = ds'))) ∧ Below w.heap.size w w' := by
  obtain ⟨A, cap, rfl, hcap, hm, _⟩ := h.len
  obtain ⟨A', cap', rfl, hcap', hm', _⟩ := h'.len
  have H := Lib.hid h
  have H' := Lib.hid h'
  unfold maxLen at hm hm'
  clear h h'
  by_cases hne : ds.length = ds'.length
  · have hd : ((ds.length : Int) != (ds'.length : Int)) = false := by simp [hne]
    have HNE := Lib.hid hne
    clear hne
    go_enter Try.func8, Try.ntmps8
    go_wp2
    go_loopw [5] (fun i wr => ∃ k : Nat, k ≤ ds.length ∧ i = .int .i64 k ∧ ds.take k = ds'.take k ∧ Below w.heap.size w wr) (fun i _ => ds.length - (intOf i).toNat)
    case atStart => exact ⟨0, Nat.zero_le _, rfl, by simp, Below.refl _ _⟩
    case round =>
      obtain ⟨k, hk, rfl, heq, hbel⟩ := hrel
      have HEQ := Lib.hid heq
      have HB := Lib.hid hbel
      have hsz := hbel.size
      by_cases hlt : k < ds.length
      · have hlt' : k < ds'.length := by have := HNE.out; omega
        obtain ⟨g, cs, Fe, rfl, _, hg, hE, hcw, _, _, hc, _⟩ := (H.out.keep EI.stable (w' := wr) fun b _ hb => hbel.block b (by omega)).focus EI.stable hlt
        obtain ⟨g', cs', Fe', rfl, _, hg', hE', hcw', _, _, hc', _⟩ := (H'.out.keep EI.stable (w' := wr) fun b _ hb => hbel.block b (by omega)).focus EI.stable hlt'
        obtain ⟨s, rfl, ho, _⟩ := hE
        obtain ⟨s', rfl, ho', _⟩ := hE'
        have c0 := hc 0 (by simp)
        have c0' := hc' 0 (by simp)
        simp only [List.getElem_cons_zero, Nat.add_zero, Nat.mul_one] at c0 c0'
        have HQ : Hid (ds.take (k + 1) = ds'.take (k + 1) ↔ ds[k] = ds'[k]) := Lib.hid ⟨fun e => by
          have := congrArg (fun l => l[k]?) e
          simpa [hlt, hlt'] using this, fun e => take_eq_succ HEQ.out hlt hlt' e⟩
        have HN : Hid (ds[k] ≠ ds'[k] → ds ≠ ds') := Lib.hid (fun e1 e2 => by subst e2; exact e1 rfl)
        have X1 := Lib.hid ho
        have X2 := Lib.hid ho'
        have hgw : g < wr.heap.size := by omega
        have hgw' : g' < wr.heap.size := by omega
        clear hc hc' heq hbel ho ho'
        generalize ds[k] = d at *
        generalize ds'[k] = d' at *
        obtain ⟨A2, c2, rfl, _⟩ := OwI.form X1.out
        obtain ⟨A3, c3, rfl, _⟩ := OwI.form X2.out
        go_wp2_with fail
        go_quiet ((go_at_call 16; exact (sameInts_any _ _ d d' _ (X1.out.arg.drewN _) (X2.out.arg.drewN _)).mono fun _ _ ⟨he, n, hn⟩ => ⟨he, by rw [hn]; exact ⟨_, World.drewN_drewN _ _ _⟩⟩))
        rcases e2 : decide (d = d') with _ | _
        · go_wp2
          go_ret
          exact ⟨ret_bool (by symm; rw [decide_eq_false_iff_not]; exact HN.out (by simpa using e2)), bel_drewN HB.out _⟩
        · go_wp2
          go_roundw
          case rel => exact ⟨k + 1, by omega, by go_num, HQ.out.2 (by simpa using e2), bel_drewN HB.out _⟩
          case measure => simp [intOf]; omega
      · obtain rfl : k = ds.length := by omega
        go_wp2
        go_ret
        refine ⟨ret_bool ?_, HB.out⟩
        have h1 := HEQ.out
        rw [List.take_length, HNE.out, List.take_length] at h1
        simp [h1]
  · have hd : ((ds.length : Int) != (ds'.length : Int)) = true := by simp; omega
    go_enter Try.func8, Try.ntmps8
    go_wp2
    go_ret
    exact ⟨ret_bool (by symm; rw [decide_eq_false_iff_not]; rintro rfl; exact hne rfl), Below.refl _ _⟩
set_option maxHeartbeats 1000000 in
theorem lawAt_any (v : Value) (cs : List Int) (i : Nat) (w : World) (h : ArgC w v cs) (hl : cs.length ≤ 1048576) (hi : i ≤ 1000) :
    Calls Try.prog 43 #[v, .int .i64 i] w fun e w' => ∃ x : Int, e = .returned (.int .i64 x) ∧ (0 ≤ x ∧ x ≤ 255) ∧ w = w' := by
  obtain ⟨A, cap, rfl, hcap, hm, hby, hat⟩ := h
  unfold maxLen at hm
  by_cases hlt : i < cs.length
  · obtain ⟨b, off, rfl, hc⟩ := hat (by omega)
    have hcell := hc i hlt
    have hz := hby _ (List.getElem_mem hlt)
    generalize cs[i] = z at *
    have hcv : IntKind.i64.wrap z = z := by rw [IntKind.wrap_i64]; omega
    clear hc hby hat
    go_enter Try.func43, Try.ntmps43
    go_wp2
    exact bodyPost_ret (v := .int .i64 z) (by simp [results, Try.results43, go_sem]) rfl ⟨z, rfl, hz, rfl⟩
  · clear hby hat
    have h1 : IntKind.i64.wrap ((i : Int) * 37) = (i : Int) * 37 := by rw [IntKind.wrap_i64]; omega
    have h2 : IntKind.i64.wrap ((cs.length : Int) * 11) = (cs.length : Int) * 11 := by rw [IntKind.wrap_i64]; omega
    have h3 : IntKind.i64.wrap ((i : Int) * 37 + (cs.length : Int) * 11) = (i : Int) * 37 + (cs.length : Int) * 11 := by rw [IntKind.wrap_i64]; omega
    go_enter Try.func43, Try.ntmps43
    go_wp2
    exact bodyPost_ret (v := .int .i64 (((i : Int) * 37 + (cs.length : Int) * 11) % 256)) (by simp [results, Try.results43, go_sem]) rfl ⟨_, rfl, ⟨Int.emod_nonneg _ (by decide), by have := Int.emod_lt_of_pos ((i : Int) * 37 + (cs.length : Int) * 11) (b := 256) (by decide); omega⟩, rfl⟩
set_option maxHeartbeats 1000000 in
theorem lawWord_any (v : Value) (cs : List Int) (r : Int) (w : World) (h : ArgC w v cs) (hl : cs.length ≤ 1048576) (hr1 : 1 ≤ r) (hr3 : r ≤ 3) :
    Calls Try.prog 18 #[v, .int .i64 37, .int .i64 r, .int .i64 3] w fun e w' => ∃ u xs, e = .returned u ∧ OwI w' w.heap.size u xs ∧ (xs.length ≤ 3 ∧ letR r xs ∧ redP xs) ∧ Below w.heap.size w w' := by
  have HAT : Hid (∀ (W : World) (k : Nat), Below w.heap.size w W → k ≤ 1000 → Calls Try.prog 43 #[v, .int .i64 k] W fun e w' => ∃ x : Int, e = .returned (.int .i64 x) ∧ (0 ≤ x ∧ x ≤ 255) ∧ W = w') := Lib.hid fun W k hb hk => lawAt_any v cs k W (h.below hb) hl hk
  obtain ⟨A, cap, rfl, _⟩ := h
  have HO : Hid (OwI (w.alloc (.cells #[] 3)) w.heap.size (.slice (some ⟨w.heap.size, 0, none⟩) 0 0) []) := Lib.hid (OwI_lit w [] I64s_nil (by simp) (Nat.le_refl _))
  have HB : Hid (Below w.heap.size w (w.alloc (.cells #[] 3))) := Lib.hid ((Below.refl _ _).alloc (Nat.le_refl _) _)
  go_enter Try.func18, Try.ntmps18
  go_wp2
  go_loopw [9, 10] (fun wv iv wr => ∃ (k : Nat) (ws : List Int), iv = .int .i64 k ∧ ws.length = k ∧ k ≤ 3 ∧ letR r ws ∧ OwI wr w.heap.size wv ws ∧ Below w.heap.size w wr)
    (fun _ iv _ => 3 - (intOf iv).toNat)
  case atStart => exact ⟨0, [], rfl, rfl, by omega, fun x hx => (by cases hx), HO.out, HB.out⟩
  case round =>
    obtain ⟨k, ws, rfl, hlen, hk3, hlet, hO, hB⟩ := hrel
    have HO := Lib.hid hO
    have HB := Lib.hid hB
    have HLT := Lib.hid hlet
    have hsz := hB.size
    obtain ⟨Aw, mw, cw, rfl⟩ := hO.any2
    clear hO hB hlet
    go_wp2_with fail
    refine (HAT.out _ 37 HB.out (by omega)).mono ?_
    rintro e w2 ⟨y, rfl, ⟨y0, y1⟩, rfl⟩
    by_cases hlt : (k : Int) < y % 4
    · have hk2 : k < 3 := by have := Int.emod_lt_of_pos y (b := 4) (by decide); omega
      have hq : IntKind.i64.wrap (38 + (k : Int)) = ((38 + k : Nat) : Int) := by rw [IntKind.wrap_i64]; omega
      have HA2 := Lib.hid (HAT.out _ (38 + k) HB.out (by omega))
      go_wp2_with fail
      refine HA2.out.mono ?_
      rintro e w3 ⟨z, rfl, ⟨z0, z1⟩, rfl⟩
      have hr0 : ¬ r = 0 := by omega
      have x0 : 0 ≤ z % r := Int.emod_nonneg _ hr0
      have x1 : z % r < r := Int.emod_lt_of_pos _ (by omega)
      generalize hx : z % r = x at *
      have hwx : IntKind.i64.wrap (1 + x) = 1 + x := by rw [IntKind.wrap_i64]; omega
      have hwn : IntKind.i64.wrap (-(1 + x)) = -(1 + x) := by rw [IntKind.wrap_i64]; omega
      have HX1 : Hid (I64 (1 + x)) := Lib.hid ⟨by omega, by omega⟩
      have HX2 : Hid (I64 (-(1 + x))) := Lib.hid ⟨by omega, by omega⟩
      go_wp2_with (first
        | ((at_builtin; refine push_int rfl (.tmp 40) (.tmp 42) rfl _ _ _ (OwI.alloc HO.out _) rfl _ _ rfl (cell_new1 _ _ _) HX1.out (by first | omega | (simp <;> omega)) (by first | omega | (simp <;> omega)) ?_; intro v4 wv4 o4 g4 p4); have B4 := Lib.hid (bel_push HB.out hsz HO.out.1 (Nat.le_refl _) g4); have O4 := Lib.hid o4; obtain ⟨A4, m4, c4, rfl⟩ := o4.any2; clear o4 g4 p4)
        | ((at_builtin; refine push_int rfl (.tmp 40) (.tmp 42) rfl _ _ _ (OwI.alloc HO.out _) rfl _ _ rfl (cell_new1 _ _ _) HX2.out (by first | omega | (simp <;> omega)) (by first | omega | (simp <;> omega)) ?_; intro v4 wv4 o4 g4 p4); have B4 := Lib.hid (bel_push HB.out hsz HO.out.1 (Nat.le_refl _) g4); have O4 := Lib.hid o4; obtain ⟨A4, m4, c4, rfl⟩ := o4.any2; clear o4 g4 p4))
      all_goals (
        go_roundw
        case rel =>
          refine ⟨k + 1, _, by go_num, by simp [hlen], by omega, fun y hy => ?_, O4.out, B4.out⟩
          rcases List.mem_append.1 hy with hy | hy
          · exact HLT.out y hy
          · rw [List.mem_singleton] at hy; subst hy; omega
        case measure => (simp [intOf]; omega))
    · have HGL : Hid (redP (redL [] ws)) := Lib.hid (redL_red redP_nil)
      have hlr : (redL [] ws).length ≤ 3 := by have := redL_len [] ws; simp at this; omega
      have hlw : ws.length ≤ 1073741824 := by omega
      go_wp2_with (go_at_call 42; (with_reducible refine (specReduceLetters_any _ ws _ HO.out.rd hlw).mono ?_); rintro e w5 ⟨r5, rfl, o5, b5⟩; have O5 := Lib.hid o5; have B5 := Lib.hid b5; obtain ⟨A5, m5, c5, rfl⟩ := o5.any2; clear o5 b5)
      exact bodyPost_ret (v := .slice A5 m5 c5) (by simp [results, Try.results18, go_sem]) rfl ⟨_, _, rfl, O5.out.mono hsz, ⟨hlr, letR_redL HLT.out, HGL.out⟩, HB.out.trans (B5.out.mono hsz)⟩
end Go.Proofs.Ytgoghkboklehnaa
