/- DrawParseEquation, DrawIsSolution. -/
import Derived.Test.YtgoghkboklehnaaDrawS
import Derived.Test.YtgoghkboklehnaaEqnN
namespace Go.Proofs.Ytgoghkboklehnaa
set_option maxRecDepth 20000
set_option linter.unusedVariables false
set_option linter.unusedSimpArgs false
open Go.RowKit
set_option maxHeartbeats 1000000 in
theorem drawPar_any (v : Value) (cs : List Int) (w : World) (h : ArgC w v cs) (hl : cs.length ≤ 1048576) :
    Calls Try.prog 22 #[v] w fun e w' => ∃ (r : Int) (t : List UInt8), e = .returned (.tuple #[.int .i64 r, .string ⟨t.toArray⟩]) ∧ t.length ≤ 1048576 ∧ Below w.heap.size w w' := by
  have HN := Lib.hid (l1New_any v cs w h hl)
  clear h
  go_enter Try.func22, Try.ntmps22
  go_wp2_with fail
  refine HN.out.mono ?_
  rintro e w1 ⟨p, A, cap, rfl, c1, hp, b1⟩
  have C1 := Lib.hid c1
  have B1 := Lib.hid b1
  have s1 := b1.size
  clear c1 b1
  go_wp2_with fail
  refine (l26Equation_any p A cap cs _ C1.out).mono ?_
  rintro e w2 ⟨r, ev, es, rfl, ⟨r1, r3⟩, oe, hel, c2, t2⟩
  have C2 := Lib.hid c2
  have E2 := Lib.hid oe
  have T2 : Hid (Below w.heap.size w w2) := Lib.hid (B1.out.trans ⟨t2.os, t2.tape, t2.output, t2.size, fun b hb => t2.block b (by omega) (by omega)⟩)
  have s2 := T2.out.size
  obtain ⟨Ae, me, ce, rfl⟩ := oe.any2
  clear c2 oe t2
  go_wp2_with fail
  refine (specFormatEquation_any _ es _ E2.out.rd (by omega)).mono ?_
  rintro e w3 ⟨rfl, b3⟩
  have C3 := Lib.hid (C2.out.below b3)
  have T3 : Hid (Below w.heap.size w w3) := Lib.hid (T2.out.trans (b3.mono s2))
  have hfl := fmt_len es
  clear b3
  unfold str
  generalize fmtEq es = t at *
  go_wp2_with fail
  refine (l1Once_any p A cap cs 3 _ C3.out (by omega) (by omega)).mono ?_
  rintro e w4 ⟨on, rfl, c4, t4⟩
  have C4 := Lib.hid c4
  have T4 : Hid (Below w.heap.size w w4) := Lib.hid (T3.out.trans ⟨t4.os, t4.tape, t4.output, t4.size, fun b hb => t4.block b (by have := T3.out.size; omega) (by omega)⟩)
  clear c4 t4
  have hts : (⟨t.toArray⟩ : ByteArray).size ≤ 200 := by show t.toArray.size ≤ 200; simp; omega
  cases on
  · go_wp2
    exact bodyPost_ret (v := .tuple #[.int .i64 r, .string ⟨t.toArray⟩]) (by simp [results, Try.results22, go_sem]) rfl ⟨r, t, rfl, by omega, T4.out⟩
  · generalize (⟨t.toArray⟩ : ByteArray) = tb at *
    go_wp2_with fail
    refine (l1Spoil_any p A cap cs tb _ C4.out hts).mono ?_
    rintro e w5 ⟨B, rfl, hB, c5, t5⟩
    have T5 : Hid (Below w.heap.size w w5) := Lib.hid (T4.out.trans ⟨t5.os, t5.tape, t5.output, t5.size, fun b hb => t5.block b (by have := T4.out.size; omega) (by omega)⟩)
    clear c5 t5
    go_wp2
    exact bodyPost_ret (v := .tuple #[.int .i64 r, .string B]) (by simp [results, Try.results22, go_sem]) rfl ⟨r, B.data.toList, rfl, by rw [Array.length_toList]; exact Nat.le_trans hB (by decide), T5.out⟩
set_option maxHeartbeats 1000000 in
theorem drawIs_any (v : Value) (cs : List Int) (w : World) (h : ArgC w v cs) (hl : cs.length ≤ 1048576) :
    Calls Try.prog 25 #[v] w fun e w' => ∃ (r : Int) (ev xv : Value) (es xs : List Int), e = .returned (.tuple #[.int .i64 r, ev, xv]) ∧ es.length ≤ 100 ∧ xs.length ≤ 100 ∧ RdI w' ev es ∧ RdI w' xv xs ∧ Below w.heap.size w w' := by
  have HN := Lib.hid (l1New_any v cs w h hl)
  clear h
  go_enter Try.func25, Try.ntmps25
  go_wp2_with fail
  refine HN.out.mono ?_
  rintro e w1 ⟨p, A, cap, rfl, c1, hp, b1⟩
  have C1 := Lib.hid c1
  have B1 := Lib.hid b1
  have s1 := b1.size
  clear c1 b1
  go_wp2_with fail
  refine (l26Equation_any p A cap cs _ C1.out).mono ?_
  rintro e w2 ⟨r, ev, es, rfl, ⟨r1, r3⟩, oe, hel, c2, t2⟩
  have C2 := Lib.hid c2
  have E2 := Lib.hid oe
  have T2 : Hid (Below w.heap.size w w2) := Lib.hid (B1.out.trans ⟨t2.os, t2.tape, t2.output, t2.size, fun b hb => t2.block b (by omega) (by omega)⟩)
  have s2 := T2.out.size
  have hpe : p < w1.heap.size := C1.out.lt
  obtain ⟨Ae, me, ce, rfl⟩ := oe.any2
  clear c2 oe t2
  go_wp2_with fail
  refine (specSolutionsUpTo_any r 2 _ es _ E2.out.rd (by omega)).mono ?_
  rintro e w3 ⟨o, rfl, oo, b3⟩
  have C3 := Lib.hid (C2.out.below b3)
  have E3 := Lib.hid (E2.out.below b3)
  have T3 : Hid (Below w.heap.size w w3) := Lib.hid (T2.out.trans (b3.mono s2))
  have hp2 := C2.out.lt
  have hs3 := b3.size
  have HM : Hid (∀ x ∈ (solsF r es 2).1, x.length ≤ 4) := Lib.hid fun x hx => (sols_mem hx).2.2.2.2
  have HLN : Hid ((solsF r es 2).1.length ≤ 256) := Lib.hid (sols_two r es)
  generalize (solsF r es 2).1 = L at *
  generalize (solsF r es 2).2 = is at *
  obtain ⟨Ao, co, rfl, hco, hmo, _⟩ := oo.len
  have O3 := Lib.hid oo
  have s3 := T3.out.size
  clear oo b3
  rcases hL : L with _ | ⟨x0, L0⟩
  · have h0 : ¬ (0 : Int) < ((([] : List (List Int)).length : Nat) : Int) := by simp
    subst hL
    go_wp2_with fail
    refine (l2Of_any p A cap cs r 3 _ C3.out r1 r3 (by omega) (by omega)).mono ?_
    rintro e w4 ⟨xv, xs, rfl, ox, ⟨hxl, _, _⟩, c4, t4⟩
    have E4 := Lib.hid (E3.out.trP t4 hpe)
    have X4 := Lib.hid ox
    have T4 : Hid (Below w.heap.size w w4) := Lib.hid (T3.out.trans ⟨t4.os, t4.tape, t4.output, t4.size, fun b hb => t4.block b (by omega) (by omega)⟩)
    obtain ⟨Ax, mx, cx, rfl⟩ := ox.any2
    clear c4 t4 ox
    go_wp2
    exact bodyPost_ret (v := .tuple #[.int .i64 r, .slice Ae me ce, .slice Ax mx cx]) (by simp [results, Try.results25, go_sem]) rfl ⟨r, _, _, es, xs, rfl, hel, by omega, E4.out.rd, X4.out.rd, T4.out⟩
  · rw [← hL]
    have h0 : (0 : Int) < ((L.length : Nat) : Int) := by rw [hL]; simp
    clear hL
    go_wp2_with fail
    refine (l1Once_any p A cap cs 2 _ C3.out (by omega) (by omega)).mono ?_
    rintro e w4 ⟨on, rfl, c4, t4⟩
    have C4 := Lib.hid c4
    have E4 := Lib.hid (E3.out.trP t4 hpe)
    have O4 : Hid (OwII w2.heap.size w3.heap.size (.slice Ao L.length co) L w4) := Lib.hid (O3.out.keep EI.stable fun b hb1 hb2 => t4.block b hb2 (by omega))
    have T4 : Hid (Below w.heap.size w w4) := Lib.hid (T3.out.trans ⟨t4.os, t4.tape, t4.output, t4.size, fun b hb => t4.block b (by omega) (by omega)⟩)
    have s4 := t4.size
    clear c4 t4
    cases on
    · go_wp2_with fail
      refine (l2Of_any p A cap cs r 3 _ C4.out r1 r3 (by omega) (by omega)).mono ?_
      rintro e w5 ⟨xv, xs, rfl, ox, ⟨hxl, _, _⟩, c5, t5⟩
      have E5 := Lib.hid (E4.out.trP t5 hpe)
      have X5 := Lib.hid ox
      have T5 : Hid (Below w.heap.size w w5) := Lib.hid (T4.out.trans ⟨t5.os, t5.tape, t5.output, t5.size, fun b hb => t5.block b (by omega) (by omega)⟩)
      obtain ⟨Ax, mx, cx, rfl⟩ := ox.any2
      clear c5 t5 ox
      go_wp2
      exact bodyPost_ret (v := .tuple #[.int .i64 r, .slice Ae me ce, .slice Ax mx cx]) (by simp [results, Try.results25, go_sem]) rfl ⟨r, _, _, es, xs, rfl, hel, by omega, E5.out.rd, X5.out.rd, T5.out⟩
    · go_wp2_with fail
      have C4' := Lib.hid C4.out.drew
      have hl37 := HLN.out
      refine wp_region_H' (S := fun _ => True) (by kernel_rfl) (by rfl) trivial (fun hHeld => ?_)
      (refine wpAnyH_take (i := 0) (v := ?_) rfl (by kernel_rfl) (by kernel_rfl) (by kernel_rfl) (fun _ _ _ h => h) (Or.inl ⟨by rfl, ?_⟩) (by trivial) ?_; rotate_left; focus (intro ww hSw; (try dsimp only at hSw); go_simp; try with_reducible rfl); (try simp only [Act.put, List.setIfInBounds_toArray, List.set_cons_zero, List.set_cons_succ])); (refine wpAnyH_take (i := 1) (v := ?_) rfl (by kernel_rfl) (by kernel_rfl) (by kernel_rfl) (fun _ _ _ h => h) (Or.inl ⟨by rfl, ?_⟩) (by trivial) ?_; rotate_left; focus (intro ww hSw; (try dsimp only at hSw); go_simp; try with_reducible rfl); (try simp only [Act.put, List.setIfInBounds_toArray, List.set_cons_zero, List.set_cons_succ])); (refine wpAnyH_take (i := 2) (v := ?_) rfl (by kernel_rfl) (by kernel_rfl) (by kernel_rfl) (fun _ _ _ h => h) (Or.inl ⟨by rfl, ?_⟩) (by trivial) ?_; rotate_left; focus (intro ww hSw; (try dsimp only at hSw); go_simp; try with_reducible rfl); (try simp only [Act.put, List.setIfInBounds_toArray, List.set_cons_zero, List.set_cons_succ])); (refine wpAnyH_take (i := 3) (v := ?_) rfl (by kernel_rfl) (by kernel_rfl) (by kernel_rfl) (fun _ _ _ h => h) (Or.inl ⟨by rfl, ?_⟩) (by trivial) ?_; rotate_left; focus (intro ww hSw; (try dsimp only at hSw); go_simp; try with_reducible rfl); (try simp only [Act.put, List.setIfInBounds_toArray, List.set_cons_zero, List.set_cons_succ])); (refine wpAnyH_take (i := 4) (v := ?_) rfl (by kernel_rfl) (by kernel_rfl) (by kernel_rfl) (fun _ _ _ h => h) (Or.inl ⟨by rfl, ?_⟩) (by trivial) ?_; rotate_left; focus (intro ww hSw; (try dsimp only at hSw); go_simp; try with_reducible rfl); (try simp only [Act.put, List.setIfInBounds_toArray, List.set_cons_zero, List.set_cons_succ])); (refine wpAnyH_take (i := 5) (v := ?_) rfl (by kernel_rfl) (by kernel_rfl) (by kernel_rfl) (fun _ _ _ h => h) (Or.inl ⟨by rfl, ?_⟩) (by trivial) ?_; rotate_left; focus (intro ww hSw; (try dsimp only at hSw); go_simp; try with_reducible rfl); (try simp only [Act.put, List.setIfInBounds_toArray, List.set_cons_zero, List.set_cons_succ]))
      (refine wpAnyH_ready (rs := [6]) (by kernel_rfl) (by simp) ?_; refine AllReadyH.cons rfl (fun K' hK => ?_) AllReadyH.nil)
      go_simp
      (with_reducible refine (l1Below_any p A cap cs (L.length : Int) _ C4'.out (by omega) (by omega)).mono ?_)
      rintro e w5 ⟨y, rfl, ⟨y0, y1⟩, c5, t5⟩
      have T5 : Hid (Below w.heap.size w w5) := Lib.hid (T4.out.trans ⟨t5.os, t5.tape, t5.output, t5.size, fun b hb => t5.block b (by show b < w4.heap.size; omega) (by omega)⟩)
      have E5 := Lib.hid (OwI.trP (w := w4.drew) E4.out t5 hpe)
      have O5 : Hid (OwII w2.heap.size w3.heap.size (.slice Ao L.length co) L w5) := Lib.hid (O4.out.keep EI.stable fun b hb1 hb2 => t5.block b (by show b < w4.heap.size; omega) (by omega))
      have s5 : w4.heap.size ≤ w5.heap.size := t5.size
      clear c5 t5
      refine hK.out _ _ trivial (fun _ => ?_)
      clear hK hHeld
      try simp only [Act.put, List.setIfInBounds_toArray, List.set_cons_zero, List.set_cons_succ]
      obtain ⟨k, rfl⟩ : ∃ k : Nat, y = k := ⟨y.toNat, by omega⟩
      have hk : k < L.length := by omega
      obtain ⟨g, cs5, Fe, rfl, _, hg, hE, hcw, _, _, hc, _⟩ := O5.out.focus EI.stable hk
      obtain ⟨sv, rfl, ho, _⟩ := hE
      have c0 := hc 0 (by simp)
      simp only [List.getElem_cons_zero, Nat.add_zero, Nat.mul_one] at c0
      have XR := Lib.hid ho.rd
      have hxl := HM.out _ (List.getElem_mem hk)
      generalize L[k] = xs at *
      obtain ⟨Ax, cx, rfl, _⟩ := OwI.form ho
      clear hc ho
      have hkI : (k : Int) < (L.length : Int) := by omega
      have hkI0 : (0 : Int) ≤ (k : Int) := by omega
      (refine wpAnyH_take (i := 7) (v := ?_) rfl (by kernel_rfl) (by kernel_rfl) (by kernel_rfl) (fun _ _ _ h => h) (Or.inl ⟨by rfl, ?_⟩) (by trivial) ?_; rotate_left; focus (intro ww hSw; (try dsimp only at hSw); go_simp; try with_reducible rfl); (try simp only [Act.put, List.setIfInBounds_toArray, List.set_cons_zero, List.set_cons_succ])); (refine wpAnyH_take (i := 9) (v := ?_) rfl (by kernel_rfl) (by kernel_rfl) (by kernel_rfl) (fun _ _ _ h => h) (Or.inl ⟨by rfl, ?_⟩) (by trivial) ?_; rotate_left; focus (intro ww hSw; (try dsimp only at hSw); go_simp; try with_reducible rfl); (try simp only [Act.put, List.setIfInBounds_toArray, List.set_cons_zero, List.set_cons_succ])); (refine wpAnyH_take (i := 10) (v := ?_) rfl (by kernel_rfl) (by kernel_rfl) (by kernel_rfl) (fun _ _ _ h => h) (Or.inl ⟨by rfl, ?_⟩) (by trivial) ?_; rotate_left; focus (intro ww hSw; (try dsimp only at hSw); go_simp; try with_reducible rfl); (try simp only [Act.put, List.setIfInBounds_toArray, List.set_cons_zero, List.set_cons_succ]))
      (refine wpAnyH_ready (rs := [8]) (by kernel_rfl) (by simp) ?_; refine AllReadyH.cons rfl (fun K' hK => ?_) AllReadyH.nil)
      go_simp
      refine hK.out _ _ trivial (fun _ => ?_)
      clear hK
      (refine wpAnyH_ready (rs := [11]) (by kernel_rfl) (by simp) ?_; refine AllReadyH.cons rfl (fun K' hK => ?_) AllReadyH.nil)
      go_simp
      refine hK.out _ _ trivial (fun _ => ?_)
      clear hK
      refine wpAnyH_done (by kernel_rfl) ?_ _
      go_wp2
      exact bodyPost_ret (v := .tuple #[.int .i64 r, .slice Ae me ce, .slice Ax xs.length cx]) (by simp [results, Try.results25, go_sem]) rfl ⟨r, _, _, es, xs, rfl, hel, by omega, E5.out.rd, XR.out, T5.out⟩
end Go.Proofs.Ytgoghkboklehnaa
