/- ReduceCyclic, IsPrimitive, OrbitLength of the reference and of the program. -/
import Derived.Test.YtnmkbkpegkchpaaShortL
namespace Go.Proofs.Ytnmkbkpegkchpaa
set_option maxRecDepth 20000
set_option linter.unusedVariables false
set_option linter.unusedSimpArgs false
open Go.RowKit

theorem goodF.len {r : Int} {c : List Int} (h : goodF r c) : c.length ≤ 24 := h.2.2.1
theorem redGo_none {r : Int} {n : Nat} {c : List Int} {l : List WhD} (h : shortF r c = none) : redGo r n c l = (c, l) := by
  cases n with
  | zero => rfl
  | succ n => simp [redGo, h]
theorem redGo_some {r : Int} {n : Nat} {c : List Int} {l : List WhD} {d : WhD} (h : shortF r c = some d) : redGo r (n + 1) c l = redGo r n (cycF (whX r d c)) (l ++ [d]) := by simp [redGo, h]
theorem shF_some {r : Int} {c : List Int} (h : goodF r c) {d : WhD} (hs : shortF r c = some d) : shF r c = (d, true) := by rw [shF_good h, hs]
theorem shF_none {r : Int} {c : List Int} (h : goodF r c) (hs : shortF r c = none) : shF r c = ((0, []), false) := by rw [shF_good h, hs]
theorem OWhS_nil (w : World) {lo : Nat} (h : lo ≤ w.heap.size) : OWhS lo (w.alloc (.cells #[] 57)).heap.size (.slice (some ⟨w.heap.size, 0, none⟩) 0 0) [] (w.alloc (.cells #[] 57)) := by
  have := OWhS_lit w h
  simpa using this
set_option maxHeartbeats 2000000 in
theorem implReduceCyclic_any (r : Int) (v : Value) (xs : List Int) (w : World) (hr : I64 r) (h : RdI w v xs) (hl : xs.length ≤ 1048576) :
    Calls Try.prog 43 #[.int .i64 r, v] w fun e w' => ∃ s t, e = .returned (.tuple #[s, t]) ∧ OwI w' w.heap.size s (redF r xs).1 ∧ OWhS w.heap.size w'.heap.size t (redF r xs).2 w' ∧ Below w.heap.size w w' := by
  have H := Lib.hid h
  obtain ⟨A, cap, rfl, hcap, hm, _⟩ := h.arg
  have HR := Lib.hid hr
  clear h hr
  have HL0 : Hid (OWhS w.heap.size (w.alloc (.cells #[] 57)).heap.size (.slice (some ⟨w.heap.size, 0, none⟩) 0 0) [] (w.alloc (.cells #[] 57))) := Lib.hid (OWhS_nil w (Nat.le_refl _))
  have HB0 : Hid (Below w.heap.size w (w.alloc (.cells #[] 57))) := Lib.hid ((Below.refl _ _).alloc (Nat.le_refl _) _)
  have H0 := Lib.hid (H.out.below HB0.out)
  rcases ew : wordB r xs with _ | _
  · have F : Hid (redF r xs = ([], [])) := Lib.hid (by unfold redF; rw [ew]; rfl)
    go_enter Try.func43, Try.ntmps43
    go_wp2_with fail
    generalize w.alloc (Obj.cells #[] 57) = w0 at HL0 HB0 H0 ⊢
    have C := implIsWord_any r _ xs _ H0.out.arg (by omega)
    rw [ew] at C
    refine C.mono ?_
    rintro e w' ⟨rfl, rfl⟩
    clear C
    have hs0 := HB0.out.size
    go_wp2
    go_ret2
    rw [F.out]
    exact ⟨_, _, rfl, OwI_lit _ [] I64s_nil (by simp) hs0, (HL0.out.keep EWh.stable fun b _ hb => Below.heap_alloc _ _ b hb).widen (Nat.le_refl _) (by simp), HB0.out.alloc hs0 _⟩
  · have F : Hid (redF r xs = redGo r 24 (cycF xs) []) := Lib.hid (by unfold redF; rw [ew]; rfl)
    have HG := Lib.hid (goodF_cyc ew)
    go_enter Try.func43, Try.ntmps43
    go_wp2_with fail
    generalize w.alloc (Obj.cells #[] 57) = w0 at HL0 HB0 H0 ⊢
    have C := implIsWord_any r _ xs _ H0.out.arg (by omega)
    rw [ew] at C
    refine C.mono ?_
    rintro e w' ⟨rfl, rfl⟩
    clear C
    have hs0 := HB0.out.size
    go_wp2_with fail
    refine (implCyclicForm_any _ xs _ H0.out (by omega)).mono ?_
    rintro e w1 ⟨s1, rfl, o1, b1⟩
    have O1 := Lib.hid (o1.mono hs0)
    have HB1 := Lib.hid (HB0.out.trans (b1.mono hs0))
    have HL1 := Lib.hid ((HL0.out.keep EWh.stable fun b _ hb => b1.block b hb).widen (Nat.le_refl _) b1.size)
    clear o1 b1
    go_wp2_with fail
    go_loopw [6, 7] (fun l f wr => ∃ (c : List Int) (acc : List WhD), slLen l = acc.length ∧ acc.length ≤ 24 ∧ goodF r c ∧ redGo r (24 - acc.length) c acc = redF r xs ∧ OwI wr w.heap.size f c ∧ OWhS w.heap.size wr.heap.size l acc wr ∧ Below w.heap.size w wr)
      (fun l _ _ => 24 - slLen l)
    case atStart => exact ⟨cycF xs, [], rfl, by simp, HG.out, F.out.symm, O1.out, HL1.out, HB1.out⟩
    case round =>
      obtain ⟨c, acc, hsl, hal, hgo, hgr, hf, hlist, hbel⟩ := hrel
      have HGO := Lib.hid hgo
      have HGR := Lib.hid hgr
      have HFF := Lib.hid hf
      have HLL := Lib.hid hlist
      have HB := Lib.hid hbel
      have hcl := hgo.len
      have hsz := hbel.size
      obtain ⟨A2, c2, rfl, _⟩ := hf.form
      obtain ⟨A3, c3, rfl, _⟩ := hlist.len
      clear hsl hgo hgr hf hlist hbel HL1 O1 HL0
      by_cases hlt : acc.length < 24
      · go_wp2_with fail
        refine (shorten_any r _ c _ HR.out HFF.out.rd (by omega)).mono ?_
        rintro e w2 ⟨hsr, b2⟩
        have B2 := Lib.hid b2
        have HB2 := Lib.hid (HB.out.trans (b2.mono hsz))
        have hs2 := b2.size
        clear b2
        unfold ShRes at hsr
        rcases hsf : shortF r c with _ | d
        · rw [hsf] at hsr
          obtain ⟨F1, rfl⟩ := hsr
          have HE : Hid (redF r xs = (c, acc)) := Lib.hid (by rw [← HGR.out, redGo_none hsf])
          clear hsf
          go_wp2
          go_ret2
          rw [HE.out]
          exact ⟨_, _, rfl, (HFF.out.below B2.out).alloc _, (HLL.out.keep EWh.stable fun b _ hb => (Below.heap_alloc _ _ b (by omega)).trans (B2.out.block b hb)).widen (Nat.le_refl _) (by simp; omega), HB2.out.alloc (by omega) _⟩
        · rw [hsf] at hsr
          obtain ⟨S, F1, m, rfl, hi, hS, hSm, hF, hlm⟩ := hsr
          obtain ⟨L, ys⟩ := d
          have HE : Hid (redGo r (24 - (acc.length + 1)) (cycF (whX r (L, ys) c)) (acc ++ [(L, ys)]) = redF r xs) := Lib.hid (by
            rw [← HGR.out, show 24 - acc.length = (24 - (acc.length + 1)) + 1 by omega, redGo_some hsf])
          have HGN := Lib.hid (goodF_next HGO.out hsf)
          have HI := Lib.hid hi
          have HS := Lib.hid hS
          have HFN := Lib.hid hF
          have HLM := Lib.hid (hF.mono hlm)
          obtain ⟨A5, c5, rfl, _⟩ := OwI.form hS
          obtain ⟨A6, c6, rfl, _⟩ := OwI.form hF
          obtain ⟨i0, hi0, hz0, hz1, hz2⟩ := info_parts wh_info
          have hib := HI.out.1
          have hib2 := HI.out.2
          have HLT := Lib.hid (fun b (hb : (Value.slice A5 ys.length c5).ownBlock = some b) => HS.out.1.lt b hb)
          clear hsf hi hS hSm hF hlm
          have HPF := Lib.hid (fun b (hb : (Value.slice A6 (cycF (whX r (L, ys) c)).length c6).ownBlock = some b) => (HLM.out.1.lt b hb).1)
          have HPL := Lib.hid (fun b (hb : (Value.slice A3 acc.length c3).ownBlock = some b) => (HLL.out.lt hb).2)
          go_wp2_with (at_builtin; refine push_own EWh.stable rfl (.tmp 33) (.tmp 35) rfl Try.underlying49 hi0 hz0 hz1 hz2 rfl (by decide) (by decide) (w0 := wr) HLL.out hsz ((B2.out.alloc hs2 _).alloc (by simp; omega) _) rfl _ [.int .i64 L, .slice A5 ys.length c5] (L, ys) _ rfl (EWh.of HI.out ((HS.out.alloc _).alloc _)) rfl (opt_nodup _) ?_ ?_ ?_ (by omega) ?_; (intro b hb; have h9 := HLT.out b (by simpa using hb); simp; omega); (intro j u hj; match j, hj with | 0, hj => (simp at hj; subst hj; simp [go_sem]) | 1, hj => (simp at hj; subst hj; simp [go_sem])); (intro u hu; simp at hu; rcases hu with rfl | rfl <;> rfl); intro v3 w3 o3 g3; obtain ⟨A7, c7, rfl, _⟩ := OwnL.len o3; have O3 := Lib.hid o3; have G3 := Lib.hid g3; clear o3 g3)
          go_roundw
          case rel =>
            refine ⟨cycF (whX r (L, ys) c), acc ++ [(L, ys)], by simp [slLen], by simp; omega, HGN.out, by simpa using HE.out, ?_, by simpa using O3.out, bel_own (((HB.out.trans (B2.out.mono hsz)).alloc (by omega) _).alloc (by simp; omega) _) HLL.out (Nat.le_refl _) (by simp; omega) G3.out⟩
            refine OwI.mono (base := wr.heap.size) (((HLM.out.alloc _).alloc _).kept G3.out ?_) hsz
            cases hF : (Value.slice A6 (cycF (whX r (L, ys) c)).length c6).ownBlock with
            | none => exact .inl rfl
            | some b =>
              refine .inr fun e => ?_
              have h1 := HPF.out b hF
              have h2 := HPL.out b e.symm
              omega
          case measure => simp [slLen]; omega
      · have he : acc.length = 24 := by omega
        have HE : Hid (redF r xs = (c, acc)) := Lib.hid (by rw [← HGR.out, he]; rfl)
        clear he
        go_wp2
        go_ret2
        rw [HE.out]
        exact ⟨_, _, rfl, HFF.out, HLL.out, HB.out⟩
set_option maxHeartbeats 2000000 in
theorem specReduceCyclic_any (r : Int) (v : Value) (xs : List Int) (w : World) (hr : I64 r) (h : RdI w v xs) (hl : xs.length ≤ 1048576) :
    Calls Try.prog 35 #[.int .i64 r, v] w fun e w' => ∃ s t, e = .returned (.tuple #[s, t]) ∧ OwI w' w.heap.size s (redF r xs).1 ∧ OWhS w.heap.size w'.heap.size t (redF r xs).2 w' ∧ Below w.heap.size w w' := by
  have H := Lib.hid h
  obtain ⟨A, cap, rfl, hcap, hm, _⟩ := h.arg
  have HR := Lib.hid hr
  clear h hr
  have HL0 : Hid (OWhS w.heap.size (w.alloc (.cells #[] 57)).heap.size (.slice (some ⟨w.heap.size, 0, none⟩) 0 0) [] (w.alloc (.cells #[] 57))) := Lib.hid (OWhS_nil w (Nat.le_refl _))
  have HB0 : Hid (Below w.heap.size w (w.alloc (.cells #[] 57))) := Lib.hid ((Below.refl _ _).alloc (Nat.le_refl _) _)
  have H0 := Lib.hid (H.out.below HB0.out)
  rcases ew : wordB r xs with _ | _
  · have F : Hid (redF r xs = ([], [])) := Lib.hid (by unfold redF; rw [ew]; rfl)
    go_enter Try.func35, Try.ntmps35
    go_wp2_with fail
    generalize w.alloc (Obj.cells #[] 57) = w0 at HL0 HB0 H0 ⊢
    have C := specIsWord_any r _ xs _ H0.out.arg (by omega)
    rw [ew] at C
    refine C.mono ?_
    rintro e w' ⟨rfl, n, rfl⟩
    clear C
    have hs0 := HB0.out.size
    go_wp2
    go_ret2
    rw [F.out]
    exact ⟨_, _, rfl, OwI_lit _ [] I64s_nil (by simp) hs0, (HL0.out.keep EWh.stable fun b _ hb => Below.heap_alloc (w0.drewN n) _ b hb).widen (Nat.le_refl _) (by simp), (bel_drewN HB0.out n).alloc hs0 _⟩
  · have F : Hid (redF r xs = redGo r 24 (cycF xs) []) := Lib.hid (by unfold redF; rw [ew]; rfl)
    have HG := Lib.hid (goodF_cyc ew)
    go_enter Try.func35, Try.ntmps35
    go_wp2_with fail
    generalize w.alloc (Obj.cells #[] 57) = w0 at HL0 HB0 H0 ⊢
    have C := specIsWord_any r _ xs _ H0.out.arg (by omega)
    rw [ew] at C
    refine C.mono ?_
    rintro e w' ⟨rfl, n, rfl⟩
    clear C
    have hs0 := HB0.out.size
    go_wp2_with fail
    refine (specCyclicForm_any _ xs _ (H0.out.drewN n) (by omega)).mono ?_
    rintro e w1 ⟨s1, rfl, o1, b1⟩
    have O1 := Lib.hid (o1.mono hs0)
    have HB1 := Lib.hid ((bel_drewN HB0.out n).trans (b1.mono hs0))
    have HL1 := Lib.hid ((HL0.out.keep EWh.stable (w' := w1) fun b _ hb => b1.block b hb).widen (Nat.le_refl _) b1.size)
    clear o1 b1
    go_wp2_with fail
    go_loopw [6, 7, 8] (fun l f i wr => ∃ (k : Nat) (c : List Int) (acc : List WhD), k ≤ 24 ∧ i = .int .i64 k ∧ acc.length = k ∧ goodF r c ∧ redGo r (24 - k) c acc = redF r xs ∧ OwI wr w.heap.size f c ∧ OWhS w.heap.size wr.heap.size l acc wr ∧ Below w.heap.size w wr)
      (fun _ _ i _ => 24 - (intOf i).toNat)
    case atStart => exact ⟨0, cycF xs, [], by omega, rfl, rfl, HG.out, F.out.symm, O1.out, HL1.out, HB1.out⟩
    case round =>
      obtain ⟨k, c, acc, hk, rfl, hak, hgo, hgr, hf, hlist, hbel⟩ := hrel
      have HGO := Lib.hid hgo
      have HGR := Lib.hid hgr
      have HFF := Lib.hid hf
      have HLL := Lib.hid hlist
      have HB := Lib.hid hbel
      have hcl := hgo.len
      have hsz := hbel.size
      have HAK := Lib.hid hak
      have hal : acc.length ≤ 24 := by omega
      obtain ⟨A2, c2, rfl, _⟩ := hf.form
      obtain ⟨A3, c3, rfl, _⟩ := hlist.len
      clear hgo hgr hf hlist hbel HL1 O1 HL0 hak
      by_cases hlt : k < 24
      · go_wp2_with fail
        rcases hsf : shortF r c with _ | d
        · have C := specShortenCyclic_any r _ c _ HR.out HFF.out.rd (by omega)
          rw [shF_none HGO.out hsf] at C
          refine C.mono ?_
          rintro e w2 ⟨t2, rfl, o2, b2⟩
          have B2 := Lib.hid b2
          have HB2 := Lib.hid (HB.out.trans (b2.mono hsz))
          have hs2 := b2.size
          obtain ⟨S2, rfl, _, hS2⟩ := o2
          obtain ⟨A8, c8, rfl, _⟩ := OwI.form hS2
          have HE : Hid (redF r xs = (c, acc)) := Lib.hid (by rw [← HGR.out, redGo_none hsf])
          clear hsf b2 C hS2
          go_wp2
          go_ret2
          rw [HE.out]
          exact ⟨_, _, rfl, (HFF.out.below B2.out).alloc _, (HLL.out.keep EWh.stable fun b _ hb => (Below.heap_alloc _ _ b (by omega)).trans (B2.out.block b hb)).widen (Nat.le_refl _) (by simp; omega), HB2.out.alloc (by omega) _⟩
        · have C := specShortenCyclic_any r _ c _ HR.out HFF.out.rd (by omega)
          rw [shF_some HGO.out hsf] at C
          refine C.mono ?_
          rintro e w2 ⟨t2, rfl, o2, b2⟩
          have B2 := Lib.hid b2
          have HB2 := Lib.hid (HB.out.trans (b2.mono hsz))
          have hs2 := b2.size
          obtain ⟨S2, rfl, hi, hS⟩ := o2
          obtain ⟨L, ys⟩ := d
          have HE : Hid (redGo r (24 - (k + 1)) (cycF (whX r (L, ys) c)) (acc ++ [(L, ys)]) = redF r xs) := Lib.hid (by
            rw [← HGR.out, show 24 - k = (24 - (k + 1)) + 1 by omega, redGo_some hsf])
          have HGN := Lib.hid (goodF_next HGO.out hsf)
          have HI : Hid (I64 L) := Lib.hid hi
          have HS : Hid (OwI w2 wr.heap.size S2 ys) := Lib.hid hS
          obtain ⟨A5, c5, rfl, _⟩ := OwI.form HS.out
          have hyl : ys.length ≤ 1073741824 := (allWh_nums r).2 (L, ys) (List.mem_of_find?_eq_some hsf)
          obtain ⟨i0, hi0, hz0, hz1, hz2⟩ := info_parts wh_info
          have hib := HI.out.1
          have hib2 := HI.out.2
          have HLT := Lib.hid (fun b (hb : (Value.slice A5 ys.length c5).ownBlock = some b) => HS.out.1.lt b hb)
          have hx0 : (w2.alloc (Obj.cells #[Value.int IntKind.i64 L, Value.slice A5 ys.length c5] 57)).cell? ⟨w2.heap.size, 0, none⟩ = some (.int .i64 L) := by simp [go_sem]
          have hx1 : (w2.alloc (Obj.cells #[Value.int IntKind.i64 L, Value.slice A5 ys.length c5] 57)).cell? ⟨w2.heap.size, 1, none⟩ = some (.slice A5 ys.length c5) := by simp [go_sem]
          have hxz : w2.heap.size < (w2.alloc (Obj.cells #[Value.int IntKind.i64 L, Value.slice A5 ys.length c5] 57)).heap.size := by simp
          have B3 : Hid (Below wr.heap.size wr (w2.alloc (Obj.cells #[Value.int IntKind.i64 L, Value.slice A5 ys.length c5] 57))) := Lib.hid (B2.out.alloc hs2 _)
          have HS3 := Lib.hid (HS.out.alloc (Obj.cells #[Value.int IntKind.i64 L, Value.slice A5 ys.length c5] 57))
          clear hsf b2 C hS hi
          go_wp2_with fail
          generalize w2.alloc (Obj.cells #[Value.int IntKind.i64 L, Value.slice A5 ys.length c5] 57) = w3 at hx0 hx1 hxz B3 HS3 ⊢
          have hs3 := B3.out.size
          refine (l21Apply_any r _ _ (L, ys) c _ HR.out ⟨_, rfl, HI.out, HS3.out.arg⟩ (HFF.out.rd.below B3.out) hyl (by omega)).mono ?_
          rintro e w4 ⟨F1, rfl, o4, b4⟩
          have B4 := Lib.hid (B3.out.trans (b4.mono hs3))
          have HFN := Lib.hid (o4.mono hs3)
          have HS4 := Lib.hid (HS3.out.below b4)
          have hy0 := (b4.cell (p := ⟨w2.heap.size, 0, none⟩) hxz).trans hx0
          have hy1 := (b4.cell (p := ⟨w2.heap.size, 1, none⟩) hxz).trans hx1
          have hyz := Nat.lt_of_lt_of_le hxz b4.size
          obtain ⟨A6, c6, rfl, _⟩ := OwI.form o4
          clear o4 b4 hx0 hx1
          have hs4 := B4.out.size
          have HPF := Lib.hid (fun b (hb : (Value.slice A6 (cycF (whX r (L, ys) c)).length c6).ownBlock = some b) => (HFN.out.1.lt b hb).1)
          have HPL := Lib.hid (fun b (hb : (Value.slice A3 acc.length c3).ownBlock = some b) => (HLL.out.lt hb).2)
          go_wp2_with (at_builtin; refine push_own EWh.stable rfl (.tmp 38) (.tmp 40) rfl Try.underlying49 hi0 hz0 hz1 hz2 rfl (by decide) (by decide) (w0 := wr) HLL.out hsz (B4.out.alloc hs4 _) rfl _ [.int .i64 L, .slice A5 ys.length c5] (L, ys) _ rfl (EWh.of HI.out (HS4.out.alloc _)) rfl (opt_nodup _) ?_ ?_ ?_ (by omega) ?_; (intro b hb; have h9 := HLT.out b (by simpa using hb); simp; omega); (intro j u hj; match j, hj with | 0, hj => (simp at hj; subst hj; simp [go_sem]) | 1, hj => (simp at hj; subst hj; simp [go_sem])); (intro u hu; simp at hu; rcases hu with rfl | rfl <;> rfl); intro v3 w5 o3 g3; obtain ⟨A7, c7, rfl, _⟩ := OwnL.len o3; have O3 := Lib.hid o3; have G3 := Lib.hid g3; clear o3 g3)
          go_roundw
          case rel =>
            refine ⟨k + 1, cycF (whX r (L, ys) c), acc ++ [(L, ys)], by omega, by go_num, by simp [HAK.out], HGN.out, HE.out, ?_, by simpa using O3.out, bel_own ((HB.out.trans (B4.out.mono hsz)).alloc (by omega) _) HLL.out (Nat.le_refl _) (by simp; omega) G3.out⟩
            refine OwI.mono (base := wr.heap.size) ((HFN.out.alloc _).kept G3.out ?_) hsz
            cases hF : (Value.slice A6 (cycF (whX r (L, ys) c)).length c6).ownBlock with
            | none => exact .inl rfl
            | some b =>
              refine .inr fun e => ?_
              have h1 := HPF.out b hF
              have h2 := HPL.out b e.symm
              omega
          case measure => simp [intOf]; omega
      · obtain rfl : k = 24 := by omega
        have HE : Hid (redF r xs = (c, acc)) := Lib.hid (by rw [← HGR.out]; rfl)
        go_wp2
        go_ret2
        rw [HE.out]
        exact ⟨_, _, rfl, HFF.out, HLL.out, HB.out⟩
def primB (r : Int) (xs : List Int) : Bool := decide ((redF r xs).1.length = 1)
def orbN (r : Int) (xs : List Int) : Int := if wordB r xs then ((redF r xs).1.length : Nat) else -1
theorem redF_bad {r : Int} {xs : List Int} (h : wordB r xs = false) : redF r xs = ([], []) := by unfold redF; rw [h]; rfl
end Go.Proofs.Ytnmkbkpegkchpaa
