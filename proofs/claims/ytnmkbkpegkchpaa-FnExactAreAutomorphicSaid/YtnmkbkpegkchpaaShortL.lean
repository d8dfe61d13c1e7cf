/- ShortenCyclic of the reference and of the program. -/
import Derived.Test.YtnmkbkpegkchpaaShort
namespace Go.Proofs.Ytnmkbkpegkchpaa
set_option maxRecDepth 20000
set_option linter.unusedVariables false
set_option linter.unusedSimpArgs false
open Go.RowKit

theorem shF_cnt (r : Int) (xs : List Int) : (shF r xs).1.2.length ≤ 1073741824 := by
  unfold shF
  split
  · split
    · rename_i d h
      exact (allWh_nums r).2 d (List.mem_of_find?_eq_some h)
    · simp
  · simp
theorem wh0 (w : World) (base : Nat) : OwWh w base (.agg #[.int .i64 0, .slice none 0 0]) (0, []) := ⟨_, rfl, ⟨by omega, by omega⟩, ⟨⟨rfl, .inl ⟨rfl, rfl⟩⟩, I64s_nil⟩⟩
set_option maxHeartbeats 2000000 in
theorem specShortenCyclic_any (r : Int) (v : Value) (xs : List Int) (w : World) (hr : I64 r) (h : RdI w v xs) (hl : xs.length ≤ 1048576) :
    Calls Try.prog 52 #[.int .i64 r, v] w fun e w' => ∃ t, e = .returned (.tuple #[t, .bool (shF r xs).2]) ∧ OwWh w' w.heap.size t (shF r xs).1 ∧ Below w.heap.size w w' := by
  have H := Lib.hid h
  obtain ⟨A, cap, rfl, hcap, hm, _⟩ := h.arg
  have HR := Lib.hid hr
  clear h hr
  have hb0 : Below w.heap.size w (w.alloc (Obj.cells #[Value.int IntKind.i64 0, Value.slice none 0 0] 57)) := (by repeat (first | exact Below.refl _ _ | (refine Below.setCell ?_ (by first | omega | (simp <;> omega)) _) | (refine bel_drewN ?_ _) | (refine Below.drew ?_) | (refine Below.alloc ?_ (by first | omega | (simp <;> omega)) _)))
  have HB0 := Lib.hid hb0
  have H0 := Lib.hid (H.out.below hb0)
  have hq : ∀ o, (w.alloc (Obj.cells #[Value.int IntKind.i64 0, Value.slice none 0 0] 57)).frozen? ⟨w.heap.size, o, none⟩ = false := fun o => by simp [go_sem]
  have hq0 : (w.alloc (Obj.cells #[Value.int IntKind.i64 0, Value.slice none 0 0] 57)).cell? ⟨w.heap.size, 0, none⟩ = some (.int .i64 0) := by simp [go_sem]
  have hq1 : (w.alloc (Obj.cells #[Value.int IntKind.i64 0, Value.slice none 0 0] 57)).cell? ⟨w.heap.size, 1, none⟩ = some (.slice none 0 0) := by simp [go_sem]
  have hz0 : w.heap.size < (w.alloc (Obj.cells #[Value.int IntKind.i64 0, Value.slice none 0 0] 57)).heap.size := by simp
  clear hb0
  rcases ew : wordB r xs with _ | _
  · have F : Hid (shF r xs = ((0, []), false)) := Lib.hid (by unfold shF; rw [ew]; rfl)
    go_enter Try.func52, Try.ntmps52
    go_wp2_with fail
    generalize w.alloc (Obj.cells #[Value.int IntKind.i64 0, Value.slice none 0 0] 57) = w0 at HB0 H0 hq hq0 hq1 hz0 ⊢
    have C := specIsWord_any r _ xs _ H0.out.arg (by omega)
    rw [ew] at C
    refine C.mono ?_
    rintro e w' ⟨rfl, n, rfl⟩
    clear C
    go_wp2
    refine bodyPost_ret (v := .tuple #[.agg #[.int .i64 0, .slice none 0 0], .bool false]) (by simp [results, Try.results52, go_sem, hz0, hq0, hq1]) rfl ⟨_, by rw [F.out], by rw [F.out]; exact wh0 _ _, (by repeat (first | exact Below.refl _ _ | (refine Below.setCell ?_ (by first | omega | (simp <;> omega)) _) | (refine bel_drewN ?_ _) | (refine Below.drew ?_) | (refine Below.alloc ?_ (by first | omega | (simp <;> omega)) _) | (refine Below.trans ?_ (Below.mono (Hid.out HB0) (by first | omega | (simp <;> omega))))))⟩
  · have hcl : (cycF xs).length ≤ 24 := Nat.le_trans (cycF_len xs) (wordB_len ew)
    have HN := Lib.hid (allWh_nums r)
    have HSH : Hid (shF r xs = match shortF r (cycF xs) with | some d => (d, true) | none => ((0, []), false)) := Lib.hid (by unfold shF; rw [ew, if_pos rfl]; cases shortF r (cycF xs) <;> rfl)
    go_enter Try.func52, Try.ntmps52
    go_wp2_with fail
    generalize w.alloc (Obj.cells #[Value.int IntKind.i64 0, Value.slice none 0 0] 57) = w0 at HB0 H0 hq hq0 hq1 hz0 ⊢
    have C := specIsWord_any r _ xs _ H0.out.arg (by omega)
    rw [ew] at C
    refine C.mono ?_
    rintro e w' ⟨rfl, n, rfl⟩
    clear C ew
    go_wp2_with fail
    refine (specCyclicForm_any _ xs _ (H0.out.drewN n) (by omega)).mono ?_
    rintro e w1 ⟨s1, rfl, o1, b1⟩
    have hz0' : w.heap.size < (w0.drewN n).heap.size := hz0
    have O1 := Lib.hid o1
    have HB1 := Lib.hid ((bel_drewN HB0.out n).trans (b1.mono (Nat.le_of_lt hz0')))
    have hf1 := fun o => (b1.frozen (p := ⟨w.heap.size, o, none⟩) hz0').trans (hq o)
    have hc0 := (b1.cell (p := ⟨w.heap.size, 0, none⟩) hz0').trans hq0
    have hc1 := (b1.cell (p := ⟨w.heap.size, 1, none⟩) hz0').trans hq1
    have hz1 : w.heap.size < w1.heap.size := Nat.lt_of_lt_of_le hz0' b1.size
    obtain ⟨A1, c1, rfl, _⟩ := OwI.form o1
    clear o1 b1 hq hq0 hq1 H0 HB0 hz0 hz0'
    go_wp2_with fail
    refine (specAllWhitehead_any r _).mono ?_
    rintro e w2 ⟨lv, rfl, ol, b2⟩
    have OL := Lib.hid ol
    have HB2 := Lib.hid (HB1.out.trans (b2.mono (Nat.le_of_lt hz1)))
    have HC := Lib.hid (O1.out.below b2)
    have hf2 := fun o => (b2.frozen (p := ⟨w.heap.size, o, none⟩) hz1).trans (hf1 o)
    have hd0 := (b2.cell (p := ⟨w.heap.size, 0, none⟩) hz1).trans hc0
    have hd1 := (b2.cell (p := ⟨w.heap.size, 1, none⟩) hz1).trans hc1
    have hz2 : w.heap.size < w2.heap.size := Nat.lt_of_lt_of_le hz1 b2.size
    obtain ⟨Al, cl, rfl, hcl2, hml, _⟩ := ol.len
    clear b2 hf1 hc0 hc1 ol
    unfold maxLen at hml
    have hnum := HN.out.1
    generalize hcx : cycF xs = c at *
    clear hcx
    go_wp2_with fail
    go_loopw [8] (fun i wr => ∃ k : Nat, k ≤ (allWh r).length ∧ i = .int .i64 k ∧ ((allWh r).drop k).find? (fun d => decide ((coreF (whX r d c)).length < c.length)) = shortF r c ∧ Below w2.heap.size w2 wr)
      (fun i _ => (allWh r).length - (intOf i).toNat)
    case atStart => exact ⟨0, Nat.zero_le _, rfl, rfl, Below.refl _ _⟩
    case round =>
      obtain ⟨k, hk, rfl, hfind, hbel⟩ := hrel
      have HF := Lib.hid hfind
      have hsz := hbel.size
      have HB := Lib.hid hbel
      clear hfind
      by_cases hlt : k < (allWh r).length
      · obtain ⟨g, cs, Fe, rfl, hg0, hg1, hE, hcw, hFe, _, hcc, _⟩ := (OL.out.keep EWh.stable (w' := wr) fun b _ hb => hbel.block b hb).focus EWh.stable hlt
        obtain ⟨s0, rfl, hi0, ho0, rfl⟩ := hE
        have e0 := hcc 0 (by simp)
        have e1 := hcc 1 (by simp)
        simp only [List.getElem_cons_zero, List.getElem_cons_succ, Nat.add_zero] at e0 e1
        have HS := Lib.hid (find_succ r c k hlt)
        have hdl := HN.out.2 (allWh r)[k] (by simp)
        have HO0 := Lib.hid ho0
        have HFE := Lib.hid hFe
        have HI0 := Lib.hid hi0
        have hgw : g < wr.heap.size := by omega
        clear hcc hFe hi0 hbel ho0
        generalize (allWh r)[k] = d at e0 HS hdl HO0 HI0
        obtain ⟨L, ys⟩ := d
        obtain ⟨A2, c2, rfl, _⟩ := OwI.form HO0.out
        go_wp2_with fail
        refine (l21Apply_any r _ _ (L, ys) c _ HR.out ⟨_, rfl, HI0.out, HO0.out.arg⟩ (HC.out.rd.below HB.out) hdl (by omega)).mono ?_
        rintro e w3 ⟨s3, rfl, o3, b3⟩
        have hcll := cycF_clen (whX r (L, ys) c)
        obtain ⟨A3, c3, rfl, _⟩ := OwI.form o3
        rw [hcll]
        have HB3 := Lib.hid (HB.out.trans (b3.mono hsz))
        have g0 := (b3.cell (p := ⟨g, k * 2, none⟩) hgw).trans e0
        have g1 := (b3.cell (p := ⟨g, k * 2 + 1, none⟩) hgw).trans e1
        have hgw3 := Nat.lt_of_lt_of_le hgw b3.size
        clear o3 b3 hcll e0 e1
        have hs3 := HB3.out.size
        rcases et : decide ((coreF (whX r (L, ys) c)).length < c.length) with _ | _
        · have HF2 := HS.out
          rw [et] at HF2
          have HF3 : Hid (((allWh r).drop (k + 1)).find? (fun d => decide ((coreF (whX r d c)).length < c.length)) = shortF r c) := Lib.hid (by rw [← HF.out, HF2]; rfl)
          have et2 : ¬ (coreF (whX r (L, ys) c)).length < c.length := by simpa using et
          clear HF2 et
          go_wp2
          go_roundw
          case rel => exact ⟨k + 1, by omega, by go_num, HF3.out, HB3.out⟩
          case measure => simp [intOf]; omega
        · have HF2 := HS.out
          rw [et] at HF2
          have HF3 : Hid (shortF r c = some (L, ys)) := Lib.hid (by rw [← HF.out, HF2]; rfl)
          have et2 : (coreF (whX r (L, ys) c)).length < c.length := by simpa using et
          clear HF2 et
          have r0 := (HB3.out.cell (p := ⟨w.heap.size, 0, none⟩) hz2).trans hd0
          have r1 := (HB3.out.cell (p := ⟨w.heap.size, 1, none⟩) hz2).trans hd1
          have rf := fun o => (HB3.out.frozen (p := ⟨w.heap.size, o, none⟩) hz2).trans (hf2 o)
          have hz3 : w.heap.size < w3.heap.size := by omega
          have F : Hid (shF r xs = ((L, ys), true)) := Lib.hid (by rw [HSH.out, HF3.out])
          have HBF := Lib.hid (HB2.out.trans (HB3.out.mono (Nat.le_of_lt hz2)))
          have hS : OwI w3 w1.heap.size (.slice A2 ys.length c2) ys := by
            refine OwI.alone ⟨ownsRow_keep HO0.out.1 fun b hb => ?_, HO0.out.2⟩ fun b hb => ?_
            · have h1 := HFE.out b (by simp [hb])
              exact (HB3.out.block b h1.2.1).trans (HB.out.block b h1.2.1).symm
            · exact (HFE.out b (by simp [hb])).1
          have HSS := Lib.hid hS
          clear hS hd0 hd1 hf2
          go_wp2
          refine bodyPost_ret (v := .tuple #[.agg #[.int .i64 L, .slice A2 ys.length c2], .bool true]) (by simp [results, Try.results52, go_sem, hz3, r0, r1]) rfl ⟨_, by rw [F.out], ?_, (by repeat (first | exact Below.refl _ _ | (refine Below.setCell ?_ (by first | omega | (simp <;> omega)) _) | (refine bel_drewN ?_ _) | (refine Below.drew ?_) | (refine Below.alloc ?_ (by first | omega | (simp <;> omega)) _) | (refine Below.trans ?_ (Below.mono (Hid.out HBF) (by first | omega | (simp <;> omega))))))⟩
          rw [F.out]
          exact ⟨_, rfl, HI0.out, ((OwI.far HSS.out (p := ⟨w.heap.size, 0, none⟩) hz1 _).far (p := ⟨w.heap.size, 1, none⟩) hz1 _).mono (Nat.le_of_lt hz1)⟩
      · obtain rfl : k = (allWh r).length := by omega
        have HE : Hid (shortF r c = none) := Lib.hid (by rw [← HF.out]; simp)
        have F : Hid (shF r xs = ((0, []), false)) := Lib.hid (by rw [HSH.out, HE.out])
        have hzr : w.heap.size < wr.heap.size := by omega
        have r0 := (hbel.cell (p := ⟨w.heap.size, 0, none⟩) hz2).trans hd0
        have r1 := (hbel.cell (p := ⟨w.heap.size, 1, none⟩) hz2).trans hd1
        have rf := fun o => (hbel.frozen (p := ⟨w.heap.size, o, none⟩) hz2).trans (hf2 o)
        have HW := Lib.hid (HB2.out.trans (hbel.mono (Nat.le_of_lt hz2)))
        clear hbel hd0 hd1 hf2
        go_wp2
        refine bodyPost_ret (v := .tuple #[.agg #[.int .i64 0, .slice none 0 0], .bool false]) (by simp [results, Try.results52, go_sem, hzr, r0, r1]) rfl ⟨_, by rw [F.out], by rw [F.out]; exact wh0 _ _, (by repeat (first | exact Below.refl _ _ | (refine Below.setCell ?_ (by first | omega | (simp <;> omega)) _) | (refine bel_drewN ?_ _) | (refine Below.drew ?_) | (refine Below.alloc ?_ (by first | omega | (simp <;> omega)) _) | (refine Below.trans ?_ (Below.mono (Hid.out HW) (by first | omega | (simp <;> omega))))))⟩
end Go.Proofs.Ytnmkbkpegkchpaa
