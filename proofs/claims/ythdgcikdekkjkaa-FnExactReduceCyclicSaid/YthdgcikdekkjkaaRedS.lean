/- ReduceCyclic of the program: its two results lie apart. -/
import Derived.Test.YthdgcikdekkjkaaRed
import Derived.Test.YthdgcikdekkjkaaOwnP
namespace Go.Proofs.Ythdgcikdekkjkaa
set_option maxRecDepth 20000
set_option linter.unusedVariables false
set_option linter.unusedSimpArgs false
open Go.RowKit

theorem OwnP.len {α : Type} {E : El α} {t : TypeId} {width : Nat} {P : Nat → Prop} {w : World} {v : Value} {ds : List α} (h : OwnP E t width P w v ds) : ∃ A cap, v = .slice A ds.length cap ∧ ds.length ≤ cap ∧ cap ≤ maxLen := by
  obtain ⟨F, ⟨es, h1, h2, h3, rfl⟩, _, hF⟩ := h
  have hl : es.length = ds.length := by rw [← h1]; simp
  rw [hl] at h3
  obtain ⟨A, cap, hv, a, b, _⟩ := owns_form h3
  exact ⟨A, cap, hv, a, b⟩
set_option maxHeartbeats 2000000 in
theorem implReduceCyclic_sep (r : Int) (v : Value) (xs : List Int) (w : World) (hr : I64 r) (h : RdI w v xs) (hl : xs.length ≤ 1048576) :
    Calls Try.prog 73 #[.int .i64 r, v] w fun e w' => ∃ s t, e = .returned (.tuple #[s, t]) ∧ OwI w' w.heap.size s (redF r xs).1 ∧ OwnP EWh 64 2 (fun b => w.heap.size ≤ b ∧ b < w'.heap.size ∧ s.ownBlock ≠ some b) w' t (redF r xs).2 ∧ Below w.heap.size w w' := by
  have H := Lib.hid h
  obtain ⟨A, cap, rfl, hcap, hm, _⟩ := h.arg
  have HR := Lib.hid hr
  clear h hr
  have HL0 : Hid (OWhS w.heap.size (w.alloc (.cells #[] 64)).heap.size (.slice (some ⟨w.heap.size, 0, none⟩) 0 0) [] (w.alloc (.cells #[] 64))) := Lib.hid (OWhS_nil w (Nat.le_refl _))
  have HB0 : Hid (Below w.heap.size w (w.alloc (.cells #[] 64))) := Lib.hid ((Below.refl _ _).alloc (Nat.le_refl _) _)
  have H0 := Lib.hid (H.out.below HB0.out)
  rcases ew : wordB r xs with _ | _
  · have F : Hid (redF r xs = ([], [])) := Lib.hid (by unfold redF; rw [ew]; rfl)
    go_enter Try.func73, Try.ntmps73
    go_wp2_with fail
    generalize w.alloc (Obj.cells #[] 64) = w0 at HL0 HB0 H0 ⊢
    have C := implIsWord_any r _ xs _ H0.out.arg (by omega)
    rw [ew] at C
    refine C.mono ?_
    rintro e w' ⟨rfl, rfl⟩
    clear C
    have hs0 := HB0.out.size
    go_wp2
    go_ret2
    rw [F.out]
    exact ⟨_, _, rfl, OwI_lit _ [] I64s_nil (by simp) hs0, ((OwnP.of HL0.out).keep EWh.stable fun b hb => Below.heap_alloc _ _ b hb.2).mono (fun b hb => ⟨hb.1, by have := hb.2; simp; omega, by simp [Value.ownBlock]; omega⟩), HB0.out.alloc hs0 _⟩
  · have F : Hid (redF r xs = redGo r 24 (cycF xs) []) := Lib.hid (by unfold redF; rw [ew]; rfl)
    have HG := Lib.hid (goodF_cyc ew)
    go_enter Try.func73, Try.ntmps73
    go_wp2_with fail
    generalize w.alloc (Obj.cells #[] 64) = w0 at HL0 HB0 H0 ⊢
    have C := implIsWord_any r _ xs _ H0.out.arg (by omega)
    rw [ew] at C
    refine C.mono ?_
    rintro e w' ⟨rfl, rfl⟩
    clear C
    have hs0 := HB0.out.size
    go_wp2_with fail
    refine (implCyclicForm_any _ xs _ H0.out (by omega)).mono ?_
    rintro e w1 ⟨s1, rfl, o1, b1⟩
    have hsep : ∀ b, b < w0.heap.size → s1.ownBlock ≠ some b := fun b hb e => by have := (o1.1.lt b e).1; omega
    have HSEP := Lib.hid hsep
    have O1 := Lib.hid (o1.mono hs0)
    have HB1 := Lib.hid (HB0.out.trans (b1.mono hs0))
    have HL1 : Hid (OwnP EWh 64 2 (fun b => w.heap.size ≤ b ∧ b < w1.heap.size ∧ s1.ownBlock ≠ some b) w1 (.slice (some ⟨w.heap.size, 0, none⟩) 0 0) []) := Lib.hid (((OwnP.of HL0.out).keep EWh.stable fun b hb => b1.block b hb.2).mono fun b hb => ⟨hb.1, Nat.lt_of_lt_of_le hb.2 b1.size, HSEP.out b hb.2⟩)
    clear o1 b1 hsep
    go_wp2_with fail
    go_loopw [6, 7] (fun l f wr => ∃ (c : List Int) (acc : List WhD), slLen l = acc.length ∧ acc.length ≤ 24 ∧ goodF r c ∧ redGo r (24 - acc.length) c acc = redF r xs ∧ OwI wr w.heap.size f c ∧ OwnP EWh 64 2 (fun b => w.heap.size ≤ b ∧ b < wr.heap.size ∧ f.ownBlock ≠ some b) wr l acc ∧ Below w.heap.size w wr)
      (fun l _ _ => 24 - slLen l)
    case atStart => exact ⟨cycF xs, [], rfl, by simp, HG.out, F.out.symm, O1.out, HL1.out, HB1.out⟩
    case round =>
      obtain ⟨c, acc, hsl, hal, hgo, hgr, hf, hlist, hbel⟩ := hrel
      have HGO := Lib.hid hgo
      have HGR := Lib.hid hgr
      have HFF := Lib.hid hf
      have HLLP := Lib.hid hlist
      have hlist : OWhS w.heap.size wr.heap.size _ acc wr := hlist.own fun b hb => ⟨hb.1, hb.2.1⟩
      have HLL := Lib.hid hlist
      have HB := Lib.hid hbel
      have hcl := hgo.len
      have hsz := hbel.size
      obtain ⟨A2, c2, rfl, _⟩ := hf.form
      obtain ⟨A3, c3, rfl, _⟩ := hlist.len
      clear hsl hgo hgr hf hlist hbel HL1 O1 HL0 HSEP
      by_cases hlt : acc.length < 24
      · go_wp2_with fail
        refine (shorten_any r _ c _ HR.out HFF.out.rd (by omega)).mono ?_
        rintro e w2 ⟨hsr, b2⟩
        have B2 := Lib.hid b2
        have HB2 := Lib.hid (HB.out.trans (b2.mono hsz))
        have hs2 := b2.size
        clear b2
        unfold ShRes at hsr
        rcases hsf : shortF r c with _ | d
        · rw [hsf] at hsr
          obtain ⟨F1, rfl⟩ := hsr
          have HE : Hid (redF r xs = (c, acc)) := Lib.hid (by rw [← HGR.out, redGo_none hsf])
          clear hsf
          go_wp2
          go_ret2
          rw [HE.out]
          exact ⟨_, _, rfl, (HFF.out.below B2.out).alloc _, (HLLP.out.keep EWh.stable fun b hb => (Below.heap_alloc _ _ b (by have := hb.2.1; omega)).trans (B2.out.block b hb.2.1)).mono (fun b hb => ⟨hb.1, by have := hb.2.1; simp; omega, hb.2.2⟩), HB2.out.alloc (by omega) _⟩
        · rw [hsf] at hsr
          obtain ⟨S, F1, m, rfl, hi, hS, hSm, hF, hlm⟩ := hsr
          obtain ⟨L, ys⟩ := d
          have HE : Hid (redGo r (24 - (acc.length + 1)) (cycF (whX r (L, ys) c)) (acc ++ [(L, ys)]) = redF r xs) := Lib.hid (by
            rw [← HGR.out, show 24 - acc.length = (24 - (acc.length + 1)) + 1 by omega, redGo_some hsf])
          have HGN := Lib.hid (goodF_next HGO.out hsf)
          have HI := Lib.hid hi
          have HS := Lib.hid hS
          have HFN := Lib.hid hF
          have HLM := Lib.hid (hF.mono hlm)
          have HSM := Lib.hid hSm
          have HFM := Lib.hid (fun b hb => hF.1.lt b hb)
          have HLMM := Lib.hid hlm
          obtain ⟨A5, c5, rfl, _⟩ := OwI.form hS
          obtain ⟨A6, c6, rfl, _⟩ := OwI.form hF
          obtain ⟨i0, hi0, hz0, hz1, hz2⟩ := info_parts wh_info
          have hib := HI.out.1
          have hib2 := HI.out.2
          have HLT := Lib.hid (fun b (hb : (Value.slice A5 ys.length c5).ownBlock = some b) => HS.out.1.lt b hb)
          clear hsf hi hS hSm hF hlm
          have HPF := Lib.hid (fun b (hb : (Value.slice A6 (cycF (whX r (L, ys) c)).length c6).ownBlock = some b) => (HLM.out.1.lt b hb).1)
          have HPL := Lib.hid (fun b (hb : (Value.slice A3 acc.length c3).ownBlock = some b) => (HLL.out.lt hb).2)
          go_wp2_with (at_builtin; refine push_ownP EWh.stable rfl (.tmp 33) (.tmp 35) rfl Try.underlying22 hi0 hz0 hz1 hz2 rfl (by decide) (by decide) (w0 := wr) HLL.out hsz ((B2.out.alloc hs2 _).alloc (by simp; omega) _) rfl _ [.int .i64 L, .slice A5 ys.length c5] (L, ys) _ rfl (EWh.of HI.out ((HS.out.alloc _).alloc _)) rfl (opt_nodup _) ?_ ?_ ?_ (by omega) ?_; (intro b hb; have h9 := HLT.out b (by simpa using hb); simp; omega); (intro j u hj; match j, hj with | 0, hj => (simp at hj; subst hj; simp [go_sem]) | 1, hj => (simp at hj; subst hj; simp [go_sem])); (intro u hu; simp at hu; rcases hu with rfl | rfl <;> rfl); intro v3 w3 o3 g3 hv3; obtain ⟨A7, c7, rfl, _⟩ := OwnP.len o3; have O3 := Lib.hid o3; have G3 := Lib.hid g3; have hg3 := g3.size; simp at hg3; clear o3 g3 hv3)
          go_roundw
          case rel =>
            refine ⟨cycF (whX r (L, ys) c), acc ++ [(L, ys)], by simp [slLen], by simp; omega, HGN.out, by simpa using HE.out, ?_, ?_, bel_own (((HB.out.trans (B2.out.mono hsz)).alloc (by omega) _).alloc (by simp; omega) _) HLL.out (Nat.le_refl _) (by simp; omega) G3.out⟩
            rotate_left
            · have h9 := O3.out
              simp only [List.length_append, List.length_singleton] at h9
              refine h9.mono fun b hb => ?_
              have hfm := HFM.out
              have hlm := HLMM.out
              rcases hb with hb | hb | hb
              · exact ⟨hb.1, by omega, fun e => by have := (hfm b e).1; omega⟩
              · have h5 := HSM.out b (by simpa using hb)
                have h6 := HLT.out b (by simpa using hb)
                exact ⟨by omega, by omega, fun e => by have := (hfm b e).1; omega⟩
              · have h7 : b = w2.heap.size + 1 + 1 := by simpa using hb.1
                have h8 := hb.2
                exact ⟨by omega, by omega, fun e => by have := (hfm b e).2; omega⟩
            refine OwI.mono (base := wr.heap.size) (((HLM.out.alloc _).alloc _).kept G3.out ?_) hsz
            cases hF : (Value.slice A6 (cycF (whX r (L, ys) c)).length c6).ownBlock with
            | none => exact .inl rfl
            | some b =>
              refine .inr fun e => ?_
              have h1 := HPF.out b hF
              have h2 := HPL.out b e.symm
              omega
          case measure => simp [slLen]; omega
      · have he : acc.length = 24 := by omega
        have HE : Hid (redF r xs = (c, acc)) := Lib.hid (by rw [← HGR.out, he]; rfl)
        clear he
        go_wp2
        go_ret2
        rw [HE.out]
        exact ⟨_, _, rfl, HFF.out, HLLP.out, HB.out⟩
end Go.Proofs.Ythdgcikdekkjkaa
