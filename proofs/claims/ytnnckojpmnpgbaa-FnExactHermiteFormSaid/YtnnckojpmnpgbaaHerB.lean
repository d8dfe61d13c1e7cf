/- The program's subtract: a multiple of one row is taken from another in place. The reference's l27Less, l27Floor, l27Lead. -/
import Derived.Test.YtnnckojpmnpgbaaHerA
import Derived.Test.YtnnckojpmnpgbaaQuiC
namespace Go.Proofs.Ytnnckojpmnpgbaa
set_option maxRecDepth 20000
set_option linter.unusedVariables false
set_option linter.unusedSimpArgs false
open Go.RowKit

theorem sub_step (xs : List Int) (q : Int) (ys : List Int) (i : Nat) (h : i < xs.length) : ((subR xs q ys).take i ++ xs.drop i).set i (wS xs[i] q (cl ys i)) = (subR xs q ys).take (i + 1) ++ xs.drop (i + 1) := by
  have hl : i < (subR xs q ys).length := by rw [subR_len]; exact h
  have e : (subR xs q ys)[i] = wS xs[i] q (cl ys i) := by
    have h1 := subR_cl xs q ys i h
    unfold cl at h1
    rw [List.getD_eq_getElem?_getD, List.getElem?_eq_getElem hl, List.getD_eq_getElem?_getD, List.getElem?_eq_getElem h] at h1
    exact h1
  rw [List.set_append_right _ _ (by rw [List.length_take]; omega), List.length_take, Nat.min_eq_left (by omega), Nat.sub_self, List.drop_eq_getElem_cons h, List.set_cons_zero, List.take_succ_eq_append_getElem hl, e, List.append_assoc]
  rfl
theorem sub_at (xs : List Int) (q : Int) (ys : List Int) (i : Nat) (h : i < xs.length) (h' : i < ((subR xs q ys).take i ++ xs.drop i).length) : ((subR xs q ys).take i ++ xs.drop i)[i] = xs[i] := by
  have hl : ((subR xs q ys).take i).length = i := by rw [List.length_take, subR_len]; omega
  rw [List.getElem_append_right (by omega), List.getElem_drop]
  congr 1
  omega
theorem cl_get {ys : List Int} {i : Nat} (h : i < ys.length) : cl ys i = ys[i] := by
  unfold cl
  rw [List.getD_eq_getElem?_getD, List.getElem?_eq_getElem h]; rfl
set_option maxHeartbeats 800000 in
theorem subtract_any (v u : Value) (xs ys : List Int) (q : Int) (base : Nat) (w : World) (h : OwI w base v xs) (h' : RdI w u ys) (hne : ∀ b, u.ownBlock = some b → v.ownBlock = some b → False) (hle : xs.length ≤ ys.length) (hl : xs.length ≤ 1073741824) :
    Calls Try.prog 29 #[v, .int .i64 q, u] w fun e w' => e = .returned (.tuple #[]) ∧ OwI w' base v (subR xs q ys) ∧ w.grownBy w' v.ownBlock := by
  have H := Lib.hid h
  have H' := Lib.hid h'
  have HNE := Lib.hid hne
  obtain ⟨Au, capu, rfl, hcu, hmu, _⟩ := h'.arg
  unfold maxLen at hmu
  rcases h.1.2 with ⟨rfl, hn⟩ | ⟨g, cap, cur, rfl, hg, hh, hcap, hm, hcs, htake⟩
  · obtain rfl : xs = [] := List.eq_nil_of_length_eq_zero hn
    clear h h' hne
    go_enter Try.func29, Try.ntmps29
    go_wp2
    refine wp_loop_rounds 1 ?_
    rw [rounds_succ]
    go_wp2
    go_end0
    exact ⟨rfl, ⟨⟨rfl, .inl ⟨rfl, rfl⟩⟩, I64s_nil⟩, World.grownBy.refl _ _⟩
  · unfold maxLen at hm
    clear h h' hne hh hcs htake cur
    go_enter Try.func29, Try.ntmps29
    go_wp2
    go_loopw [9] (fun i wr => ∃ k : Nat, k ≤ xs.length ∧ i = .int .i64 k ∧ OwI wr base (.slice (some ⟨g, 0, none⟩) xs.length cap) ((subR xs q ys).take k ++ xs.drop k) ∧ w.grownBy wr (some g)) (fun i _ => xs.length - (intOf i).toNat)
    case atStart => exact ⟨0, Nat.zero_le _, rfl, by simpa using H.out, World.grownBy.refl _ _⟩
    case round =>
      obtain ⟨k, hk, rfl, hown, hgr⟩ := hrel
      by_cases hlt : k < xs.length
      · have hTl : k < ((subR xs q ys).take k ++ xs.drop k).length := by rw [List.length_append, List.length_take, List.length_drop, subR_len]; omega
        have hc0 := hown.cellAt k hTl
        rw [sub_at xs q ys k hlt hTl] at hc0
        have hf0 := hown.free k
        have hgl : g < wr.heap.size := (hown.1.lt g rfl).2
        obtain ⟨b2, off2, rfl, hb2, hcc⟩ := (H'.out.grown hgr fun b h1 h2 => HNE.out b h1 (by simpa [Value.ownBlock] using h2)).at (by omega)
        have hc1 := hcc k (by omega)
        have HS := Lib.hid (sub_step xs q ys k hlt)
        have hcl : cl ys k = ys[k] := cl_get (by omega)
        rw [hcl] at HS
        have HST : Hid (∀ z, I64 z → OwI (wr.setCell ⟨g, k, none⟩ (.int .i64 z)) base (.slice (some ⟨g, 0, none⟩) xs.length cap) (((subR xs q ys).take k ++ xs.drop k).set k z) ∧ wr.grownBy (wr.setCell ⟨g, k, none⟩ (.int .i64 z)) (some g)) := Lib.hid fun z hz => hown.set k z hz
        have HO := Lib.hid hown
        have HG := Lib.hid hgr
        have hklu : (k : Int) < (ys.length : Int) := by omega
        clear hcc hown hgr hTl hcl
        have HX : Hid (wS xs[k] q ys[k] = wrap64 (xs[k] - wrap64 (q * ys[k]))) := Lib.hid rfl
        generalize xs[k] = x at *
        generalize ys[k] = y at *
        go_wp2_with fail
        have f0 := BelW.cell hc0 hgl
        have f1 := BelW.cell hc1 hb2
        (refine wp_region_quiet_last 14 (by kernel_rfl) (by rfl) (by kernel_rfl) (by kernel_rfl) ?_; dsimp only [dumL, lastL]; (repeat (go_big_quiet_step (fail))); refine wpQuiet_nil ?_; intro wv hw'; obtain ⟨pq, hw''⟩ := hw'; have bv := pq.h; rw [← hw''] at bv; clear hw'' pq)
        have hcv := (bv.cell (p := ⟨g, k, none⟩) hgl).trans hc0
        have hfv := (bv.frozen (p := ⟨g, k, none⟩) hgl).trans hf0
        have HV := Lib.hid bv
        clear bv f0 f1 hc0 hc1 hf0
        go_wp2
        go_roundw
        case rel =>
          have o1 := HO.out.below HV.out
          have g1 : wr.grownBy wv (some g) := ⟨HV.out.os, HV.out.tape, HV.out.output, HV.out.size, fun k hk _ => HV.out.block k hk⟩
          refine ⟨k + 1, by omega, by go_num, ?_, ?_⟩
          · rw [← HS.out, HX.out]
            exact (o1.set k _ (I64_wrap0 _)).1
          · exact (HG.out.trans g1).trans (o1.set k _ (I64_wrap0 _)).2
        case measure => simp [intOf]; omega
      · obtain rfl : k = xs.length := by omega
        rw [List.drop_length, List.append_nil, ← subR_len xs q ys, List.take_length, subR_len] at hown
        have HO := Lib.hid hown
        clear hown
        go_wp2
        go_end0
        exact ⟨rfl, HO.out, hgr⟩
end Go.Proofs.Ytnnckojpmnpgbaa
