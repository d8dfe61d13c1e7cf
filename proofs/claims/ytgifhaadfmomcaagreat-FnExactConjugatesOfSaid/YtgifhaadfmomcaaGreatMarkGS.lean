/- Lists of graphs in the laws: marked and held. -/
import Derived.Test.YtgifhaadfmomcaaGreatMarkG
import Derived.Test.YtgifhaadfmomcaaGreatLawGS
import Derived.Test.YtgifhaadfmomcaaGreatMark
namespace Go.Proofs.YtgifhaadfmomcaaGreat
set_option maxRecDepth 20000
set_option linter.unusedVariables false
set_option linter.unusedSimpArgs false
open Go.RowKit

def cG (d : GrD) : Nat := 3 * d.2.2.length + 2
def mG (k : Int) (d : GrD) : GrD := (k, k + 1, mkE (k + 2) d.2.2.length)
theorem mkE_get (k : Int) (n j : Nat) (h : j < n) (h' : j < (mkE k n).length) : (mkE k n)[j] = (k + 3 * (j : Int), k + 3 * (j : Int) + 1, k + 3 * (j : Int) + 2) := by simp [mkE]
set_option maxHeartbeats 800000 in
theorem heldEdgeS_any (v : Value) (n : Nat) (k : Int) (w : World) (h : ArgE w v (mkE k n)) (hl : n ≤ 1073741824) (hk0 : 0 ≤ k) (hk : k ≤ 1125899906842624) :
    Calls Tryz.prog 31 #[v, .int .i64 k] w fun e w' => e = .returned (.int .i64 (k + 3 * (n : Int))) ∧ w = w' := by
  obtain ⟨A, cap, rfl⟩ := h.form
  have H := Lib.hid h
  clear h
  rw [mkE_len] at H ⊢
  go_enter Tryz.func31, Tryz.ntmps31
  go_wp2
  go_loop [1, 5] (fun kk i => ∃ j : Nat, j ≤ n ∧ i = .int .i64 j ∧ kk = .int .i64 (k + 3 * (j : Int))) (fun _ i => n - (intOf i).toNat)
  case atStart => exact ⟨0, Nat.zero_le _, rfl, by simp⟩
  case round =>
    obtain ⟨j, hj, rfl, rfl⟩ := hrel
    by_cases hlt : j < n
    · obtain ⟨b, off, rfl, _, c0, c1, c2, _⟩ := H.out.at (k := j) (by rw [mkE_len]; exact hlt)
      rw [mkE_get k n j hlt] at c0 c1 c2
      have hw1 : IntKind.i64.wrap (k + 3 * (j : Int) + 1) = k + 3 * (j : Int) + 1 := by rw [IntKind.wrap_i64]; omega
      have hw2 : IntKind.i64.wrap (k + 3 * (j : Int) + 1 + 1) = k + 3 * (j : Int) + 2 := by rw [IntKind.wrap_i64]; omega
      have hw3 : IntKind.i64.wrap (k + 3 * (j : Int) + 2 + 1) = k + 3 * (j : Int) + 3 := by rw [IntKind.wrap_i64]; omega
      go_wp2
      go_round
      case rel => exact ⟨j + 1, by omega, by go_num, by go_num⟩
      case measure => simp [intOf]; omega
    · obtain rfl : j = n := by omega
      go_wp2
      go_ret
      exact ⟨rfl, rfl⟩
set_option maxHeartbeats 1000000 in
theorem markGraphS_ob (v : Value) (ds : List GrD) (k : Int) (lo hi : Nat) (w : World) (h : Ob (OGS lo hi v ds) lo hi w)
    (hl : cntL cG ds ≤ 1073741824) (hk0 : 0 ≤ k) (hk : k ≤ 1125890000000000) :
    Calls Tryz.prog 13 #[v, .int .i64 k] w fun e w' => e = .returned (.int .i64 (k + cntL cG ds)) ∧ Ob (OGS lo hi v (mkL cG mG k ds)) lo hi w' ∧ Tr lo hi w w' := by
  obtain ⟨A, cap, rfl, hcap, hm, _⟩ := h.holds.len
  unfold maxLen at hm
  have hle := h.le
  have H := Lib.hid h.holds
  have HLOC : Hid (∀ ds', Loc (OGS lo hi (.slice A ds.length cap) ds') lo hi) := Lib.hid fun ds' _ _ hu hb => OwnL.keep hu EG.stable hb
  clear h
  go_enter Tryz.func13, Tryz.ntmps13
  go_wp2
  go_loopw [1, 5] (fun kk i wr => ∃ j : Nat, j ≤ ds.length ∧ i = .int .i64 j ∧ kk = .int .i64 (k + (cntL cG (ds.take j) : Nat)) ∧ OGS lo hi (.slice A ds.length cap) (mkAt cG mG k ds j) wr ∧ Tr lo hi w wr)
    (fun _ i _ => ds.length - (intOf i).toNat)
  case atStart => exact ⟨0, Nat.zero_le _, rfl, by simp [cntL], by rw [mkAt_zero]; exact H.out, ⟨rfl, rfl, rfl, Nat.le_refl _, fun _ _ _ => rfl⟩⟩
  case round =>
    obtain ⟨j, hj, rfl, rfl, hown, ht⟩ := hrel
    have hsz := ht.size
    by_cases hlt : j < ds.length
    · have hml := mkAt_length (c := cG) (m := mG) k ds j
      obtain ⟨g, cs, Fe, rfl, hg1, hg2, hE, hcw, hFe, hnd, hc, hfz, hgs, hfin⟩ := hown.focus EG.stable (k := j) (by rw [hml]; exact hlt)
      rw [mkAt_get k ds j hlt] at hE
      obtain ⟨s, rfl, hi1, hi2, ho, rfl⟩ := hE
      have c0 := hc 0 (by simp)
      have c1 := hc 1 (by simp)
      have c2 := hc 2 (by simp)
      simp only [List.getElem_cons_zero, List.getElem_cons_succ, Nat.add_zero] at c0 c1 c2
      have hf0 := hfz (j * 3)
      have hf1 := hfz (j * 3 + 1)
      have hcnt := cntL_at (c := cG) ds j hlt
      have HSUC := Lib.hid (cntL_succ (c := cG) ds j hlt)
      have HSET := Lib.hid (mkAt_succ (c := cG) (m := mG) k ds j hlt)
      have HT := Lib.hid ht
      have HO := Lib.hid ho
      have HFE := Lib.hid hFe
      have HFIN := Lib.hid hfin
      have hcd : cG ds[j] = 3 * ds[j].2.2.length + 2 := rfl
      have hw1 : IntKind.i64.wrap (k + (cntL cG (ds.take j) : Nat) + 1) = k + (cntL cG (ds.take j) : Nat) + 1 := by rw [IntKind.wrap_i64]; omega
      have hw2 : IntKind.i64.wrap (k + (cntL cG (ds.take j) : Nat) + 1 + 1) = k + (cntL cG (ds.take j) : Nat) + 2 := by rw [IntKind.wrap_i64]; omega
      clear hc hfz hfin hFe hnd ht hown ho hml
      go_wp2_with fail
      refine (markEdgeS_any s ds[j].2.2 _ 0 _ ?_ (by omega) (by omega) (by omega)).mono ?_
      · refine ⟨ownsRow_keep HO.out.1 fun b hb => ?_, HO.out.2⟩
        have h1 := HFE.out b (by simp [hb])
        rw [setCell_block _ ⟨g, j * 3 + 1, none⟩ _ b h1.2.2, setCell_block wr ⟨g, j * 3, none⟩ _ b h1.2.2]
      rintro e w9 ⟨rfl, o9, g9⟩
      have O9 := Lib.hid o9
      have G9 := Lib.hid g9
      clear o9 g9
      go_wp2
      go_roundw
      case rel =>
        have hgr : wr.grownBy (wr.setCell ⟨g, j * 3, none⟩ (.int .i64 (k + (cntL cG (ds.take j) : Nat)))) (some g) := setCell_grown wr g (j * 3) _
        have hgr2 : (wr.setCell ⟨g, j * 3, none⟩ (.int .i64 (k + (cntL cG (ds.take j) : Nat)))).grownBy ((wr.setCell ⟨g, j * 3, none⟩ (.int .i64 (k + (cntL cG (ds.take j) : Nat)))).setCell ⟨g, j * 3 + 1, none⟩ (.int .i64 (k + (cntL cG (ds.take j) : Nat) + 1))) (some g) := setCell_grown _ g (j * 3 + 1) _
        have hne : s.ownBlock ≠ some g := fun e => (HFE.out g (by simp [e])).2.2 rfl
        have hgt := hgr.trans hgr2
        have hgz := hgt.size
        refine ⟨j + 1, by omega, by go_num, by rw [HSUC.out]; go_num, ?_, HT.out.trans ((Tr.grown hgt fun b hb => by cases hb; exact ⟨hg1, hg2⟩).trans (Tr.grown G9.out fun b hb => ⟨(HFE.out b (by simp [hb])).1, (HFE.out b (by simp [hb])).2.1⟩))⟩
        rw [← HSET.out]
        refine HFIN.out _ [.int .i64 (k + (cntL cG (ds.take j) : Nat)), .int .i64 (k + (cntL cG (ds.take j) : Nat) + 1), s] _ (fun pre post hp hrow => ?_) rfl ⟨s, rfl, (show I64 (k + (cntL cG (ds.take j) : Nat)) from ⟨by omega, by omega⟩), (show I64 (k + (cntL cG (ds.take j) : Nat) + 1) from ⟨by omega, by omega⟩), ?_, rfl⟩ fun b hb h1 h2 => ?_
        · have r0 := row_store (j := 0) (u := .int .i64 (k + (cntL cG (ds.take j) : Nat))) hrow hp (by simp)
          have r1 := row_store (j := 1) (u := .int .i64 (k + (cntL cG (ds.take j) : Nat) + 1)) r0 hp (by simp)
          exact ownsRow_keep r1 fun b hb => G9.out.block b (by simp [Value.ownBlock] at hb; subst hb; omega) (by rw [← hb]; exact fun e => hne e.symm)
        · have := O9.out
          exact this
        · rw [G9.out.block b (by omega) (fun e => h2 (by simp [← e])), hgt.block b (by omega) (by simpa using h1)]
      case measure => simp [intOf]; omega
    · obtain rfl : j = ds.length := by omega
      rw [List.take_length]
      rw [mkAt_all] at hown
      go_wp2
      go_ret
      exact ⟨rfl, ⟨hown, HLOC.out _, by omega⟩, ht⟩
set_option maxHeartbeats 1000000 in
theorem heldGraphS_ob (v : Value) (ds : List GrD) (k : Int) (lo hi : Nat) (w : World) (h : Ob (OGS lo hi v (mkL cG mG k ds)) lo hi w)
    (hl : cntL cG ds ≤ 1073741824) (hk0 : 0 ≤ k) (hk : k ≤ 1125890000000000) :
    Calls Tryz.prog 14 #[v, .int .i64 k] w fun e w' => e = .returned (.int .i64 (k + cntL cG ds)) ∧ Tr 0 0 w w' := by
  have hml := mkL_length (c := cG) (m := mG) k ds
  obtain ⟨A, cap, rfl, hcap, hm, _⟩ := h.holds.len
  rw [hml] at hcap ⊢
  unfold maxLen at hm
  have H := Lib.hid h.holds
  have HML := Lib.hid hml
  clear h hml
  go_enter Tryz.func14, Tryz.ntmps14
  go_wp2
  go_loop [1, 5] (fun kk i => ∃ j : Nat, j ≤ ds.length ∧ i = .int .i64 j ∧ kk = .int .i64 (k + (cntL cG (ds.take j) : Nat)))
    (fun _ i => ds.length - (intOf i).toNat)
  case atStart => exact ⟨0, Nat.zero_le _, rfl, by simp [cntL]⟩
  case round =>
    obtain ⟨j, hj, rfl, rfl⟩ := hrel
    by_cases hlt : j < ds.length
    · have hcnt := cntL_at (c := cG) ds j hlt
      have hjm : j < (mkL cG mG k ds).length := by rw [HML.out]; exact hlt
      have hget := mkL_get (c := cG) (m := mG) k ds j hlt hjm
      have hh := H.out
      rw [HML.out] at hh
      obtain ⟨g, cs, Fe, rfl, hg1, hg2, hE, hcw, hFe, hnd, hc, _⟩ := hh.focus EG.stable (k := j) hjm
      rw [hget] at hE
      obtain ⟨s, rfl, hi1, hi2, ho, rfl⟩ := hE
      have c0 := hc 0 (by simp)
      have c1 := hc 1 (by simp)
      have c2 := hc 2 (by simp)
      simp only [List.getElem_cons_zero, List.getElem_cons_succ, Nat.add_zero] at c0 c1 c2
      have HSUC := Lib.hid (cntL_succ (c := cG) ds j hlt)
      have hcd : cG ds[j] = 3 * ds[j].2.2.length + 2 := rfl
      have HO := Lib.hid ho
      have c0' : w.cell? ⟨g, j * 3, none⟩ = some (.int .i64 (k + (cntL cG (ds.take j) : Nat))) := c0
      have c1' : w.cell? ⟨g, j * 3 + 1, none⟩ = some (.int .i64 (k + (cntL cG (ds.take j) : Nat) + 1)) := c1
      have hw1 : IntKind.i64.wrap (k + (cntL cG (ds.take j) : Nat) + 1) = k + (cntL cG (ds.take j) : Nat) + 1 := by rw [IntKind.wrap_i64]; omega
      have hw2 : IntKind.i64.wrap (k + (cntL cG (ds.take j) : Nat) + 1 + 1) = k + (cntL cG (ds.take j) : Nat) + 2 := by rw [IntKind.wrap_i64]; omega
      clear hc hFe hnd ho hget hh c0 c1 hi1 hi2
      go_wp2_with fail
      refine (heldEdgeS_any s ds[j].2.2.length _ _ HO.out.arg (by omega) (by omega) (by omega)).mono ?_
      rintro e w9 ⟨rfl, rfl⟩
      go_wp2
      go_round
      case rel => exact ⟨j + 1, by omega, by go_num, by rw [HSUC.out]; go_num⟩
      case measure => simp [intOf]; omega
    · obtain rfl : j = ds.length := by omega
      rw [List.take_length]
      go_wp2
      go_ret
      exact ⟨rfl, Tr.refl _⟩
end Go.Proofs.YtgifhaadfmomcaaGreat
