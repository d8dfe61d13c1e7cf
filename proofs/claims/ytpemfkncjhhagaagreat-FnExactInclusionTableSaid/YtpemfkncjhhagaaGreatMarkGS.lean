/- Lists of graphs in the laws: marked and held. The objects of the laws over lists of graphs. -/
import Derived.Test.YtpemfkncjhhagaaGreatMarkG
import Derived.Test.YtpemfkncjhhagaaGreatGrS
import Derived.Test.YtpemfkncjhhagaaGreatMark
namespace Go.Proofs.YtpemfkncjhhagaaGreat
set_option maxRecDepth 20000
set_option linter.unusedVariables false
set_option linter.unusedSimpArgs false
open Go.RowKit
theorem ArgGS.same {w w' : World} {v : Value} {ds : List GrD} (h : ArgGS w v ds) (hs : ∀ b, b < w.heap.size → w'.heap[b]? = w.heap[b]?) : ArgGS w' v ds := by
  obtain ⟨A, cap, hv, hc, hm, hx⟩ := h
  refine ⟨A, cap, hv, hc, hm, fun h0 => ?_⟩
  obtain ⟨b, off, hA, hlt, hx⟩ := hx h0
  have hh := hs b hlt
  refine ⟨b, off, hA, ?_, fun k hk => ?_⟩
  · rw [Array.getElem?_eq_getElem hlt] at hh
    exact lt_of_heap hh
  · obtain ⟨s, h1, h2, h3, h4⟩ := hx k hk
    exact ⟨s, (World.cell?_of_block (w := w) hh).trans h1, (World.cell?_of_block (w := w) hh).trans h2, (World.cell?_of_block (w := w) hh).trans h3, h4.same hs⟩
theorem ArgGS.ob {w : World} {v : Value} {ds : List GrD} (h : ArgGS w v ds) : Ob (Kept w fun w => ArgGS w v ds) 0 w.heap.size w := Kept.ob h
theorem toGraphS_ob (v : Value) (ds : List GrD) (w : World) {w0 : World} (h : Kept w0 (fun w => ArgGS w v ds) w) (hl : cntGS ds ≤ 1048576) :
    Calls Tryz.prog 10 #[v] w fun e w' => ∃ r, e = .returned r ∧ Ob (OGS w.heap.size w'.heap.size r ds) w.heap.size w'.heap.size w' ∧ Tr 0 0 w w' :=
  (toGraphS_any v ds w (h.1.same h.2) (cntGS_each hl).1 (cntGS_each hl).2).mono fun _ _ ⟨r, he, ho, hb⟩ => ⟨r, he, ho.ob, Tr.below hb⟩
theorem szGraphS_ob (v : Value) (ds : List GrD) (k : Int) (w : World) {w0 : World} (h : Kept w0 (fun w => ArgGS w v ds) w) (hk : 0 ≤ k) (hk' : k ≤ 1048576) :
    Calls Tryz.prog 8 #[v, .int .i64 k] w fun e w' => e = .returned (.int .i64 (if k - cntGS ds < 0 then -1 else k - cntGS ds)) ∧ Below w.heap.size w w' :=
  szGraphS_any v ds k w (h.1.same h.2) hk hk'
theorem eqGraphS_ob (v u : Value) (ds ds' : List GrD) (w : World) {lo hi lo' hi' : Nat} (h : Ob (OGS lo hi v ds) lo hi w) (h' : Ob (OGS lo' hi' u ds') lo' hi' w) :
    Calls Tryz.prog 13 #[v, u] w fun e w' => e = .returned (.bool (decide (ds = ds'))) ∧ Tr 0 0 w w' :=
  (eqGraphS_any v u ds ds' w h.holds.arg h'.holds.arg).mono fun _ _ ⟨he, hb⟩ => ⟨he, Tr.below hb⟩
def cG (d : GrD) : Nat := 3 * d.2.2.length + 2
theorem cntGS_cG : ∀ ds : List GrD, cntL cG ds ≤ 3 * cntGS ds
  | [] => by simp [cntL, cntGS]
  | d :: ds => by
    have h := cntGS_cG ds
    unfold cntL cntGS at h ⊢
    simp only [List.map_cons, List.sum_cons, List.length_cons] at h ⊢
    unfold cG at h ⊢
    omega
def mG (k : Int) (d : GrD) : GrD := (k, k + 1, mkE (k + 2) d.2.2.length)
theorem mkE_get (k : Int) (n j : Nat) (h : j < n) (h' : j < (mkE k n).length) : (mkE k n)[j] = (k + 3 * (j : Int), k + 3 * (j : Int) + 1, k + 3 * (j : Int) + 2) := by simp [mkE]
set_option maxHeartbeats 1000000 in
theorem markGraphS_ob (v : Value) (ds : List GrD) (k : Int) (lo hi : Nat) (w : World) (h : Ob (OGS lo hi v ds) lo hi w)
    (hl : cntL cG ds ≤ 1073741824) (hk0 : 0 ≤ k) (hk : k ≤ 1125890000000000) :
    Calls Tryz.prog 14 #[v, .int .i64 k] w fun e w' => e = .returned (.int .i64 (k + cntL cG ds)) ∧ Ob (OGS lo hi v (mkL cG mG k ds)) lo hi w' ∧ Tr lo hi w w' := by
  obtain ⟨A, cap, rfl, hcap, hm, _⟩ := h.holds.len
  unfold maxLen at hm
  have hle := h.le
  have H := Lib.hid h.holds
  have HLOC : Hid (∀ ds', Loc (OGS lo hi (.slice A ds.length cap) ds') lo hi) := Lib.hid fun ds' _ _ hu hb => OwnL.keep hu EG.stable hb
  clear h
  go_enter Tryz.func14, Tryz.ntmps14
  go_wp2
  go_loopw [1, 5] (fun kk i wr => ∃ j : Nat, j ≤ ds.length ∧ i = .int .i64 j ∧ kk = .int .i64 (k + (cntL cG (ds.take j) : Nat)) ∧ OGS lo hi (.slice A ds.length cap) (mkAt cG mG k ds j) wr ∧ Tr lo hi w wr)
    (fun _ i _ => ds.length - (intOf i).toNat)
  case atStart => exact ⟨0, Nat.zero_le _, rfl, by simp [cntL], by rw [mkAt_zero]; exact H.out, ⟨rfl, rfl, rfl, Nat.le_refl _, fun _ _ _ => rfl⟩⟩
  case round =>
    obtain ⟨j, hj, rfl, rfl, hown, ht⟩ := hrel
    have hsz := ht.size
    by_cases hlt : j < ds.length
    · have hml := mkAt_length (c := cG) (m := mG) k ds j
      obtain ⟨g, cs, Fe, rfl, hg1, hg2, hE, hcw, hFe, hnd, hc, hfz, hgs, hfin⟩ := hown.focus EG.stable (k := j) (by rw [hml]; exact hlt)
      rw [mkAt_get k ds j hlt] at hE
      obtain ⟨s, rfl, hi1, hi2, ho, rfl⟩ := hE
      have c0 := hc 0 (by simp)
      have c1 := hc 1 (by simp)
      have c2 := hc 2 (by simp)
      simp only [List.getElem_cons_zero, List.getElem_cons_succ, Nat.add_zero] at c0 c1 c2
      have hf0 := hfz (j * 3)
      have hf1 := hfz (j * 3 + 1)
      have hcnt := cntL_at (c := cG) ds j hlt
      have HSUC := Lib.hid (cntL_succ (c := cG) ds j hlt)
      have HSET := Lib.hid (mkAt_succ (c := cG) (m := mG) k ds j hlt)
      have HT := Lib.hid ht
      have HO := Lib.hid ho
      have HFE := Lib.hid hFe
      have HFIN := Lib.hid hfin
      have hcd : cG ds[j] = 3 * ds[j].2.2.length + 2 := rfl
      have hw1 : IntKind.i64.wrap (k + (cntL cG (ds.take j) : Nat) + 1) = k + (cntL cG (ds.take j) : Nat) + 1 := by rw [IntKind.wrap_i64]; omega
      have hw2 : IntKind.i64.wrap (k + (cntL cG (ds.take j) : Nat) + 1 + 1) = k + (cntL cG (ds.take j) : Nat) + 2 := by rw [IntKind.wrap_i64]; omega
      clear hc hfz hfin hFe hnd ht hown ho hml
      go_wp2_with fail
      refine (markEdgeS_any s ds[j].2.2 _ 0 _ ?_ (by omega) (by omega) (by omega)).mono ?_
      · refine ⟨ownsRow_keep HO.out.1 fun b hb => ?_, HO.out.2⟩
        have h1 := HFE.out b (by simp [hb])
        rw [setCell_block _ ⟨g, j * 3 + 1, none⟩ _ b h1.2.2, setCell_block wr ⟨g, j * 3, none⟩ _ b h1.2.2]
      rintro e w9 ⟨rfl, o9, g9⟩
      have O9 := Lib.hid o9
      have G9 := Lib.hid g9
      clear o9 g9
      go_wp2
      go_roundw
      case rel =>
        have hgr : wr.grownBy (wr.setCell ⟨g, j * 3, none⟩ (.int .i64 (k + (cntL cG (ds.take j) : Nat)))) (some g) := setCell_grown wr g (j * 3) _
        have hgr2 : (wr.setCell ⟨g, j * 3, none⟩ (.int .i64 (k + (cntL cG (ds.take j) : Nat)))).grownBy ((wr.setCell ⟨g, j * 3, none⟩ (.int .i64 (k + (cntL cG (ds.take j) : Nat)))).setCell ⟨g, j * 3 + 1, none⟩ (.int .i64 (k + (cntL cG (ds.take j) : Nat) + 1))) (some g) := setCell_grown _ g (j * 3 + 1) _
        have hne : s.ownBlock ≠ some g := fun e => (HFE.out g (by simp [e])).2.2 rfl
        have hgt := hgr.trans hgr2
        have hgz := hgt.size
        refine ⟨j + 1, by omega, by go_num, by rw [HSUC.out]; go_num, ?_, HT.out.trans ((Tr.grown hgt fun b hb => by cases hb; exact ⟨hg1, hg2⟩).trans (Tr.grown G9.out fun b hb => ⟨(HFE.out b (by simp [hb])).1, (HFE.out b (by simp [hb])).2.1⟩))⟩
        rw [← HSET.out]
        refine HFIN.out _ [.int .i64 (k + (cntL cG (ds.take j) : Nat)), .int .i64 (k + (cntL cG (ds.take j) : Nat) + 1), s] _ (fun pre post hp hrow => ?_) rfl ⟨s, rfl, (show I64 (k + (cntL cG (ds.take j) : Nat)) from ⟨by omega, by omega⟩), (show I64 (k + (cntL cG (ds.take j) : Nat) + 1) from ⟨by omega, by omega⟩), ?_, rfl⟩ fun b hb h1 h2 => ?_
        · have r0 := row_store (j := 0) (u := .int .i64 (k + (cntL cG (ds.take j) : Nat))) hrow hp (by simp)
          have r1 := row_store (j := 1) (u := .int .i64 (k + (cntL cG (ds.take j) : Nat) + 1)) r0 hp (by simp)
          exact ownsRow_keep r1 fun b hb => G9.out.block b (by simp [Value.ownBlock] at hb; subst hb; omega) (by rw [← hb]; exact fun e => hne e.symm)
        · have := O9.out
          exact this
        · rw [G9.out.block b (by omega) (fun e => h2 (by simp [← e])), hgt.block b (by omega) (by simpa using h1)]
      case measure => simp [intOf]; omega
    · obtain rfl : j = ds.length := by omega
      rw [List.take_length]
      rw [mkAt_all] at hown
      go_wp2
      go_ret
      exact ⟨rfl, ⟨hown, HLOC.out _, by omega⟩, ht⟩
end Go.Proofs.YtpemfkncjhhagaaGreat
