/- Lists of lists of ints in the laws: as arguments, copied, counted, compared, marked, read again. -/
import Derived.Test.YtnnckojpmnpgbaaOwnII
import Derived.Test.YtnnckojpmnpgbaaMark
import Derived.Test.YtnnckojpmnpgbaaPut
import Derived.Test.YtnnckojpmnpgbaaLaw
import Derived.Deep.RegionHeld3
import Derived.Outline
namespace Go.Proofs.Ytnnckojpmnpgbaa
set_option maxRecDepth 20000
set_option linter.unusedVariables false
set_option linter.unusedSimpArgs false
open Go.RowKit

def cI (xs : List Int) : Nat := xs.length
def mI (k : Int) (xs : List Int) : List Int := iota k xs.length
abbrev OIIs (lo hi : Nat) (v : Value) (L : List (List Int)) (w : World) : Prop := OwII lo hi v L w
theorem OIIs.ob {lo : Nat} {v : Value} {L : List (List Int)} {w : World} (h : OIIs lo w.heap.size v L w) : Ob (OIIs lo w.heap.size v L) lo w.heap.size w :=
  ⟨h, fun _ _ hu hb => OwnL.keep hu EI.stable hb, Nat.le_refl _⟩
set_option maxHeartbeats 1000000 in
theorem eqIntSS_any (v u : Value) (ds ds' : List (List Int)) (w : World) {lo hi lo' hi' : Nat} (h : OIIs lo hi v ds w) (h' : OIIs lo' hi' u ds' w) (hh : hi ≤ w.heap.size) (hh' : hi' ≤ w.heap.size) :
    Calls Try.prog 10 #[v, u] w fun e w' => e = .returned (.bool (decide (ds = ds'))) ∧ Below w.heap.size w w' := by
  obtain ⟨A, cap, rfl, hcap, hm, _⟩ := h.len
  obtain ⟨A', cap', rfl, hcap', hm', _⟩ := h'.len
  have H := Lib.hid h
  have H' := Lib.hid h'
  unfold maxLen at hm hm'
  clear h h'
  by_cases hne : ds.length = ds'.length
  · have hd : ((ds.length : Int) != (ds'.length : Int)) = false := by simp [hne]
    have HNE := Lib.hid hne
    clear hne
    go_enter Try.func10, Try.ntmps10
    go_wp2
    go_loopw [5] (fun i wr => ∃ k : Nat, k ≤ ds.length ∧ i = .int .i64 k ∧ ds.take k = ds'.take k ∧ Below w.heap.size w wr) (fun i _ => ds.length - (intOf i).toNat)
    case atStart => exact ⟨0, Nat.zero_le _, rfl, by simp, Below.refl _ _⟩
    case round =>
      obtain ⟨k, hk, rfl, heq, hbel⟩ := hrel
      have HEQ := Lib.hid heq
      have HB := Lib.hid hbel
      have hsz := hbel.size
      by_cases hlt : k < ds.length
      · have hlt' : k < ds'.length := by have := HNE.out; omega
        obtain ⟨g, cs, Fe, rfl, _, hg, hE, hcw, _, _, hc, _⟩ := (H.out.keep EI.stable (w' := wr) fun b _ hb => hbel.block b (by omega)).focus EI.stable hlt
        obtain ⟨g', cs', Fe', rfl, _, hg', hE', hcw', _, _, hc', _⟩ := (H'.out.keep EI.stable (w' := wr) fun b _ hb => hbel.block b (by omega)).focus EI.stable hlt'
        obtain ⟨s, rfl, ho, _⟩ := hE
        obtain ⟨s', rfl, ho', _⟩ := hE'
        have c0 := hc 0 (by simp)
        have c0' := hc' 0 (by simp)
        simp only [List.getElem_cons_zero, Nat.add_zero, Nat.mul_one] at c0 c0'
        have HQ : Hid (ds.take (k + 1) = ds'.take (k + 1) ↔ ds[k] = ds'[k]) := Lib.hid ⟨fun e => by
          have := congrArg (fun l => l[k]?) e
          simpa [hlt, hlt'] using this, fun e => take_eq_succ HEQ.out hlt hlt' e⟩
        have HN : Hid (ds[k] ≠ ds'[k] → ds ≠ ds') := Lib.hid (fun e1 e2 => by subst e2; exact e1 rfl)
        have X1 := Lib.hid ho
        have X2 := Lib.hid ho'
        have hgw : g < wr.heap.size := by omega
        have hgw' : g' < wr.heap.size := by omega
        clear hc hc' heq hbel ho ho'
        generalize ds[k] = d at *
        generalize ds'[k] = d' at *
        obtain ⟨A2, c2, rfl, _⟩ := OwI.form X1.out
        obtain ⟨A3, c3, rfl, _⟩ := OwI.form X2.out
        go_wp2_with fail
        go_quiet ((go_at_call 14; exact (eqIntS_any _ _ d d' _ (X1.out.arg.drewN _) (X2.out.arg.drewN _)).mono fun _ _ ⟨he, n, hn⟩ => ⟨he, by rw [hn]; exact ⟨_, World.drewN_drewN _ _ _⟩⟩))
        rcases e2 : decide (d = d') with _ | _
        · go_wp2
          go_ret
          exact ⟨ret_bool (by symm; rw [decide_eq_false_iff_not]; exact HN.out (by simpa using e2)), bel_drewN HB.out _⟩
        · go_wp2
          go_roundw
          case rel => exact ⟨k + 1, by omega, by go_num, HQ.out.2 (by simpa using e2), bel_drewN HB.out _⟩
          case measure => simp [intOf]; omega
      · obtain rfl : k = ds.length := by omega
        go_wp2
        go_ret
        refine ⟨ret_bool ?_, HB.out⟩
        have h1 := HEQ.out
        rw [List.take_length, HNE.out, List.take_length] at h1
        simp [h1]
  · have hd : ((ds.length : Int) != (ds'.length : Int)) = true := by simp; omega
    go_enter Try.func10, Try.ntmps10
    go_wp2
    go_ret
    exact ⟨ret_bool (by symm; rw [decide_eq_false_iff_not]; rintro rfl; exact hne rfl), Below.refl _ _⟩
set_option maxHeartbeats 1000000 in
theorem markIntSS_ob (v : Value) (ds : List (List Int)) (k : Int) (lo hi : Nat) (w : World) (h : Ob (OIIs lo hi v ds) lo hi w)
    (hl : cntL cI ds ≤ 1073741824) (hk0 : 0 ≤ k) (hk : k ≤ 1125890000000000) :
    Calls Try.prog 17 #[v, .int .i64 k] w fun e w' => e = .returned (.int .i64 (k + cntL cI ds)) ∧ Ob (OIIs lo hi v (mkL cI mI k ds)) lo hi w' ∧ Tr lo hi w w' := by
  obtain ⟨A, cap, rfl, hcap, hm, _⟩ := h.holds.len
  unfold maxLen at hm
  have hle := h.le
  have H := Lib.hid h.holds
  have HLOC : Hid (∀ ds', Loc (OIIs lo hi (.slice A ds.length cap) ds') lo hi) := Lib.hid fun ds' _ _ hu hb => OwnL.keep hu EI.stable hb
  clear h
  go_enter Try.func17, Try.ntmps17
  go_wp2
  go_loopw [1, 5] (fun kk i wr => ∃ j : Nat, j ≤ ds.length ∧ i = .int .i64 j ∧ kk = .int .i64 (k + (cntL cI (ds.take j) : Nat)) ∧ OIIs lo hi (.slice A ds.length cap) (mkAt cI mI k ds j) wr ∧ Tr lo hi w wr)
    (fun _ i _ => ds.length - (intOf i).toNat)
  case atStart => exact ⟨0, Nat.zero_le _, rfl, by simp [cntL], by rw [mkAt_zero]; exact H.out, ⟨rfl, rfl, rfl, Nat.le_refl _, fun _ _ _ => rfl⟩⟩
  case round =>
    obtain ⟨j, hj, rfl, rfl, hown, ht⟩ := hrel
    have hsz := ht.size
    by_cases hlt : j < ds.length
    · have hml := mkAt_length (c := cI) (m := mI) k ds j
      obtain ⟨g, cs, Fe, rfl, hg1, hg2, hE, hcw, hFe, hnd, hc, hfz, hgs, hfin⟩ := hown.focus EI.stable (k := j) (by rw [hml]; exact hlt)
      rw [mkAt_get k ds j hlt] at hE
      obtain ⟨s, rfl, ho, rfl⟩ := hE
      have c0 := hc 0 (by simp)
      simp only [List.getElem_cons_zero, Nat.add_zero, Nat.mul_one] at c0
      have hcnt := cntL_at (c := cI) ds j hlt
      have HSUC := Lib.hid (cntL_succ (c := cI) ds j hlt)
      have HSET := Lib.hid (mkAt_succ (c := cI) (m := mI) k ds j hlt)
      have HT := Lib.hid ht
      have HO := Lib.hid ho
      have HFE := Lib.hid hFe
      have HFIN := Lib.hid hfin
      have hcd : cI ds[j] = ds[j].length := rfl
      have HCD := Lib.hid hcd
      have hdl : ds[j].length ≤ 1073741824 := by omega
      have hc2 : cntL cI (ds.take j) ≤ 1073741824 := by omega
      clear hc hfz hfin hFe hnd ht hown ho hml hcd
      go_wp2_with fail
      refine (markIntS_any s ds[j] _ 0 _ HO.out hdl (by omega) (by omega)).mono ?_
      rintro e w9 ⟨rfl, o9, g9⟩
      have O9 := Lib.hid o9
      have G9 := Lib.hid g9
      clear o9 g9
      go_wp2
      go_roundw
      case rel =>
        have hne : s.ownBlock ≠ some g := fun e => (HFE.out g (by simp [e])).2.2 rfl
        refine ⟨j + 1, by omega, by go_num, by rw [HSUC.out, HCD.out]; go_num, ?_, HT.out.trans (Tr.grown G9.out fun b hb => ⟨(HFE.out b (by simp [hb])).1, (HFE.out b (by simp [hb])).2.1⟩)⟩
        rw [← HSET.out]
        refine HFIN.out _ [s] _ (fun pre post hp hrow => ?_) rfl ⟨s, rfl, O9.out, rfl⟩ fun b hb h1 h2 => ?_
        · exact ownsRow_keep hrow fun b hb => G9.out.block b (by simp [Value.ownBlock] at hb; subst hb; exact hgs) (by rw [← hb]; exact fun e => hne e.symm)
        · exact G9.out.block b (by omega) (fun e => h2 (by simp [← e]))
      case measure => simp [intOf]; omega
    · obtain rfl : j = ds.length := by omega
      rw [List.take_length]
      rw [mkAt_all] at hown
      go_wp2
      go_ret
      exact ⟨rfl, ⟨hown, HLOC.out _, by omega⟩, ht⟩
set_option maxHeartbeats 1000000 in
theorem heldIntSS_ob (v : Value) (ds : List (List Int)) (k : Int) (lo hi : Nat) (w : World) (h : Ob (OIIs lo hi v (mkL cI mI k ds)) lo hi w)
    (hl : cntL cI ds ≤ 1073741824) (hk0 : 0 ≤ k) (hk : k ≤ 1125890000000000) :
    Calls Try.prog 18 #[v, .int .i64 k] w fun e w' => e = .returned (.int .i64 (k + cntL cI ds)) ∧ Tr 0 0 w w' := by
  have hml := mkL_length (c := cI) (m := mI) k ds
  obtain ⟨A, cap, rfl, hcap, hm, _⟩ := h.holds.len
  rw [hml] at hcap ⊢
  unfold maxLen at hm
  have H := Lib.hid h.holds
  have HML := Lib.hid hml
  clear h hml
  go_enter Try.func18, Try.ntmps18
  go_wp2
  go_loop [1, 5] (fun kk i => ∃ j : Nat, j ≤ ds.length ∧ i = .int .i64 j ∧ kk = .int .i64 (k + (cntL cI (ds.take j) : Nat)))
    (fun _ i => ds.length - (intOf i).toNat)
  case atStart => exact ⟨0, Nat.zero_le _, rfl, by simp [cntL]⟩
  case round =>
    obtain ⟨j, hj, rfl, rfl⟩ := hrel
    by_cases hlt : j < ds.length
    · have hcnt := cntL_at (c := cI) ds j hlt
      have hjm : j < (mkL cI mI k ds).length := by rw [HML.out]; exact hlt
      have hget := mkL_get (c := cI) (m := mI) k ds j hlt hjm
      have hh := H.out
      rw [HML.out] at hh
      obtain ⟨g, cs, Fe, rfl, hg1, hg2, hE, hcw, hFe, hnd, hc, _⟩ := hh.focus EI.stable (k := j) hjm
      rw [hget] at hE
      obtain ⟨s, rfl, ho, rfl⟩ := hE
      have c0 := hc 0 (by simp)
      simp only [List.getElem_cons_zero, Nat.add_zero, Nat.mul_one] at c0
      have HSUC := Lib.hid (cntL_succ (c := cI) ds j hlt)
      have hcd : cI ds[j] = ds[j].length := rfl
      have HCD := Lib.hid hcd
      have hdl : ds[j].length ≤ 1073741824 := by omega
      have hc2 : cntL cI (ds.take j) ≤ 1073741824 := by omega
      have HO : Hid (OwI w 0 s (iota (k + (cntL cI (ds.take j) : Nat)) ds[j].length)) := Lib.hid ho
      clear hc hFe hnd ho hget hh hcd
      go_wp2_with fail
      refine (heldIntS_any s ds[j].length _ _ HO.out.arg hdl (by omega) (by omega)).mono ?_
      rintro e w9 ⟨rfl, rfl⟩
      go_wp2
      go_round
      case rel => exact ⟨j + 1, by omega, by go_num, by rw [HSUC.out, HCD.out]; go_num⟩
      case measure => simp [intOf]; omega
    · obtain rfl : j = ds.length := by omega
      rw [List.take_length]
      go_wp2
      go_ret
      exact ⟨rfl, Tr.refl _⟩
theorem eqIntSS_ob (v u : Value) (ds ds' : List (List Int)) (w : World) {lo hi lo' hi' : Nat} (h : Ob (OIIs lo hi v ds) lo hi w) (h' : Ob (OIIs lo' hi' u ds') lo' hi' w) :
    Calls Try.prog 10 #[v, u] w fun e w' => e = .returned (.bool (decide (ds = ds'))) ∧ Tr 0 0 w w' :=
  (eqIntSS_any v u ds ds' w h.holds h'.holds h.le h'.le).mono fun _ _ ⟨he, hb⟩ => ⟨he, Tr.below hb⟩
/-- A list of lists known by its cells. -/
def ArgII (w : World) (v : Value) (ds : List (List Int)) : Prop :=
  ∃ A cap, v = .slice A ds.length cap ∧ ds.length ≤ cap ∧ cap ≤ maxLen ∧ (A = none → cap = 0) ∧
    (0 < ds.length → ∃ b off, A = some ⟨b, off, none⟩ ∧ b < w.heap.size ∧ ∀ k (hk : k < ds.length), ∃ s, w.cell? ⟨b, off + k, none⟩ = some s ∧ ArgI w s ds[k])
section
variable {w w' : World} {v : Value} {ds : List (List Int)} {lo hi : Nat}
theorem ArgI.same {xs : List Int} (h : ArgI w v xs) (hs : ∀ b, b < w.heap.size → w'.heap[b]? = w.heap[b]?) : ArgI w' v xs := by
  obtain ⟨A, cap, hv, hc, hm, hr, hx⟩ := h
  refine ⟨A, cap, hv, hc, hm, hr, fun h0 => ?_⟩
  obtain ⟨b, off, hA, hx⟩ := hx h0
  refine ⟨b, off, hA, fun i hi => ?_⟩
  rw [World.cell?_of_block (w := w) (hs b (World.block_lt_of_cell? w _ (hx i hi)))]
  exact hx i hi
theorem ArgII.same (h : ArgII w v ds) (hs : ∀ b, b < w.heap.size → w'.heap[b]? = w.heap[b]?) : ArgII w' v ds := by
  obtain ⟨A, cap, hv, hc, hm, hn, hx⟩ := h
  refine ⟨A, cap, hv, hc, hm, hn, fun h0 => ?_⟩
  obtain ⟨b, off, hA, hlt, hx⟩ := hx h0
  have hh := hs b hlt
  refine ⟨b, off, hA, ?_, fun k hk => ?_⟩
  · rw [Array.getElem?_eq_getElem hlt] at hh
    exact lt_of_heap hh
  · obtain ⟨s, h1, h2⟩ := hx k hk
    exact ⟨s, (World.cell?_of_block (w := w) hh).trans h1, h2.same hs⟩
theorem ArgII.below (h : ArgII w v ds) (hb : Below w.heap.size w w') : ArgII w' v ds := h.same fun b hlt => hb.block b hlt
theorem ArgII.form (h : ArgII w v ds) : ∃ A cap, v = .slice A ds.length cap := by
  obtain ⟨A, cap, hv, _⟩ := h
  exact ⟨A, cap, hv⟩
theorem ArgII.at {A : Option Addr} {m cap : Nat} (h : ArgII w (.slice A m cap) ds) {k : Nat} (hk : k < ds.length) :
    ∃ b off A1 c1, A = some ⟨b, off, none⟩ ∧ b < w.heap.size ∧ w.cell? ⟨b, off + k, none⟩ = some (.slice A1 ds[k].length c1) ∧ ArgI w (.slice A1 ds[k].length c1) ds[k] := by
  obtain ⟨A', cap', hv, hc, hm, hn, hx⟩ := h
  obtain ⟨b, off, hA, hlt, hx⟩ := hx (by omega)
  injection hv with e1 e2 e3
  obtain ⟨s, h1, h2⟩ := hx k hk
  obtain ⟨A1, c1, rfl⟩ := ArgI.form h2
  exact ⟨b, off, A1, c1, e1.trans hA, hlt, h1, h2⟩
end
theorem ArgII.ob {w : World} {v : Value} {ds : List (List Int)} (h : ArgII w v ds) : Ob (Kept w fun w => ArgII w v ds) 0 w.heap.size w := Kept.ob h
def cntLL (ds : List (List Int)) : Nat := ds.length + cntL cI ds
theorem cntLL_each {ds : List (List Int)} {n : Nat} (h : cntLL ds ≤ n) : ds.length ≤ n ∧ ∀ d ∈ ds, d.length ≤ n := by
  refine ⟨by unfold cntLL at h; omega, fun d hd => ?_⟩
  obtain ⟨i, hi, rfl⟩ := List.getElem_of_mem hd
  have := cntL_at (c := cI) ds i hi
  unfold cntLL at h
  unfold cI at this h
  omega
theorem toList_ones (z : Value) (n : Nat) : (List.replicate n [z]).flatten = List.replicate n z := by
  induction n with
  | zero => rfl
  | succ n ih => simp [List.replicate_succ, ih]
theorem fill_set1 {α} (xs : List α) (z : α) (k : Nat) (hk : k < xs.length) : (xs.take k ++ List.replicate (xs.length - k) z).set k xs[k] = xs.take (k + 1) ++ List.replicate (xs.length - (k + 1)) z := by
  have e : xs.length - k = (xs.length - (k + 1)) + 1 := by omega
  rw [e, List.replicate_succ, List.set_append_right _ _ (by simp; omega), List.length_take, Nat.min_eq_left (by omega), Nat.sub_self, List.set_cons_zero, List.take_succ_eq_append_getElem hk]
  simp only [List.append_assoc, List.cons_append, List.nil_append]
theorem OwI.nil0 {w : World} {base : Nat} : OwI w base (.slice none 0 0) [] := ⟨⟨rfl, .inl ⟨rfl, rfl⟩⟩, I64s_nil⟩
set_option maxHeartbeats 1000000 in
theorem toIntSS_any (v : Value) (ds : List (List Int)) (w : World) (h : ArgII w v ds) (hl : ds.length ≤ 1048576) (hle : ∀ d ∈ ds, d.length ≤ 1048576) :
    Calls Try.prog 8 #[v] w fun e w' => ∃ r, e = .returned r ∧ OwII w.heap.size w'.heap.size r ds w' ∧ Below w.heap.size w w' := by
  obtain ⟨i0, hi0, hz0, hz1, hz2⟩ := info_parts ints_info
  have H := Lib.hid h
  obtain ⟨A, cap, rfl, hcap, hm, _⟩ := h
  have HL := Lib.hid hle
  unfold maxLen at hm
  clear hle
  go_enter Try.func8, Try.ntmps8
  go_wp2_with (at_make; refine wpList_make_full _ rfl _ _ 22 rfl w.heap.size 27 i0 (.slice none 0 0) 1 Try.underlying22 hi0 hz0 hz1 _ _ _ _ ds.length rfl rfl rfl rfl (by rw [hz2]; omega) (by unfold maxLen; omega) (Nat.le_refl _) ?_)
  intro w0 hown0 hgrow0
  have hgs : w.heap.size < w0.heap.size := (hown0.lt w.heap.size rfl).2
  have own0 : OwII w.heap.size w0.heap.size (.slice (some ⟨w.heap.size, 0, none⟩) ds.length ds.length) (List.replicate ds.length []) w0 := by
    refine OwnL.same (cs := [.slice none 0 0]) rfl ⟨_, rfl, OwI.nil0, rfl⟩ ?_ fun b hb => by simp [Value.ownBlock] at hb; omega
    have := ownsRow_base hown0
    rw [toList_ones]
    simpa [toList_madeCells_one] using this
  have HO := Lib.hid own0
  have HB := Lib.hid ((Below.refl w.heap.size w).grown hgrow0 (Nat.le_refl _) (fun k h => by cases h))
  clear own0 hown0 hgrow0
  go_wp2
  go_loopw [4] (fun i wr => ∃ k : Nat, k ≤ ds.length ∧ i = .int .i64 k ∧
      OwII w.heap.size wr.heap.size (.slice (some ⟨w.heap.size, 0, none⟩) ds.length ds.length) (ds.take k ++ List.replicate (ds.length - k) []) wr ∧ Below w.heap.size w wr ∧ w.heap.size < wr.heap.size)
    (fun i _ => ds.length - (intOf i).toNat)
  case atStart => exact ⟨0, Nat.zero_le _, rfl, by simpa using HO.out, HB.out, hgs⟩
  case round =>
    obtain ⟨k, hk, rfl, hown, hbel, hws⟩ := hrel
    by_cases hlt : k < ds.length
    · have hsz := hbel.size
      obtain ⟨b, off, A1, c1, rfl, hbl, c0, ha⟩ := (H.out.below hbel).at hlt
      have HX := Lib.hid ha
      have HE := Lib.hid (HL.out ds[k] (by simp))
      have HS := Lib.hid (fill_set1 ds [] k hlt)
      have hll : k < (ds.take k ++ List.replicate (ds.length - k) []).length := by simp; omega
      have HLL := Lib.hid hll
      have HO1 := Lib.hid hown
      have HB1 := Lib.hid hbel
      clear ha hown hbel
      generalize ds[k] = d at *
      go_wp2_with fail
      refine (toIntS_any _ d _ HX.out HE.out).mono ?_
      rintro e w1 ⟨r, rfl, o1, b1⟩
      have B1 := Lib.hid b1
      have hz1 := b1.size
      obtain ⟨g, hA, hg1, hg2, hfz, ⟨cs, hcs, hcell⟩, hfin⟩ := HO1.out.put EI.stable HLL.out b1 (Nat.le_refl _)
      obtain rfl : w.heap.size = g := by injection hA with e; injection e
      have hcc : w1.cell? ⟨w.heap.size, k, none⟩ = some (cs[0]'(by omega)) := by have := hcell 0 (by omega); rw [Nat.mul_one, Nat.add_zero] at this; exact this
      have hf0 := hfz k
      obtain ⟨A1, cap1, rfl, _⟩ := OwI.form o1
      have HOE := Lib.hid o1
      have HF := Lib.hid hfin
      clear hcell hfz o1 hfin b1
      generalize cs[0]'(by omega) = u0 at hcc
      go_wp2
      go_roundw
      case rel =>
        have hgr : w1.grownBy (w1.setCell ⟨w.heap.size, k, none⟩ (.slice A1 d.length cap1)) (some w.heap.size) := set_grown w1 w.heap.size k _
        refine ⟨k + 1, by omega, by go_num, ?_, (HB1.out.trans (B1.out.mono hsz)).grown hgr (by omega) (fun j hj => by cases hj; exact Nat.le_refl _), by simp; omega⟩
        rw [← HS.out]
        refine HF.out _ [.slice A1 d.length cap1] d _ rfl (EI.of HOE.out) ?_ ?_ ?_ hgr
        · cases (Value.slice A1 d.length cap1).ownBlock <;> simp
        · intro b hb
          exact HOE.out.1.lt b (by simpa using hb)
        · intro pre cs post hp hc hrow
          have r0 := row_store (j := 0) (u := .slice A1 d.length cap1) hrow hp (by omega)
          match cs, hc with
          | [a], _ => simpa using r0
      case measure => simp [intOf]; omega
    · obtain rfl : k = ds.length := by omega
      have HO1 := Lib.hid hown
      clear hown
      go_wp2
      go_ret
      exact ⟨_, rfl, by simpa using HO1.out, hbel⟩
theorem toIntSS_ob (v : Value) (ds : List (List Int)) (w : World) {w0 : World} (h : Kept w0 (fun w => ArgII w v ds) w) (hl : cntLL ds ≤ 1048576) :
    Calls Try.prog 8 #[v] w fun e w' => ∃ r, e = .returned r ∧ Ob (OIIs w.heap.size w'.heap.size r ds) w.heap.size w'.heap.size w' ∧ Tr 0 0 w w' :=
  (toIntSS_any v ds w (h.1.same h.2) (cntLL_each hl).1 (cntLL_each hl).2).mono fun _ _ ⟨r, he, ho, hb⟩ => ⟨r, he, OIIs.ob ho, Tr.below hb⟩
set_option maxHeartbeats 400000 in
theorem szIntS1_any (v : Value) (xs : List Int) (k : Int) (w : World) (h : ArgI w v xs) (hk : 0 ≤ k) (hk' : k ≤ 1048576) :
    Calls Try.prog 19 #[v, .int .i64 k] w fun e w' => e = .returned (.int .i64 (if k - xs.length < 0 then -1 else k - xs.length)) ∧ w = w' := by
  obtain ⟨A, cap, rfl, hc, hm, _⟩ := h
  unfold maxLen at hm
  by_cases h0 : k - (xs.length : Int) < 0
  · rw [if_pos h0]
    go_enter Try.func19, Try.ntmps19
    go_wp2
    go_ret
    exact ⟨rfl, rfl⟩
  · rw [if_neg h0]
    go_enter Try.func19, Try.ntmps19
    go_wp2
    go_ret
    exact ⟨rfl, rfl⟩
set_option maxHeartbeats 1000000 in
theorem szIntSS_any (v : Value) (ds : List (List Int)) (k : Int) (w : World) (h : ArgII w v ds) (hk : 0 ≤ k) (hk' : k ≤ 1048576) :
    Calls Try.prog 6 #[v, .int .i64 k] w fun e w' => e = .returned (.int .i64 (if k - cntLL ds < 0 then -1 else k - cntLL ds)) ∧ Below w.heap.size w w' := by
  have H := Lib.hid h
  obtain ⟨A, cap, rfl, hc, hm, _⟩ := h
  unfold maxLen at hm
  have HC : Hid (cntLL ds = ds.length + cntL cI ds) := Lib.hid rfl
  obtain ⟨R, hR⟩ : ∃ R : Int, R = (if k - (cntLL ds : Int) < 0 then -1 else k - (cntLL ds : Int)) := ⟨_, rfl⟩
  rw [← hR]
  have HR1 : Hid (k - (cntLL ds : Int) < 0 → R = -1) := Lib.hid fun h => by rw [hR, if_pos h]
  have HR2 : Hid (¬ k - (cntLL ds : Int) < 0 → R = k - (cntLL ds : Int)) := Lib.hid fun h => by rw [hR, if_neg h]
  clear hR
  by_cases h0 : k - (ds.length : Int) < 0
  · obtain rfl := HR1.out (by have := HC.out; omega)
    go_enter Try.func6, Try.ntmps6
    go_wp2
    go_ret
    exact ⟨rfl, Below.refl _ _⟩
  · go_enter Try.func6, Try.ntmps6
    go_wp2
    go_loopw [1, 5] (fun l i wr => ∃ j : Nat, j ≤ ds.length ∧ i = .int .i64 j ∧ l = .int .i64 (k - (ds.length : Int) - (cntL cI (ds.take j) : Nat)) ∧ 0 ≤ k - (ds.length : Int) - (cntL cI (ds.take j) : Nat) ∧ Below w.heap.size w wr)
      (fun _ i _ => ds.length - (intOf i).toNat)
    case atStart => exact ⟨0, Nat.zero_le _, rfl, by simp [cntL], by simp [cntL]; omega, Below.refl _ _⟩
    case round =>
      obtain ⟨j, hj, rfl, rfl, hnn, hbel⟩ := hrel
      have hsz := hbel.size
      by_cases hlt : j < ds.length
      · obtain ⟨b, off, A1, c1, rfl, hbl, c0, ha⟩ := (H.out.below hbel).at hlt
        have HB := Lib.hid hbel
        have HS := Lib.hid (cntL_succ (c := cI) ds j hlt)
        have HT := Lib.hid (cntL_take (c := cI) ds (j + 1))
        have HZ := Lib.hid (szIntS1_any _ ds[j] (k - (ds.length : Int) - (cntL cI (ds.take j) : Nat)) wr ha hnn (by omega))
        have hq : (cntL cI (ds.take (j + 1)) : Int) = cntL cI (ds.take j) + ds[j].length := by have := HS.out; unfold cI at *; omega
        have HQ := Lib.hid hq
        clear ha hbel hq
        generalize ds[j] = d at *
        generalize cntL cI (ds.take j) = a at *
        by_cases h1 : k - (ds.length : Int) - (a : Int) - (d.length : Int) < 0
        · have hz := HZ.out
          rw [if_pos h1] at hz
          have HZ1 := Lib.hid hz
          clear hz
          go_wp2_with fail
          refine HZ1.out.mono ?_
          rintro e w1 ⟨rfl, rfl⟩
          go_wp2
          go_ret
          refine ⟨ret_int ?_, HB.out⟩
          refine (HR1.out ?_).symm
          have e1 := HC.out
          have e2 := HT.out
          have e3 := HQ.out
          omega
        · have hz := HZ.out
          rw [if_neg h1] at hz
          have HZ1 := Lib.hid hz
          clear hz
          go_wp2_with fail
          refine HZ1.out.mono ?_
          rintro e w1 ⟨rfl, rfl⟩
          go_wp2
          go_roundw
          case rel => exact ⟨j + 1, by omega, by go_num, by rw [show k - (ds.length : Int) - (cntL cI (ds.take (j + 1)) : Int) = k - (ds.length : Int) - a - d.length by have := HQ.out; omega], by have := HQ.out; omega, HB.out⟩
          case measure => simp [intOf]; omega
      · obtain rfl : j = ds.length := by omega
        rw [List.take_length] at hnn ⊢
        have HB := Lib.hid hbel
        have F : Hid (R = k - (ds.length : Int) - (cntL cI ds : Nat)) := Lib.hid (by have e1 := HC.out; rw [HR2.out (by omega)]; omega)
        clear hbel
        go_wp2
        go_ret
        exact ⟨ret_int F.out.symm, HB.out⟩
theorem szIntSS_ob (v : Value) (ds : List (List Int)) (k : Int) (w : World) {w0 : World} (h : Kept w0 (fun w => ArgII w v ds) w) (hk : 0 ≤ k) (hk' : k ≤ 1048576) :
    Calls Try.prog 6 #[v, .int .i64 k] w fun e w' => e = .returned (.int .i64 (if k - cntLL ds < 0 then -1 else k - cntLL ds)) ∧ Below w.heap.size w w' :=
  szIntSS_any v ds k w (h.1.same h.2) hk hk'
end Go.Proofs.Ytnnckojpmnpgbaa
