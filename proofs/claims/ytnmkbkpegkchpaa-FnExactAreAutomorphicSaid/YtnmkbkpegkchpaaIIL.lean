/- Lists of lists of ints in the laws: as arguments, copied, counted, compared, marked, read again. -/
import Derived.Test.YtnmkbkpegkchpaaOwnF
import Derived.Test.YtnmkbkpegkchpaaMark
import Derived.Test.YtnmkbkpegkchpaaPut
import Derived.Test.YtnmkbkpegkchpaaLaw
import Derived.Deep.RegionHeld3
import Derived.Outline
namespace Go.Proofs.Ytnmkbkpegkchpaa
set_option maxRecDepth 20000
set_option linter.unusedVariables false
set_option linter.unusedSimpArgs false
open Go.RowKit

def cI (xs : List Int) : Nat := xs.length
def mI (k : Int) (xs : List Int) : List Int := iota k xs.length
abbrev OIIs (lo hi : Nat) (v : Value) (L : List (List Int)) (w : World) : Prop := OwII lo hi v L w
theorem OIIs.ob {lo : Nat} {v : Value} {L : List (List Int)} {w : World} (h : OIIs lo w.heap.size v L w) : Ob (OIIs lo w.heap.size v L) lo w.heap.size w :=
  ⟨h, fun _ _ hu hb => OwnL.keep hu EI.stable hb, Nat.le_refl _⟩
set_option maxHeartbeats 1000000 in
theorem eqIntSS_any (v u : Value) (ds ds' : List (List Int)) (w : World) {lo hi lo' hi' : Nat} (h : OIIs lo hi v ds w) (h' : OIIs lo' hi' u ds' w) (hh : hi ≤ w.heap.size) (hh' : hi' ≤ w.heap.size) :
    Calls Try.prog 22 #[v, u] w fun e w' => e = .returned (.bool (decide (ds = ds'))) ∧ Below w.heap.size w w' := by
  obtain ⟨A, cap, rfl, hcap, hm, _⟩ := h.len
  obtain ⟨A', cap', rfl, hcap', hm', _⟩ := h'.len
  have H := Lib.hid h
  have H' := Lib.hid h'
  unfold maxLen at hm hm'
  clear h h'
  by_cases hne : ds.length = ds'.length
  · have hd : ((ds.length : Int) != (ds'.length : Int)) = false := by simp [hne]
    have HNE := Lib.hid hne
    clear hne
    go_enter Try.func22, Try.ntmps22
    go_wp2
    go_loopw [5] (fun i wr => ∃ k : Nat, k ≤ ds.length ∧ i = .int .i64 k ∧ ds.take k = ds'.take k ∧ Below w.heap.size w wr) (fun i _ => ds.length - (intOf i).toNat)
    case atStart => exact ⟨0, Nat.zero_le _, rfl, by simp, Below.refl _ _⟩
    case round =>
      obtain ⟨k, hk, rfl, heq, hbel⟩ := hrel
      have HEQ := Lib.hid heq
      have HB := Lib.hid hbel
      have hsz := hbel.size
      by_cases hlt : k < ds.length
      · have hlt' : k < ds'.length := by have := HNE.out; omega
        obtain ⟨g, cs, Fe, rfl, _, hg, hE, hcw, _, _, hc, _⟩ := (H.out.keep EI.stable (w' := wr) fun b _ hb => hbel.block b (by omega)).focus EI.stable hlt
        obtain ⟨g', cs', Fe', rfl, _, hg', hE', hcw', _, _, hc', _⟩ := (H'.out.keep EI.stable (w' := wr) fun b _ hb => hbel.block b (by omega)).focus EI.stable hlt'
        obtain ⟨s, rfl, ho, _⟩ := hE
        obtain ⟨s', rfl, ho', _⟩ := hE'
        have c0 := hc 0 (by simp)
        have c0' := hc' 0 (by simp)
        simp only [List.getElem_cons_zero, Nat.add_zero, Nat.mul_one] at c0 c0'
        have HQ : Hid (ds.take (k + 1) = ds'.take (k + 1) ↔ ds[k] = ds'[k]) := Lib.hid ⟨fun e => by
          have := congrArg (fun l => l[k]?) e
          simpa [hlt, hlt'] using this, fun e => take_eq_succ HEQ.out hlt hlt' e⟩
        have HN : Hid (ds[k] ≠ ds'[k] → ds ≠ ds') := Lib.hid (fun e1 e2 => by subst e2; exact e1 rfl)
        have X1 := Lib.hid ho
        have X2 := Lib.hid ho'
        have hgw : g < wr.heap.size := by omega
        have hgw' : g' < wr.heap.size := by omega
        clear hc hc' heq hbel ho ho'
        generalize ds[k] = d at *
        generalize ds'[k] = d' at *
        obtain ⟨A2, c2, rfl, _⟩ := OwI.form X1.out
        obtain ⟨A3, c3, rfl, _⟩ := OwI.form X2.out
        go_wp2_with fail
        go_quiet ((go_at_call 15; exact (eqIntS_any _ _ d d' _ (X1.out.arg.drewN _) (X2.out.arg.drewN _)).mono fun _ _ ⟨he, n, hn⟩ => ⟨he, by rw [hn]; exact ⟨_, World.drewN_drewN _ _ _⟩⟩))
        rcases e2 : decide (d = d') with _ | _
        · go_wp2
          go_ret
          exact ⟨ret_bool (by symm; rw [decide_eq_false_iff_not]; exact HN.out (by simpa using e2)), bel_drewN HB.out _⟩
        · go_wp2
          go_roundw
          case rel => exact ⟨k + 1, by omega, by go_num, HQ.out.2 (by simpa using e2), bel_drewN HB.out _⟩
          case measure => simp [intOf]; omega
      · obtain rfl : k = ds.length := by omega
        go_wp2
        go_ret
        refine ⟨ret_bool ?_, HB.out⟩
        have h1 := HEQ.out
        rw [List.take_length, HNE.out, List.take_length] at h1
        simp [h1]
  · have hd : ((ds.length : Int) != (ds'.length : Int)) = true := by simp; omega
    go_enter Try.func22, Try.ntmps22
    go_wp2
    go_ret
    exact ⟨ret_bool (by symm; rw [decide_eq_false_iff_not]; rintro rfl; exact hne rfl), Below.refl _ _⟩
set_option maxHeartbeats 1000000 in
theorem markIntSS_ob (v : Value) (ds : List (List Int)) (k : Int) (lo hi : Nat) (w : World) (h : Ob (OIIs lo hi v ds) lo hi w)
    (hl : cntL cI ds ≤ 1073741824) (hk0 : 0 ≤ k) (hk : k ≤ 1125890000000000) :
    Calls Try.prog 23 #[v, .int .i64 k] w fun e w' => e = .returned (.int .i64 (k + cntL cI ds)) ∧ Ob (OIIs lo hi v (mkL cI mI k ds)) lo hi w' ∧ Tr lo hi w w' := by
  obtain ⟨A, cap, rfl, hcap, hm, _⟩ := h.holds.len
  unfold maxLen at hm
  have hle := h.le
  have H := Lib.hid h.holds
  have HLOC : Hid (∀ ds', Loc (OIIs lo hi (.slice A ds.length cap) ds') lo hi) := Lib.hid fun ds' _ _ hu hb => OwnL.keep hu EI.stable hb
  clear h
  go_enter Try.func23, Try.ntmps23
  go_wp2
  go_loopw [1, 5] (fun kk i wr => ∃ j : Nat, j ≤ ds.length ∧ i = .int .i64 j ∧ kk = .int .i64 (k + (cntL cI (ds.take j) : Nat)) ∧ OIIs lo hi (.slice A ds.length cap) (mkAt cI mI k ds j) wr ∧ Tr lo hi w wr)
    (fun _ i _ => ds.length - (intOf i).toNat)
  case atStart => exact ⟨0, Nat.zero_le _, rfl, by simp [cntL], by rw [mkAt_zero]; exact H.out, ⟨rfl, rfl, rfl, Nat.le_refl _, fun _ _ _ => rfl⟩⟩
  case round =>
    obtain ⟨j, hj, rfl, rfl, hown, ht⟩ := hrel
    have hsz := ht.size
    by_cases hlt : j < ds.length
    · have hml := mkAt_length (c := cI) (m := mI) k ds j
      obtain ⟨g, cs, Fe, rfl, hg1, hg2, hE, hcw, hFe, hnd, hc, hfz, hgs, hfin⟩ := hown.focus EI.stable (k := j) (by rw [hml]; exact hlt)
      rw [mkAt_get k ds j hlt] at hE
      obtain ⟨s, rfl, ho, rfl⟩ := hE
      have c0 := hc 0 (by simp)
      simp only [List.getElem_cons_zero, Nat.add_zero, Nat.mul_one] at c0
      have hcnt := cntL_at (c := cI) ds j hlt
      have HSUC := Lib.hid (cntL_succ (c := cI) ds j hlt)
      have HSET := Lib.hid (mkAt_succ (c := cI) (m := mI) k ds j hlt)
      have HT := Lib.hid ht
      have HO := Lib.hid ho
      have HFE := Lib.hid hFe
      have HFIN := Lib.hid hfin
      have hcd : cI ds[j] = ds[j].length := rfl
      have HCD := Lib.hid hcd
      have hdl : ds[j].length ≤ 1073741824 := by omega
      have hc2 : cntL cI (ds.take j) ≤ 1073741824 := by omega
      clear hc hfz hfin hFe hnd ht hown ho hml hcd
      go_wp2_with fail
      refine (markIntS_any s ds[j] _ 0 _ HO.out hdl (by omega) (by omega)).mono ?_
      rintro e w9 ⟨rfl, o9, g9⟩
      have O9 := Lib.hid o9
      have G9 := Lib.hid g9
      clear o9 g9
      go_wp2
      go_roundw
      case rel =>
        have hne : s.ownBlock ≠ some g := fun e => (HFE.out g (by simp [e])).2.2 rfl
        refine ⟨j + 1, by omega, by go_num, by rw [HSUC.out, HCD.out]; go_num, ?_, HT.out.trans (Tr.grown G9.out fun b hb => ⟨(HFE.out b (by simp [hb])).1, (HFE.out b (by simp [hb])).2.1⟩)⟩
        rw [← HSET.out]
        refine HFIN.out _ [s] _ (fun pre post hp hrow => ?_) rfl ⟨s, rfl, O9.out, rfl⟩ fun b hb h1 h2 => ?_
        · exact ownsRow_keep hrow fun b hb => G9.out.block b (by simp [Value.ownBlock] at hb; subst hb; exact hgs) (by rw [← hb]; exact fun e => hne e.symm)
        · exact G9.out.block b (by omega) (fun e => h2 (by simp [← e]))
      case measure => simp [intOf]; omega
    · obtain rfl : j = ds.length := by omega
      rw [List.take_length]
      rw [mkAt_all] at hown
      go_wp2
      go_ret
      exact ⟨rfl, ⟨hown, HLOC.out _, by omega⟩, ht⟩
set_option maxHeartbeats 1000000 in
theorem heldIntSS_ob (v : Value) (ds : List (List Int)) (k : Int) (lo hi : Nat) (w : World) (h : Ob (OIIs lo hi v (mkL cI mI k ds)) lo hi w)
    (hl : cntL cI ds ≤ 1073741824) (hk0 : 0 ≤ k) (hk : k ≤ 1125890000000000) :
    Calls Try.prog 24 #[v, .int .i64 k] w fun e w' => e = .returned (.int .i64 (k + cntL cI ds)) ∧ Tr 0 0 w w' := by
  have hml := mkL_length (c := cI) (m := mI) k ds
  obtain ⟨A, cap, rfl, hcap, hm, _⟩ := h.holds.len
  rw [hml] at hcap ⊢
  unfold maxLen at hm
  have H := Lib.hid h.holds
  have HML := Lib.hid hml
  clear h hml
  go_enter Try.func24, Try.ntmps24
  go_wp2
  go_loop [1, 5] (fun kk i => ∃ j : Nat, j ≤ ds.length ∧ i = .int .i64 j ∧ kk = .int .i64 (k + (cntL cI (ds.take j) : Nat)))
    (fun _ i => ds.length - (intOf i).toNat)
  case atStart => exact ⟨0, Nat.zero_le _, rfl, by simp [cntL]⟩
  case round =>
    obtain ⟨j, hj, rfl, rfl⟩ := hrel
    by_cases hlt : j < ds.length
    · have hcnt := cntL_at (c := cI) ds j hlt
      have hjm : j < (mkL cI mI k ds).length := by rw [HML.out]; exact hlt
      have hget := mkL_get (c := cI) (m := mI) k ds j hlt hjm
      have hh := H.out
      rw [HML.out] at hh
      obtain ⟨g, cs, Fe, rfl, hg1, hg2, hE, hcw, hFe, hnd, hc, _⟩ := hh.focus EI.stable (k := j) hjm
      rw [hget] at hE
      obtain ⟨s, rfl, ho, rfl⟩ := hE
      have c0 := hc 0 (by simp)
      simp only [List.getElem_cons_zero, Nat.add_zero, Nat.mul_one] at c0
      have HSUC := Lib.hid (cntL_succ (c := cI) ds j hlt)
      have hcd : cI ds[j] = ds[j].length := rfl
      have HCD := Lib.hid hcd
      have hdl : ds[j].length ≤ 1073741824 := by omega
      have hc2 : cntL cI (ds.take j) ≤ 1073741824 := by omega
      have HO : Hid (OwI w 0 s (iota (k + (cntL cI (ds.take j) : Nat)) ds[j].length)) := Lib.hid ho
      clear hc hFe hnd ho hget hh hcd
      go_wp2_with fail
      refine (heldIntS_any s ds[j].length _ _ HO.out.arg hdl (by omega) (by omega)).mono ?_
      rintro e w9 ⟨rfl, rfl⟩
      go_wp2
      go_round
      case rel => exact ⟨j + 1, by omega, by go_num, by rw [HSUC.out, HCD.out]; go_num⟩
      case measure => simp [intOf]; omega
    · obtain rfl : j = ds.length := by omega
      rw [List.take_length]
      go_wp2
      go_ret
      exact ⟨rfl, Tr.refl _⟩
theorem eqIntSS_ob (v u : Value) (ds ds' : List (List Int)) (w : World) {lo hi lo' hi' : Nat} (h : Ob (OIIs lo hi v ds) lo hi w) (h' : Ob (OIIs lo' hi' u ds') lo' hi' w) :
    Calls Try.prog 22 #[v, u] w fun e w' => e = .returned (.bool (decide (ds = ds'))) ∧ Tr 0 0 w w' :=
  (eqIntSS_any v u ds ds' w h.holds h'.holds h.le h'.le).mono fun _ _ ⟨he, hb⟩ => ⟨he, Tr.below hb⟩
/-- A list of lists known by its cells. -/
def ArgII (w : World) (v : Value) (ds : List (List Int)) : Prop :=
  ∃ A cap, v = .slice A ds.length cap ∧ ds.length ≤ cap ∧ cap ≤ maxLen ∧ (A = none → cap = 0) ∧
    (0 < ds.length → ∃ b off, A = some ⟨b, off, none⟩ ∧ b < w.heap.size ∧ ∀ k (hk : k < ds.length), ∃ s, w.cell? ⟨b, off + k, none⟩ = some s ∧ ArgI w s ds[k])
section
variable {w w' : World} {v : Value} {ds : List (List Int)} {lo hi : Nat}
theorem ArgI.same {xs : List Int} (h : ArgI w v xs) (hs : ∀ b, b < w.heap.size → w'.heap[b]? = w.heap[b]?) : ArgI w' v xs := by
  obtain ⟨A, cap, hv, hc, hm, hr, hx⟩ := h
  refine ⟨A, cap, hv, hc, hm, hr, fun h0 => ?_⟩
  obtain ⟨b, off, hA, hx⟩ := hx h0
  refine ⟨b, off, hA, fun i hi => ?_⟩
  rw [World.cell?_of_block (w := w) (hs b (World.block_lt_of_cell? w _ (hx i hi)))]
  exact hx i hi
theorem ArgII.same (h : ArgII w v ds) (hs : ∀ b, b < w.heap.size → w'.heap[b]? = w.heap[b]?) : ArgII w' v ds := by
  obtain ⟨A, cap, hv, hc, hm, hn, hx⟩ := h
  refine ⟨A, cap, hv, hc, hm, hn, fun h0 => ?_⟩
  obtain ⟨b, off, hA, hlt, hx⟩ := hx h0
  have hh := hs b hlt
  refine ⟨b, off, hA, ?_, fun k hk => ?_⟩
  · rw [Array.getElem?_eq_getElem hlt] at hh
    exact lt_of_heap hh
  · obtain ⟨s, h1, h2⟩ := hx k hk
    exact ⟨s, (World.cell?_of_block (w := w) hh).trans h1, h2.same hs⟩
theorem ArgII.below (h : ArgII w v ds) (hb : Below w.heap.size w w') : ArgII w' v ds := h.same fun b hlt => hb.block b hlt
theorem ArgII.form (h : ArgII w v ds) : ∃ A cap, v = .slice A ds.length cap := by
  obtain ⟨A, cap, hv, _⟩ := h
  exact ⟨A, cap, hv⟩
theorem ArgII.at {A : Option Addr} {m cap : Nat} (h : ArgII w (.slice A m cap) ds) {k : Nat} (hk : k < ds.length) :
    ∃ b off A1 c1, A = some ⟨b, off, none⟩ ∧ b < w.heap.size ∧ w.cell? ⟨b, off + k, none⟩ = some (.slice A1 ds[k].length c1) ∧ ArgI w (.slice A1 ds[k].length c1) ds[k] := by
  obtain ⟨A', cap', hv, hc, hm, hn, hx⟩ := h
  obtain ⟨b, off, hA, hlt, hx⟩ := hx (by omega)
  injection hv with e1 e2 e3
  obtain ⟨s, h1, h2⟩ := hx k hk
  obtain ⟨A1, c1, rfl⟩ := ArgI.form h2
  exact ⟨b, off, A1, c1, e1.trans hA, hlt, h1, h2⟩
end
theorem ArgII.ob {w : World} {v : Value} {ds : List (List Int)} (h : ArgII w v ds) : Ob (Kept w fun w => ArgII w v ds) 0 w.heap.size w := Kept.ob h
def cntLL (ds : List (List Int)) : Nat := ds.length + cntL cI ds
theorem cntLL_each {ds : List (List Int)} {n : Nat} (h : cntLL ds ≤ n) : ds.length ≤ n ∧ ∀ d ∈ ds, d.length ≤ n := by
  refine ⟨by unfold cntLL at h; omega, fun d hd => ?_⟩
  obtain ⟨i, hi, rfl⟩ := List.getElem_of_mem hd
  have := cntL_at (c := cI) ds i hi
  unfold cntLL at h
  unfold cI at this h
  omega
theorem toList_ones (z : Value) (n : Nat) : (List.replicate n [z]).flatten = List.replicate n z := by
  induction n with
  | zero => rfl
  | succ n ih => simp [List.replicate_succ, ih]
theorem fill_set1 {α} (xs : List α) (z : α) (k : Nat) (hk : k < xs.length) : (xs.take k ++ List.replicate (xs.length - k) z).set k xs[k] = xs.take (k + 1) ++ List.replicate (xs.length - (k + 1)) z := by
  have e : xs.length - k = (xs.length - (k + 1)) + 1 := by omega
  rw [e, List.replicate_succ, List.set_append_right _ _ (by simp; omega), List.length_take, Nat.min_eq_left (by omega), Nat.sub_self, List.set_cons_zero, List.take_succ_eq_append_getElem hk]
  simp only [List.append_assoc, List.cons_append, List.nil_append]
theorem OwI.nil0 {w : World} {base : Nat} : OwI w base (.slice none 0 0) [] := ⟨⟨rfl, .inl ⟨rfl, rfl⟩⟩, I64s_nil⟩
theorem cnt_small {n : Nat} : ∀ {L : List (List Int)}, (∀ x ∈ L, x.length ≤ n) → cntL cI L ≤ L.length * n
  | [], _ => by simp [cntL]
  | x :: L, h => by
    have h1 := cnt_small (n := n) (L := L) fun y hy => h y (by simp [hy])
    have h2 := h x (by simp)
    unfold cntL at h1 ⊢
    rw [List.map_cons, List.sum_cons, List.length_cons, Nat.add_mul, Nat.one_mul]
    unfold cI at h1 ⊢
    omega
end Go.Proofs.Ytnmkbkpegkchpaa
