/- Lists of Whitehead automorphisms in the laws: compared, marked, read again. -/
import Derived.Test.YthdgcikdekkjkaaAllWh
import Derived.Test.YthdgcikdekkjkaaMark
import Derived.Test.YthdgcikdekkjkaaLaw
import Derived.Deep.RegionHeld3
import Derived.Outline
namespace Go.Proofs.Ythdgcikdekkjkaa
set_option maxRecDepth 20000
set_option linter.unusedVariables false
set_option linter.unusedSimpArgs false
open Go.RowKit

def cW (d : WhD) : Nat := d.2.length + 1
def mW (k : Int) (d : WhD) : WhD := (k, iota (k + 1) d.2.length)
theorem OWhS.ob {lo : Nat} {v : Value} {ds : List WhD} {w : World} (h : OWhS lo w.heap.size v ds w) : Ob (OWhS lo w.heap.size v ds) lo w.heap.size w :=
  ⟨h, fun _ _ hu hb => OwnL.keep hu EWh.stable hb, Nat.le_refl _⟩
theorem EWh.at {w : World} {cs : List Value} {d : WhD} {F : List Nat} (h : EWh w cs d F) : ∃ s, cs = [.int .i64 d.1, s] ∧ I64 d.1 ∧ OwI w 0 s d.2 ∧ F = s.ownBlock.toList := h
set_option maxHeartbeats 1000000 in
theorem eqWhiteheadS_any (v u : Value) (ds ds' : List WhD) (w : World) {lo hi lo' hi' : Nat} (h : OWhS lo hi v ds w) (h' : OWhS lo' hi' u ds' w) (hh : hi ≤ w.heap.size) (hh' : hi' ≤ w.heap.size) :
    Calls Try.prog 19 #[v, u] w fun e w' => e = .returned (.bool (decide (ds = ds'))) ∧ Below w.heap.size w w' := by
  obtain ⟨A, cap, rfl, hcap, hm, _⟩ := h.len
  obtain ⟨A', cap', rfl, hcap', hm', _⟩ := h'.len
  have H := Lib.hid h
  have H' := Lib.hid h'
  unfold maxLen at hm hm'
  clear h h'
  by_cases hne : ds.length = ds'.length
  · have hd : ((ds.length : Int) != (ds'.length : Int)) = false := by simp [hne]
    have HNE := Lib.hid hne
    clear hne
    go_enter Try.func19, Try.ntmps19
    go_wp2
    go_loopw [5] (fun i wr => ∃ k : Nat, k ≤ ds.length ∧ i = .int .i64 k ∧ ds.take k = ds'.take k ∧ Below w.heap.size w wr) (fun i _ => ds.length - (intOf i).toNat)
    case atStart => exact ⟨0, Nat.zero_le _, rfl, by simp, Below.refl _ _⟩
    case round =>
      obtain ⟨k, hk, rfl, heq, hbel⟩ := hrel
      have HEQ := Lib.hid heq
      have HB := Lib.hid hbel
      have hsz := hbel.size
      by_cases hlt : k < ds.length
      · have hlt' : k < ds'.length := by have := HNE.out; omega
        obtain ⟨g, cs, Fe, rfl, _, hg, hE, hcw, _, _, hc, _⟩ := (H.out.keep EWh.stable (w' := wr) fun b _ hb => hbel.block b (by omega)).focus EWh.stable hlt
        obtain ⟨g', cs', Fe', rfl, _, hg', hE', hcw', _, _, hc', _⟩ := (H'.out.keep EWh.stable (w' := wr) fun b _ hb => hbel.block b (by omega)).focus EWh.stable hlt'
        obtain ⟨s, rfl, hi1, ho, _⟩ := hE
        obtain ⟨s', rfl, hi1', ho', _⟩ := hE'
        have c0 := hc 0 (by simp)
        have c1 := hc 1 (by simp)
        have c0' := hc' 0 (by simp)
        have c1' := hc' 1 (by simp)
        simp only [List.getElem_cons_zero, List.getElem_cons_succ, Nat.add_zero] at c0 c1 c0' c1'
        have HQ : Hid (ds.take (k + 1) = ds'.take (k + 1) ↔ ds[k] = ds'[k]) := Lib.hid ⟨fun e => by
          have := congrArg (fun l => l[k]?) e
          simpa [hlt, hlt'] using this, fun e => take_eq_succ HEQ.out hlt hlt' e⟩
        have HN : Hid (ds[k] ≠ ds'[k] → ds ≠ ds') := Lib.hid (fun e1 e2 => by subst e2; exact e1 rfl)
        have X1 : Hid (ArgWh wr (.agg #[.int .i64 ds[k].1, s]) ds[k]) := Lib.hid ⟨s, rfl, hi1, ho.arg⟩
        have X2 : Hid (ArgWh wr (.agg #[.int .i64 ds'[k].1, s']) ds'[k]) := Lib.hid ⟨s', rfl, hi1', ho'.arg⟩
        have hgw : g < wr.heap.size := by omega
        have hgw' : g' < wr.heap.size := by omega
        clear hc hc' heq hbel hi1 ho hi1' ho'
        generalize ds[k] = d at *
        generalize ds'[k] = d' at *
        go_wp2_with fail
        go_region_held3 (fun w' => w'.cell? ⟨g, k * 2, none⟩ = some (.int .i64 d.1) ∧ w'.cell? ⟨g, k * 2 + 1, none⟩ = some s ∧ w'.cell? ⟨g', k * 2, none⟩ = some (.int .i64 d'.1) ∧ w'.cell? ⟨g', k * 2 + 1, none⟩ = some s')
          (first | go_keep | exact ⟨q0, q1, q2, q3⟩)
          ((go_at_call 48; refine (eqWhitehead_any _ _ d d' _ (X1.out.below (Below.refl _ _).drew) (X2.out.below (Below.refl _ _).drew)).mono ?_; rintro e w9 ⟨rfl, b9⟩; have B9 := Lib.hid b9; have q0 := (b9.cell (p := ⟨g, k * 2, none⟩) hgw).trans c0; have q1 := (b9.cell (p := ⟨g, k * 2 + 1, none⟩) hgw).trans c1; have q2 := (b9.cell (p := ⟨g', k * 2, none⟩) hgw').trans c0'; have q3 := (b9.cell (p := ⟨g', k * 2 + 1, none⟩) hgw').trans c1'; clear b9))
        rcases e2 : decide (d = d') with _ | _
        · go_wp2
          go_ret
          exact ⟨ret_bool (by symm; rw [decide_eq_false_iff_not]; exact HN.out (by simpa using e2)), HB.out.trans ((Below.refl _ _).drew.trans (B9.out.mono hsz))⟩
        · go_wp2
          go_roundw
          case rel => exact ⟨k + 1, by omega, by go_num, HQ.out.2 (by simpa using e2), HB.out.trans ((Below.refl _ _).drew.trans (B9.out.mono hsz))⟩
          case measure => simp [intOf]; omega
      · obtain rfl : k = ds.length := by omega
        go_wp2
        go_ret
        refine ⟨ret_bool ?_, HB.out⟩
        have h1 := HEQ.out
        rw [List.take_length, HNE.out, List.take_length] at h1
        simp [h1]
  · have hd : ((ds.length : Int) != (ds'.length : Int)) = true := by simp; omega
    go_enter Try.func19, Try.ntmps19
    go_wp2
    go_ret
    exact ⟨ret_bool (by symm; rw [decide_eq_false_iff_not]; rintro rfl; exact hne rfl), Below.refl _ _⟩
theorem eqWhiteheadS_ob (v u : Value) (ds ds' : List WhD) (w : World) {lo hi lo' hi' : Nat} (h : Ob (OWhS lo hi v ds) lo hi w) (h' : Ob (OWhS lo' hi' u ds') lo' hi' w) :
    Calls Try.prog 19 #[v, u] w fun e w' => e = .returned (.bool (decide (ds = ds'))) ∧ Tr 0 0 w w' :=
  (eqWhiteheadS_any v u ds ds' w h.holds h'.holds h.le h'.le).mono fun _ _ ⟨he, hb⟩ => ⟨he, Tr.below hb⟩
theorem Tr.trans {a b : Nat} {w w1 w2 : World} (h : Tr a b w w1) (t : Tr a b w1 w2) : Tr a b w w2 :=
  ⟨t.os.trans h.os, t.tape.trans h.tape, t.output.trans h.output, Nat.le_trans h.size t.size, fun k hk hn => (t.block k (Nat.lt_of_lt_of_le hk h.size) hn).trans (h.block k hk hn)⟩
theorem setCell_block (w : World) (p : Addr) (u : Value) (b : Nat) (h : b ≠ p.block) : (w.setCell p u).heap[b]? = w.heap[b]? := Below.heap_setCell w p u b h
theorem setCell_grown (w : World) (g j : Nat) (u : Value) : w.grownBy (w.setCell ⟨g, j, none⟩ u) (some g) :=
  ⟨rfl, rfl, rfl, by simp, fun b _ hb => setCell_block w _ u b (fun e => hb (by rw [e]))⟩
set_option maxHeartbeats 1000000 in
theorem markWhiteheadS_ob (v : Value) (ds : List WhD) (k : Int) (lo hi : Nat) (w : World) (h : Ob (OWhS lo hi v ds) lo hi w)
    (hl : cntL cW ds ≤ 1073741824) (hk0 : 0 ≤ k) (hk : k ≤ 1125890000000000) :
    Calls Try.prog 20 #[v, .int .i64 k] w fun e w' => e = .returned (.int .i64 (k + cntL cW ds)) ∧ Ob (OWhS lo hi v (mkL cW mW k ds)) lo hi w' ∧ Tr lo hi w w' := by
  obtain ⟨A, cap, rfl, hcap, hm, _⟩ := h.holds.len
  unfold maxLen at hm
  have hle := h.le
  have H := Lib.hid h.holds
  have HLOC : Hid (∀ ds', Loc (OWhS lo hi (.slice A ds.length cap) ds') lo hi) := Lib.hid fun ds' _ _ hu hb => OwnL.keep hu EWh.stable hb
  clear h
  go_enter Try.func20, Try.ntmps20
  go_wp2
  go_loopw [1, 5] (fun kk i wr => ∃ j : Nat, j ≤ ds.length ∧ i = .int .i64 j ∧ kk = .int .i64 (k + (cntL cW (ds.take j) : Nat)) ∧ OWhS lo hi (.slice A ds.length cap) (mkAt cW mW k ds j) wr ∧ Tr lo hi w wr)
    (fun _ i _ => ds.length - (intOf i).toNat)
  case atStart => exact ⟨0, Nat.zero_le _, rfl, by simp [cntL], by rw [mkAt_zero]; exact H.out, ⟨rfl, rfl, rfl, Nat.le_refl _, fun _ _ _ => rfl⟩⟩
  case round =>
    obtain ⟨j, hj, rfl, rfl, hown, ht⟩ := hrel
    have hsz := ht.size
    by_cases hlt : j < ds.length
    · have hml := mkAt_length (c := cW) (m := mW) k ds j
      obtain ⟨g, cs, Fe, rfl, hg1, hg2, hE, hcw, hFe, hnd, hc, hfz, hgs, hfin⟩ := hown.focus EWh.stable (k := j) (by rw [hml]; exact hlt)
      rw [mkAt_get k ds j hlt] at hE
      obtain ⟨s, rfl, hi1, ho, rfl⟩ := hE
      have c0 := hc 0 (by simp)
      have c1 := hc 1 (by simp)
      simp only [List.getElem_cons_zero, List.getElem_cons_succ, Nat.add_zero] at c0 c1
      have hf0 := hfz (j * 2)
      have hcnt := cntL_at (c := cW) ds j hlt
      have HSUC := Lib.hid (cntL_succ (c := cW) ds j hlt)
      have HSET := Lib.hid (mkAt_succ (c := cW) (m := mW) k ds j hlt)
      have HT := Lib.hid ht
      have HO := Lib.hid ho
      have HFE := Lib.hid hFe
      have HFIN := Lib.hid hfin
      have hcd : cW ds[j] = ds[j].2.length + 1 := rfl
      clear hc hfz hfin hFe hnd ht hown ho hml
      go_wp2_with fail
      refine (markIntS_any s ds[j].2 _ 0 _ ?_ (by omega) (by omega) (by omega)).mono ?_
      · refine ⟨ownsRow_keep HO.out.1 fun b hb => ?_, HO.out.2⟩
        have h1 := HFE.out b (by simp [hb])
        exact setCell_block wr ⟨g, j * 2, none⟩ _ b h1.2.2
      rintro e w9 ⟨rfl, o9, g9⟩
      have O9 := Lib.hid o9
      have G9 := Lib.hid g9
      clear o9 g9
      go_wp2
      go_roundw
      case rel =>
        have hgr : wr.grownBy (wr.setCell ⟨g, j * 2, none⟩ (.int .i64 (k + (cntL cW (ds.take j) : Nat)))) (some g) := setCell_grown wr g (j * 2) _
        have hne : s.ownBlock ≠ some g := fun e => (HFE.out g (by simp [e])).2.2 rfl
        refine ⟨j + 1, by omega, by go_num, by rw [HSUC.out]; go_num, ?_, HT.out.trans ((Tr.grown hgr fun b hb => by cases hb; exact ⟨hg1, hg2⟩).trans (Tr.grown G9.out fun b hb => ⟨(HFE.out b (by simp [hb])).1, (HFE.out b (by simp [hb])).2.1⟩))⟩
        rw [← HSET.out]
        refine HFIN.out _ [.int .i64 (k + (cntL cW (ds.take j) : Nat)), s] _ (fun pre post hp hrow => ?_) rfl ⟨s, rfl, (show I64 (k + (cntL cW (ds.take j) : Nat)) from ⟨by omega, by omega⟩), ?_, rfl⟩ fun b hb h1 h2 => ?_
        · have := row_store (j := 0) (u := .int .i64 (k + (cntL cW (ds.take j) : Nat))) hrow hp (by simp)
          exact ownsRow_keep this fun b hb => G9.out.block b (by simp [Value.ownBlock] at hb; subst hb; simpa using hgs) (by rw [← hb]; exact fun e => hne e.symm)
        · have := O9.out
          rw [show k + (cntL cW (ds.take j) : Nat) + 1 = k + (cntL cW (ds.take j) : Nat) + 1 from rfl] at this
          exact this
        · rw [G9.out.block b (by simp; omega) (fun e => h2 (by simp [← e])), hgr.block b (by omega) (by simpa using h1)]
      case measure => simp [intOf]; omega
    · obtain rfl : j = ds.length := by omega
      rw [List.take_length]
      rw [mkAt_all] at hown
      go_wp2
      go_ret
      exact ⟨rfl, ⟨hown, HLOC.out _, by omega⟩, ht⟩
set_option maxHeartbeats 1000000 in
theorem heldWhiteheadS_ob (v : Value) (ds : List WhD) (k : Int) (lo hi : Nat) (w : World) (h : Ob (OWhS lo hi v (mkL cW mW k ds)) lo hi w)
    (hl : cntL cW ds ≤ 1073741824) (hk0 : 0 ≤ k) (hk : k ≤ 1125890000000000) :
    Calls Try.prog 21 #[v, .int .i64 k] w fun e w' => e = .returned (.int .i64 (k + cntL cW ds)) ∧ Tr 0 0 w w' := by
  have hml := mkL_length (c := cW) (m := mW) k ds
  obtain ⟨A, cap, rfl, hcap, hm, _⟩ := h.holds.len
  rw [hml] at hcap ⊢
  unfold maxLen at hm
  have H := Lib.hid h.holds
  have HML := Lib.hid hml
  clear h hml
  go_enter Try.func21, Try.ntmps21
  go_wp2
  go_loop [1, 5] (fun kk i => ∃ j : Nat, j ≤ ds.length ∧ i = .int .i64 j ∧ kk = .int .i64 (k + (cntL cW (ds.take j) : Nat)))
    (fun _ i => ds.length - (intOf i).toNat)
  case atStart => exact ⟨0, Nat.zero_le _, rfl, by simp [cntL]⟩
  case round =>
    obtain ⟨j, hj, rfl, rfl⟩ := hrel
    by_cases hlt : j < ds.length
    · have hcnt := cntL_at (c := cW) ds j hlt
      have hjm : j < (mkL cW mW k ds).length := by rw [HML.out]; exact hlt
      have hget := mkL_get (c := cW) (m := mW) k ds j hlt hjm
      have hh := H.out
      rw [HML.out] at hh
      obtain ⟨g, cs, Fe, rfl, hg1, hg2, hE, hcw, hFe, hnd, hc, _⟩ := hh.focus EWh.stable (k := j) hjm
      rw [hget] at hE
      obtain ⟨s, rfl, hi1, ho, rfl⟩ := hE
      have c0 := hc 0 (by simp)
      have c1 := hc 1 (by simp)
      simp only [List.getElem_cons_zero, List.getElem_cons_succ, Nat.add_zero] at c0 c1
      have HSUC := Lib.hid (cntL_succ (c := cW) ds j hlt)
      have hcd : cW ds[j] = ds[j].2.length + 1 := rfl
      have HO := Lib.hid ho
      have c0' : w.cell? ⟨g, j * 2, none⟩ = some (.int .i64 (k + (cntL cW (ds.take j) : Nat))) := c0
      clear hc hFe hnd ho hget hh c0 hi1
      go_wp2_with fail
      refine (heldIntS_any s ds[j].2.length _ _ HO.out.arg (by omega) (by omega) (by omega)).mono ?_
      rintro e w9 ⟨rfl, rfl⟩
      go_wp2
      go_round
      case rel => exact ⟨j + 1, by omega, by go_num, by rw [HSUC.out]; go_num⟩
      case measure => simp [intOf]; omega
    · obtain rfl : j = ds.length := by omega
      rw [List.take_length]
      go_wp2
      go_ret
      exact ⟨rfl, Tr.refl _⟩
theorem allWh_cnt (r : Int) : cntL cW (allWh r) ≤ 1073741824 := by
  rcases h : inB r 1 3 with _ | _
  · have : allWh r = [] := by unfold allWh; rw [h]; rfl
    rw [this]; simp [cntL]
  · have hb := inB_iff.1 h
    have : r = 1 ∨ r = 2 ∨ r = 3 := by omega
    rcases this with rfl | rfl | rfl <;> decide +kernel
end Go.Proofs.Ythdgcikdekkjkaa
