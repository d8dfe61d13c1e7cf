/- Morphisms and lists of words in the laws: compared, marked, read again. -/
import Derived.Test.YthdgcikdekkjkaaMorS
import Derived.Test.YthdgcikdekkjkaaWhS
namespace Go.Proofs.Ythdgcikdekkjkaa
set_option maxRecDepth 20000
set_option linter.unusedVariables false
set_option linter.unusedSimpArgs false
open Go.RowKit

def cI (xs : List Int) : Nat := xs.length
def mI (k : Int) (xs : List Int) : List Int := iota k xs.length
abbrev OIIs (lo hi : Nat) (v : Value) (L : List (List Int)) (w : World) : Prop := OwII lo hi v L w
theorem OIIs.ob {lo : Nat} {v : Value} {L : List (List Int)} {w : World} (h : OIIs lo w.heap.size v L w) : Ob (OIIs lo w.heap.size v L) lo w.heap.size w :=
  ⟨h, fun _ _ hu hb => OwnL.keep hu EI.stable hb, Nat.le_refl _⟩
set_option maxHeartbeats 1000000 in
theorem eqIntSS_any (v u : Value) (ds ds' : List (List Int)) (w : World) {lo hi lo' hi' : Nat} (h : OIIs lo hi v ds w) (h' : OIIs lo' hi' u ds' w) (hh : hi ≤ w.heap.size) (hh' : hi' ≤ w.heap.size) :
    Calls Try.prog 56 #[v, u] w fun e w' => e = .returned (.bool (decide (ds = ds'))) ∧ Below w.heap.size w w' := by
  obtain ⟨A, cap, rfl, hcap, hm, _⟩ := h.len
  obtain ⟨A', cap', rfl, hcap', hm', _⟩ := h'.len
  have H := Lib.hid h
  have H' := Lib.hid h'
  unfold maxLen at hm hm'
  clear h h'
  by_cases hne : ds.length = ds'.length
  · have hd : ((ds.length : Int) != (ds'.length : Int)) = false := by simp [hne]
    have HNE := Lib.hid hne
    clear hne
    go_enter Try.func56, Try.ntmps56
    go_wp2
    go_loopw [5] (fun i wr => ∃ k : Nat, k ≤ ds.length ∧ i = .int .i64 k ∧ ds.take k = ds'.take k ∧ Below w.heap.size w wr) (fun i _ => ds.length - (intOf i).toNat)
    case atStart => exact ⟨0, Nat.zero_le _, rfl, by simp, Below.refl _ _⟩
    case round =>
      obtain ⟨k, hk, rfl, heq, hbel⟩ := hrel
      have HEQ := Lib.hid heq
      have HB := Lib.hid hbel
      have hsz := hbel.size
      by_cases hlt : k < ds.length
      · have hlt' : k < ds'.length := by have := HNE.out; omega
        obtain ⟨g, cs, Fe, rfl, _, hg, hE, hcw, _, _, hc, _⟩ := (H.out.keep EI.stable (w' := wr) fun b _ hb => hbel.block b (by omega)).focus EI.stable hlt
        obtain ⟨g', cs', Fe', rfl, _, hg', hE', hcw', _, _, hc', _⟩ := (H'.out.keep EI.stable (w' := wr) fun b _ hb => hbel.block b (by omega)).focus EI.stable hlt'
        obtain ⟨s, rfl, ho, _⟩ := hE
        obtain ⟨s', rfl, ho', _⟩ := hE'
        have c0 := hc 0 (by simp)
        have c0' := hc' 0 (by simp)
        simp only [List.getElem_cons_zero, Nat.add_zero, Nat.mul_one] at c0 c0'
        have HQ : Hid (ds.take (k + 1) = ds'.take (k + 1) ↔ ds[k] = ds'[k]) := Lib.hid ⟨fun e => by
          have := congrArg (fun l => l[k]?) e
          simpa [hlt, hlt'] using this, fun e => take_eq_succ HEQ.out hlt hlt' e⟩
        have HN : Hid (ds[k] ≠ ds'[k] → ds ≠ ds') := Lib.hid (fun e1 e2 => by subst e2; exact e1 rfl)
        have X1 := Lib.hid ho
        have X2 := Lib.hid ho'
        have hgw : g < wr.heap.size := by omega
        have hgw' : g' < wr.heap.size := by omega
        clear hc hc' heq hbel ho ho'
        generalize ds[k] = d at *
        generalize ds'[k] = d' at *
        obtain ⟨A2, c2, rfl, _⟩ := OwI.form X1.out
        obtain ⟨A3, c3, rfl, _⟩ := OwI.form X2.out
        go_wp2_with fail
        go_quiet ((go_at_call 33; exact (eqIntS_any _ _ d d' _ (X1.out.arg.drewN _) (X2.out.arg.drewN _)).mono fun _ _ ⟨he, n, hn⟩ => ⟨he, by rw [hn]; exact ⟨_, World.drewN_drewN _ _ _⟩⟩))
        rcases e2 : decide (d = d') with _ | _
        · go_wp2
          go_ret
          exact ⟨ret_bool (by symm; rw [decide_eq_false_iff_not]; exact HN.out (by simpa using e2)), bel_drewN HB.out _⟩
        · go_wp2
          go_roundw
          case rel => exact ⟨k + 1, by omega, by go_num, HQ.out.2 (by simpa using e2), bel_drewN HB.out _⟩
          case measure => simp [intOf]; omega
      · obtain rfl : k = ds.length := by omega
        go_wp2
        go_ret
        refine ⟨ret_bool ?_, HB.out⟩
        have h1 := HEQ.out
        rw [List.take_length, HNE.out, List.take_length] at h1
        simp [h1]
  · have hd : ((ds.length : Int) != (ds'.length : Int)) = true := by simp; omega
    go_enter Try.func56, Try.ntmps56
    go_wp2
    go_ret
    exact ⟨ret_bool (by symm; rw [decide_eq_false_iff_not]; rintro rfl; exact hne rfl), Below.refl _ _⟩
set_option maxHeartbeats 1000000 in
theorem markIntSS_ob (v : Value) (ds : List (List Int)) (k : Int) (lo hi : Nat) (w : World) (h : Ob (OIIs lo hi v ds) lo hi w)
    (hl : cntL cI ds ≤ 1073741824) (hk0 : 0 ≤ k) (hk : k ≤ 1125890000000000) :
    Calls Try.prog 61 #[v, .int .i64 k] w fun e w' => e = .returned (.int .i64 (k + cntL cI ds)) ∧ Ob (OIIs lo hi v (mkL cI mI k ds)) lo hi w' ∧ Tr lo hi w w' := by
  obtain ⟨A, cap, rfl, hcap, hm, _⟩ := h.holds.len
  unfold maxLen at hm
  have hle := h.le
  have H := Lib.hid h.holds
  have HLOC : Hid (∀ ds', Loc (OIIs lo hi (.slice A ds.length cap) ds') lo hi) := Lib.hid fun ds' _ _ hu hb => OwnL.keep hu EI.stable hb
  clear h
  go_enter Try.func61, Try.ntmps61
  go_wp2
  go_loopw [1, 5] (fun kk i wr => ∃ j : Nat, j ≤ ds.length ∧ i = .int .i64 j ∧ kk = .int .i64 (k + (cntL cI (ds.take j) : Nat)) ∧ OIIs lo hi (.slice A ds.length cap) (mkAt cI mI k ds j) wr ∧ Tr lo hi w wr)
    (fun _ i _ => ds.length - (intOf i).toNat)
  case atStart => exact ⟨0, Nat.zero_le _, rfl, by simp [cntL], by rw [mkAt_zero]; exact H.out, ⟨rfl, rfl, rfl, Nat.le_refl _, fun _ _ _ => rfl⟩⟩
  case round =>
    obtain ⟨j, hj, rfl, rfl, hown, ht⟩ := hrel
    have hsz := ht.size
    by_cases hlt : j < ds.length
    · have hml := mkAt_length (c := cI) (m := mI) k ds j
      obtain ⟨g, cs, Fe, rfl, hg1, hg2, hE, hcw, hFe, hnd, hc, hfz, hgs, hfin⟩ := hown.focus EI.stable (k := j) (by rw [hml]; exact hlt)
      rw [mkAt_get k ds j hlt] at hE
      obtain ⟨s, rfl, ho, rfl⟩ := hE
      have c0 := hc 0 (by simp)
      simp only [List.getElem_cons_zero, Nat.add_zero, Nat.mul_one] at c0
      have hcnt := cntL_at (c := cI) ds j hlt
      have HSUC := Lib.hid (cntL_succ (c := cI) ds j hlt)
      have HSET := Lib.hid (mkAt_succ (c := cI) (m := mI) k ds j hlt)
      have HT := Lib.hid ht
      have HO := Lib.hid ho
      have HFE := Lib.hid hFe
      have HFIN := Lib.hid hfin
      have hcd : cI ds[j] = ds[j].length := rfl
      have HCD := Lib.hid hcd
      have hdl : ds[j].length ≤ 1073741824 := by omega
      have hc2 : cntL cI (ds.take j) ≤ 1073741824 := by omega
      clear hc hfz hfin hFe hnd ht hown ho hml hcd
      go_wp2_with fail
      refine (markIntS_any s ds[j] _ 0 _ HO.out hdl (by omega) (by omega)).mono ?_
      rintro e w9 ⟨rfl, o9, g9⟩
      have O9 := Lib.hid o9
      have G9 := Lib.hid g9
      clear o9 g9
      go_wp2
      go_roundw
      case rel =>
        have hne : s.ownBlock ≠ some g := fun e => (HFE.out g (by simp [e])).2.2 rfl
        refine ⟨j + 1, by omega, by go_num, by rw [HSUC.out, HCD.out]; go_num, ?_, HT.out.trans (Tr.grown G9.out fun b hb => ⟨(HFE.out b (by simp [hb])).1, (HFE.out b (by simp [hb])).2.1⟩)⟩
        rw [← HSET.out]
        refine HFIN.out _ [s] _ (fun pre post hp hrow => ?_) rfl ⟨s, rfl, O9.out, rfl⟩ fun b hb h1 h2 => ?_
        · exact ownsRow_keep hrow fun b hb => G9.out.block b (by simp [Value.ownBlock] at hb; subst hb; exact hgs) (by rw [← hb]; exact fun e => hne e.symm)
        · exact G9.out.block b (by omega) (fun e => h2 (by simp [← e]))
      case measure => simp [intOf]; omega
    · obtain rfl : j = ds.length := by omega
      rw [List.take_length]
      rw [mkAt_all] at hown
      go_wp2
      go_ret
      exact ⟨rfl, ⟨hown, HLOC.out _, by omega⟩, ht⟩
set_option maxHeartbeats 1000000 in
theorem heldIntSS_ob (v : Value) (ds : List (List Int)) (k : Int) (lo hi : Nat) (w : World) (h : Ob (OIIs lo hi v (mkL cI mI k ds)) lo hi w)
    (hl : cntL cI ds ≤ 1073741824) (hk0 : 0 ≤ k) (hk : k ≤ 1125890000000000) :
    Calls Try.prog 62 #[v, .int .i64 k] w fun e w' => e = .returned (.int .i64 (k + cntL cI ds)) ∧ Tr 0 0 w w' := by
  have hml := mkL_length (c := cI) (m := mI) k ds
  obtain ⟨A, cap, rfl, hcap, hm, _⟩ := h.holds.len
  rw [hml] at hcap ⊢
  unfold maxLen at hm
  have H := Lib.hid h.holds
  have HML := Lib.hid hml
  clear h hml
  go_enter Try.func62, Try.ntmps62
  go_wp2
  go_loop [1, 5] (fun kk i => ∃ j : Nat, j ≤ ds.length ∧ i = .int .i64 j ∧ kk = .int .i64 (k + (cntL cI (ds.take j) : Nat)))
    (fun _ i => ds.length - (intOf i).toNat)
  case atStart => exact ⟨0, Nat.zero_le _, rfl, by simp [cntL]⟩
  case round =>
    obtain ⟨j, hj, rfl, rfl⟩ := hrel
    by_cases hlt : j < ds.length
    · have hcnt := cntL_at (c := cI) ds j hlt
      have hjm : j < (mkL cI mI k ds).length := by rw [HML.out]; exact hlt
      have hget := mkL_get (c := cI) (m := mI) k ds j hlt hjm
      have hh := H.out
      rw [HML.out] at hh
      obtain ⟨g, cs, Fe, rfl, hg1, hg2, hE, hcw, hFe, hnd, hc, _⟩ := hh.focus EI.stable (k := j) hjm
      rw [hget] at hE
      obtain ⟨s, rfl, ho, rfl⟩ := hE
      have c0 := hc 0 (by simp)
      simp only [List.getElem_cons_zero, Nat.add_zero, Nat.mul_one] at c0
      have HSUC := Lib.hid (cntL_succ (c := cI) ds j hlt)
      have hcd : cI ds[j] = ds[j].length := rfl
      have HCD := Lib.hid hcd
      have hdl : ds[j].length ≤ 1073741824 := by omega
      have hc2 : cntL cI (ds.take j) ≤ 1073741824 := by omega
      have HO : Hid (OwI w 0 s (iota (k + (cntL cI (ds.take j) : Nat)) ds[j].length)) := Lib.hid ho
      clear hc hFe hnd ho hget hh hcd
      go_wp2_with fail
      refine (heldIntS_any s ds[j].length _ _ HO.out.arg hdl (by omega) (by omega)).mono ?_
      rintro e w9 ⟨rfl, rfl⟩
      go_wp2
      go_round
      case rel => exact ⟨j + 1, by omega, by go_num, by rw [HSUC.out, HCD.out]; go_num⟩
      case measure => simp [intOf]; omega
    · obtain rfl : j = ds.length := by omega
      rw [List.take_length]
      go_wp2
      go_ret
      exact ⟨rfl, Tr.refl _⟩
theorem OwM.ob {lo : Nat} {v : Value} {d : MoD} {w : World} (h : OwM lo w.heap.size v d w) : Ob (OwM lo w.heap.size v d) lo w.heap.size w :=
  ⟨h, fun _ _ hu hb => by obtain ⟨s, hv, hd, ho⟩ := hu; exact ⟨s, hv, hd, OwnL.keep ho EI.stable hb⟩, Nat.le_refl _⟩
set_option maxHeartbeats 1000000 in
theorem eqMorphism_ob (v u : Value) (d d' : MoD) (w : World) {lo hi lo' hi' : Nat} (h : Ob (OwM lo hi v d) lo hi w) (h' : Ob (OwM lo' hi' u d') lo' hi' w) :
    Calls Try.prog 47 #[v, u] w fun e w' => e = .returned (.bool (decide (d = d'))) ∧ Tr 0 0 w w' := by
  have hle := h.le
  have hle' := h'.le
  obtain ⟨s, rfl, hd, ha⟩ := h.holds
  obtain ⟨s', rfl, hd', ha'⟩ := h'.holds
  obtain ⟨L, xs⟩ := d
  obtain ⟨L', xs'⟩ := d'
  have H := Lib.hid ha
  have H' := Lib.hid ha'
  obtain ⟨A, cap, rfl, _⟩ := ha.len
  obtain ⟨A', cap', rfl, _⟩ := ha'.len
  clear ha ha' hd hd' h h'
  rcases e1 : (L != L') with _ | _
  · have hL : L = L' := by simpa using e1
    have F : Hid (decide ((L, xs) = (L', xs')) = decide (xs = xs')) := Lib.hid (by rw [hL]; simp)
    clear hL
    go_enter Try.func47, Try.ntmps47
    go_wp2_with fail
    have hb : Below w.heap.size w ((w.alloc (Obj.cells #[Value.int IntKind.i64 L, .slice A xs.length cap] 61)).alloc (Obj.cells #[Value.int IntKind.i64 L', .slice A' xs'.length cap'] 61)) := (by repeat (first | exact Below.refl _ _ | (refine Below.setCell ?_ (by first | omega | (simp <;> omega)) _) | (refine bel_drewN ?_ _) | (refine Below.drew ?_) | (refine Below.alloc ?_ (by first | omega | (simp <;> omega)) _)))
    have HB := Lib.hid hb
    have hbs := hb.size
    refine (eqIntSS_any _ _ xs xs' _ (H.out.keep EI.stable fun b _ hlt => hb.block b (by omega)) (H'.out.keep EI.stable fun b _ hlt => hb.block b (by omega)) (by omega) (by omega)).mono ?_
    rintro e w1 ⟨rfl, b1⟩
    have B1 := Lib.hid (Tr.below (hb.trans (b1.mono hbs)))
    clear hb b1
    rcases e2 : decide (xs = xs') with _ | _
    · go_wp2
      go_ret
      exact ⟨ret_bool (by rw [F.out, e2]), B1.out⟩
    · go_wp2
      go_ret
      exact ⟨ret_bool (by rw [F.out, e2]), B1.out⟩
  · have F : Hid (decide ((L, xs) = (L', xs')) = false) := Lib.hid (by simp at e1; simp [e1])
    go_enter Try.func47, Try.ntmps47
    go_wp2
    go_ret
    exact ⟨ret_bool (by simp at e1; simp [e1]), Tr.below (by repeat (first | exact Below.refl _ _ | (refine Below.setCell ?_ (by first | omega | (simp <;> omega)) _) | (refine bel_drewN ?_ _) | (refine Below.drew ?_) | (refine Below.alloc ?_ (by first | omega | (simp <;> omega)) _)))⟩
set_option maxHeartbeats 400000 in
theorem markMorphism_ob (v : Value) (d : MoD) (k : Int) (lo hi : Nat) (w : World) (h : Ob (OwM lo hi v d) lo hi w)
    (hl : cntL cI d.2 ≤ 1073741824) (hk0 : 0 ≤ k) (hk : k ≤ 1125890000000000) :
    Calls Try.prog 50 #[v, .int .i64 k] w fun e w' => e = .returned (.int .i64 (k + cntL cI d.2)) ∧ Ob (OwM lo hi v (d.1, mkL cI mI k d.2)) lo hi w' ∧ Tr lo hi w w' := by
  obtain ⟨s, rfl, hd, ho⟩ := h.holds
  obtain ⟨L, xs⟩ := d
  have HO : Hid (Ob (OIIs lo hi s xs) lo hi w) := Lib.hid ⟨ho, fun _ _ hu hb => OwnL.keep hu EI.stable hb, h.le⟩
  have hle := h.le
  clear h ho
  go_enter Try.func50, Try.ntmps50
  go_wp2_with fail
  have t1 : Tr 0 0 w (w.alloc (Obj.cells #[Value.int IntKind.i64 L, s] 61)) := Tr.below (by repeat (first | exact Below.refl _ _ | (refine Below.setCell ?_ (by first | omega | (simp <;> omega)) _) | (refine bel_drewN ?_ _) | (refine Below.drew ?_) | (refine Below.alloc ?_ (by first | omega | (simp <;> omega)) _)))
  have T1 := Lib.hid t1
  refine (markIntSS_ob s xs k lo hi _ (HO.out.tr t1 (by omega)) hl hk0 hk).mono ?_
  rintro e w1 ⟨rfl, o1, t2⟩
  have O1 := Lib.hid o1
  have T2 := Lib.hid t2
  clear o1 t2 t1
  go_wp2
  go_ret
  exact ⟨rfl, ⟨⟨s, rfl, hd, O1.out.holds⟩, fun _ _ hu hb => (by obtain ⟨s, hv, hd, ho⟩ := hu; exact ⟨s, hv, hd, OwnL.keep ho EI.stable hb⟩), O1.out.le⟩, T1.out.then_ T2.out hle⟩
set_option maxHeartbeats 400000 in
theorem heldMorphism_ob (v : Value) (d : MoD) (k : Int) (lo hi : Nat) (w : World) (h : Ob (OwM lo hi v (d.1, mkL cI mI k d.2)) lo hi w)
    (hl : cntL cI d.2 ≤ 1073741824) (hk0 : 0 ≤ k) (hk : k ≤ 1125890000000000) :
    Calls Try.prog 51 #[v, .int .i64 k] w fun e w' => e = .returned (.int .i64 (k + cntL cI d.2)) ∧ Tr 0 0 w w' := by
  obtain ⟨s, rfl, hd, ho⟩ := h.holds
  obtain ⟨L, xs⟩ := d
  have HO : Hid (Ob (OIIs lo hi s (mkL cI mI k xs)) lo hi w) := Lib.hid ⟨ho, fun _ _ hu hb => OwnL.keep hu EI.stable hb, h.le⟩
  clear h ho
  go_enter Try.func51, Try.ntmps51
  go_wp2_with fail
  have t1 : Tr 0 0 w (w.alloc (Obj.cells #[Value.int IntKind.i64 L, s] 61)) := Tr.below (by repeat (first | exact Below.refl _ _ | (refine Below.setCell ?_ (by first | omega | (simp <;> omega)) _) | (refine bel_drewN ?_ _) | (refine Below.drew ?_) | (refine Below.alloc ?_ (by first | omega | (simp <;> omega)) _)))
  have T1 := Lib.hid t1
  refine (heldIntSS_ob s xs k lo hi _ (HO.out.tr t1 (by omega)) hl hk0 hk).mono ?_
  rintro e w1 ⟨rfl, t2⟩
  have T2 := Lib.hid t2
  clear t2 t1
  go_wp2
  go_ret
  exact ⟨rfl, T1.out.then0 T2.out⟩
theorem whM_cnt (r : Int) (d : WhD) : cntL cI (whM r d).2 ≤ 1073741824 := by
  have h : ∀ ds : List (List Int), (∀ p ∈ ds, p.length ≤ 3) → cntL cI ds ≤ 3 * ds.length := by
    intro ds
    induction ds with
    | nil => intro _; simp [cntL]
    | cons d ds ih =>
      intro hd
      rw [cntL_cons]
      have h1 := hd d (by simp)
      have h2 := ih fun p hp => hd p (by simp [hp])
      have : cI d = d.length := rfl
      simp only [List.length_cons]
      omega
  unfold whM
  split
  · rename_i hw
    have := inB_iff.1 (whB_rank hw).1
    have h1 := h _ (whImgs_each d r.toNat)
    rw [whImgs_len] at h1
    simp only
    omega
  · simp [cntL]
theorem whM_I64 {r : Int} (d : WhD) (hr : I64 r) : I64 (whM r d).1 := by
  unfold whM; split
  · exact hr
  · unfold I64; simp
theorem implWhiteheadMorphism_ow (r : Int) (v : Value) (d : WhD) (w : World) (hr : I64 r) (h : ArgWh w v d) (hl : d.2.length ≤ 1073741824) :
    Calls Try.prog 46 #[.int .i64 r, v] w fun e w' => ∃ s, e = .returned (.tuple #[s, .bool (whB r d)]) ∧ OwM w.heap.size w'.heap.size s (whM r d) w' ∧ Below w.heap.size w w' :=
  (implWhiteheadMorphism_any r v d w hr h hl).mono fun _ _ ⟨s, he, ho, hb⟩ => ⟨_, he, ⟨s, rfl, whM_I64 d hr, ho⟩, hb⟩
theorem specWhiteheadMorphism_ow (r : Int) (v : Value) (d : WhD) (w : World) (hr : I64 r) (h : ArgWh w v d) (hl : d.2.length ≤ 1073741824) :
    Calls Try.prog 44 #[.int .i64 r, v] w fun e w' => ∃ s, e = .returned (.tuple #[s, .bool (whB r d)]) ∧ OwM w.heap.size w'.heap.size s (whM r d) w' ∧ Below w.heap.size w w' :=
  (specWhiteheadMorphism_any r v d w hr h hl).mono fun _ _ ⟨s, he, ho, hb⟩ => ⟨_, he, ⟨s, rfl, whM_I64 d hr, ho⟩, hb⟩
end Go.Proofs.Ythdgcikdekkjkaa
