/- The helpers of the laws over Whitehead automorphisms. -/
import Derived.Test.YthdgcikdekkjkaaLaw
import Derived.Deep.RegionHeld3
namespace Go.Proofs.Ythdgcikdekkjkaa
set_option maxRecDepth 20000
set_option linter.unusedVariables false
set_option linter.unusedSimpArgs false
open Go.RowKit

abbrev WhD := Int × List Int
def ArgWh (w : World) (v : Value) (d : WhD) : Prop := ∃ s, v = .agg #[.int .i64 d.1, s] ∧ I64 d.1 ∧ ArgI w s d.2
def OwWh (w : World) (base : Nat) (v : Value) (d : WhD) : Prop := ∃ s, v = .agg #[.int .i64 d.1, s] ∧ I64 d.1 ∧ OwI w base s d.2

set_option maxHeartbeats 1000000 in
theorem toWhitehead_any (v : Value) (d : WhD) (w : World) (h : ArgWh w v d) (hl : d.2.length ≤ 1048576) :
    Calls Try.prog 45 #[v] w fun e w' => ∃ r, e = .returned r ∧ OwWh w' w.heap.size r d ∧ Below w.heap.size w w' := by
  obtain ⟨s, rfl, hd, ha⟩ := h
  obtain ⟨L, xs⟩ := d
  have H := Lib.hid ha
  clear ha
  go_enter Try.func45, Try.ntmps45
  go_wp2_with fail
  refine (toIntS_any _ xs _ ?_ hl).mono ?_
  · exact (H.out.below ((Below.refl _ _).alloc (Nat.le_refl _) _)).below ((Below.refl _ _).alloc (Nat.le_refl _) _) |>.below ((Below.refl _ _).alloc (Nat.le_refl _) _)
  rintro e w1 ⟨r, rfl, o1, b1⟩
  have O1 := Lib.hid o1
  have B1 := Lib.hid b1
  obtain ⟨A1, cap1, rfl, _⟩ := OwI.form o1
  obtain ⟨hc, hf⟩ := bcell b1
  have hz : w.heap.size + 1 + 1 < w1.heap.size := by have := b1.size; simp at this; omega
  clear o1 b1
  go_wp2
  refine bodyPost_ret (v := .agg #[.int .i64 L, .slice A1 xs.length cap1]) (by simp [results, Try.results45, go_sem, hc, hz]) rfl ⟨_, rfl, ⟨_, rfl, hd, ?_⟩, ?_⟩
  · refine OwI.mono (base := w.heap.size + 1 + 1 + 1) ?_ (by omega)
    have O2 : Hid (OwI w1 (w.heap.size + 1 + 1 + 1) (.slice A1 xs.length cap1) xs) := Lib.hid (by simpa using O1.out)
    exact (by repeat (first | exact (Hid.out O2) | exact (Hid.out O2).drewN _ | (refine OwI.far ?_ (by first | omega | (simp <;> omega)) _) | (refine OwI.alloc ?_ _) | (refine OwI.drew ?_) | (refine OwI.drewN ?_ _)))
  · exact (by repeat (first | exact Below.refl _ _ | (refine Below.setCell ?_ (by first | omega | (simp <;> omega)) _) | (refine bel_drewN ?_ _) | (refine Below.drew ?_) | (refine Below.alloc ?_ (by first | omega | (simp <;> omega)) _) | (refine Below.trans ?_ (Below.mono (Hid.out B1) (by first | omega | (simp <;> omega))))))

set_option maxHeartbeats 1000000 in
theorem eqWhitehead_any (v u : Value) (d d' : WhD) (w : World) (h : ArgWh w v d) (h' : ArgWh w u d') :
    Calls Try.prog 48 #[v, u] w fun e w' => e = .returned (.bool (decide (d = d'))) ∧ Below w.heap.size w w' := by
  obtain ⟨s, rfl, hd, ha⟩ := h
  obtain ⟨s', rfl, hd', ha'⟩ := h'
  obtain ⟨L, xs⟩ := d
  obtain ⟨L', xs'⟩ := d'
  have H := Lib.hid ha
  have H' := Lib.hid ha'
  obtain ⟨A, cap, rfl, _⟩ := ha
  obtain ⟨A', cap', rfl, _⟩ := ha'
  rcases e1 : (L != L') with _ | _
  · have hL : L = L' := by simpa using e1
    have F : Hid (decide ((L, xs) = (L', xs')) = decide (xs = xs')) := Lib.hid (by rw [hL]; simp)
    clear hL
    go_enter Try.func48, Try.ntmps48
    go_wp2_with fail
    have hb : Below w.heap.size w ((w.alloc (Obj.cells #[Value.int IntKind.i64 L, .slice A xs.length cap] 64)).alloc (Obj.cells #[Value.int IntKind.i64 L', .slice A' xs'.length cap'] 64)) := (by repeat (first | exact Below.refl _ _ | (refine Below.setCell ?_ (by first | omega | (simp <;> omega)) _) | (refine bel_drewN ?_ _) | (refine Below.drew ?_) | (refine Below.alloc ?_ (by first | omega | (simp <;> omega)) _)))
    refine (eqIntS_any _ _ xs xs' _ (H.out.below hb) (H'.out.below hb)).mono ?_
    rintro e w1 ⟨rfl, n, rfl⟩
    clear hb
    rcases e2 : decide (xs = xs') with _ | _
    · go_wp2
      go_ret
      exact ⟨ret_bool (by rw [F.out, e2]), (by repeat (first | exact Below.refl _ _ | (refine Below.setCell ?_ (by first | omega | (simp <;> omega)) _) | (refine bel_drewN ?_ _) | (refine Below.drew ?_) | (refine Below.alloc ?_ (by first | omega | (simp <;> omega)) _)))⟩
    · go_wp2
      go_ret
      exact ⟨ret_bool (by rw [F.out, e2]), (by repeat (first | exact Below.refl _ _ | (refine Below.setCell ?_ (by first | omega | (simp <;> omega)) _) | (refine bel_drewN ?_ _) | (refine Below.drew ?_) | (refine Below.alloc ?_ (by first | omega | (simp <;> omega)) _)))⟩
  · have F : Hid (decide ((L, xs) = (L', xs')) = false) := Lib.hid (by simp at e1; simp [e1])
    go_enter Try.func48, Try.ntmps48
    go_wp2
    go_ret
    exact ⟨ret_bool (by simp at e1; simp [e1]), (by repeat (first | exact Below.refl _ _ | (refine Below.setCell ?_ (by first | omega | (simp <;> omega)) _) | (refine bel_drewN ?_ _) | (refine Below.drew ?_) | (refine Below.alloc ?_ (by first | omega | (simp <;> omega)) _)))⟩
set_option maxHeartbeats 400000 in
theorem szIntS_any (v : Value) (xs : List Int) (k : Int) (w : World) (h : ArgI w v xs) (hk : 0 ≤ k) (hk' : k ≤ 1048576) (hl : xs.length ≤ 9223372036854775807) :
    Calls Try.prog 97 #[v, .int .i64 k] w fun e w' => e = .returned (.int .i64 (if k - xs.length < 0 then -1 else k - xs.length)) ∧ w = w' := by
  obtain ⟨A, cap, rfl, _⟩ := h
  by_cases h0 : k - (xs.length : Int) < 0
  · rw [if_pos h0]
    go_enter Try.func97, Try.ntmps97
    go_wp2
    go_ret
    exact ⟨rfl, rfl⟩
  · rw [if_neg h0]
    go_enter Try.func97, Try.ntmps97
    go_wp2
    go_ret
    exact ⟨rfl, rfl⟩
set_option maxHeartbeats 400000 in
theorem szWhitehead_any (v : Value) (d : WhD) (k : Int) (w : World) (h : ArgWh w v d) (hk : 0 ≤ k) (hk' : k ≤ 1048576) (hl : d.2.length ≤ 9223372036854775807) :
    Calls Try.prog 43 #[v, .int .i64 k] w fun e w' => e = .returned (.int .i64 (if k - d.2.length < 0 then -1 else k - d.2.length)) ∧ Below w.heap.size w w' := by
  obtain ⟨s, rfl, hd, ha⟩ := h
  obtain ⟨L, xs⟩ := d
  have H := Lib.hid ha
  clear ha
  have hb : Below w.heap.size w (w.alloc (Obj.cells #[Value.int IntKind.i64 L, s] 57)) := (by repeat (first | exact Below.refl _ _ | (refine Below.setCell ?_ (by first | omega | (simp <;> omega)) _) | (refine bel_drewN ?_ _) | (refine Below.drew ?_) | (refine Below.alloc ?_ (by first | omega | (simp <;> omega)) _)))
  have hz := szIntS_any s xs k _ (H.out.below hb) hk hk' hl
  by_cases h0 : k - (xs.length : Int) < 0
  · rw [if_pos h0] at hz ⊢
    have HZ := Lib.hid hz
    clear hz hb
    go_enter Try.func43, Try.ntmps43
    go_wp2_with fail
    refine HZ.out.mono ?_
    rintro e w1 ⟨rfl, rfl⟩
    go_wp2
    go_ret
    exact ⟨rfl, (by repeat (first | exact Below.refl _ _ | (refine Below.setCell ?_ (by first | omega | (simp <;> omega)) _) | (refine bel_drewN ?_ _) | (refine Below.drew ?_) | (refine Below.alloc ?_ (by first | omega | (simp <;> omega)) _)))⟩
  · rw [if_neg h0] at hz ⊢
    have HZ := Lib.hid hz
    clear hz hb
    go_enter Try.func43, Try.ntmps43
    go_wp2_with fail
    refine HZ.out.mono ?_
    rintro e w1 ⟨rfl, rfl⟩
    go_wp2
    go_ret
    exact ⟨rfl, (by repeat (first | exact Below.refl _ _ | (refine Below.setCell ?_ (by first | omega | (simp <;> omega)) _) | (refine bel_drewN ?_ _) | (refine Below.drew ?_) | (refine Below.alloc ?_ (by first | omega | (simp <;> omega)) _)))⟩

/-! ## The objects of the laws -/
theorem ArgWh.ob {w : World} {v : Value} {d : WhD} (h : ArgWh w v d) : Ob (fun w => ArgWh w v d) 0 w.heap.size w := by
  refine ⟨h, ?_, Nat.le_refl _⟩
  intro u u' hu hb
  obtain ⟨s, hv, hd, ha⟩ := h
  obtain ⟨s', hv', hd', ha'⟩ := hu
  have : s = s' := by rw [hv] at hv'; injection hv' with e; simpa using e
  subst this
  exact ⟨s, hv, hd, ha.loc u u' ha' hb⟩
theorem ArgWh.below {w w' : World} {v : Value} {d : WhD} (h : ArgWh w v d) (hb : Below w.heap.size w w') : ArgWh w' v d := by
  obtain ⟨s, hv, hd, ha⟩ := h
  exact ⟨s, hv, hd, ha.below hb⟩
def OWh (lo hi : Nat) (v : Value) (d : WhD) (w : World) : Prop := ∃ s, v = .agg #[.int .i64 d.1, s] ∧ I64 d.1 ∧ OI lo hi s d.2 w
theorem OWh.arg {lo hi : Nat} {v : Value} {d : WhD} {w : World} (h : OWh lo hi v d w) : ArgWh w v d := by
  obtain ⟨s, hv, hd, ho⟩ := h
  exact ⟨s, hv, hd, ho.1.arg⟩
theorem OWh.own {lo hi : Nat} {v : Value} {d : WhD} {w : World} (h : OWh lo hi v d w) : OwWh w lo v d := by
  obtain ⟨s, hv, hd, ho⟩ := h
  exact ⟨s, hv, hd, ho.1⟩
theorem OwWh.ob {w : World} {lo : Nat} {v : Value} {d : WhD} (h : OwWh w lo v d) : Ob (OWh lo w.heap.size v d) lo w.heap.size w := by
  obtain ⟨s, hv, hd, ho⟩ := h
  have hob := ho.ob
  refine ⟨⟨s, hv, hd, hob.holds⟩, ?_, Nat.le_refl _⟩
  intro u u' hu hb
  obtain ⟨s', hv', hd', ho'⟩ := hu
  have : s = s' := by rw [hv] at hv'; injection hv' with e; simpa using e
  subst this
  exact ⟨s, hv', hd', hob.loc u u' ho' hb⟩
theorem toWhitehead_ob (v : Value) (d : WhD) (w : World) (h : ArgWh w v d) (hl : d.2.length ≤ 1048576) :
    Calls Try.prog 45 #[v] w fun e w' => ∃ r, e = .returned r ∧ Ob (OWh w.heap.size w'.heap.size r d) w.heap.size w'.heap.size w' ∧ Tr 0 0 w w' :=
  (toWhitehead_any v d w h hl).mono fun _ _ ⟨r, he, ho, hb⟩ => ⟨r, he, ho.ob, Tr.below hb⟩
theorem eqWhitehead_ob (v u : Value) (d d' : WhD) (w : World) {lo hi lo' hi' : Nat} (h : OWh lo hi v d w) (h' : OWh lo' hi' u d' w) :
    Calls Try.prog 48 #[v, u] w fun e w' => e = .returned (.bool (decide (d = d'))) ∧ Tr 0 0 w w' :=
  (eqWhitehead_any v u d d' w h.arg h'.arg).mono fun _ _ ⟨he, hb⟩ => ⟨he, Tr.below hb⟩
set_option maxHeartbeats 400000 in
theorem markWhitehead_ob (v : Value) (d : WhD) (k : Int) (lo hi : Nat) (w : World) (h : Ob (OWh lo hi v d) lo hi w)
    (hl : d.2.length ≤ 1073741824) (hk0 : 0 ≤ k) (hk : k ≤ 1125899906842624) :
    Calls Try.prog 49 #[v, .int .i64 k] w fun e w' => e = .returned (.int .i64 (k + d.2.length)) ∧ Ob (OWh lo hi v (d.1, iota k d.2.length)) lo hi w' ∧ Tr lo hi w w' := by
  obtain ⟨s, rfl, hd, ho⟩ := h.holds
  obtain ⟨L, xs⟩ := d
  have H := Lib.hid h
  have HO : Hid (Ob (OI lo hi s xs) lo hi w) := Lib.hid ⟨ho, OI.loc ho.2, h.le⟩
  clear h ho
  go_enter Try.func49, Try.ntmps49
  go_wp2_with fail
  have t1 : Tr 0 0 w (w.alloc (Obj.cells #[Value.int IntKind.i64 L, s] 64)) := Tr.below (by repeat (first | exact Below.refl _ _ | (refine Below.setCell ?_ (by first | omega | (simp <;> omega)) _) | (refine bel_drewN ?_ _) | (refine Below.drew ?_) | (refine Below.alloc ?_ (by first | omega | (simp <;> omega)) _)))
  refine (markIntS_ob s xs k lo hi _ (HO.out.tr t1 (by omega)) hl hk0 hk).mono ?_
  rintro e w1 ⟨rfl, o1, t2⟩
  have O1 := Lib.hid o1
  have T2 := Lib.hid t2
  have hle := H.out.le
  clear o1 t2 t1
  go_wp2
  go_ret
  have t1 : Tr 0 0 w (w.alloc (Obj.cells #[Value.int IntKind.i64 L, s] 64)) := Tr.below (by repeat (first | exact Below.refl _ _ | (refine Below.setCell ?_ (by first | omega | (simp <;> omega)) _) | (refine bel_drewN ?_ _) | (refine Below.drew ?_) | (refine Below.alloc ?_ (by first | omega | (simp <;> omega)) _)))
  refine ⟨rfl, ⟨⟨s, rfl, hd, O1.out.holds⟩, ?_, O1.out.le⟩, t1.then_ T2.out hle⟩
  intro u u' hu hb
  obtain ⟨s', hv', hd', ho'⟩ := hu
  have : s = s' := by injection hv' with e; simpa using e
  subst this
  exact ⟨s, rfl, hd', O1.out.loc u u' ho' hb⟩
set_option maxHeartbeats 400000 in
theorem heldWhitehead_ob (v : Value) (d : WhD) (k : Int) (lo hi : Nat) (w : World) (h : Ob (OWh lo hi v (d.1, iota k d.2.length)) lo hi w)
    (hl : d.2.length ≤ 1073741824) (hk0 : 0 ≤ k) (hk : k ≤ 1125899906842624) :
    Calls Try.prog 69 #[v, .int .i64 k] w fun e w' => e = .returned (.int .i64 (k + d.2.length)) ∧ Tr 0 0 w w' := by
  obtain ⟨s, rfl, hd, ho⟩ := h.holds
  obtain ⟨L, xs⟩ := d
  have HO : Hid (Ob (OI lo hi s (iota k xs.length)) lo hi w) := Lib.hid ⟨ho, OI.loc ho.2, h.le⟩
  clear h ho
  go_enter Try.func69, Try.ntmps69
  go_wp2_with fail
  have t1 : Tr 0 0 w (w.alloc (Obj.cells #[Value.int IntKind.i64 L, s] 64)) := Tr.below (by repeat (first | exact Below.refl _ _ | (refine Below.setCell ?_ (by first | omega | (simp <;> omega)) _) | (refine bel_drewN ?_ _) | (refine Below.drew ?_) | (refine Below.alloc ?_ (by first | omega | (simp <;> omega)) _)))
  refine (heldIntS_ob s xs k lo hi _ (HO.out.tr t1 (by omega)) hl hk0 hk).mono ?_
  rintro e w1 ⟨rfl, t2⟩
  have T2 := Lib.hid t2
  clear t2 t1
  go_wp2
  go_ret
  have t1 : Tr 0 0 w (w.alloc (Obj.cells #[Value.int IntKind.i64 L, s] 64)) := Tr.below (by repeat (first | exact Below.refl _ _ | (refine Below.setCell ?_ (by first | omega | (simp <;> omega)) _) | (refine bel_drewN ?_ _) | (refine Below.drew ?_) | (refine Below.alloc ?_ (by first | omega | (simp <;> omega)) _)))
  exact ⟨rfl, t1.then0 T2.out⟩
end Go.Proofs.Ythdgcikdekkjkaa
