/- Morphisms and lists of words in the laws: compared, marked, read again. -/
import Derived.Test.YtnmkbkpegkchpaaMorS
import Derived.Test.YtnmkbkpegkchpaaWhS
import Derived.Test.YtnmkbkpegkchpaaIIL
namespace Go.Proofs.Ytnmkbkpegkchpaa
set_option maxRecDepth 20000
set_option linter.unusedVariables false
set_option linter.unusedSimpArgs false
open Go.RowKit

theorem OwM.ob {lo : Nat} {v : Value} {d : MoD} {w : World} (h : OwM lo w.heap.size v d w) : Ob (OwM lo w.heap.size v d) lo w.heap.size w :=
  ⟨h, fun _ _ hu hb => by obtain ⟨s, hv, hd, ho⟩ := hu; exact ⟨s, hv, hd, OwnL.keep ho EI.stable hb⟩, Nat.le_refl _⟩
set_option maxHeartbeats 1000000 in
theorem eqMorphism_ob (v u : Value) (d d' : MoD) (w : World) {lo hi lo' hi' : Nat} (h : Ob (OwM lo hi v d) lo hi w) (h' : Ob (OwM lo' hi' u d') lo' hi' w) :
    Calls Try.prog 32 #[v, u] w fun e w' => e = .returned (.bool (decide (d = d'))) ∧ Tr 0 0 w w' := by
  have hle := h.le
  have hle' := h'.le
  obtain ⟨s, rfl, hd, ha⟩ := h.holds
  obtain ⟨s', rfl, hd', ha'⟩ := h'.holds
  obtain ⟨L, xs⟩ := d
  obtain ⟨L', xs'⟩ := d'
  have H := Lib.hid ha
  have H' := Lib.hid ha'
  obtain ⟨A, cap, rfl, _⟩ := ha.len
  obtain ⟨A', cap', rfl, _⟩ := ha'.len
  clear ha ha' hd hd' h h'
  rcases e1 : (L != L') with _ | _
  · have hL : L = L' := by simpa using e1
    have F : Hid (decide ((L, xs) = (L', xs')) = decide (xs = xs')) := Lib.hid (by rw [hL]; simp)
    clear hL
    go_enter Try.func32, Try.ntmps32
    go_wp2_with fail
    have hb : Below w.heap.size w ((w.alloc (Obj.cells #[Value.int IntKind.i64 L, .slice A xs.length cap] 45)).alloc (Obj.cells #[Value.int IntKind.i64 L', .slice A' xs'.length cap'] 45)) := (by repeat (first | exact Below.refl _ _ | (refine Below.setCell ?_ (by first | omega | (simp <;> omega)) _) | (refine bel_drewN ?_ _) | (refine Below.drew ?_) | (refine Below.alloc ?_ (by first | omega | (simp <;> omega)) _)))
    have HB := Lib.hid hb
    have hbs := hb.size
    refine (eqIntSS_any _ _ xs xs' _ (H.out.keep EI.stable fun b _ hlt => hb.block b (by omega)) (H'.out.keep EI.stable fun b _ hlt => hb.block b (by omega)) (by omega) (by omega)).mono ?_
    rintro e w1 ⟨rfl, b1⟩
    have B1 := Lib.hid (Tr.below (hb.trans (b1.mono hbs)))
    clear hb b1
    rcases e2 : decide (xs = xs') with _ | _
    · go_wp2
      go_ret
      exact ⟨ret_bool (by rw [F.out, e2]), B1.out⟩
    · go_wp2
      go_ret
      exact ⟨ret_bool (by rw [F.out, e2]), B1.out⟩
  · have F : Hid (decide ((L, xs) = (L', xs')) = false) := Lib.hid (by simp at e1; simp [e1])
    go_enter Try.func32, Try.ntmps32
    go_wp2
    go_ret
    exact ⟨ret_bool (by simp at e1; simp [e1]), Tr.below (by repeat (first | exact Below.refl _ _ | (refine Below.setCell ?_ (by first | omega | (simp <;> omega)) _) | (refine bel_drewN ?_ _) | (refine Below.drew ?_) | (refine Below.alloc ?_ (by first | omega | (simp <;> omega)) _)))⟩
theorem whM_cnt (r : Int) (d : WhD) : cntL cI (whM r d).2 ≤ 1073741824 := by
  have h : ∀ ds : List (List Int), (∀ p ∈ ds, p.length ≤ 3) → cntL cI ds ≤ 3 * ds.length := by
    intro ds
    induction ds with
    | nil => intro _; simp [cntL]
    | cons d ds ih =>
      intro hd
      rw [cntL_cons]
      have h1 := hd d (by simp)
      have h2 := ih fun p hp => hd p (by simp [hp])
      have : cI d = d.length := rfl
      simp only [List.length_cons]
      omega
  unfold whM
  split
  · rename_i hw
    have := inB_iff.1 (whB_rank hw).1
    have h1 := h _ (whImgs_each d r.toNat)
    rw [whImgs_len] at h1
    simp only
    omega
  · simp [cntL]
theorem whM_I64 {r : Int} (d : WhD) (hr : I64 r) : I64 (whM r d).1 := by
  unfold whM; split
  · exact hr
  · unfold I64; simp
theorem implWhiteheadMorphism_ow (r : Int) (v : Value) (d : WhD) (w : World) (hr : I64 r) (h : ArgWh w v d) (hl : d.2.length ≤ 1073741824) :
    Calls Try.prog 45 #[.int .i64 r, v] w fun e w' => ∃ s, e = .returned (.tuple #[s, .bool (whB r d)]) ∧ OwM w.heap.size w'.heap.size s (whM r d) w' ∧ Below w.heap.size w w' :=
  (implWhiteheadMorphism_any r v d w hr h hl).mono fun _ _ ⟨s, he, ho, hb⟩ => ⟨_, he, ⟨s, rfl, whM_I64 d hr, ho⟩, hb⟩
theorem specWhiteheadMorphism_ow (r : Int) (v : Value) (d : WhD) (w : World) (hr : I64 r) (h : ArgWh w v d) (hl : d.2.length ≤ 1073741824) :
    Calls Try.prog 55 #[.int .i64 r, v] w fun e w' => ∃ s, e = .returned (.tuple #[s, .bool (whB r d)]) ∧ OwM w.heap.size w'.heap.size s (whM r d) w' ∧ Below w.heap.size w w' :=
  (specWhiteheadMorphism_any r v d w hr h hl).mono fun _ _ ⟨s, he, ho, hb⟩ => ⟨_, he, ⟨s, rfl, whM_I64 d hr, ho⟩, hb⟩
end Go.Proofs.Ytnmkbkpegkchpaa
