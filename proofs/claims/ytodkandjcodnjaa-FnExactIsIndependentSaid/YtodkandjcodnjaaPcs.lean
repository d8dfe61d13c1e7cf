/- The program's pieces: the components of the pullback of two folded graphs. -/
import Derived.Test.YtodkandjcodnjaaPcP
import Derived.Test.YtodkandjcodnjaaCoreI
namespace Go.Proofs.Ytodkandjcodnjaa
set_option maxRecDepth 20000
set_option linter.unusedVariables false
set_option linter.unusedSimpArgs false
open Go.RowKit

structure MatK (bb P A B k : Nat) (w : World) (Q : Nat → Nat) : Prop where
  outer : w.ownsRow bb 41 1 (.slice (some ⟨P, 0, none⟩) A A) A ((List.range A).map fun i => if i < k then .slice (some ⟨Q i, 0, none⟩) B B else .slice none 0 0)
  rows : ∀ i, i < k → OwI w bb (.slice (some ⟨Q i, 0, none⟩) B B) ((List.range B).map fun _ => -1)
  inj : ∀ i j, i < k → j < k → Q i = Q j → i = j
  lt : ∀ i, i < k → P < Q i ∧ Q i < w.heap.size
theorem MatK.keep {bb P A B k : Nat} {w w' : World} {Q : Nat → Nat} (h : MatK bb P A B k w Q) (hs : w.heap.size ≤ w'.heap.size) (hP : w'.heap[P]? = w.heap[P]?) (hQ : ∀ i, i < k → w'.heap[Q i]? = w.heap[Q i]?) : MatK bb P A B k w' Q :=
  ⟨owns_keep h.outer fun b e => by simp only [Value.ownBlock, Option.some.injEq] at e; subst e; exact hP,
   fun i hi => ⟨owns_keep (h.rows i hi).1 fun b e => by simp only [Value.ownBlock, Option.some.injEq] at e; subst e; exact hQ i hi, (h.rows i hi).2⟩,
   h.inj, fun i hi => ⟨(h.lt i hi).1, by have := (h.lt i hi).2; omega⟩⟩
theorem MatK.next {bb P A B k Qk : Nat} {w w' : World} {Q : Nat → Nat} (h : MatK bb P A B k w Q) (hPl : P < w.heap.size) (hQk : w.heap.size ≤ Qk) (hs : w.heap.size ≤ w'.heap.size) (hQ2 : Qk < w'.heap.size)
    (hr : OwI w' bb (.slice (some ⟨Qk, 0, none⟩) B B) ((List.range B).map fun _ => -1))
    (ho : w'.ownsRow bb 41 1 (.slice (some ⟨P, 0, none⟩) A A) A (((List.range A).map fun i => if i < k then (Value.slice (some ⟨Q i, 0, none⟩) B B) else .slice none 0 0).set k (.slice (some ⟨Qk, 0, none⟩) B B)))
    (hq : ∀ i, i < k → w'.heap[Q i]? = w.heap[Q i]?) : MatK bb P A B (k + 1) w' (fun i => if i = k then Qk else Q i) := by
  refine ⟨?_, fun i hi => ?_, fun i j hi hj e => ?_, fun i hi => ?_⟩
  · have e : (((List.range A).map fun i => if i < k then (Value.slice (some ⟨Q i, 0, none⟩) B B) else .slice none 0 0).set k (.slice (some ⟨Qk, 0, none⟩) B B)) = (List.range A).map fun i => if i < k + 1 then .slice (some ⟨if i = k then Qk else Q i, 0, none⟩) B B else .slice none 0 0 := by
      refine List.ext_getElem (by simp) fun i h1 h2 => ?_
      rw [List.getElem_set]
      simp only [List.getElem_map, List.getElem_range]
      by_cases hik : k = i
      · subst hik; simp
      · rw [if_neg hik]
        by_cases h3 : i < k
        · rw [if_pos h3, if_pos (by omega), if_neg (Ne.symm hik)]
        · rw [if_neg h3, if_neg (by omega)]
    rw [← e]
    exact ho
  · by_cases hik : i = k
    · rw [if_pos hik]; exact hr
    · rw [if_neg hik]
      have hi' : i < k := by omega
      exact ⟨owns_keep (h.rows i hi').1 fun b e => by simp only [Value.ownBlock, Option.some.injEq] at e; subst e; exact hq i hi', (h.rows i hi').2⟩
  · by_cases hik : i = k <;> by_cases hjk : j = k
    · omega
    · rw [if_pos hik, if_neg hjk] at e
      have := (h.lt j (by omega)).2
      omega
    · rw [if_neg hik, if_pos hjk] at e
      have := (h.lt i (by omega)).2
      omega
    · rw [if_neg hik, if_neg hjk] at e
      exact h.inj i j (by omega) (by omega) e
  · by_cases hik : i = k
    · rw [if_pos hik]; exact ⟨by omega, hQ2⟩
    · rw [if_neg hik]
      have := h.lt i (by omega)
      exact ⟨this.1, by omega⟩
theorem MatK.full {bb P A B : Nat} {w : World} {Q : Nat → Nat} (h : MatK bb P A B A w Q) (hP : P < w.heap.size) : MatI w.heap.size bb P A B w Q (fun _ _ => -1) := by
  refine ⟨?_, fun i hi => by simpa using h.rows i hi, h.inj, fun i hi => by have := (h.lt i hi).1; omega, hP, fun i hi => (h.lt i hi).2⟩
  have e : ((List.range A).map fun i => if i < A then (Value.slice (some ⟨Q i, 0, none⟩) B B) else .slice none 0 0) = (List.range A).map fun i => .slice (some ⟨Q i, 0, none⟩) B B :=
    List.map_congr_left fun i hi => by rw [if_pos (List.mem_range.1 hi)]
  rw [← e]
  exact h.outer
theorem OwPc_nil (w : World) {base : Nat} (hb : base ≤ w.heap.size) : OwPc (w.alloc (.cells #[] 59)) base (.slice (some ⟨w.heap.size, 0, none⟩) 0 0) [] := by
  have := World.ownsRow_lit (e := 59) (size := 5) w #[] 0 hb (by unfold maxLen; omega) (by simp)
  simpa [OwPc, pcCs] using this
theorem prC_of {k B m : Nat} (hm : m < B) : prC B (k * B + m) = [.int .i64 k, .int .i64 m] := by
  unfold prC
  rw [Nat.mul_comm, Nat.mul_add_div (by omega), Nat.div_eq_of_lt hm, Nat.mul_add_mod, Nat.mod_eq_of_lt hm, Nat.add_zero]
theorem OwPr_one (w : World) {base k m B : Nat} (hb : base ≤ w.heap.size) (hm : m < B) (N : Nat) (hN : w.heap.size = N) : OwPr (w.alloc (.cells #[.int .i64 k, .int .i64 m] 71)) base (.slice (some ⟨N, 0, none⟩) 1 1) B [k * B + m] := by
  subst hN
  have := World.ownsRow_lit (e := 71) (size := 2) w #[.int .i64 k, .int .i64 m] 1 hb (by unfold maxLen; omega) (by simp)
  unfold OwPr prCs
  simp only [List.map_cons, List.map_nil, List.flatten_cons, List.flatten_nil, List.append_nil, prC_of hm, List.length_cons, List.length_nil, Nat.zero_add]
  simpa using this
theorem pfold_take {a b : GrD} {B : Nat} (ls : List Int) (q : Nat) (o : List Nat) {j : Nat} (hj : j ≤ o.length) : (ls.foldl (pst a.2.2 b.2.2 B q) o).take j = o.take j := by
  refine List.ext_getElem? fun i => ?_
  rw [List.getElem?_take, List.getElem?_take]
  split
  · rename_i hi
    have h1 : o[i]? = some (o[i]'(by omega)) := List.getElem?_eq_getElem (by omega)
    rw [pfold_prefix (a := a) (b := b) (B := B) ls q o h1, h1]
  · rfl
set_option maxHeartbeats 8000000 in
theorem pieces_any (va vb : Value) (a b : GrD) (A B r : Nat) (w : World) (ha : ArgG w va a) (hb : ArgG w vb b) (h2 : Two a b A B) (hra : a.1 = (r : Int)) (hrb : b.1 = (r : Int)) :
    Calls Try.prog 36 #[va, vb] w fun e w' => ∃ s m, e = .returned (.tuple #[s, m]) ∧ OwPc w' w.heap.size s (pcs a b A B r (A * B)).2 ∧ Below w.heap.size w w' := by
  have H2 := Lib.hid h2
  have HGA := Lib.hid ha
  have HGB := Lib.hid hb
  have ONEA := Lib.hid (steps_one h2.fa)
  have ONEB := Lib.hid (steps_one h2.fb)
  have LETA := Lib.hid (let_of_gr h2.ga)
  have LETB := Lib.hid (let_of_gr h2.gb)
  obtain ⟨⟨hA1, hA2⟩, hB1, hB2⟩ := h2.bd
  have hr3 : r ≤ 3 ∧ 1 ≤ r := by have := (grB_parts h2.ga).1; omega
  have hn1 : A * B ≤ 1600 := Nat.mul_le_mul hA2 hB2
  have HN1 := Lib.hid hn1
  have sa := h2.sa
  have sb := h2.sb
  obtain ⟨Aa, capa, rfl⟩ : ∃ A' cap, va = .agg #[.int .i64 r, .int .i64 A, .slice A' a.2.2.length cap] := by
    obtain ⟨s, hv, _, _, ha⟩ := HGA.out
    obtain ⟨A', cap, rfl⟩ := ha.form
    exact ⟨A', cap, by rw [hv, hra, sa]⟩
  obtain ⟨Ab, capb, rfl⟩ : ∃ A' cap, vb = .agg #[.int .i64 r, .int .i64 B, .slice A' b.2.2.length cap] := by
    obtain ⟨s, hv, _, _, ha⟩ := HGB.out
    obtain ⟨A', cap, rfl⟩ := ha.form
    exact ⟨A', cap, by rw [hv, hrb, sb]⟩
  clear ha hb h2 hra hrb sa sb hn1
  go_enter Try.func36, Try.ntmps36
  obtain ⟨i0, hi0, hz0, hz1, hz2⟩ := info_parts ints_info'
  obtain ⟨j0, hj0, hy0, hy1, hy2⟩ := info_parts int_info
  go_wp2_with (at_make; refine wpList_make_full _ rfl _ _ 55 rfl (w.heap.size + 1 + 1) 41 i0 (.slice none 0 0) 1 Try.underlying55 hi0 hz0 hz1 _ _ _ _ A rfl rfl rfl rfl (by rw [hz2]; omega) (by unfold maxLen; omega) (by simp) ?_)
  have bx : Below w.heap.size w ((w.alloc (Obj.cells #[Value.int IntKind.i64 r, Value.int IntKind.i64 A, .slice Aa a.2.2.length capa] 36)).alloc (Obj.cells #[Value.int IntKind.i64 r, Value.int IntKind.i64 B, .slice Ab b.2.2.length capb] 36)) := (by repeat (first | exact Below.refl _ _ | (refine Below.setCell ?_ (by first | omega | (simp <;> omega)) _) | (refine bel_drewN ?_ _) | (refine Below.drew ?_) | (refine Below.alloc ?_ (by first | omega | (simp <;> omega)) _)))
  obtain ⟨W0, hW0⟩ : ∃ W, W = (w.alloc (Obj.cells #[Value.int IntKind.i64 r, Value.int IntKind.i64 A, .slice Aa a.2.2.length capa] 36)).alloc (Obj.cells #[Value.int IntKind.i64 r, Value.int IntKind.i64 B, .slice Ab b.2.2.length capb] 36) := ⟨_, rfl⟩
  rw [← hW0] at bx ⊢
  have hsW : W0.heap.size = w.heap.size + 1 + 1 := by rw [hW0]; simp
  have A0 : Hid (W0.cell? ⟨w.heap.size, 0, none⟩ = some (.int .i64 r)) := Lib.hid (by rw [hW0]; simp [go_sem])
  have A1 : Hid (W0.cell? ⟨w.heap.size, 1, none⟩ = some (.int .i64 A)) := Lib.hid (by rw [hW0]; simp [go_sem])
  have A2 : Hid (W0.cell? ⟨w.heap.size, 2, none⟩ = some (.slice Aa a.2.2.length capa)) := Lib.hid (by rw [hW0]; simp [go_sem])
  have B0 : Hid (W0.cell? ⟨w.heap.size + 1, 0, none⟩ = some (.int .i64 r)) := Lib.hid (by rw [hW0]; simp [go_sem])
  have B1 : Hid (W0.cell? ⟨w.heap.size + 1, 1, none⟩ = some (.int .i64 B)) := Lib.hid (by rw [hW0]; simp [go_sem])
  have B2 : Hid (W0.cell? ⟨w.heap.size + 1, 2, none⟩ = some (.slice Ab b.2.2.length capb)) := Lib.hid (by rw [hW0]; simp [go_sem])
  clear hW0
  rw [← hsW]
  have hl0 : w.heap.size < W0.heap.size := by omega
  have hl1 : w.heap.size + 1 < W0.heap.size := by omega
  have BX := Lib.hid bx
  have HSW := Lib.hid hsW
  clear bx hsW
  intro w2 hown0 hgrow0
  have hP2 : W0.heap.size < w2.heap.size := (hown0.lt W0.heap.size rfl).2
  have MK0 : MatK W0.heap.size W0.heap.size A B 0 w2 id := by
    refine ⟨?_, fun i hi => absurd hi (by omega), fun i j hi => absurd hi (by omega), fun i hi => absurd hi (by omega)⟩
    have e : ((List.range A).map fun i => if i < 0 then (Value.slice (some ⟨id i, 0, none⟩) B B) else .slice none 0 0) = List.replicate A (.slice none 0 0) := by
      refine List.ext_getElem (by simp) fun i h1 h2 => ?_
      simp
    rw [e]
    simpa [toList_madeCells_one] using hown0
  have MK := Lib.hid MK0
  have HB2 : Hid (Below W0.heap.size W0 w2) := Lib.hid ((Below.refl W0.heap.size W0).grown hgrow0 (Nat.le_refl _) (fun k h => by cases h))
  clear hown0 hgrow0 MK0
  go_wp2
  go_loopw [24] (fun i wr => ∃ (k : Nat) (Q : Nat → Nat), k ≤ A ∧ i = .int .i64 k ∧ MatK W0.heap.size W0.heap.size A B k wr Q ∧ Below W0.heap.size W0 wr ∧ W0.heap.size < wr.heap.size) (fun i _ => A - (intOf i).toNat)
  case atStart => exact ⟨0, id, Nat.zero_le _, rfl, MK.out, HB2.out, hP2⟩
  case round =>
    obtain ⟨k, Q, hk, rfl, hmk, hbel, hPw⟩ := hrel
    obtain ⟨wo, rfl⟩ : ∃ wo : World, wo = wr := ⟨_, rfl⟩
    have HMK := Lib.hid hmk
    have HB := Lib.hid hbel
    have q1 := (hbel.cell (p := ⟨w.heap.size + 1, 1, none⟩) hl1).trans B1.out
    by_cases hlt : k < A
    · have hki : (k : Int) < (A : Int) := by omega
      have cP := World.ownsRow.cellAt hmk.outer k (by omega)
      have fP := World.ownsRow.frozenAt hmk.outer k
      have hcP : wo.cell? ⟨W0.heap.size, k, none⟩ = some (.slice none 0 0) := by rw [cP]; simp [hlt]
      clear cP hmk hbel
      go_wp2_with (at_make; refine wpList_make_full _ rfl _ _ 41 rfl wo.heap.size 3 j0 (.int .i64 0) 1 Try.underlying41 hj0 hy0 hy1 _ _ _ _ B rfl rfl rfl rfl (by rw [hy2]; omega) (by unfold maxLen; omega) (Nat.le_refl _) ?_)
      intro w3 hown3 hgrow3
      have hP3 : W0.heap.size ≠ wo.heap.size := by omega
      have hs3 : wo.heap.size < w3.heap.size := (hown3.lt wo.heap.size rfl).2
      have hb3 : ∀ b, b < wo.heap.size → w3.heap[b]? = wo.heap[b]? := fun b hb => hgrow3.block b hb (by simp)
      have c3 := (World.cell?_of_block (w := wo) (w' := w3) (a := ⟨W0.heap.size, k, none⟩) (hb3 W0.heap.size hPw)).trans hcP
      have f3 := (World.frozen?_of_block (w := wo) (w' := w3) (a := ⟨W0.heap.size, k, none⟩) (hb3 W0.heap.size hPw)).trans fP
      have own3 : OwI w3 W0.heap.size (.slice (some ⟨wo.heap.size, 0, none⟩) B B) (List.replicate 0 (-1) ++ List.replicate (B - 0) 0) := by
        refine ⟨?_, fun y hy => ?_⟩
        · simp only [List.replicate_zero, List.nil_append, Nat.sub_zero, List.length_replicate]
          have : ints (List.replicate B 0) = List.replicate B (Value.int .i64 0) := by simp [ints]
          rw [this]
          have h1 : w3.ownsRow W0.heap.size 3 1 (.slice (some ⟨wo.heap.size, 0, none⟩) B B) B (madeCells #[.int .i64 0] B).toList := by
            refine ⟨hown3.1, ?_⟩
            rcases hown3.2 with h0 | ⟨g, cap, cur, hv, hg, rr⟩
            · exact .inl h0
            · exact .inr ⟨g, cap, cur, hv, by omega, rr⟩
          simpa [toList_madeCells_one] using h1
        · simp only [List.replicate_zero, List.nil_append, Nat.sub_zero] at hy
          obtain ⟨_, rfl⟩ := List.mem_replicate.1 hy
          exact ⟨by decide, by decide⟩
      have OB3 : w3.ownsRow W0.heap.size 41 1 (.slice (some ⟨W0.heap.size, 0, none⟩) A A) A ((List.range A).map fun i => if i < k then (Value.slice (some ⟨Q i, 0, none⟩) B B) else .slice none 0 0) := owns_keep HMK.out.outer fun b e => by
        simp only [Value.ownBlock, Option.some.injEq] at e
        subst e
        exact hb3 _ hPw
      have hst := World.ownsRow.stored OB3 k (.slice (some ⟨wo.heap.size, 0, none⟩) B B)
      have HST := Lib.hid hst.1
      have hsS : (w3.setCell ⟨W0.heap.size, k, none⟩ (.slice (some ⟨wo.heap.size, 0, none⟩) B B)).heap.size = w3.heap.size := by simp
      have hbS : ∀ b, b ≠ W0.heap.size → (w3.setCell ⟨W0.heap.size, k, none⟩ (.slice (some ⟨wo.heap.size, 0, none⟩) B B)).heap[b]? = w3.heap[b]? := fun b hb => Below.heap_setCell w3 _ _ b hb
      have ownS : OwI (w3.setCell ⟨W0.heap.size, k, none⟩ (.slice (some ⟨wo.heap.size, 0, none⟩) B B)) W0.heap.size (.slice (some ⟨wo.heap.size, 0, none⟩) B B) (List.replicate 0 (-1) ++ List.replicate (B - 0) 0) :=
        ⟨owns_keep own3.1 fun b e => by simp only [Value.ownBlock, Option.some.injEq] at e; subst e; exact hbS _ (by omega), own3.2⟩
      have cS : (w3.setCell ⟨W0.heap.size, k, none⟩ (.slice (some ⟨wo.heap.size, 0, none⟩) B B)).cell? ⟨W0.heap.size, k, none⟩ = some (.slice (some ⟨wo.heap.size, 0, none⟩) B B) := World.cell?_setCell_same _ _ _ c3
      have HBS : Hid (Below W0.heap.size W0 (w3.setCell ⟨W0.heap.size, k, none⟩ (.slice (some ⟨wo.heap.size, 0, none⟩) B B))) := Lib.hid ((HB.out.grown hgrow3 (by omega) (fun k h => by cases h)).setCell (by show W0.heap.size ≤ W0.heap.size; omega) _)
      have HQS : Hid (∀ i, i < k → (w3.setCell ⟨W0.heap.size, k, none⟩ (.slice (some ⟨wo.heap.size, 0, none⟩) B B)).heap[Q i]? = wo.heap[Q i]?) := Lib.hid fun i hi => (hbS _ (by have := (HMK.out.lt i hi).1; omega)).trans (hb3 _ (HMK.out.lt i hi).2)
      have CS := Lib.hid cS
      have OWS := Lib.hid ownS
      clear hcP fP hown3 hgrow3 own3 OB3 hst hbS hb3 ownS
      go_wp2
      generalize w3.setCell ⟨W0.heap.size, k, none⟩ (.slice (some ⟨wo.heap.size, 0, none⟩) B B) = wS at *
      go_loopw [38] (fun j wr => ∃ m : Nat, m ≤ B ∧ j = .int .i64 m ∧ OwI wr W0.heap.size (.slice (some ⟨wo.heap.size, 0, none⟩) B B) (List.replicate m (-1) ++ List.replicate (B - m) 0) ∧ wS.grownBy wr (some wo.heap.size)) (fun j _ => B - (intOf j).toNat)
      case atStart => exact ⟨0, Nat.zero_le _, rfl, OWS.out, World.grownBy.refl _ _⟩
      case round =>
        obtain ⟨m, hm, rfl, hown, hgr⟩ := hrel
        have HG := Lib.hid hgr
        have hsr := hgr.size
        have cK := (World.cell?_of_block (w := wS) (w' := wr) (a := ⟨W0.heap.size, k, none⟩) (hgr.block W0.heap.size (by omega) (by simp; omega))).trans CS.out
        by_cases hlt2 : m < B
        · have hmi : (m : Int) < (B : Int) := by omega
          have hcell := hown.cellAt m (by simp; omega)
          have hfz := hown.free m
          have HS := Lib.hid (hown.set m (-1) ⟨by decide, by decide⟩)
          have HSET := Lib.hid (set_minus B m hlt2)
          generalize (List.replicate m (-1 : Int) ++ List.replicate (B - m) 0)[m]'(by simp; omega) = z0 at hcell
          clear hown hgr
          go_wp2
          go_roundw
          case rel => exact ⟨m + 1, by omega, by go_num, by rw [← HSET.out]; exact HS.out.1, HG.out.trans HS.out.2⟩
          case measure => simp [intOf]; omega
        · obtain rfl : m = B := by omega
          have HMN : Hid (MatK W0.heap.size W0.heap.size A m (k + 1) wr (fun i => if i = k then wo.heap.size else Q i)) := Lib.hid (by
            refine HMK.out.next hPw (Nat.le_refl _) (by omega) (by omega) ?_ (owns_keep HST.out fun b e => by simp only [Value.ownBlock, Option.some.injEq] at e; subst e; exact hgr.block _ (by omega) (by simp; omega)) fun i hi => ?_
            · have e : (List.replicate m (-1 : Int) ++ List.replicate (m - m) 0) = (List.range m).map fun _ => -1 := by
                refine List.ext_getElem (by simp) fun i h1 h2 => ?_
                simp
              rwa [e] at hown
            · have h1 := HMK.out.lt i hi
              exact (hgr.block _ (by omega) (by simp; omega)).trans (HQS.out i hi))
          have HBN : Hid (Below W0.heap.size W0 wr) := Lib.hid (HBS.out.grown hgr (by omega) (fun x hx => by cases hx; omega))
          clear hown hgr
          go_wp2
          go_roundw
          case rel => exact ⟨k + 1, _, by omega, by go_num, HMN.out, HBN.out, by omega⟩
          case measure => simp [intOf]; omega
    · have hkA : A = k := by omega
      subst hkA
      have HMI := Lib.hid (hmk.full hPw)
      clear hmk hbel
      obtain ⟨X, hX⟩ : ∃ X, X = wo.heap.size := ⟨_, rfl⟩
      have HX := Lib.hid hX
      have bN : Below wo.heap.size wo (wo.alloc (.cells #[] 59)) := (Below.refl _ _).alloc (Nat.le_refl _) _
      have oN : OwPc (wo.alloc (.cells #[] 59)) X (.slice (some ⟨wo.heap.size, 0, none⟩) 0 0) (pcs a b A B r (0 * B)).2 := by rw [Nat.zero_mul, hX]; exact OwPc_nil wo (Nat.le_refl _)
      have mN : MatI X W0.heap.size W0.heap.size A B (wo.alloc (.cells #[] 59)) Q (fun _ _ => -1) := by
        rw [hX]
        exact HMI.out.keep fun b hb => Below.heap_alloc wo _ b hb
      have HM0 : Hid (MarkF A B (fun _ _ => -1) (pcs a b A B r (0 * B)).1) := Lib.hid (by
        rw [Nat.zero_mul]
        exact fun i j hi hj => ⟨⟨by show -9223372036854775808 ≤ (-1 : Int); decide, by show (-1 : Int) ≤ 9223372036854775807; decide⟩, by simp [pcs]⟩)
      have sN : X < (wo.alloc (.cells #[] 59)).heap.size := by rw [hX]; simp
      have ON := Lib.hid oN
      have MN := Lib.hid mN
      have HBN : Hid (Below W0.heap.size W0 (wo.alloc (.cells #[] 59))) := Lib.hid (HB.out.alloc (by omega) _)
      have hPX : W0.heap.size < X := by omega
      clear bN oN mN q1
      go_wp2
      go_loopw [9, 10] (fun out i wr => ∃ (k : Nat) (f : Nat → Nat → Int), k ≤ A ∧ i = .int .i64 k ∧ OwPc wr X out (pcs a b A B r (k * B)).2 ∧ MatI X W0.heap.size W0.heap.size A B wr Q f ∧ MarkF A B f (pcs a b A B r (k * B)).1 ∧ Below W0.heap.size W0 wr ∧ X < wr.heap.size) (fun _ i _ => A - (intOf i).toNat)
      case atStart => exact ⟨0, _, Nat.zero_le _, rfl, ON.out, MN.out, HM0.out, HBN.out, sN⟩
      case round =>
        clear ON MN HM0 HBN sN
        obtain ⟨k, f, hk, rfl, hown, hmat, hmf, hbel, hXw⟩ := hrel
        obtain ⟨wp, rfl⟩ : ∃ wp : World, wp = wr := ⟨_, rfl⟩
        have HO := Lib.hid hown
        have HMT := Lib.hid hmat
        have HMF := Lib.hid hmf
        have HB3 := Lib.hid hbel
        have q1 := (hbel.cell (p := ⟨w.heap.size, 1, none⟩) hl0).trans A1.out
        clear hown hmat hmf hbel
        by_cases hlt : k < A
        · have hki : (k : Int) < (A : Int) := by omega
          go_wp2
          go_loopw [9, 11] (fun out j wr => ∃ (m : Nat) (f : Nat → Nat → Int), m ≤ B ∧ j = .int .i64 m ∧ OwPc wr X out (pcs a b A B r (k * B + m)).2 ∧ MatI X W0.heap.size W0.heap.size A B wr Q f ∧ MarkF A B f (pcs a b A B r (k * B + m)).1 ∧ Below W0.heap.size W0 wr ∧ X < wr.heap.size) (fun _ j _ => B - (intOf j).toNat)
          case atStart => exact ⟨0, f, Nat.zero_le _, rfl, HO.out, HMT.out, HMF.out, HB3.out, hXw⟩
          case round =>
            clear HO HMT HMF HB3 hXw q1
            obtain ⟨m, f, hm, rfl, hown, hmat, hmf, hbel, hXw⟩ := hrel
            have HO := Lib.hid hown
            have HMT := Lib.hid hmat
            have HMF := Lib.hid hmf
            have HB4 := Lib.hid hbel
            have q1 := (hbel.cell (p := ⟨w.heap.size + 1, 1, none⟩) hl1).trans B1.out
            by_cases hlt2 : m < B
            · have hmi : (m : Int) < (B : Int) := by omega
              have cO := hmat.cellO hlt
              have cI := hmat.cellI hlt hlt2
              have fI := hmat.free hlt m
              obtain ⟨hf64, hfm⟩ := hmf k m hlt hlt2
              have HFM := Lib.hid hfm
              have PS1 := Lib.hid (pcs_succ a b A B r (k * B + m))
              have hilt : k * B + m < A * B := by
                have : (k + 1) * B ≤ A * B := Nat.mul_le_mul_right B hlt
                rw [Nat.add_mul, Nat.one_mul] at this
                omega
              have hpl := pcs_len a b A B r (k * B + m)
              have hn1 := HN1.out
              generalize f k m = z at *
              clear hown hmat hmf hbel hfm
              by_cases hz : 0 ≤ z
              · have F : Hid (pcs a b A B r (k * B + (m + 1)) = pcs a b A B r (k * B + m)) := Lib.hid (by rw [← Nat.add_assoc, PS1.out]; unfold pst2; rw [if_pos (HFM.out.1 hz)])
                go_wp2
                go_roundw
                case rel => exact ⟨m + 1, f, by omega, by go_num, by rw [F.out]; exact HO.out, HMT.out, by rw [F.out]; exact HMF.out, HB4.out, hXw⟩
                case measure => simp [intOf]; omega
              · have hnm : k * B + m ∉ (pcs a b A B r (k * B + m)).1 := fun h => hz (HFM.out.2 h)
                have F : Hid (pcs a b A B r (k * B + (m + 1)) = ((pcs a b A B r (k * B + m)).1 ++ prsL a b A B (lettersL r) (k * B + m), (pcs a b A B r (k * B + m)).2 ++ [pcD a b A B r (k * B + m)])) := Lib.hid (by rw [← Nat.add_assoc, PS1.out]; unfold pst2; rw [if_neg hnm])
                have HNM := Lib.hid hnm
                have HILT := Lib.hid hilt
                clear hnm
                obtain ⟨Ao, capo, rfl, hco, hmo, _⟩ := owns_form HO.out
                unfold maxLen at hmo
                have hQX := HMT.out.ltQ k hlt
                have hQlt : Q k < wr.heap.size := by omega
                have hQne : ¬ Q k = wr.heap.size := by omega
                have hPwr : W0.heap.size < wr.heap.size := by omega
                have HOUT : Hid (∀ p q x, x ∈ lettersL r → p ∉ (pcs a b A B r (k * B + m)).1 → pnx a.2.2 b.2.2 B p x = some q → q ∉ (pcs a b A B r (k * B + m)).1) := Lib.hid fun p q x hx hp hq => pcs_out H2.out hr3.1 (Nat.le_of_lt hilt) hx hp hq
                generalize pcs a b A B r (k * B + m) = ST at *
                obtain ⟨M, L⟩ := ST
                simp only at F HNM HFM HO HMF hpl hco HOUT ⊢
                go_wp2
                have hbM : ∀ b, b ≠ Q k → b < wr.heap.size → (((wr.setCell ⟨Q k, m, none⟩ (.int .i64 L.length)).alloc (.cells #[.int .i64 k, .int .i64 m, .int .i64 0, .int .i64 0, .bool false] 59)).alloc (.cells #[.int .i64 k, .int .i64 m] 71)).heap[b]? = wr.heap[b]? := fun b h1 h2 => by
                  rw [Below.heap_alloc _ _ b (by simp; omega), Below.heap_alloc _ _ b (by simpa using h2)]
                  exact Below.heap_setCell wr _ _ b h1
                have mat5 : MatI X W0.heap.size W0.heap.size A B (((wr.setCell ⟨Q k, m, none⟩ (.int .i64 L.length)).alloc (.cells #[.int .i64 k, .int .i64 m, .int .i64 0, .int .i64 0, .bool false] 59)).alloc (.cells #[.int .i64 k, .int .i64 m] 71)) Q (upd f k m (L.length : Int)) :=
                  (HMT.out.set hlt hlt2 (z := (L.length : Int)) ⟨by omega, by omega⟩).keep fun b hb => by
                    rw [Below.heap_alloc _ _ b (by simp; omega), Below.heap_alloc _ _ b (by simp; omega)]
                have mf5 := markF_upd HMF.out (i := k) hlt2 (z := (L.length : Int)) (by omega) ⟨by omega, by omega⟩
                have oL5 : OwPc (((wr.setCell ⟨Q k, m, none⟩ (.int .i64 L.length)).alloc (.cells #[.int .i64 k, .int .i64 m, .int .i64 0, .int .i64 0, .bool false] 59)).alloc (.cells #[.int .i64 k, .int .i64 m] 71)) X (.slice Ao L.length capo) L := owns_keep HO.out fun b e => by
                  have h1 := HO.out.lt b e
                  exact hbM b (by omega) h1.2
                have oT5 : OwPr (((wr.setCell ⟨Q k, m, none⟩ (.int .i64 L.length)).alloc (.cells #[.int .i64 k, .int .i64 m, .int .i64 0, .int .i64 0, .bool false] 59)).alloc (.cells #[.int .i64 k, .int .i64 m] 71)) (wr.heap.size + 1) (.slice (some ⟨wr.heap.size + 1, 0, none⟩) 1 1) B [k * B + m] := OwPr_one _ (by simp) hlt2 _ (by simp)
                have p0 : (((wr.setCell ⟨Q k, m, none⟩ (.int .i64 L.length)).alloc (.cells #[.int .i64 k, .int .i64 m, .int .i64 0, .int .i64 0, .bool false] 59)).alloc (.cells #[.int .i64 k, .int .i64 m] 71)).cell? ⟨wr.heap.size, 0, none⟩ = some (.int .i64 k) := by simp [go_sem]
                have p1 : (((wr.setCell ⟨Q k, m, none⟩ (.int .i64 L.length)).alloc (.cells #[.int .i64 k, .int .i64 m, .int .i64 0, .int .i64 0, .bool false] 59)).alloc (.cells #[.int .i64 k, .int .i64 m] 71)).cell? ⟨wr.heap.size, 1, none⟩ = some (.int .i64 m) := by simp [go_sem]
                have p2 : (((wr.setCell ⟨Q k, m, none⟩ (.int .i64 L.length)).alloc (.cells #[.int .i64 k, .int .i64 m, .int .i64 0, .int .i64 0, .bool false] 59)).alloc (.cells #[.int .i64 k, .int .i64 m] 71)).cell? ⟨wr.heap.size, 2, none⟩ = some (.int .i64 0) := by simp [go_sem]
                have p3 : (((wr.setCell ⟨Q k, m, none⟩ (.int .i64 L.length)).alloc (.cells #[.int .i64 k, .int .i64 m, .int .i64 0, .int .i64 0, .bool false] 59)).alloc (.cells #[.int .i64 k, .int .i64 m] 71)).cell? ⟨wr.heap.size, 3, none⟩ = some (.int .i64 0) := by simp [go_sem]
                have p4 : (((wr.setCell ⟨Q k, m, none⟩ (.int .i64 L.length)).alloc (.cells #[.int .i64 k, .int .i64 m, .int .i64 0, .int .i64 0, .bool false] 59)).alloc (.cells #[.int .i64 k, .int .i64 m] 71)).cell? ⟨wr.heap.size, 4, none⟩ = some (.bool false) := by simp [go_sem]
                have pF : ∀ j, (((wr.setCell ⟨Q k, m, none⟩ (.int .i64 L.length)).alloc (.cells #[.int .i64 k, .int .i64 m, .int .i64 0, .int .i64 0, .bool false] 59)).alloc (.cells #[.int .i64 k, .int .i64 m] 71)).frozen? ⟨wr.heap.size, j, none⟩ = false := fun j => by simp [go_sem]
                have hPQ : W0.heap.size < Q k := by have := HMI.out.neP k hlt; have := (HMT.out.rows k hlt).1.lt (Q k) rfl; have := HMT.out.neP k hlt; omega
                have b5 : Below W0.heap.size W0 (((wr.setCell ⟨Q k, m, none⟩ (.int .i64 L.length)).alloc (.cells #[.int .i64 k, .int .i64 m, .int .i64 0, .int .i64 0, .bool false] 59)).alloc (.cells #[.int .i64 k, .int .i64 m] 71)) := ((HB4.out.setCell (p := ⟨Q k, m, none⟩) (by show W0.heap.size ≤ Q k; omega) _).alloc (by simp; omega) _).alloc (by simp; omega) _
                have s5 : wr.heap.size + 1 < (((wr.setCell ⟨Q k, m, none⟩ (.int .i64 L.length)).alloc (.cells #[.int .i64 k, .int .i64 m, .int .i64 0, .int .i64 0, .bool false] 59)).alloc (.cells #[.int .i64 k, .int .i64 m] 71)).heap.size := by simp
                generalize ((wr.setCell ⟨Q k, m, none⟩ (.int .i64 L.length)).alloc (.cells #[.int .i64 k, .int .i64 m, .int .i64 0, .int .i64 0, .bool false] 59)).alloc (.cells #[.int .i64 k, .int .i64 m] 71) = W5 at *
                obtain ⟨pb, hpb⟩ : ∃ pb, pb = wr.heap.size := ⟨_, rfl⟩
                have HPB := Lib.hid hpb
                rw [← hpb] at oT5 p0 p1 p2 p3 p4 pF s5 ⊢
                have hXpb : X < pb := by omega
                have MAT5 := Lib.hid mat5
                have MF5 := Lib.hid mf5
                have OL5 := Lib.hid oL5
                have OT5 := Lib.hid oT5
                have HB5 := Lib.hid b5
                have E0 := Lib.hid p0
                have E1 := Lib.hid p1
                have E2 := Lib.hid p2
                have E3 := Lib.hid p3
                have E4 := Lib.hid p4
                have EF := Lib.hid pF
                obtain ⟨st, hst⟩ : ∃ st, st = k * B + m := ⟨_, rfl⟩
                rw [← hst] at F HNM HILT MF5 OT5
                obtain ⟨PS, hPS⟩ : ∃ PS, PS = prsL a b A B (lettersL r) st := ⟨_, rfl⟩
                have HPS : Hid (PS = bfsF a.2.2 b.2.2 B (lettersL r) (A * B + 1) 0 [st]) := Lib.hid (by rw [hPS]; rfl)
                have HPD : Hid (pcD a b A B r st = ((k : Int), (m : Int), (PS.length : Int), (edgL a.2.2 b.2.2 B r PS : Int), eqB B PS)) := Lib.hid (by
                  unfold pcD
                  rw [hPS]
                  have := prC_of (k := k) hlt2
                  rw [← hst] at this
                  unfold prC at this
                  simp only [List.cons.injEq, Value.int.injEq, true_and, and_true] at this
                  rw [this.1, this.2])
                rw [HPD.out, ← hPS] at F
                have HST := Lib.hid hst
                have HAO : Hid (∀ b, (Value.slice Ao L.length capo).ownBlock = some b → b < pb) := Lib.hid fun b e => by have := (HO.out.lt b e).2; have := HPB.out; omega
                clear hbM mat5 mf5 oL5 oT5 p0 p1 p2 p3 p4 pF b5 hPS hst hpb q1 cO cI fI HO HMT HMF hco hz
                go_loopw [13, 14] (fun t i wr => ∃ (k5 : Nat) (o : List Nat) (f5 : Nat → Nat → Int), k5 ≤ o.length ∧ i = .int .i64 k5 ∧ o.Nodup ∧ (∀ q ∈ o, q < A * B ∧ q ∉ M) ∧ PS = bfsF a.2.2 b.2.2 B (lettersL r) (A * B + 1 - k5) k5 o ∧ OwPr wr (pb + 1) t B o ∧ MatI X W0.heap.size W0.heap.size A B wr Q f5 ∧ MarkF A B f5 (M ++ o) ∧ wr.cell? ⟨pb, 0, none⟩ = some (.int .i64 k) ∧ wr.cell? ⟨pb, 1, none⟩ = some (.int .i64 m) ∧ wr.cell? ⟨pb, 2, none⟩ = some (.int .i64 k5) ∧ wr.cell? ⟨pb, 3, none⟩ = some (.int .i64 (edgL a.2.2 b.2.2 B r (o.take k5) : Nat)) ∧ wr.cell? ⟨pb, 4, none⟩ = some (.bool (eqB B (o.take k5))) ∧ (∀ j, wr.frozen? ⟨pb, j, none⟩ = false) ∧ OwPc wr X (.slice Ao L.length capo) L ∧ Below W0.heap.size W0 wr ∧ pb + 1 < wr.heap.size) (fun _ i _ => A * B + 1 - (intOf i).toNat)
                case atStart => exact ⟨0, [st], _, by simp, rfl, by simp, fun q hq => by rw [List.mem_singleton.1 hq]; exact ⟨HILT.out, HNM.out⟩, HPS.out, OT5.out, MAT5.out, MF5.out, E0.out, E1.out, E2.out, E3.out, E4.out, EF.out, OL5.out, HB5.out, s5⟩
                case round =>
                  clear OT5 MAT5 MF5 E0 E1 E2 E3 E4 EF OL5 HB5 s5 HPS
                  obtain ⟨k5, o, f5, hk5, rfl, hnd, hlo, hps, hot, hmat, hmf, e0, e1, e2, e3, e4, ef, hol, hbel, hpw⟩ := hrel
                  obtain ⟨wx, rfl⟩ : ∃ wx : World, wx = wr := ⟨_, rfl⟩
                  have hoL := nodup_lt hnd (fun q hq => (hlo q hq).1)
                  have HND := Lib.hid hnd
                  have HLO := Lib.hid hlo
                  have HPS := Lib.hid hps
                  have HMT := Lib.hid hmat
                  have HMF := Lib.hid hmf
                  have HOL := Lib.hid hol
                  have HB6 := Lib.hid hbel
                  have HOT := Lib.hid hot
                  have EF := Lib.hid ef
                  have E0 := Lib.hid e0
                  have E1 := Lib.hid e1
                  have E3 := Lib.hid e3
                  obtain ⟨At, capt, rfl, hct, hmt, _, hft⟩ := owns_form hot
                  unfold maxLen at hmt
                  by_cases hlt5 : k5 < o.length
                  · obtain ⟨tb, rfl, htb1, htb2⟩ := hft (by omega)
                    obtain ⟨p, hp⟩ : ∃ p, o[k5]? = some p := ⟨o[k5], by simp⟩
                    have hkp : o[k5] = p := by rw [List.getElem?_eq_getElem hlt5] at hp; injection hp
                    have hpn := HLO.out p (List.mem_of_getElem? hp)
                    have ck0 : wx.cell? ⟨tb, k5 * 2 + 0, none⟩ = some (.int .i64 ((p / B : Nat) : Int)) := by
                      rw [World.ownsRow.cellAt hot (k5 * 2 + 0) (by omega), prCs_get B o k5 0 hlt5 (by omega), hkp]; rfl
                    have ck1 : wx.cell? ⟨tb, k5 * 2 + 1, none⟩ = some (.int .i64 ((p % B : Nat) : Int)) := by
                      rw [World.ownsRow.cellAt hot (k5 * 2 + 1) (by omega), prCs_get B o k5 1 hlt5 (by omega), hkp]; rfl
                    obtain ⟨un, hun⟩ : ∃ un, un = p / B := ⟨_, rfl⟩
                    obtain ⟨vn, hvn⟩ : ∃ vn, vn = p % B := ⟨_, rfl⟩
                    rw [← hun] at ck0
                    rw [← hvn] at ck1
                    rw [Nat.add_zero] at ck0
                    have EQS : Hid (eqB B (o.take (k5 + 1)) = (eqB B (o.take k5) || decide (un = vn))) := Lib.hid (by rw [eqB_snoc B o k5 hlt5, hkp, hun, hvn])
                    have HUN := Lib.hid hun
                    have HVN := Lib.hid hvn
                    have ntb : ¬ pb = tb := by omega
                    have ntb' : ¬ tb = pb := by omega
                    have ef2 := ef 2
                    have ef4 := ef 4
                    have hk5i : (k5 : Int) < (o.length : Int) := by omega
                    have hpbw : pb < wx.heap.size := by omega
                    clear hft hnd hlo hps hot hmat hmf hol hbel ef hp hun hvn e0 e1 e3
                    go_wp2_with fail
                    have x4 : (wx.setCell ⟨pb, 2, none⟩ (.int .i64 ((k5 : Int) + 1))).cell? ⟨pb, 4, none⟩ = some (.bool (eqB B (o.take k5))) := by
                      rw [World.cell?_setCell_other _ _ _ _ (by simp)]; exact e4
                    have xk0 : (wx.setCell ⟨pb, 2, none⟩ (.int .i64 ((k5 : Int) + 1))).cell? ⟨tb, k5 * 2, none⟩ = some (.int .i64 un) := (cell_set_other _ _ _ _ _ _ ntb').trans ck0
                    have xk1 : (wx.setCell ⟨pb, 2, none⟩ (.int .i64 ((k5 : Int) + 1))).cell? ⟨tb, k5 * 2 + 1, none⟩ = some (.int .i64 vn) := (cell_set_other _ _ _ _ _ _ ntb').trans ck1
                    have xf : (wx.setCell ⟨pb, 2, none⟩ (.int .i64 ((k5 : Int) + 1))).frozen? ⟨pb, 4, none⟩ = false := by rw [World.frozen?_setCell]; exact ef4
                    generalize hwy : wx.setCell ⟨pb, 2, none⟩ (.int .i64 ((k5 : Int) + 1)) = wy at *
                    have HWY := Lib.hid hwy
                    clear hwy
                    generalize hee : eqB B (o.take k5) = ee at *
                    clear hee
                    have sy : wy.heap.size = wx.heap.size := by rw [← HWY.out]; simp
                    have htbw : tb < wy.heap.size := by omega
                    have hpy : pb < wy.heap.size := by omega
                    have f4 := BelW.cell x4 hpy
                    have fk0 := BelW.cell xk0 htbw
                    have fk1 := BelW.cell xk1 htbw
                    generalize hnw : (ee || decide (un = vn)) = nw at *
                    have HNW := Lib.hid hnw
                    clear hnw
                    have key : Hid (∀ wv, Below wy.heap.size wy wv → wv.cell? ⟨pb, 4, none⟩ = some (.bool ee) ∧ wv.frozen? ⟨pb, 4, none⟩ = false) := Lib.hid fun wv hb => ⟨(hb.cell (p := ⟨pb, 4, none⟩) hpy).trans x4, (hb.frozen (p := ⟨pb, 4, none⟩) hpy).trans xf⟩
                    have huvn : ee = false → ((un : Int) == (vn : Int)) = nw := fun h => by
                      have h1 := HNW.out
                      rw [h, Bool.false_or] at h1
                      rw [← h1]
                      by_cases h2 : un = vn
                      · subst h2; simp
                      · rw [decide_eq_false h2]
                        exact beq_eq_false_iff_ne.2 (fun e => h2 (Int.ofNat_inj.mp e))
                    have htru : ee = true → nw = true := fun h => by have h1 := HNW.out; rw [h, Bool.true_or] at h1; exact h1.symm
                    have Q0 : Hid (∀ wv, Below wy.heap.size wy wv → wv.cell? ⟨w.heap.size, 0, none⟩ = some (.int .i64 r)) := Lib.hid fun wv hb => by
                      have h1 := (HB6.out.cell (p := ⟨w.heap.size, 0, none⟩) hl0).trans A0.out
                      rw [(hb.cell (p := ⟨w.heap.size, 0, none⟩) (by show w.heap.size < wy.heap.size; omega)), ← HWY.out]
                      exact (cell_set_other _ _ _ _ _ _ (by omega)).trans h1
                    have HKEEP : Hid (∀ wv, Below wy.heap.size wy wv → ∀ b, b ≠ pb → b < wx.heap.size → (wv.setCell ⟨pb, 4, none⟩ (.bool nw)).heap[b]? = wx.heap[b]?) := Lib.hid fun wv hb b h1 h2 => by
                      rw [Below.heap_setCell wv _ _ b h1, hb.block b (by omega), ← HWY.out]
                      exact Below.heap_setCell wx _ _ b h1
                    have HCELLS : Hid (∀ wv, Below wy.heap.size wy wv → (wv.setCell ⟨pb, 4, none⟩ (.bool nw)).cell? ⟨pb, 0, none⟩ = some (.int .i64 k) ∧ (wv.setCell ⟨pb, 4, none⟩ (.bool nw)).cell? ⟨pb, 1, none⟩ = some (.int .i64 m) ∧ (wv.setCell ⟨pb, 4, none⟩ (.bool nw)).cell? ⟨pb, 2, none⟩ = some (.int .i64 ((k5 : Int) + 1)) ∧ (wv.setCell ⟨pb, 4, none⟩ (.bool nw)).cell? ⟨pb, 3, none⟩ = some (.int .i64 (edgL a.2.2 b.2.2 B r (o.take k5) : Nat)) ∧ (wv.setCell ⟨pb, 4, none⟩ (.bool nw)).cell? ⟨pb, 4, none⟩ = some (.bool nw) ∧ (∀ j, (wv.setCell ⟨pb, 4, none⟩ (.bool nw)).frozen? ⟨pb, j, none⟩ = false)) := Lib.hid fun wv hb => by
                      have cc : ∀ j, wv.cell? ⟨pb, j, none⟩ = (wx.setCell ⟨pb, 2, none⟩ (.int .i64 ((k5 : Int) + 1))).cell? ⟨pb, j, none⟩ := fun j => by rw [HWY.out]; exact hb.cell (p := ⟨pb, j, none⟩) hpy
                      refine ⟨?_, ?_, ?_, ?_, ?_, fun j => ?_⟩
                      · rw [World.cell?_setCell_other _ _ _ _ (by simp), cc, World.cell?_setCell_other _ _ _ _ (by simp)]; exact E0.out
                      · rw [World.cell?_setCell_other _ _ _ _ (by simp), cc, World.cell?_setCell_other _ _ _ _ (by simp)]; exact E1.out
                      · rw [World.cell?_setCell_other _ _ _ _ (by simp), cc, World.cell?_setCell_same _ _ _ e2]
                      · rw [World.cell?_setCell_other _ _ _ _ (by simp), cc, World.cell?_setCell_other _ _ _ _ (by simp)]; exact E3.out
                      · exact World.cell?_setCell_same _ _ _ (key.out wv hb).1
                      · rw [World.frozen?_setCell]
                        have h1 := hb.frozen (p := ⟨pb, j, none⟩) hpy
                        rw [h1, ← HWY.out, World.frozen?_setCell]
                        exact EF.out j
                    have HBZ : Hid (∀ wv, Below wy.heap.size wy wv → Below W0.heap.size W0 (wv.setCell ⟨pb, 4, none⟩ (.bool nw))) := Lib.hid fun wv hb => by
                      have h1 : Below W0.heap.size W0 wy := by rw [← HWY.out]; exact HB6.out.setCell (by show W0.heap.size ≤ pb; omega) _
                      exact (h1.trans (hb.mono (by omega))).setCell (by show W0.heap.size ≤ pb; omega) _
                    have nwpb : ¬ pb = w.heap.size := by omega
                    have nwpb' : ¬ w.heap.size = pb := by omega
                    have HLE : Hid (∀ W : World, Calls Try.prog 47 #[.int .i64 r] W fun e w' => ∃ s, e = .returned s ∧ OwI w' W.heap.size s (lettersL r) ∧ Below W.heap.size W w') := Lib.hid fun W => letters_any r W (by omega)
                    clear e2 x4 xf xk0 xk1 ck0 ck1 ef2 ef4 e4
                    cases ee
                    all_goals
                      first
                        | (have huv := huvn rfl)
                        | (have htr := htru rfl; subst htr)
                      clear huvn htru
                      (refine wp_region_quiet_last 16 (by kernel_rfl) (by rfl) (by kernel_rfl) (by kernel_rfl) ?_; dsimp only [dumL, lastL]; (repeat (go_big_quiet_step (fail))); refine wpQuiet_nil ?_; intro wv hw'; obtain ⟨pq, hw''⟩ := hw'; have bv := pq.h; rw [← hw''] at bv; clear hw'' pq)
                      obtain ⟨y4, yf⟩ := key.out wv bv
                      have y0 := Q0.out wv bv
                      have HK8 := Lib.hid (HKEEP.out wv bv)
                      have HC8 := Lib.hid (HCELLS.out wv bv)
                      have HB8 := Lib.hid (HBZ.out wv bv)
                      have sv := bv.size
                      have hsz : ∀ z, (wv.setCell ⟨pb, 4, none⟩ z).heap.size = wv.heap.size := fun z => by simp
                      have HSZ := Lib.hid hsz
                      clear bv key Q0 HKEEP HCELLS HBZ hsz f4 fk0 fk1
                      go_wp2_with fail
                      refine (HLE.out _).mono ?_
                      rintro e wl ⟨rl, rfl, ol, bl⟩
                      have hsZ := HSZ.out
                      obtain ⟨z0, z1, z2, z3, z4, zf⟩ := HC8.out
                      have hpZ : ∀ (W : World), W.heap.size = wv.heap.size → pb < W.heap.size := fun W h => by rw [h]; omega
                      have l0 := (bl.cell (p := ⟨pb, 0, none⟩) (hpZ _ (hsZ _))).trans z0
                      have l1 := (bl.cell (p := ⟨pb, 1, none⟩) (hpZ _ (hsZ _))).trans z1
                      have l2 := (bl.cell (p := ⟨pb, 2, none⟩) (hpZ _ (hsZ _))).trans z2
                      have l3 := (bl.cell (p := ⟨pb, 3, none⟩) (hpZ _ (hsZ _))).trans z3
                      have l4 := (bl.cell (p := ⟨pb, 4, none⟩) (hpZ _ (hsZ _))).trans z4
                      rw [← EQS.out] at l4
                      have lF : ∀ j, wl.frozen? ⟨pb, j, none⟩ = false := fun j => (bl.frozen (p := ⟨pb, j, none⟩) (hpZ _ (hsZ _))).trans (zf j)
                      have hkl : ∀ b, b ≠ pb → b < wx.heap.size → wl.heap[b]? = wx.heap[b]? := fun b h1 h2 => (bl.block b (by rw [hsZ]; omega)).trans (HK8.out b h1 h2)
                      have hsl : wv.heap.size ≤ wl.heap.size := by have := bl.size; rw [hsZ] at this; exact this
                      obtain ⟨Al, capl, rfl, hcl, hml, _, hfl⟩ := ol.form
                      have hll := lettersL_len r
                      obtain ⟨gl, rfl, hgl1, hgl2⟩ := hfl (by omega)
                      rw [hsZ] at hgl1
                      unfold maxLen at hml
                      have OL6 := Lib.hid ol.rd
                      have MT6 := Lib.hid (HMT.out.keep (w' := wl) fun b hb => hkl b (by omega) (by omega))
                      have OT6 : Hid (OwPr wl (pb + 1) (.slice (some ⟨tb, 0, none⟩) o.length capt) B o) := Lib.hid (owns_keep HOT.out fun b e => by
                        simp only [Value.ownBlock, Option.some.injEq] at e
                        subst e
                        exact hkl _ (by omega) htb2)
                      have OP6 : Hid (OwPc wl X (.slice Ao L.length capo) L) := Lib.hid (owns_keep HOL.out fun b e => hkl b (by have := HAO.out b e; omega) (HOL.out.lt b e).2)
                      have BL6 : Hid (Below W0.heap.size W0 wl) := Lib.hid (HB8.out.trans (bl.mono (by rw [hsZ]; omega)))
                      have L0 := Lib.hid l0
                      have L1 := Lib.hid l1
                      have L2 := Lib.hid l2
                      have L3 := Lib.hid l3
                      have L4 := Lib.hid l4
                      have LF := Lib.hid lF
                      have hglpb : gl ≠ pb := by omega
                      have hglX : X < gl := by omega
                      have hgltb : gl ≠ tb := by omega
                      have HLL := Lib.hid hll
                      have hpl1 : pb + 1 < wl.heap.size := by omega
                      clear z0 z1 z2 z3 z4 zf l0 l1 l2 l3 l4 lF hkl hpZ ol bl hfl hsZ HC8 HK8 HB8 y4 yf y0 hll HLE
                      have HCF : Hid (PS = bfsF a.2.2 b.2.2 B (lettersL r) (A * B + 1 - (k5 + 1)) (k5 + 1) ((lettersL r).foldl (pst a.2.2 b.2.2 B p) o)) := Lib.hid (by
                        rw [HPS.out, show A * B + 1 - k5 = (A * B + 1 - (k5 + 1)) + 1 by omega]
                        conv => lhs; unfold bfsF
                        rw [List.getElem?_eq_getElem hlt5, hkp])
                      have HPU : Hid (∀ i : Nat, (((lettersL r).take i).foldl (pst a.2.2 b.2.2 B p) o)[k5]? = some p) := Lib.hid fun i => pfold_prefix (a := a) (b := b) (B := B) _ p o (by rw [List.getElem?_eq_getElem hlt5, hkp])
                      have HSU : Hid (∀ (i : Nat) (hi : i < (lettersL r).length), ((lettersL r).take (i + 1)).foldl (pst a.2.2 b.2.2 B p) o = pst a.2.2 b.2.2 B p (((lettersL r).take i).foldl (pst a.2.2 b.2.2 B p) o) (lettersL r)[i]) := Lib.hid fun i hi => by rw [List.take_succ_eq_append_getElem hi, List.foldl_append]; rfl
                      have HNDm : Hid (∀ i : Nat, (((lettersL r).take i).foldl (pst a.2.2 b.2.2 B p) o).Nodup) := Lib.hid fun i => pfold_nodup (a := a) (b := b) (B := B) _ p o HND.out
                      have HLOm : Hid (∀ i : Nat, ∀ q ∈ ((lettersL r).take i).foldl (pst a.2.2 b.2.2 B p) o, q < A * B ∧ q ∉ M) := Lib.hid fun i => pfold_all (ls := lettersL r) (S := fun q => q < A * B ∧ q ∉ M) (fun p x q hp hx hq => ⟨pnx_lt H2.out hq, HOUT.out p q x hx hp.2 hq⟩) hpn _ o (fun x hx => List.mem_of_mem_take hx) HLO.out
                      have HCS : Hid (∀ (i : Nat) (hi : i < (lettersL r).length), cntP a.2.2 b.2.2 B p (lettersL r) (i + 1) = cntP a.2.2 b.2.2 B p (lettersL r) i + if 0 < (lettersL r)[i] ∧ (pnx a.2.2 b.2.2 B p (lettersL r)[i]).isSome = true then 1 else 0) := Lib.hid fun i hi => cntP_succ _ _ _ _ _ i hi
                      have HCL : Hid (∀ i, cntP a.2.2 b.2.2 B p (lettersL r) i ≤ i) := Lib.hid fun i => cntP_le _ _ _ _ _ i
                      have HCE : Hid (edgL a.2.2 b.2.2 B r (o.take (k5 + 1)) = edgL a.2.2 b.2.2 B r (o.take k5) + cntP a.2.2 b.2.2 B p (lettersL r) (lettersL r).length) := Lib.hid (by rw [edgL_snoc _ _ _ _ _ _ hlt5, hkp, cntP_full])
                      have hEb : edgL a.2.2 b.2.2 B r (o.take k5) ≤ 4800 := by
                        have h1 := edgL_le a.2.2 b.2.2 B r hr3.1 (o.take k5)
                        have h2 := HN1.out
                        rw [List.length_take] at h1
                        omega
                      generalize edgL a.2.2 b.2.2 B r (o.take k5) = E5 at *
                      have HTAKE : Hid (((lettersL r).foldl (pst a.2.2 b.2.2 B p) o).take (k5 + 1) = o.take (k5 + 1)) := Lib.hid (pfold_take _ _ _ hlt5)
                      generalize hq5 : eqB B (o.take (k5 + 1)) = q5 at *
                      have HQ5 := Lib.hid hq5
                      clear hq5
                      have HXL : Hid (∀ i (hi : i < (lettersL r).length), (lettersL r)[i] ∈ lettersL r) := Lib.hid fun i hi => by simp
                      have HIL : Hid (I64s (lettersL r)) := Lib.hid OL6.out.2
                      have HLS0 : Hid (lettersL r = lettersL r) := Lib.hid rfl
                      obtain ⟨ls, hls⟩ : ∃ ls, ls = lettersL r := ⟨_, rfl⟩
                      have HLS := Lib.hid hls
                      rw [← hls] at HPU HSU HNDm HLOm HCS HCL HCE HXL HIL HTAKE HCF OL6 HLL hcl ⊢
                      clear hls HLS0
                      go_wp2
                      go_loopw [13, 115] (fun t j wr => ∃ (i6 : Nat) (f6 : Nat → Nat → Int), i6 ≤ ls.length ∧ j = .int .i64 i6 ∧ OwPr wr (pb + 1) t B ((ls.take i6).foldl (pst a.2.2 b.2.2 B p) o) ∧ MatI X W0.heap.size W0.heap.size A B wr Q f6 ∧ MarkF A B f6 (M ++ (ls.take i6).foldl (pst a.2.2 b.2.2 B p) o) ∧ wr.cell? ⟨pb, 0, none⟩ = some (.int .i64 k) ∧ wr.cell? ⟨pb, 1, none⟩ = some (.int .i64 m) ∧ wr.cell? ⟨pb, 2, none⟩ = some (.int .i64 ((k5 : Int) + 1)) ∧ wr.cell? ⟨pb, 3, none⟩ = some (.int .i64 ((E5 + cntP a.2.2 b.2.2 B p ls i6 : Nat) : Int)) ∧ wr.cell? ⟨pb, 4, none⟩ = some (.bool q5) ∧ (∀ j, wr.frozen? ⟨pb, j, none⟩ = false) ∧ OwPc wr X (.slice Ao L.length capo) L ∧ RdI wr (.slice (some ⟨gl, 0, none⟩) ls.length capl) ls ∧ t.ownBlock ≠ some gl ∧ gl < wr.heap.size ∧ Below W0.heap.size W0 wr ∧ pb + 1 < wr.heap.size) (fun _ j _ => ls.length - (intOf j).toNat)
                      case atStart => exact ⟨0, f5, Nat.zero_le _, rfl, OT6.out, MT6.out, HMF.out, L0.out, L1.out, L2.out, L3.out, L4.out, LF.out, OP6.out, OL6.out, by simp [Value.ownBlock]; omega, hgl2, BL6.out, hpl1⟩
                      case round =>
                        clear OT6 MT6 HMF L0 L1 L2 L3 L4 LF OP6 OL6 BL6 hpl1 HMT HOL HOT HPS EF E0 E1 E3
                        obtain ⟨i6, f6, hi6, rfl, hot, hmat, hmf, e0, e1, e2, e3, e4, ef, hol, hrd, hne, hgw, hbel, hpw6⟩ := hrel
                        have HMT := Lib.hid hmat
                        have HMF := Lib.hid hmf
                        have HOL := Lib.hid hol
                        have HOT := Lib.hid hot
                        have HRD := Lib.hid hrd
                        have HNE := Lib.hid hne
                        have HB7 := Lib.hid hbel
                        have E0 := Lib.hid e0
                        have E1 := Lib.hid e1
                        have E2 := Lib.hid e2
                        have E3 := Lib.hid e3
                        have E4 := Lib.hid e4
                        have EF := Lib.hid ef
                        have hcl6 := HCL.out i6
                        clear hmat hmf hol hne hbel e0 e1 e2 e3 e4 ef
                        by_cases hlt6 : i6 < ls.length
                        · have hxm := HXL.out i6 hlt6
                          have HS := Lib.hid (HSU.out i6 hlt6)
                          have HC := Lib.hid (HCS.out i6 hlt6)
                          have hpu := HPU.out i6
                          have hloo := HLOm.out i6
                          have hoL6 := nodup_lt (HNDm.out i6) (fun q hq => (hloo q hq).1)
                          obtain ⟨bl', offl', hAl, _, hcl2⟩ := hrd.at (by omega)
                          obtain ⟨rfl, rfl⟩ : gl = bl' ∧ 0 = offl' := by simpa using hAl
                          have c0 := hcl2 i6 hlt6
                          rw [Nat.zero_add] at c0
                          have HXM := Lib.hid hxm
                          generalize ls[i6] = x at *
                          generalize (ls.take i6).foldl (pst a.2.2 b.2.2 B p) o = om at *
                          have hkm : k5 < om.length := (List.getElem?_eq_some_iff.1 hpu).1
                          have hkg : om[k5] = p := by rw [List.getElem?_eq_getElem hkm] at hpu; injection hpu
                          obtain ⟨At6, capt6, rfl, hct6, hmt6, _, hft6⟩ := owns_form hot
                          obtain ⟨tb6, rfl, htb61, htb62⟩ := hft6 (by omega)
                          have ck0 : wr.cell? ⟨tb6, k5 * 2, none⟩ = some (.int .i64 un) := by
                            have h1 := World.ownsRow.cellAt hot (k5 * 2 + 0) (by omega)
                            rw [prCs_get B om k5 0 hkm (by omega), hkg] at h1
                            rw [HUN.out]
                            exact h1
                          have ck1 : wr.cell? ⟨tb6, k5 * 2 + 1, none⟩ = some (.int .i64 vn) := by
                            have h1 := World.ownsRow.cellAt hot (k5 * 2 + 1) (by omega)
                            rw [prCs_get B om k5 1 hkm (by omega), hkg] at h1
                            rw [HVN.out]
                            exact h1
                          have a0 := (HB7.out.cell (p := ⟨w.heap.size, 0, none⟩) hl0).trans A0.out
                          have a1 := (HB7.out.cell (p := ⟨w.heap.size, 1, none⟩) hl0).trans A1.out
                          have a2 := (HB7.out.cell (p := ⟨w.heap.size, 2, none⟩) hl0).trans A2.out
                          have b0 := (HB7.out.cell (p := ⟨w.heap.size + 1, 0, none⟩) hl1).trans B0.out
                          have b1 := (HB7.out.cell (p := ⟨w.heap.size + 1, 1, none⟩) hl1).trans B1.out
                          have b2 := (HB7.out.cell (p := ⟨w.heap.size + 1, 2, none⟩) hl1).trans B2.out
                          have hkmi : (k5 : Int) < (om.length : Int) := by omega
                          have HNA := Lib.hid (fun W h => implNextVertex_any (.agg #[.int .i64 r, .int .i64 A, .slice Aa a.2.2.length capa]) a (un : Int) x W h (ONEA.out (un : Int) x) LETA.out)
                          have HNB := Lib.hid (fun W h => implNextVertex_any (.agg #[.int .i64 r, .int .i64 B, .slice Ab b.2.2.length capb]) b (vn : Int) x W h (ONEB.out (vn : Int) x) LETB.out)
                          have HAA : Hid (∀ W, Below W0.heap.size W0 W → ArgG W (.agg #[.int .i64 r, .int .i64 A, .slice Aa a.2.2.length capa]) a) := Lib.hid fun W hb => HGA.out.below (BX.out.trans (hb.mono (by omega)))
                          have HAB : Hid (∀ W, Below W0.heap.size W0 W → ArgG W (.agg #[.int .i64 r, .int .i64 B, .slice Ab b.2.2.length capb]) b) := Lib.hid fun W hb => HGB.out.below (BX.out.trans (hb.mono (by omega)))
                          clear hcl2 hAl hrd hot hft6 hpu hkg hxm
                          go_wp2_with fail
                          have f0 := BelW.cell a0 (show w.heap.size < wr.heap.size by omega)
                          have f1 := BelW.cell a1 (show w.heap.size < wr.heap.size by omega)
                          have f2 := BelW.cell a2 (show w.heap.size < wr.heap.size by omega)
                          have f3 := BelW.cell b0 (show w.heap.size + 1 < wr.heap.size by omega)
                          have f4 := BelW.cell b1 (show w.heap.size + 1 < wr.heap.size by omega)
                          have f5' := BelW.cell b2 (show w.heap.size + 1 < wr.heap.size by omega)
                          have f6' := BelW.cell ck0 htb62
                          have f7 := BelW.cell ck1 htb62
                          (refine wp_region_quiet_bel (by kernel_rfl) (by kernel_rfl) ?_; (repeat (go_big_quiet_step (first | (go_at_call 48; with_reducible exact Calls.bel_of (HNA.out _ (HAA.out _ (HB7.out.trans ((BelW.h _).mono (by omega)))))) | (go_at_call 48; with_reducible exact Calls.bel_of (HNB.out _ (HAB.out _ (HB7.out.trans ((BelW.h _).mono (by omega))))))))); refine wpQuiet_nil ?_; intro wq hw'; obtain ⟨pq, hw''⟩ := hw'; have bq := pq.h; rw [← hw''] at bq; clear hw'' pq)
                          have sq := bq.size
                          have hpbr : pb < wr.heap.size := by omega
                          have HMTq := Lib.hid (HMT.out.keep (w' := wq) fun b hb => bq.block b (by omega))
                          have HOTq : Hid (OwPr wq (pb + 1) (.slice (some ⟨tb6, 0, none⟩) om.length capt6) B om) := Lib.hid (ownsRow_below HOT.out bq)
                          have HOLq : Hid (OwPc wq X (.slice Ao L.length capo) L) := Lib.hid (ownsRow_below HOL.out bq)
                          have HRDq := Lib.hid (HRD.out.below bq)
                          have HBq : Hid (Below W0.heap.size W0 wq) := Lib.hid (HB7.out.trans (bq.mono (by omega)))
                          have C0 := Lib.hid ((bq.cell (p := ⟨pb, 0, none⟩) hpbr).trans E0.out)
                          have C1 := Lib.hid ((bq.cell (p := ⟨pb, 1, none⟩) hpbr).trans E1.out)
                          have C2 := Lib.hid ((bq.cell (p := ⟨pb, 2, none⟩) hpbr).trans E2.out)
                          have C3 := Lib.hid ((bq.cell (p := ⟨pb, 3, none⟩) hpbr).trans E3.out)
                          have C4 := Lib.hid ((bq.cell (p := ⟨pb, 4, none⟩) hpbr).trans E4.out)
                          have CF : Hid (∀ j, wq.frozen? ⟨pb, j, none⟩ = false) := Lib.hid fun j => (bq.frozen (p := ⟨pb, j, none⟩) hpbr).trans (EF.out j)
                          have NA : Hid (nextV a.2.2 un x = -1 ∨ (0 ≤ nextV a.2.2 un x ∧ nextV a.2.2 un x < A)) := Lib.hid (by have h1 := nextV_range H2.out.ga un x; rwa [H2.out.sa] at h1)
                          have NB : Hid (nextV b.2.2 vn x = -1 ∨ (0 ≤ nextV b.2.2 vn x ∧ nextV b.2.2 vn x < B)) := Lib.hid (by have h1 := nextV_range H2.out.gb vn x; rwa [H2.out.sb] at h1)
                          have PX : Hid (pnx a.2.2 b.2.2 B p x = if 0 ≤ nextV a.2.2 un x ∧ 0 ≤ nextV b.2.2 vn x then some ((nextV a.2.2 un x).toNat * B + (nextV b.2.2 vn x).toNat) else none) := Lib.hid (by unfold pnx; rw [← HUN.out, ← HVN.out])
                          clear bq f0 f1 f2 f3 f4 f5' f6' f7 a0 a1 a2 b0 b1 b2 ck0 ck1 c0 HNA HNB HAA HAB
                          generalize nextV a.2.2 un x = y1 at *
                          generalize nextV b.2.2 vn x = y2 at *
                          rcases NA.out with hy | hy
                          · have hpx : pnx a.2.2 b.2.2 B p x = none := by rw [PX.out, if_neg (by omega)]
                            have F : Hid (pst a.2.2 b.2.2 B p om x = om) := Lib.hid (by unfold pst; rw [hpx])
                            have G : Hid (cntP a.2.2 b.2.2 B p ls (i6 + 1) = cntP a.2.2 b.2.2 B p ls i6) := Lib.hid (by rw [HC.out, hpx]; simp)
                            subst hy
                            clear hpx
                            go_wp2
                            go_roundw
                            case rel => exact ⟨i6 + 1, f6, by omega, by go_num, by rw [HS.out, F.out]; exact HOTq.out, HMTq.out, by rw [HS.out, F.out]; exact HMF.out, C0.out, C1.out, C2.out, by rw [G.out]; exact C3.out, C4.out, CF.out, HOLq.out, HRDq.out, HNE.out, by omega, HBq.out, by omega⟩
                            case measure => simp [intOf]; omega
                          rcases NB.out with hz | hz
                          · have hpx : pnx a.2.2 b.2.2 B p x = none := by rw [PX.out, if_neg (by omega)]
                            have F : Hid (pst a.2.2 b.2.2 B p om x = om) := Lib.hid (by unfold pst; rw [hpx])
                            have G : Hid (cntP a.2.2 b.2.2 B p ls (i6 + 1) = cntP a.2.2 b.2.2 B p ls i6) := Lib.hid (by rw [HC.out, hpx]; simp)
                            have hy0 : ¬ y1 < 0 := by omega
                            subst hz
                            clear hpx
                            go_wp2
                            go_roundw
                            case rel => exact ⟨i6 + 1, f6, by omega, by go_num, by rw [HS.out, F.out]; exact HOTq.out, HMTq.out, by rw [HS.out, F.out]; exact HMF.out, C0.out, C1.out, C2.out, by rw [G.out]; exact C3.out, C4.out, CF.out, HOLq.out, HRDq.out, HNE.out, by omega, HBq.out, by omega⟩
                            case measure => simp [intOf]; omega
                          obtain ⟨s1, rfl⟩ : ∃ s1 : Nat, y1 = (s1 : Int) := ⟨y1.toNat, by omega⟩
                          obtain ⟨t1, rfl⟩ : ∃ t1 : Nat, y2 = (t1 : Int) := ⟨y2.toNat, by omega⟩
                          have hs1 : s1 < A := by omega
                          have ht1 : t1 < B := by omega
                          have hpx : pnx a.2.2 b.2.2 B p x = some (s1 * B + t1) := by rw [PX.out, if_pos ⟨hy.1, hz.1⟩]; simp only [Int.toNat_natCast]
                          have hqM : s1 * B + t1 ∉ M := HOUT.out p _ x (by rw [← HLS.out]; exact HXM.out) hpn.2 hpx
                          have hmfq := HMF.out s1 t1 hs1 ht1
                          have hiff : Hid (0 ≤ f6 s1 t1 ↔ s1 * B + t1 ∈ om) := Lib.hid (by rw [hmfq.2, List.mem_append]; exact ⟨fun h => h.elim (fun h => absurd h hqM) id, .inr⟩)
                          have hz64 := hmfq.1
                          have PST : Hid (pst a.2.2 b.2.2 B p om x = if s1 * B + t1 ∈ om then om else om ++ [s1 * B + t1]) := Lib.hid (by unfold pst; rw [hpx])
                          have GP : Hid (0 < x → cntP a.2.2 b.2.2 B p ls (i6 + 1) = cntP a.2.2 b.2.2 B p ls i6 + 1) := Lib.hid fun h => by rw [HC.out, hpx, if_pos ⟨h, rfl⟩]
                          have GN : Hid (¬ 0 < x → cntP a.2.2 b.2.2 B p ls (i6 + 1) = cntP a.2.2 b.2.2 B p ls i6) := Lib.hid fun h => by rw [HC.out, if_neg (fun h' => h h'.1)]; rfl
                          have cO := HMTq.out.cellO hs1
                          have cI := HMTq.out.cellI hs1 ht1
                          have fI := HMTq.out.free hs1 t1
                          have hQX := HMTq.out.ltQ s1 hs1
                          have hQW : W0.heap.size ≤ Q s1 := ((HMTq.out.rows s1 hs1).1.lt (Q s1) rfl).1
                          have hPpb : ¬ pb = W0.heap.size := by omega
                          have hQpb : ¬ pb = Q s1 := by omega
                          have hs0 : (0 : Int) ≤ (s1 : Int) := hy.1
                          have ht0 : (0 : Int) ≤ (t1 : Int) := hz.1
                          have hs0' : ¬ (s1 : Int) < 0 := by omega
                          have ht0' : ¬ (t1 : Int) < 0 := by omega
                          have hsi : (s1 : Int) < (A : Int) := hy.2
                          have hti : (t1 : Int) < (B : Int) := hz.2
                          obtain ⟨en, hen⟩ : ∃ en, en = E5 + cntP a.2.2 b.2.2 B p ls i6 := ⟨_, rfl⟩
                          have hen2 : en ≤ 10000 := by have h1 := HLL.out; omega
                          have HEN := Lib.hid hen
                          rw [← hen] at C3
                          generalize f6 s1 t1 = z at cI hiff hz64
                          obtain ⟨q, hq⟩ : ∃ q, q = s1 * B + t1 := ⟨_, rfl⟩
                          rw [← hq] at PST hiff
                          have HQ := Lib.hid hq
                          have c3 := C3.out
                          have f3 := CF.out 3
                          have hwe : IntKind.i64.wrap ((en : Int) + 1) = (en : Int) + 1 := by rw [IntKind.wrap_i64]; omega
                          have hgl7 : gl < wq.heap.size := by omega
                          clear hpx hmfq hqM hen hq hy hz NA NB PX
                          by_cases hx : 0 < x
                          · have G := Lib.hid (GP.out hx)
                            have k8 : ∀ b', b' ≠ pb → (wq.setCell ⟨pb, 3, none⟩ (.int .i64 ((en : Int) + 1))).heap[b']? = wq.heap[b']? := fun b' h => Below.heap_setCell wq _ _ b' h
                            have HM8 := Lib.hid (HMTq.out.keep (w' := (wq.setCell ⟨pb, 3, none⟩ (.int .i64 ((en : Int) + 1)))) fun b' hb' => k8 b' (by omega))
                            have HT8 : Hid (OwPr (wq.setCell ⟨pb, 3, none⟩ (.int .i64 ((en : Int) + 1))) (pb + 1) (.slice (some ⟨tb6, 0, none⟩) om.length capt6) B om) := Lib.hid (owns_keep HOTq.out fun b' e => by
                              simp only [Value.ownBlock, Option.some.injEq] at e
                              subst e
                              exact k8 _ (by omega))
                            have HP8 : Hid (OwPc (wq.setCell ⟨pb, 3, none⟩ (.int .i64 ((en : Int) + 1))) X (.slice Ao L.length capo) L) := Lib.hid (owns_keep HOLq.out fun b' e => k8 b' (by have := HAO.out b' e; omega))
                            have hg8 : wq.grownBy (wq.setCell ⟨pb, 3, none⟩ (.int .i64 ((en : Int) + 1))) (some pb) := set_grown _ _ _ _
                            have HR8 := Lib.hid (HRDq.out.grown hg8 fun y h h' => by simp [Value.ownBlock] at h h'; omega)
                            have HB8 : Hid (Below W0.heap.size W0 (wq.setCell ⟨pb, 3, none⟩ (.int .i64 ((en : Int) + 1)))) := Lib.hid (HBq.out.setCell (by show W0.heap.size ≤ pb; omega) _)
                            have D0 : Hid ((wq.setCell ⟨pb, 3, none⟩ (.int .i64 ((en : Int) + 1))).cell? ⟨pb, 0, none⟩ = some (.int .i64 k)) := Lib.hid (by rw [World.cell?_setCell_other _ _ _ _ (by simp)]; exact C0.out)
                            have D1 : Hid ((wq.setCell ⟨pb, 3, none⟩ (.int .i64 ((en : Int) + 1))).cell? ⟨pb, 1, none⟩ = some (.int .i64 m)) := Lib.hid (by rw [World.cell?_setCell_other _ _ _ _ (by simp)]; exact C1.out)
                            have D2 : Hid ((wq.setCell ⟨pb, 3, none⟩ (.int .i64 ((en : Int) + 1))).cell? ⟨pb, 2, none⟩ = some (.int .i64 ((k5 : Int) + 1))) := Lib.hid (by rw [World.cell?_setCell_other _ _ _ _ (by simp)]; exact C2.out)
                            have D3 : Hid ((wq.setCell ⟨pb, 3, none⟩ (.int .i64 ((en : Int) + 1))).cell? ⟨pb, 3, none⟩ = some (.int .i64 ((E5 + cntP a.2.2 b.2.2 B p ls (i6 + 1) : Nat) : Int))) := Lib.hid (by
                              rw [G.out, ← Nat.add_assoc, ← HEN.out]
                              exact World.cell?_setCell_same _ _ _ c3)
                            have D4 : Hid ((wq.setCell ⟨pb, 3, none⟩ (.int .i64 ((en : Int) + 1))).cell? ⟨pb, 4, none⟩ = some (.bool q5)) := Lib.hid (by rw [World.cell?_setCell_other _ _ _ _ (by simp)]; exact C4.out)
                            have DF : Hid (∀ j, (wq.setCell ⟨pb, 3, none⟩ (.int .i64 ((en : Int) + 1))).frozen? ⟨pb, j, none⟩ = false) := Lib.hid fun j => by rw [World.frozen?_setCell]; exact CF.out j
                            have cO8 : (wq.setCell ⟨pb, 3, none⟩ (.int .i64 ((en : Int) + 1))).cell? ⟨W0.heap.size, s1, none⟩ = some (.slice (some ⟨Q s1, 0, none⟩) B B) := (cell_set_other _ _ _ _ _ _ (by omega)).trans cO
                            have cI8 : (wq.setCell ⟨pb, 3, none⟩ (.int .i64 ((en : Int) + 1))).cell? ⟨Q s1, t1, none⟩ = some (.int .i64 z) := (cell_set_other _ _ _ _ _ _ (by omega)).trans cI
                            have fI8 : (wq.setCell ⟨pb, 3, none⟩ (.int .i64 ((en : Int) + 1))).frozen? ⟨Q s1, t1, none⟩ = false := by rw [World.frozen?_setCell]; exact fI
                            clear k8 hg8
                            by_cases hzz : 0 ≤ z
                            · have F : Hid (pst a.2.2 b.2.2 B p om x = om) := Lib.hid (by rw [PST.out, if_pos (hiff.out.1 hzz)])
                              go_wp2
                              go_roundw
                              case rel => exact ⟨i6 + 1, f6, by omega, by go_num, by rw [HS.out, F.out]; exact HT8.out, HM8.out, by rw [HS.out, F.out]; exact HMF.out, D0.out, D1.out, D2.out, D3.out, D4.out, DF.out, HP8.out, HR8.out, HNE.out, by first | omega | (simp; omega), HB8.out, by first | omega | (simp; omega)⟩
                              case measure => simp [intOf]; omega
                            · have F : Hid (pst a.2.2 b.2.2 B p om x = om ++ [q]) := Lib.hid (by rw [PST.out, if_neg (fun h => hzz (hiff.out.2 h))])
                              have k9s : ∀ b', b' ≠ Q s1 → ((wq.setCell ⟨pb, 3, none⟩ (.int .i64 ((en : Int) + 1))).setCell ⟨Q s1, t1, none⟩ (.int .i64 L.length)).heap[b']? = (wq.setCell ⟨pb, 3, none⟩ (.int .i64 ((en : Int) + 1))).heap[b']? := fun b' h => Below.heap_setCell (wq.setCell ⟨pb, 3, none⟩ (.int .i64 ((en : Int) + 1))) _ _ b' h
                              have HT9 : Hid (OwPr ((wq.setCell ⟨pb, 3, none⟩ (.int .i64 ((en : Int) + 1))).setCell ⟨Q s1, t1, none⟩ (.int .i64 L.length)) (pb + 1) (.slice (some ⟨tb6, 0, none⟩) om.length capt6) B om) := Lib.hid (owns_keep HT8.out fun b' e => by
                                simp only [Value.ownBlock, Option.some.injEq] at e
                                subst e
                                exact k9s _ (by omega))
                              have hgS : (wq.setCell ⟨pb, 3, none⟩ (.int .i64 ((en : Int) + 1))).grownBy ((wq.setCell ⟨pb, 3, none⟩ (.int .i64 ((en : Int) + 1))).setCell ⟨Q s1, t1, none⟩ (.int .i64 L.length)) (some (Q s1)) := set_grown _ _ _ _
                              have HR9 := Lib.hid (HR8.out.grown hgS fun y h h' => by simp [Value.ownBlock] at h h'; omega)
                              have HB9 : Hid (Below W0.heap.size W0 ((wq.setCell ⟨pb, 3, none⟩ (.int .i64 ((en : Int) + 1))).setCell ⟨Q s1, t1, none⟩ (.int .i64 L.length))) := Lib.hid (HB8.out.setCell (by show W0.heap.size ≤ Q s1; omega) _)
                              have s9 : ((wq.setCell ⟨pb, 3, none⟩ (.int .i64 ((en : Int) + 1))).setCell ⟨Q s1, t1, none⟩ (.int .i64 L.length)).heap.size = wq.heap.size := by simp
                              have HK9 := Lib.hid k9s
                              have hzn : z < 0 := by omega
                              clear k9s hgS hzz
                              go_wp2_with (at_builtin; refine push_pair rfl (.tmp 163) (.tmp 167) rfl (pb + 1) _ B om (ownsRow_below HT9.out ((Below.refl _ _).alloc (Nat.le_refl _) _)) rfl wq.heap.size q rfl (fun j u hj => by rw [HQ.out, prC_of ht1] at hj; rcases j with _ | _ | j <;> simp at hj <;> subst hj <;> simp [go_sem]) (by omega) (by simp; omega) ?_; intro v9 w9 o9 g9 p9)
                              have hz9 := g9.size
                              simp at hz9
                              have k9 : ∀ b', b' ≠ tb6 → b' < wq.heap.size → w9.heap[b']? = ((wq.setCell ⟨pb, 3, none⟩ (.int .i64 ((en : Int) + 1))).setCell ⟨Q s1, t1, none⟩ (.int .i64 L.length)).heap[b']? := fun b' h1 h2 => by
                                rw [g9.block b' (by simp; omega) (by simp [Value.ownBlock]; exact h1)]
                                exact Below.heap_alloc ((wq.setCell ⟨pb, 3, none⟩ (.int .i64 ((en : Int) + 1))).setCell ⟨Q s1, t1, none⟩ (.int .i64 L.length)) _ b' (by omega)
                              have kpb : ∀ j, w9.cell? ⟨pb, j, none⟩ = (wq.setCell ⟨pb, 3, none⟩ (.int .i64 ((en : Int) + 1))).cell? ⟨pb, j, none⟩ := fun j => (World.cell?_of_block (k9 pb (by omega) (by omega))).trans (cell_set_other _ _ _ _ _ _ (by omega))
                              have kpf : ∀ j, w9.frozen? ⟨pb, j, none⟩ = (wq.setCell ⟨pb, 3, none⟩ (.int .i64 ((en : Int) + 1))).frozen? ⟨pb, j, none⟩ := fun j => (World.frozen?_of_block (k9 pb (by omega) (by omega))).trans (frozen_set_other _ _ _ _ _ _ (by omega))
                              have mat9 := (HM8.out.set hs1 ht1 (z := (L.length : Int)) ⟨by omega, by omega⟩).keep (w' := w9) fun b' hb' => k9 b' (by omega) (by omega)
                              have mf9 := markF_upd HMF.out (i := s1) ht1 (z := (L.length : Int)) (by omega) ⟨by omega, by omega⟩
                              rw [← HQ.out, List.append_assoc] at mf9
                              have hp9 : OwPc w9 X (.slice Ao L.length capo) L := owns_keep HP8.out fun b' e => by
                                have h1 := HAO.out b' e
                                have h2 := (HP8.out.lt b' e).1
                                exact (k9 b' (by omega) (by omega)).trans (HK9.out b' (by omega))
                              have hr9 := (HR9.out.alloc (.cells #[.int .i64 s1, .int .i64 t1] 71)).grown g9 (fun y h h' => by
                                have h3 := HNE.out
                                simp [Value.ownBlock] at h h' h3
                                omega)
                              have hb9 := (HB9.out.alloc (by omega) (.cells #[.int .i64 s1, .int .i64 t1] 71)).grown g9 (by simp; omega) (fun y h => by simp [Value.ownBlock] at h; omega)
                              go_roundw
                              case rel =>
                                refine ⟨i6 + 1, _, by omega, by go_num, by rw [HS.out, F.out]; exact o9, mat9, by rw [HS.out, F.out]; exact mf9, (kpb 0).trans D0.out, (kpb 1).trans D1.out, (kpb 2).trans D2.out, (kpb 3).trans D3.out, (kpb 4).trans D4.out, fun j => (kpf j).trans (DF.out j), hp9, hr9, fun e => ?_, by omega, hb9, by omega⟩
                                rcases p9 with p9 | p9
                                · rw [p9] at e; exact HNE.out e
                                · rw [p9] at e; simp at e; omega
                              case measure => simp [intOf]; omega
                          · have G := Lib.hid (GN.out hx)
                            have HM8 := HMTq
                            have HT8 := HOTq
                            have HP8 := HOLq
                            have HR8 := HRDq
                            have HB8 := HBq
                            have D0 := C0
                            have D1 := C1
                            have D2 := C2
                            have D3 : Hid (wq.cell? ⟨pb, 3, none⟩ = some (.int .i64 ((E5 + cntP a.2.2 b.2.2 B p ls (i6 + 1) : Nat) : Int))) := Lib.hid (by
                              rw [G.out, ← HEN.out]
                              exact c3)
                            have D4 := C4
                            have DF := CF
                            by_cases hzz : 0 ≤ z
                            · have F : Hid (pst a.2.2 b.2.2 B p om x = om) := Lib.hid (by rw [PST.out, if_pos (hiff.out.1 hzz)])
                              go_wp2
                              go_roundw
                              case rel => exact ⟨i6 + 1, f6, by omega, by go_num, by rw [HS.out, F.out]; exact HT8.out, HM8.out, by rw [HS.out, F.out]; exact HMF.out, D0.out, D1.out, D2.out, D3.out, D4.out, DF.out, HP8.out, HR8.out, HNE.out, by first | omega | (simp; omega), HB8.out, by first | omega | (simp; omega)⟩
                              case measure => simp [intOf]; omega
                            · have F : Hid (pst a.2.2 b.2.2 B p om x = om ++ [q]) := Lib.hid (by rw [PST.out, if_neg (fun h => hzz (hiff.out.2 h))])
                              have k9s : ∀ b', b' ≠ Q s1 → (wq.setCell ⟨Q s1, t1, none⟩ (.int .i64 L.length)).heap[b']? = wq.heap[b']? := fun b' h => Below.heap_setCell wq _ _ b' h
                              have HT9 : Hid (OwPr (wq.setCell ⟨Q s1, t1, none⟩ (.int .i64 L.length)) (pb + 1) (.slice (some ⟨tb6, 0, none⟩) om.length capt6) B om) := Lib.hid (owns_keep HT8.out fun b' e => by
                                simp only [Value.ownBlock, Option.some.injEq] at e
                                subst e
                                exact k9s _ (by omega))
                              have hgS : wq.grownBy (wq.setCell ⟨Q s1, t1, none⟩ (.int .i64 L.length)) (some (Q s1)) := set_grown _ _ _ _
                              have HR9 := Lib.hid (HR8.out.grown hgS fun y h h' => by simp [Value.ownBlock] at h h'; omega)
                              have HB9 : Hid (Below W0.heap.size W0 (wq.setCell ⟨Q s1, t1, none⟩ (.int .i64 L.length))) := Lib.hid (HB8.out.setCell (by show W0.heap.size ≤ Q s1; omega) _)
                              have s9 : (wq.setCell ⟨Q s1, t1, none⟩ (.int .i64 L.length)).heap.size = wq.heap.size := by simp
                              have HK9 := Lib.hid k9s
                              have hzn : z < 0 := by omega
                              clear k9s hgS hzz
                              go_wp2_with (at_builtin; refine push_pair rfl (.tmp 163) (.tmp 167) rfl (pb + 1) _ B om (ownsRow_below HT9.out ((Below.refl _ _).alloc (Nat.le_refl _) _)) rfl wq.heap.size q rfl (fun j u hj => by rw [HQ.out, prC_of ht1] at hj; rcases j with _ | _ | j <;> simp at hj <;> subst hj <;> simp [go_sem]) (by omega) (by simp; omega) ?_; intro v9 w9 o9 g9 p9)
                              have hz9 := g9.size
                              simp at hz9
                              have k9 : ∀ b', b' ≠ tb6 → b' < wq.heap.size → w9.heap[b']? = (wq.setCell ⟨Q s1, t1, none⟩ (.int .i64 L.length)).heap[b']? := fun b' h1 h2 => by
                                rw [g9.block b' (by simp; omega) (by simp [Value.ownBlock]; exact h1)]
                                exact Below.heap_alloc (wq.setCell ⟨Q s1, t1, none⟩ (.int .i64 L.length)) _ b' (by omega)
                              have kpb : ∀ j, w9.cell? ⟨pb, j, none⟩ = wq.cell? ⟨pb, j, none⟩ := fun j => (World.cell?_of_block (k9 pb (by omega) (by omega))).trans (cell_set_other _ _ _ _ _ _ (by omega))
                              have kpf : ∀ j, w9.frozen? ⟨pb, j, none⟩ = wq.frozen? ⟨pb, j, none⟩ := fun j => (World.frozen?_of_block (k9 pb (by omega) (by omega))).trans (frozen_set_other _ _ _ _ _ _ (by omega))
                              have mat9 := (HM8.out.set hs1 ht1 (z := (L.length : Int)) ⟨by omega, by omega⟩).keep (w' := w9) fun b' hb' => k9 b' (by omega) (by omega)
                              have mf9 := markF_upd HMF.out (i := s1) ht1 (z := (L.length : Int)) (by omega) ⟨by omega, by omega⟩
                              rw [← HQ.out, List.append_assoc] at mf9
                              have hp9 : OwPc w9 X (.slice Ao L.length capo) L := owns_keep HP8.out fun b' e => by
                                have h1 := HAO.out b' e
                                have h2 := (HP8.out.lt b' e).1
                                exact (k9 b' (by omega) (by omega)).trans (HK9.out b' (by omega))
                              have hr9 := (HR9.out.alloc (.cells #[.int .i64 s1, .int .i64 t1] 71)).grown g9 (fun y h h' => by
                                have h3 := HNE.out
                                simp [Value.ownBlock] at h h' h3
                                omega)
                              have hb9 := (HB9.out.alloc (by omega) (.cells #[.int .i64 s1, .int .i64 t1] 71)).grown g9 (by simp; omega) (fun y h => by simp [Value.ownBlock] at h; omega)
                              go_roundw
                              case rel =>
                                refine ⟨i6 + 1, _, by omega, by go_num, by rw [HS.out, F.out]; exact o9, mat9, by rw [HS.out, F.out]; exact mf9, (kpb 0).trans D0.out, (kpb 1).trans D1.out, (kpb 2).trans D2.out, (kpb 3).trans D3.out, (kpb 4).trans D4.out, fun j => (kpf j).trans (DF.out j), hp9, hr9, fun e => ?_, by omega, hb9, by omega⟩
                                rcases p9 with p9 | p9
                                · rw [p9] at e; exact HNE.out e
                                · rw [p9] at e; simp at e; omega
                              case measure => simp [intOf]; omega
                        · obtain rfl : i6 = ls.length := by omega
                          rw [List.take_length] at HOT HMF
                          have hndm := HNDm.out ls.length
                          have hlom := HLOm.out ls.length
                          rw [List.take_length] at hndm hlom
                          have HN1' := Lib.hid hndm
                          have HN2' := Lib.hid hlom
                          have hlen : k5 + 1 ≤ (ls.foldl (pst a.2.2 b.2.2 B p) o).length := by
                            have := HPU.out ls.length
                            rw [List.take_length] at this
                            have := (List.getElem?_eq_some_iff.1 this).1
                            omega
                          rw [← HCE.out] at E3
                          obtain ⟨At6, capt6, rfl, _⟩ := owns_form HOT.out
                          clear hot hrd hndm hlom
                          go_wp2
                          go_roundw
                          case rel => exact ⟨k5 + 1, _, f6, hlen, by go_num, HN1'.out, HN2'.out, by rw [← HLS.out]; exact HCF.out, HOT.out, HMT.out, HMF.out, E0.out, E1.out, by rw [E2.out]; go_num, by rw [HTAKE.out]; exact E3.out, by rw [HTAKE.out, HQ5.out]; exact E4.out, EF.out, HOL.out, HB7.out, hpw6⟩
                          case measure => simp [intOf]; omega
                  · obtain rfl : k5 = o.length := by omega
                    have HPO : Hid (PS = o) := Lib.hid (by
                      rw [HPS.out]
                      cases A * B + 1 - o.length with
                      | zero => rfl
                      | succ f => unfold bfsF; rw [List.getElem?_eq_none (Nat.le_refl _)])
                    rw [HPO.out] at F
                    rw [List.take_length] at e3 e4
                    have e0' := E0.out
                    have e1' := E1.out
                    have hpbw : pb < wx.heap.size := by omega
                    have hb9 : X ≤ wx.heap.size := by omega
                    clear hnd hlo hps hot hmat hmf hbel hft HPS HPO E3
                    generalize edgL a.2.2 b.2.2 B r o = E5 at *
                    generalize eqB B o = q5 at *
                    go_wp2_with (at_builtin; refine push_piece rfl (.tmp 170) (.tmp 172) rfl X _ L (ownsRow_below HOL.out ((Below.refl _ _).alloc (Nat.le_refl _) _)) rfl wx.heap.size ((k : Int), (m : Int), (o.length : Int), (E5 : Int), q5) rfl (fun j u hj => by rcases j with _ | _ | _ | _ | _ | j <;> simp [pcC] at hj <;> subst hj <;> simp [go_sem]) (by omega) (by simp; omega) ?_; intro v9 w9 o9 g9 p9)
                    have hz9 := g9.size
                    simp at hz9
                    go_roundw
                    case rel =>
                      refine ⟨m + 1, f5, by omega, by go_num, by rw [F.out]; exact o9, HMT.out.keep fun b hb => ?_, by rw [F.out]; exact HMF.out, (HB6.out.alloc (by omega) _).grown g9 (by simp; omega) (fun x hx => by have := (HOL.out.lt x hx).1; omega), by omega⟩
                      rw [g9.block b (by simp; omega) (fun e => by have := (HOL.out.lt b e.symm).1; omega)]
                      exact Below.heap_alloc wx _ b (by omega)
                    case measure => simp [intOf]; omega
            · obtain rfl : m = B := by omega
              have F : Hid (k * m + m = (k + 1) * m) := Lib.hid (by rw [Nat.add_mul, Nat.one_mul])
              rw [F.out] at hown hmf
              have HO2 := Lib.hid hown
              have HMF2 := Lib.hid hmf
              clear hown hmat hmf hbel HO HMF
              go_wp2
              go_roundw
              case rel => exact ⟨k + 1, f, by omega, by go_num, HO2.out, HMT.out, HMF2.out, HB4.out, hXw⟩
              case measure => simp [intOf]; omega
        · have hkA : A = k := by omega
          subst hkA
          have HBW : Hid (Below w.heap.size w wp) := Lib.hid (BX.out.trans (HB3.out.mono (by have := HSW.out; omega)))
          obtain ⟨Ao, capo, rfl, _⟩ := owns_form HO.out
          go_wp2
          refine bodyPost_ret (v := .tuple #[.slice Ao (pcs a b A B r (A * B)).2.length capo, .slice (some ⟨W0.heap.size, 0, none⟩) A A]) (by simp [results, Try.results36]) rfl ⟨_, _, rfl, ?_, HBW.out⟩
          refine ⟨HO.out.1, ?_⟩
          rcases HO.out.2 with h0 | ⟨g, cap, cur, hv, hg, rr⟩
          · exact .inl h0
          · exact .inr ⟨g, cap, cur, hv, by have := HSW.out; omega, rr⟩
end Go.Proofs.Ytodkandjcodnjaa
