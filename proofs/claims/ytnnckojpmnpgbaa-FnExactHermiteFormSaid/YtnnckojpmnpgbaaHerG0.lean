/- Two lists of rows apart, and plain laws for the elimination. -/
import Derived.Test.YtnnckojpmnpgbaaHerD
import Derived.Test.YtnnckojpmnpgbaaHM
import Derived.Test.YtnnckojpmnpgbaaQuiD
import Derived.Deep.RegionHeld3
namespace Go.Proofs.Ytnnckojpmnpgbaa
set_option maxRecDepth 20000
set_option linter.unusedVariables false
set_option linter.unusedSimpArgs false
open Go.RowKit

theorem sum_le : ∀ (A B : List Nat), A.length = B.length → (∀ i, A.getD i 0 ≤ B.getD i 0) → A.sum ≤ B.sum
  | [], [], _, _ => Nat.le_refl _
  | a :: A, b :: B, hl, h => by
    have h0 := h 0
    have := sum_le A B (by simpa using hl) fun i => h (i + 1)
    simp only [List.getD_cons_zero] at h0
    simp only [List.sum_cons]
    omega
  | [], _ :: _, hl, _ => by simp at hl
  | _ :: _, [], hl, _ => by simp at hl
theorem sum_lt : ∀ (A B : List Nat), A.length = B.length → (∀ i, A.getD i 0 ≤ B.getD i 0) → (∃ i, A.getD i 0 < B.getD i 0) → A.sum < B.sum
  | [], [], _, _, ⟨i, hi⟩ => by simp at hi
  | a :: A, b :: B, hl, h, ⟨i, hi⟩ => by
    have h0 := h 0
    simp only [List.getD_cons_zero] at h0
    simp only [List.sum_cons]
    match i, hi with
    | 0, hi =>
      simp only [List.getD_cons_zero] at hi
      have := sum_le A B (by simpa using hl) fun i => h (i + 1)
      omega
    | i + 1, hi =>
      have := sum_lt A B (by simpa using hl) (fun i => h (i + 1)) ⟨i, hi⟩
      omega
  | [], _ :: _, hl, _, _ => by simp at hl
  | _ :: _, [], hl, _, _ => by simp at hl
theorem mu_get (c : Nat) (L : List (List Int)) (i : Nat) : (L.map fun r => (cl r c).natAbs).getD i 0 = mg L c i := by
  rw [List.getD_eq_getElem?_getD, List.getElem?_map]
  by_cases h : i < L.length
  · rw [List.getElem?_eq_getElem h]; unfold mg; rw [rw_mem h]; rfl
  · rw [List.getElem?_eq_none (by omega), mg_out (by omega)]; rfl
theorem mu_rnd {n : Nat} {rows : List (List Int)} (h : Rect n rows) {c j : Nat} (hc : c < n) (hb : ∀ i, mg rows c i ≤ 4000000000000000000) (hj : mg rows c j ≠ 0) : muC c (rnd rows c j) ≤ muC c rows ∧ ((∀ i, i < rows.length → mg rows c i ≠ 0 → mg rows c j ≤ mg rows c i) → moreF rows c j rows.length = true → muC c (rnd rows c j) < muC c rows) := by
  have hle : ∀ i, mg (rnd rows c j) c i ≤ mg rows c i := fun i => by
    rw [rnd_mg h hc hb hj i]
    split
    · rename_i e; rw [e]; exact Nat.le_refl _
    · exact Nat.mod_le _ _
  refine ⟨sum_le _ _ (by simp [rnd_len]) fun i => by rw [mu_get, mu_get]; exact hle i, fun hmin hm => sum_lt _ _ (by simp [rnd_len]) (fun i => by rw [mu_get, mu_get]; exact hle i) ?_⟩
  obtain ⟨i, hi, hne⟩ := (more_spec h hc).1 hm
  refine ⟨i, ?_⟩
  rw [mu_get, mu_get]
  have hv := rnd_mg h hc hb hj i
  rw [if_neg hi] at hv
  have h0 : mg rows c i ≠ 0 := fun e => hne (by rw [hv, e, Nat.zero_mod])
  have hil : i < rows.length := Nat.lt_of_not_le fun hl => h0 (mg_out hl)
  have h1 := hmin i hil h0
  have h2 := Nat.mod_lt (mg rows c i) (Nat.pos_of_ne_zero hj)
  rw [hv]
  omega
/-- Two lists of rows, apart. -/
structure HH (lo : Nat) (w : World) (v1 : Value) (h1 : List Value) (L1 : List (List Int)) (v2 : Value) (h2 : List Value) (L2 : List (List Int)) : Prop where
  a : HB lo w v1 h1 L1
  b : HB lo w v2 h2 L2
  ap : ∀ x ∈ bl v1 h1, x ∉ bl v2 h2
theorem HH.drewN {lo : Nat} {w : World} {v1 v2 : Value} {h1 h2 : List Value} {L1 L2 : List (List Int)} (h : HH lo w v1 h1 L1 v2 h2 L2) (n : Nat) : HH lo (w.drewN n) v1 h1 L1 v2 h2 L2 :=
  ⟨⟨h.a.row, h.a.len, h.a.own, h.a.nd, h.a.rg⟩, ⟨h.b.row, h.b.len, h.b.own, h.b.nd, h.b.rg⟩, h.ap⟩
theorem HH.below {lo : Nat} {w w' : World} {v1 v2 : Value} {h1 h2 : List Value} {L1 L2 : List (List Int)} (h : HH lo w v1 h1 L1 v2 h2 L2) (hb : Below w.heap.size w w') : HH lo w' v1 h1 L1 v2 h2 L2 := ⟨h.a.below hb, h.b.below hb, h.ap⟩
theorem HH.setC1 {lo : Nat} {w w' : World} {v1 v2 : Value} {h1 h2 : List Value} {L1 L2 : List (List Int)} (h : HH lo w v1 h1 L1 v2 h2 L2) {i : Nat} (hi : i < L1.length) {r : List Int} (hg : w.grownBy w' (hd h1 i).ownBlock) (ho : OwI w' 0 (hd h1 i) r) : HH lo w' v1 h1 (L1.set i r) v2 h2 L2 :=
  ⟨h.a.setC hi hg ho, h.b.grown hg fun b hb => h.ap b (bl_hd (by rw [h.a.len]; exact hi) hb), h.ap⟩
theorem HH.setC2 {lo : Nat} {w w' : World} {v1 v2 : Value} {h1 h2 : List Value} {L1 L2 : List (List Int)} (h : HH lo w v1 h1 L1 v2 h2 L2) {i : Nat} (hi : i < L2.length) {r : List Int} (hg : w.grownBy w' (hd h2 i).ownBlock) (ho : OwI w' 0 (hd h2 i) r) : HH lo w' v1 h1 L1 v2 h2 (L2.set i r) :=
  ⟨h.a.grown hg fun b hb hm => h.ap b hm (bl_hd (by rw [h.b.len]; exact hi) hb), h.b.setC hi hg ho, h.ap⟩
theorem numOk_wide {L : List (List Int)} (h : numOk 100 L = true) : numOk 1000000000 L = true := by
  unfold numOk
  rw [List.all_eq_true]
  intro r hr
  rw [List.all_eq_true]
  intro x hx
  have := num_mem h hr hx
  exact inB_iff.2 (by omega)
theorem rowsOk_wide {n : Int} {L : List (List Int)} (h : rowsOk n 1000000000 L = false) : rowsOk n 100 L = false := by
  rcases e : rowsOk n 100 L with _ | _
  · rfl
  · rw [rowsOk_eq, Bool.and_eq_true] at e
    have h2 : numOk 1000000000 L = true := numOk_wide e.2
    rw [rowsOk_eq, e.1, h2] at h
    cases h
def boolOf : Value → Nat
  | .bool true => 1
  | _ => 0

theorem colI_len (c : Nat) : ∀ f rows, (colI c f rows).2.length = rows.length := by
  intro f
  induction f with
  | zero => intro rows; rfl
  | succ f ih =>
    intro rows
    rw [colI_succ]
    split
    · rfl
    · split
      · rw [ih, rnd_len]
      · exact rnd_len _ _ _
theorem hermS_len (L : List (List Int)) (k : Nat) : (hermS L k).1.length ≤ L.length ∧ (hermS L k).2.length ≤ k := by
  induction k with
  | zero => exact ⟨Nat.le_refl _, Nat.le_refl _⟩
  | succ k ih =>
    rw [hermS_succ]
    have h1 := colI_len k 200 (hermS L k).1
    unfold phF
    split
    · exact ⟨by rw [h1]; exact ih.1, Nat.le_succ_of_le ih.2⟩
    · refine ⟨?_, by simp; exact ih.2⟩
      have h2 := List.length_eraseIdx_le (colI k 200 (hermS L k).1).2 (colI k 200 (hermS L k).1).1.toNat
      simp only
      omega
theorem rnd_next (rows : List (List Int)) (c j k : Nat) (hk : k < rows.length) : rndF rows c j (k + 1) = if hitR rows c j k = true then (rndF rows c j k).set k (newR rows c j k) else rndF rows c j k := by
  obtain ⟨_, h2⟩ := rndF_get rows c j k (by omega)
  rw [rndF_succ]
  have hj : rw_ (rndF rows c j k) j = rw_ rows j := by rw [h2, if_neg (fun h => by simp [hitR] at h)]
  have hk' : rw_ (rndF rows c j k) k = rw_ rows k := by rw [h2, if_neg (by omega)]
  have hh : hitR (rndF rows c j k) c j k = hitR rows c j k := by unfold hitR; rw [hk']
  have hn : newR (rndF rows c j k) c j k = newR rows c j k := by unfold newR; rw [hk', hj]
  unfold rndS
  rw [hh, hn]
theorem rnd_rows {rows : List (List Int)} {c j k : Nat} (hk : k ≤ rows.length) : (rndF rows c j k).length = rows.length ∧ rw_ (rndF rows c j k) j = rw_ rows j ∧ rw_ (rndF rows c j k) k = rw_ rows k := by
  obtain ⟨h1, h2⟩ := rndF_get rows c j k hk
  exact ⟨h1, by rw [h2, if_neg (fun h => by simp [hitR] at h)], by rw [h2, if_neg (by omega)]⟩
theorem HB.own2 {lo : Nat} {w : World} {g n cap k N : Nat} {hs : List Value} {L : List (List Int)} (h : HB lo w (.slice (some ⟨g, 0, none⟩) n cap) hs L) (hk : k < L.length) {gk ck : Nat} (hv : hd hs k = .slice (some ⟨gk, 0, none⟩) N ck) : OwI w 0 (.slice (some ⟨gk, 0, none⟩) N ck) (rw_ L k) := by
  rw [← hv]; exact h.own k hk
theorem own_one {w : World} {v : Value} {xs : List Int} (h : OwI w 0 v xs) : v.oneCell' = true := by
  obtain ⟨A, cap, rfl, _⟩ := OwI.form h
  rfl
theorem HB.ones {lo : Nat} {w : World} {v : Value} {hs : List Value} {L : List (List Int)} (h : HB lo w v hs L) : ∀ u ∈ hs, u.oneCell' = true := fun u hu => by
  obtain ⟨i, hi, rfl⟩ := List.mem_iff_getElem.1 hu
  have := h.own i (by rw [← h.len]; exact hi)
  rw [hd_mem hi] at this
  exact own_one this
theorem neg_step (fr : List Int) (k : Nat) (h : k < fr.length) : ((fr.take k).map negW ++ fr.drop k).set k (negW fr[k]) = (fr.take (k + 1)).map negW ++ fr.drop (k + 1) := by
  rw [List.set_append_right _ _ (by rw [List.length_map, List.length_take]; omega), List.length_map, List.length_take, Nat.min_eq_left (by omega), Nat.sub_self, List.drop_eq_getElem_cons h, List.set_cons_zero, List.take_succ_eq_append_getElem h, List.map_append, List.append_assoc]
  rfl
theorem neg_at (fr : List Int) (k : Nat) (h : k < fr.length) (h' : k < ((fr.take k).map negW ++ fr.drop k).length) : ((fr.take k).map negW ++ fr.drop k)[k] = fr[k] := by
  have hl : ((fr.take k).map negW).length = k := by rw [List.length_map, List.length_take]; omega
  rw [List.getElem_append_right (by omega), List.getElem_drop]
  congr 1
  omega
theorem red_step (L : List (List Int)) (g : List Int → List Int) (k : Nat) (h : k < L.length) : ((L.take k).map g ++ L.drop k).set k (g (rw_ L k)) = (L.take (k + 1)).map g ++ L.drop (k + 1) := by
  rw [rw_mem h, List.set_append_right _ _ (by rw [List.length_map, List.length_take]; omega), List.length_map, List.length_take, Nat.min_eq_left (by omega), Nat.sub_self, List.drop_eq_getElem_cons h, List.set_cons_zero, List.take_succ_eq_append_getElem h, List.map_append, List.append_assoc]
  rfl
theorem red_at (L : List (List Int)) (g : List Int → List Int) (k : Nat) (h : k < L.length) : rw_ ((L.take k).map g ++ L.drop k) k = rw_ L k ∧ ((L.take k).map g ++ L.drop k).length = L.length := by
  have hl : ((L.take k).map g).length = k := by rw [List.length_map, List.length_take]; omega
  refine ⟨?_, by simp; omega⟩
  unfold rw_
  rw [List.getD_eq_getElem?_getD, List.getD_eq_getElem?_getD, List.getElem?_append_right (by omega), hl, Nat.sub_self, List.getElem?_drop, Nat.add_zero]
/-- Where a row's number lies. -/
theorem HB.num {lo : Nat} {w : World} {g n cap k c N : Nat} {hs : List Value} {L : List (List Int)} (h : HB lo w (.slice (some ⟨g, 0, none⟩) n cap) hs L) (hk : k < L.length) (hN : (rw_ L k).length = N) (hc : c < N) :
    ∃ gk ck, w.cell? ⟨g, k, none⟩ = some (.slice (some ⟨gk, 0, none⟩) N ck) ∧ hd hs k = .slice (some ⟨gk, 0, none⟩) N ck ∧ w.cell? ⟨gk, c, none⟩ = some (.int .i64 (cl (rw_ L k) c)) ∧ lo ≤ gk ∧ gk < w.heap.size ∧ N ≤ ck ∧ ck ≤ maxLen ∧ I64 (cl (rw_ L k) c) := by
  obtain ⟨h1, h2⟩ := h.at hk
  obtain ⟨gk, ck, hv, b1, b2, b3, b4⟩ := h.row_form hk (by omega)
  rw [hN] at hv b3
  rw [hv] at h1 h2
  refine ⟨gk, ck, h1, hv, ?_, b1, b2, b3, b4, ?_⟩
  · rw [OwI.cellAt h2 c (by omega), cl_get (by omega)]
  · rw [cl_get (by omega)]; exact h2.2 _ (by simp)
end Go.Proofs.Ytnnckojpmnpgbaa
