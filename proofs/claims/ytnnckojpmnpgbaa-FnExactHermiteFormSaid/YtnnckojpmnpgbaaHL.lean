/- Lists of rows whose headers are told by name: rows changed in place, taken out, put in. -/
import Derived.Test.YtnnckojpmnpgbaaOwnII
import Derived.Test.YtnnckojpmnpgbaaHerP
namespace Go.Proofs.Ytnnckojpmnpgbaa
set_option maxRecDepth 20000
set_option linter.unusedVariables false
set_option linter.unusedSimpArgs false
open Go.RowKit

def hd (hs : List Value) (i : Nat) : Value := hs.getD i (.slice none 0 0)
/-- The blocks of a list: its own row, then the rows. -/
def bl (v : Value) (hs : List Value) : List Nat := v.ownBlock.toList ++ (hs.map fun h => h.ownBlock.toList).flatten
structure HB (lo : Nat) (w : World) (v : Value) (hs : List Value) (L : List (List Int)) : Prop where
  row : w.ownsRow 0 27 1 v hs.length hs
  len : hs.length = L.length
  own : ∀ i, i < L.length → OwI w 0 (hd hs i) (rw_ L i)
  nd : (bl v hs).Nodup
  rg : ∀ b ∈ bl v hs, lo ≤ b ∧ b < w.heap.size
theorem hd_mem {hs : List Value} {i : Nat} (h : i < hs.length) : hd hs i = hs[i] := by
  unfold hd
  rw [List.getD_eq_getElem?_getD, List.getElem?_eq_getElem h]; rfl
theorem rwl_mem {L : List (List Int)} {i : Nat} (h : i < L.length) : rw_ L i = L[i] := by
  unfold rw_
  rw [List.getD_eq_getElem?_getD, List.getElem?_eq_getElem h]; rfl
theorem bl_hd {v : Value} {hs : List Value} {i b : Nat} (h : i < hs.length) (hb : (hd hs i).ownBlock = some b) : b ∈ bl v hs := by
  rw [hd_mem h] at hb
  exact List.mem_append.2 (.inr (List.mem_flatten.2 ⟨_, List.mem_map.2 ⟨hs[i], by simp, rfl⟩, by rw [hb]; simp⟩))
theorem bl_own {v : Value} {hs : List Value} {b : Nat} (hb : v.ownBlock = some b) : b ∈ bl v hs := List.mem_append.2 (.inl (by rw [hb]; simp))
theorem bl_mem {v : Value} {hs : List Value} {b : Nat} (h : b ∈ bl v hs) : v.ownBlock = some b ∨ ∃ i, i < hs.length ∧ (hd hs i).ownBlock = some b := by
  rcases List.mem_append.1 h with h | h
  · exact .inl (by simpa using h)
  · obtain ⟨l, hl, hb⟩ := List.mem_flatten.1 h
    obtain ⟨x, hx, rfl⟩ := List.mem_map.1 hl
    obtain ⟨i, hi, rfl⟩ := List.mem_iff_getElem.1 hx
    exact .inr ⟨i, hi, by rw [hd_mem hi]; simpa using hb⟩
theorem flat_two {hs : List Value} (hn : ((hs.map fun h => h.ownBlock.toList).flatten).Nodup) : ∀ {i j b : Nat}, i < hs.length → j < hs.length → (hd hs i).ownBlock = some b → (hd hs j).ownBlock = some b → i = j := by
  induction hs with
  | nil => intro i j b h; cases h
  | cons h hs ih =>
    intro i j b hi hj h1 h2
    rw [List.map_cons, List.flatten_cons] at hn
    obtain ⟨_, n2, n3⟩ := List.nodup_append.1 hn
    have hin : ∀ k, k < hs.length → (hd hs k).ownBlock = some b → b ∈ (hs.map fun h => h.ownBlock.toList).flatten := fun k hk hb => by
      rw [hd_mem hk] at hb
      exact List.mem_flatten.2 ⟨_, List.mem_map.2 ⟨hs[k], by simp, rfl⟩, by rw [hb]; simp⟩
    match i, j with
    | 0, 0 => rfl
    | 0, j + 1 => exact absurd rfl (n3 b (by rw [show h.ownBlock = some b from h1]; simp) b (hin j (by simpa using hj) h2))
    | i + 1, 0 => exact absurd rfl (n3 b (by rw [show h.ownBlock = some b from h2]; simp) b (hin i (by simpa using hi) h1))
    | i + 1, j + 1 => rw [ih n2 (by simpa using hi) (by simpa using hj) h1 h2]
theorem flat_single {β : Type} : ∀ l : List β, (l.map fun h => [h]).flatten = l
  | [] => rfl
  | x :: l => by rw [List.map_cons, List.flatten_cons, flat_single l]; rfl
section
variable {lo : Nat} {w w' : World} {v : Value} {hs : List Value} {L : List (List Int)}
theorem HB.two (h : HB lo w v hs L) {i j b : Nat} (hi : i < hs.length) (hj : j < hs.length) (h1 : (hd hs i).ownBlock = some b) (h2 : (hd hs j).ownBlock = some b) : i = j :=
  flat_two (List.nodup_append.1 h.nd).2.1 hi hj h1 h2
theorem HB.ne (h : HB lo w v hs L) {i b : Nat} (hi : i < hs.length) (h1 : (hd hs i).ownBlock = some b) : v.ownBlock ≠ some b := by
  intro hv
  refine (List.nodup_append.1 h.nd).2.2 b (by rw [hv]; simp) b ?_ rfl
  rw [hd_mem hi] at h1
  exact List.mem_flatten.2 ⟨_, List.mem_map.2 ⟨hs[i], by simp, rfl⟩, by rw [h1]; simp⟩
theorem OwI.keep0 {base : Nat} {s : Value} {xs : List Int} (h : OwI w base s xs) (hb : ∀ b, s.ownBlock = some b → w'.heap[b]? = w.heap[b]?) : OwI w' base s xs := ⟨ownsRow_keep h.1 hb, h.2⟩
theorem HB.keep (h : HB lo w v hs L) (hb : ∀ b ∈ bl v hs, w'.heap[b]? = w.heap[b]?) (hsz : w.heap.size ≤ w'.heap.size) : HB lo w' v hs L :=
  ⟨ownsRow_keep h.row fun b hv => hb b (bl_own hv), h.len, fun i hi => (h.own i hi).keep0 fun b hv => hb b (bl_hd (by rw [h.len]; exact hi) hv), h.nd, fun b hb' => ⟨(h.rg b hb').1, Nat.lt_of_lt_of_le (h.rg b hb').2 hsz⟩⟩
theorem HB.below (h : HB lo w v hs L) (hb : Below w.heap.size w w') : HB lo w' v hs L := h.keep (fun b hb' => hb.block b (h.rg b hb').2) hb.size
theorem HB.drew (h : HB lo w v hs L) : HB lo w.drew v hs L := ⟨h.row, h.len, h.own, h.nd, h.rg⟩
theorem HB.grown (h : HB lo w v hs L) {row : Option Nat} (hg : w.grownBy w' row) (hne : ∀ b, row = some b → b ∉ bl v hs) : HB lo w' v hs L :=
  h.keep (fun b hb => hg.block b (h.rg b hb).2 fun e => hne b e.symm hb) hg.size
theorem HB.lo_le {lo' : Nat} (h : HB lo w v hs L) (hl : lo' ≤ lo) : HB lo' w v hs L := ⟨h.row, h.len, h.own, h.nd, fun b hb => ⟨Nat.le_trans hl (h.rg b hb).1, (h.rg b hb).2⟩⟩
/-- A row's numbers change in place. -/
theorem HB.setC (h : HB lo w v hs L) {i : Nat} (hi : i < L.length) {r : List Int} (hg : w.grownBy w' (hd hs i).ownBlock) (ho : OwI w' 0 (hd hs i) r) : HB lo w' v hs (L.set i r) := by
  have hih : i < hs.length := by rw [h.len]; exact hi
  refine ⟨ownsRow_keep h.row fun b hv => hg.block b (h.rg b (bl_own hv)).2 fun e => h.ne hih e.symm hv, by rw [List.length_set]; exact h.len, fun j hj => ?_, h.nd, fun b hb => ⟨(h.rg b hb).1, Nat.lt_of_lt_of_le (h.rg b hb).2 hg.size⟩⟩
  rw [List.length_set] at hj
  rw [rw_set _ _ _ _ hi]
  split
  · rename_i e; rw [e]; exact ho
  · rename_i e
    refine (h.own j hj).keep0 fun b hv => hg.block b (h.rg b (bl_hd (by rw [h.len]; exact hj) hv)).2 fun e' => e ?_
    exact h.two (by rw [h.len]; exact hj) hih hv e'.symm
theorem hd_set (hs : List Value) (i j : Nat) (x : Value) (h : i < hs.length) : hd (hs.set i x) j = if j = i then x else hd hs j := by
  unfold hd
  rw [List.getD_eq_getElem?_getD, List.getElem?_set]
  by_cases e : i = j
  · subst e; simp [h]
  · rw [if_neg e, if_neg (fun h => e h.symm), List.getD_eq_getElem?_getD]
theorem flat_set_mem {hs : List Value} {i b : Nat} {x : Value} (h : b ∈ ((hs.set i x).map fun h => h.ownBlock.toList).flatten) : x.ownBlock = some b ∨ ∃ j, j < hs.length ∧ j ≠ i ∧ (hd hs j).ownBlock = some b := by
  obtain ⟨l, hl, hb⟩ := List.mem_flatten.1 h
  obtain ⟨y, hy, rfl⟩ := List.mem_map.1 hl
  obtain ⟨j, hj, rfl⟩ := List.mem_iff_getElem.1 hy
  have hjl : j < hs.length := by rw [List.length_set] at hj; exact hj
  rw [List.getElem_set] at hb
  by_cases e : i = j
  · rw [if_pos e] at hb; exact .inl (by simpa using hb)
  · rw [if_neg e] at hb; exact .inr ⟨j, hjl, fun h => e h.symm, by rw [hd_mem hjl]; simpa using hb⟩
theorem flat_nodup {hs : List Value} (h : ∀ i j b, i < hs.length → j < hs.length → (hd hs i).ownBlock = some b → (hd hs j).ownBlock = some b → i = j) : ((hs.map fun h => h.ownBlock.toList).flatten).Nodup := by
  induction hs with
  | nil => exact List.nodup_nil
  | cons x hs ih =>
    rw [List.map_cons, List.flatten_cons]
    refine List.nodup_append.2 ⟨by cases x.ownBlock <;> simp, ih fun i j b hi hj h1 h2 => ?_, fun a ha b hb hab => ?_⟩
    · have := h (i + 1) (j + 1) b (by simpa using hi) (by simpa using hj) h1 h2
      omega
    · subst hab
      have hx : x.ownBlock = some a := by simpa using ha
      obtain ⟨l, hl, hb'⟩ := List.mem_flatten.1 hb
      obtain ⟨y, hy, rfl⟩ := List.mem_map.1 hl
      obtain ⟨j, hj, rfl⟩ := List.mem_iff_getElem.1 hy
      have := h 0 (j + 1) a (by simp) (by simpa using hj) hx (by show (hd hs j).ownBlock = some a; rw [hd_mem hj]; simpa using hb')
      omega
theorem HB.mk2 (row : w.ownsRow 0 27 1 v hs.length hs) (len : hs.length = L.length) (own : ∀ i, i < L.length → OwI w 0 (hd hs i) (rw_ L i))
    (ne : ∀ i b, i < hs.length → (hd hs i).ownBlock = some b → v.ownBlock ≠ some b) (two : ∀ i j b, i < hs.length → j < hs.length → (hd hs i).ownBlock = some b → (hd hs j).ownBlock = some b → i = j)
    (r0 : ∀ b, v.ownBlock = some b → lo ≤ b ∧ b < w.heap.size) (r1 : ∀ i b, i < hs.length → (hd hs i).ownBlock = some b → lo ≤ b ∧ b < w.heap.size) : HB lo w v hs L := by
  refine ⟨row, len, own, List.nodup_append.2 ⟨by cases v.ownBlock <;> simp, flat_nodup two, fun a ha b hb hab => ?_⟩, fun b hb => (bl_mem hb).elim (r0 b) fun ⟨i, hi, h⟩ => r1 i b hi h⟩
  subst hab
  obtain ⟨l, hl, hb'⟩ := List.mem_flatten.1 hb
  obtain ⟨y, hy, rfl⟩ := List.mem_map.1 hl
  obtain ⟨j, hj, rfl⟩ := List.mem_iff_getElem.1 hy
  exact ne j a hj (by rw [hd_mem hj]; simpa using hb') (by simpa using ha)
/-- A new row is stored into the list. -/
theorem HB.setH {g n cap : Nat} (h : HB lo w (.slice (some ⟨g, 0, none⟩) n cap) hs L) {i : Nat} (hi : i < L.length) {x : Value} {r : List Int} (ho : OwI w 0 x r) (hx : ∀ b, x.ownBlock = some b → lo ≤ b ∧ b ∉ bl (.slice (some ⟨g, 0, none⟩) n cap) hs) :
    HB lo (w.setCell ⟨g, i, none⟩ x) (.slice (some ⟨g, 0, none⟩) n cap) (hs.set i x) (L.set i r) := by
  have hih : i < hs.length := by rw [h.len]; exact hi
  obtain rfl : hs.length = n := by
    rcases h.row.2 with ⟨hv, _⟩ | ⟨_, _, _, hv, _⟩
    · cases hv
    · injection hv with _ e _; exact e.symm
  have hst := h.row.stored i x
  have hgs : ∀ b, b ≠ g → (w.setCell ⟨g, i, none⟩ x).heap[b]? = w.heap[b]? := fun b hb => Below.heap_setCell w _ x b hb
  have hsz : (w.setCell ⟨g, i, none⟩ x).heap.size = w.heap.size := by simp
  have hgl := h.rg g (bl_own rfl)
  refine HB.mk2 (by rw [List.length_set]; exact hst.1) (by rw [List.length_set, List.length_set]; exact h.len) (fun j hj => ?_) (fun j b hj hb hv => ?_) (fun j k b hj hk h1 h2 => ?_) (fun b hb => ?_) (fun j b hj hb => ?_)
  · rw [List.length_set] at hj
    rw [rw_set _ _ _ _ hi, hd_set _ _ _ _ hih]
    split
    · exact ho.keep0 fun b hb => hgs b fun e => (hx b hb).2 (by rw [e]; exact bl_own rfl)
    · exact (h.own j hj).keep0 fun b hb => hgs b fun e => h.ne (by rw [h.len]; exact hj) hb (by rw [e]; rfl)
  · rw [List.length_set] at hj
    rw [hd_set _ _ _ _ hih] at hb
    split at hb
    · exact (hx b hb).2 (bl_own hv)
    · exact h.ne hj hb hv
  · rw [List.length_set] at hj hk
    rw [hd_set _ _ _ _ hih] at h1 h2
    split at h1 <;> split at h2
    · omega
    · exact absurd (bl_hd hk h2) (hx b h1).2
    · exact absurd (bl_hd hj h1) (hx b h2).2
    · exact h.two hj hk h1 h2
  · rw [hsz]; exact h.rg b (bl_own hb)
  · rw [List.length_set] at hj
    rw [hd_set _ _ _ _ hih] at hb
    rw [hsz]
    split at hb
    · exact ⟨(hx b hb).1, (ho.1.lt b hb).2⟩
    · exact h.rg b (bl_hd hj hb)
/-- The list is a list of its own. -/
theorem HB.owII (h : HB lo w v hs L) : OwII lo w.heap.size v L w := by
  have hz : ∀ (hs : List Value) (L : List (List Int)), hs.length = L.length → ((hs.zip L).map fun p => p.1) = hs ∧ ((hs.zip L).map fun p => p.2) = L := by
    intro hs L hl
    exact ⟨List.map_fst_zip (by omega), List.map_snd_zip (by omega)⟩
  obtain ⟨z1, z2⟩ := hz hs L h.len
  refine ⟨bl v hs, ⟨(hs.zip L).map fun p => ([p.1], p.2, p.1.ownBlock.toList), ?_, ?_, ?_, ?_⟩, h.nd, h.rg⟩
  · rw [List.map_map]; exact z2
  · intro e he
    obtain ⟨p, hp, rfl⟩ := List.mem_map.1 he
    obtain ⟨i, hi, rfl⟩ := List.mem_iff_getElem.1 hp
    rw [List.length_zip] at hi
    have hiL : i < L.length := by omega
    have hih : i < hs.length := by omega
    rw [List.getElem_zip]
    have := h.own i hiL
    rw [hd_mem hih, rwl_mem hiL] at this
    exact ⟨rfl, hs[i], rfl, this, rfl⟩
  · have e1 : ((hs.zip L).map fun p => (([p.1], p.2, p.1.ownBlock.toList) : List Value × List Int × List Nat)).length = hs.length := by rw [List.length_map, List.length_zip, h.len]; omega
    have e2 : ((((hs.zip L).map fun p => (([p.1], p.2, p.1.ownBlock.toList) : List Value × List Int × List Nat)).map (·.1)).flatten) = hs := by
      rw [List.map_map]
      have : ((hs.zip L).map ((fun x => x.1) ∘ fun p => (([p.1], p.2, p.1.ownBlock.toList) : List Value × List Int × List Nat))) = ((hs.zip L).map fun p => p.1).map fun h => [h] := by rw [List.map_map]; rfl
      rw [this, z1]
      exact flat_single hs
    rw [e1, e2]
    exact h.row
  · unfold bl
    congr 2
    rw [List.map_map]
    have : ((hs.zip L).map ((fun x => x.2.2) ∘ fun p => (([p.1], p.2, p.1.ownBlock.toList) : List Value × List Int × List Nat))) = ((hs.zip L).map fun p => p.1).map fun h => h.ownBlock.toList := by rw [List.map_map]; rfl
    rw [this, z1]
/-- The other way round. -/
theorem OwII.hb {hi : Nat} (h : OwII lo hi v L w) (hhi : hi ≤ w.heap.size) : ∃ hs, HB lo w v hs L := by
  obtain ⟨F, ⟨es, h1, h2, h3, rfl⟩, hn, hF⟩ := h
  have hl : es.length = L.length := by rw [← h1]; simp
  obtain ⟨f1, f2⟩ := flat_ones es fun e he => (h2 e he).1
  have hk : ∀ i (hi : i < es.length), ∃ s, es[i].1 = [s] ∧ hd (es.map (·.1)).flatten i = s ∧ OwI w 0 s es[i].2.1 ∧ es[i].2.2 = s.ownBlock.toList := fun i hi => by
    obtain ⟨s, hs, ho, hFs⟩ := (h2 es[i] (by simp)).2
    have hif : i < ((es.map (·.1)).flatten).length := by omega
    have e := f2 i hi hif
    rw [hs] at e
    injection e with e
    exact ⟨s, hs, by rw [hd_mem hif]; exact e.symm, ho, hFs⟩
  have hfl : ((es.map (·.1)).flatten.map fun h => h.ownBlock.toList) = es.map (·.2.2) := by
    refine List.ext_getElem (by rw [List.length_map, List.length_map, f1]) fun i a1 a2 => ?_
    rw [List.length_map] at a1 a2
    obtain ⟨s, q1, q2, q3, q4⟩ := hk i (by omega)
    rw [List.getElem_map, List.getElem_map, q4, ← q2, hd_mem a1]
  have hbl : bl v (es.map (·.1)).flatten = v.ownBlock.toList ++ (es.map (·.2.2)).flatten := by unfold bl; rw [hfl]
  refine ⟨(es.map (·.1)).flatten, ⟨by rw [f1]; exact h3, by omega, fun i hi => ?_, by rw [hbl]; exact hn, fun b hb => ?_⟩⟩
  · obtain ⟨s, q1, q2, q3, q4⟩ := hk i (by omega)
    rw [q2, rwl_mem hi]
    have : es[i].2.1 = L[i] := by simp [← h1]
    rw [← this]; exact q3
  · rw [hbl] at hb
    have := hF b hb
    omega
end
end Go.Proofs.Ytnnckojpmnpgbaa
