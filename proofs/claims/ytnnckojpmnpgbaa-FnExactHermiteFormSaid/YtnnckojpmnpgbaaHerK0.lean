/- Lists of rows: a row taken out into a new list, a new row stored; a column's round that changes nothing. -/
import Derived.Test.YtnnckojpmnpgbaaHerG0
import Derived.Test.YtnnckojpmnpgbaaHerJ
import Derived.Test.YtnnckojpmnpgbaaQuiE
namespace Go.Proofs.Ytnnckojpmnpgbaa
set_option maxRecDepth 20000
set_option linter.unusedVariables false
set_option linter.unusedSimpArgs false
open Go.RowKit

theorem chg_none {rows : List (List Int)} {c j : Nat} (h : chgF rows c j rows.length = false) : rnd rows c j = rows ∧ moreF rows c j rows.length = false := by
  unfold chgF at h
  rw [List.any_eq_false] at h
  have hh : ∀ i, hitR rows c j i = false := fun i => by
    rcases e : hitR rows c j i with _ | _
    · rfl
    · exact absurd e (h i (List.mem_range.2 (hit_lt e)))
  refine ⟨rw_ext (rnd_len rows c j) fun i => by rw [rnd_get, hh i, if_neg (by decide)], ?_⟩
  unfold moreF
  rw [List.any_eq_false]
  intro i _
  rw [hh i]; simp
section
variable {lo : Nat} {w w' : World} {v v' v1 v2 : Value} {hs h1 h2 : List Value} {L L1 L2 : List (List Int)}
theorem HB.eraseN {i : Nat} (h : HB lo w v hs L) (hi : i < L.length) (hb : Below w.heap.size w w') (hlo : lo ≤ w.heap.size) (hrow : w'.ownsRow 0 27 1 v' (hs.length - 1) (hs.take i ++ hs.drop (i + 1))) (hat : ∀ b, v'.ownBlock = some b → w.heap.size ≤ b) :
    HB lo w' v' (hs.eraseIdx i) (L.eraseIdx i) := by
  have hih : i < hs.length := by rw [h.len]; exact hi
  have h' := h.below hb
  have hrg : ∀ j b, j < hs.length → (hd hs j).ownBlock = some b → lo ≤ b ∧ b < w.heap.size := fun j b hj hb => h.rg b (bl_hd hj hb)
  have hsz := hb.size
  have hidx : ∀ j, j < hs.length - 1 → (if j < i then j else j + 1) < hs.length ∧ (if j < i then j else j + 1) ≠ i := fun j hj => by split <;> omega
  refine HB.mk2 ?_ ?_ (fun j hj => ?_) (fun j b hj hb hv => ?_) (fun j k b hj hk h1 h2 => ?_) (fun b hb => ?_) (fun j b hj hb => ?_)
  · rw [er_len hih, List.eraseIdx_eq_take_drop_succ]; exact hrow
  · rw [er_len hih, er_len hi, h.len]
  · rw [er_len hi] at hj
    rw [hd_erase, rw_erase]
    exact h'.own _ (by have := (hidx j (by rw [h.len]; exact hj)).1; rw [h.len] at this; exact this)
  · rw [er_len hih] at hj
    rw [hd_erase] at hb
    have q := hrg _ b (hidx j hj).1 hb
    have := hat b hv
    omega
  · rw [er_len hih] at hj hk
    rw [hd_erase] at h1 h2
    have := h.two (hidx j hj).1 (hidx k hk).1 h1 h2
    split at this <;> split at this <;> omega
  · have := hat b hb
    exact ⟨by omega, (hrow.lt b hb).2⟩
  · rw [er_len hih] at hj
    rw [hd_erase] at hb
    have q := hrg _ b (hidx j hj).1 hb
    omega
theorem HB.erase_apart {i b : Nat} (h : HB lo w v hs L) (hi : i < L.length) (hb : (hd hs i).ownBlock = some b) : ∀ k, k < (hs.eraseIdx i).length → (hd (hs.eraseIdx i) k).ownBlock ≠ some b := by
  have hih : i < hs.length := by rw [h.len]; exact hi
  intro k hk hv
  rw [er_len hih] at hk
  rw [hd_erase] at hv
  have := h.two (i := if k < i then k else k + 1) (j := i) (by split <;> omega) hih hv hb
  split at this <;> omega
theorem HB.frozen {g n cap : Nat} (h : HB lo w (.slice (some ⟨g, 0, none⟩) n cap) hs L) (k : Nat) : w.frozen? ⟨g, k, none⟩ = false := by
  obtain ⟨_, rfl⟩ := h.len0
  exact h.row.frozenAt k
/-- Behind an append of headers to a new empty row. -/
theorem app_first {wx w8 : World} {v8 : Value} {hT : List Value} {j : Nat} (hj : hT.length = j) (o : w8.ownsRow 0 27 1 v8 (([] : List Value).length + j) ([] ++ hT)) (g : (wx.drew.alloc (.cells #[] 27)).grownBy w8 (Value.slice (some ⟨wx.heap.size, 0, none⟩) 0 0).ownBlock)
    (p : v8.ownBlock = (Value.slice (some ⟨wx.heap.size, 0, none⟩) 0 0).ownBlock ∨ v8.ownBlock = some (wx.drew.alloc (.cells #[] 27)).heap.size) : w8.ownsRow 0 27 1 v8 hT.length hT ∧ Below wx.heap.size wx w8 ∧ ∀ b, v8.ownBlock = some b → wx.heap.size ≤ b := by
  have e0 : wx.drew.heap.size = wx.heap.size := rfl
  have e : (wx.drew.alloc (.cells #[] 27)).heap.size = wx.heap.size + 1 := by rw [← e0]; simp
  refine ⟨by rw [hj]; simpa using o, (((Below.refl _ _).drew).alloc (Nat.le_refl _) _).grown g (by rw [e]; omega) fun b hb => by simp [Value.ownBlock] at hb; omega, fun b hb => ?_⟩
  rcases p with p | p
  · rw [p] at hb; simp [Value.ownBlock] at hb; omega
  · rw [p, e] at hb; injection hb with hb; omega
/-- Behind the second append. -/
theorem app_second {wt wx w8 w9 : World} {v8 v9 : Value} (hx : Below wt.heap.size wt wx) (h8 : Below wx.heap.size wx w8) (hv : ∀ b, v8.ownBlock = some b → wx.heap.size ≤ b) (g : w8.grownBy w9 v8.ownBlock)
    (p : v9.ownBlock = v8.ownBlock ∨ v9.ownBlock = some w8.heap.size) : Below wt.heap.size wt w9 ∧ (∀ b, v9.ownBlock = some b → wt.heap.size ≤ b) ∧ Below wx.heap.size wx w9 ∧ ∀ b, v9.ownBlock = some b → wx.heap.size ≤ b := by
  have h1 := hx.size
  have h2 := h8.size
  have q : ∀ b, v9.ownBlock = some b → wx.heap.size ≤ b := fun b hb => by
    rcases p with p | p
    · rw [p] at hb; have := hv b hb; omega
    · rw [p] at hb; injection hb with hb; omega
  exact ⟨(hx.trans (h8.mono h1)).grown g (by omega) fun b hb => by have := hv b hb; omega, fun b hb => by have := q b hb; omega, h8.grown g h2 fun b hb => hv b hb, q⟩
theorem bl_set {i b : Nat} {x : Value} (hi : i < hs.length) (h : b ∈ bl v (hs.set i x)) : b ∈ bl v hs ∨ x.ownBlock = some b := by
  rcases bl_mem h with h | ⟨j, hj, h⟩
  · exact .inl (bl_own h)
  · rw [List.length_set] at hj
    rw [hd_set _ _ _ _ hi] at h
    split at h
    · exact .inr h
    · exact .inl (bl_hd hj h)
/-- A new row is stored into the first of two lists. -/
theorem HH.store1 {g n cap i : Nat} {x : Value} {r : List Int} (h : HH lo w (.slice (some ⟨g, 0, none⟩) n cap) h1 L1 v2 h2 L2) (hi : i < L1.length) (hb : Below w.heap.size w w') (hlo : lo ≤ w.heap.size) (ho : OwI w' w.heap.size x r) :
    HH lo (w'.setCell ⟨g, i, none⟩ x) (.slice (some ⟨g, 0, none⟩) n cap) (h1.set i x) (L1.set i r) v2 h2 L2 := by
  have hih : i < h1.length := by rw [h.a.len]; exact hi
  have hx : ∀ b, x.ownBlock = some b → w.heap.size ≤ b := fun b hb => (ho.1.lt b hb).1
  have hsz := hb.size
  have e : (w'.setCell ⟨g, i, none⟩ x).heap.size = w'.heap.size := by simp
  refine ⟨(h.a.below hb).setH hi (ho.mono (Nat.zero_le _)) fun b hv => ⟨by have := hx b hv; omega, fun hm => by have := (h.a.rg b hm).2; have := hx b hv; omega⟩, ?_, fun y hy hm => ?_⟩
  · refine (h.b.below hb).keep (fun b hm => Below.heap_setCell _ _ _ _ fun e => h.ap g (bl_own rfl) (by have e' : b = g := e; rw [← e']; exact hm)) (by omega)
  · rcases bl_set hih hy with hy | hy
    · exact h.ap y hy hm
    · have := hx y hy
      have := (h.b.rg y hm).2
      omega
theorem HH.swap (h : HH lo w v1 h1 L1 v2 h2 L2) : HH lo w v2 h2 L2 v1 h1 L1 := ⟨h.b, h.a, fun x hx hm => h.ap x hm hx⟩
theorem HH.store2 {g n cap i : Nat} {x : Value} {r : List Int} (h : HH lo w v1 h1 L1 (.slice (some ⟨g, 0, none⟩) n cap) h2 L2) (hi : i < L2.length) (hb : Below w.heap.size w w') (hlo : lo ≤ w.heap.size) (ho : OwI w' w.heap.size x r) :
    HH lo (w'.setCell ⟨g, i, none⟩ x) v1 h1 L1 (.slice (some ⟨g, 0, none⟩) n cap) (h2.set i x) (L2.set i r) := (h.swap.store1 hi hb hlo ho).swap
end
end Go.Proofs.Ytnnckojpmnpgbaa
