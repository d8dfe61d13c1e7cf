/- A renumbered graph is a graph; the first vertex that goes: plain Lean. -/
import Derived.Test.YtfadnkjlilhneaaGreatRen
import Derived.Test.YtfadnkjlilhneaaGreatCanS
namespace Go.Proofs.YtfadnkjlilhneaaGreat
set_option maxRecDepth 20000
set_option linter.unusedVariables false
set_option linter.unusedSimpArgs false
open Go.RowKit

theorem grB_of {g : GrD} (h1 : 1 ≤ g.1 ∧ g.1 ≤ 3) (h2 : 1 ≤ g.2.1 ∧ g.2.1 ≤ 40) (h3 : g.2.2.length ≤ 120) (hs : Srt cmpE g.2.2)
  (he : ∀ e ∈ g.2.2, (0 ≤ e.1 ∧ e.1 < g.2.1) ∧ (1 ≤ e.2.1 ∧ e.2.1 ≤ g.1) ∧ (0 ≤ e.2.2 ∧ e.2.2 < g.2.1)) : grB g = true := by
 have hw : wrap64 (g.2.1 - 1) = g.2.1 - 1 := by unfold wrap64; omega
 have ho : ∀ k (hk : k < g.2.2.length), edgeOk g.1 g.2.1 g.2.2[k] = true := fun k hk => by
  obtain ⟨⟨a1, a2⟩, ⟨b1, b2⟩, c1, c2⟩ := he g.2.2[k] (by simp)
  unfold edgeOk
  rw [hw]
  simp only [Bool.and_eq_true]
  exact ⟨⟨inB_iff.2 ⟨by omega, by omega⟩, inB_iff.2 ⟨by omega, by omega⟩⟩, inB_iff.2 ⟨by omega, by omega⟩⟩
 unfold grB
 simp only [Bool.and_eq_true, decide_eq_true_eq, List.all_eq_true, List.mem_range]
 refine ⟨⟨⟨inB_iff.2 h1, inB_iff.2 h2⟩, h3⟩, fun k hk => ?_⟩
 rcases Nat.eq_zero_or_pos k with rfl | h0
 ·rw [okE_zero hk]; exact ho 0 hk
 ·rw [okE_pos h0 hk, ho k hk]
  have := (List.pairwise_iff_getElem.1 hs) (k - 1) k (by omega) hk (by omega)
  simp only [Bool.true_and, Bool.not_eq_true', decide_eq_false_iff_not]
  omega
theorem rnE_ok {o : List Int} {r n : Int} {e x : EdD} (he : (0 ≤ e.1 ∧ e.1 < n) ∧ (1 ≤ e.2.1 ∧ e.2.1 ≤ r) ∧ (0 ≤ e.2.2 ∧ e.2.2 < n)) (h : rnE o e = some x) :
  (0 ≤ x.1 ∧ x.1 < o.length) ∧ (1 ≤ x.2.1 ∧ x.2.1 ≤ r) ∧ (0 ≤ x.2.2 ∧ x.2.2 < o.length) := by
 unfold rnE at h
 split at h
 ·rename_i hp
  injection h with h
  subst h
  have h1 := plv_range o e.1
  have h2 := plv_range o e.2.2
  simp only
  omega
 ·cases h
theorem grB_rnGN {g : GrD} {o : List Int} (hg : grB g = true) (ho : OrdN g.2.1 o) : grB (rnG g o) = true := by
 obtain ⟨h1, h2, h3, _⟩ := grB_parts hg
 have hol : o.length ≤ g.2.1.toNat := nodup_len g.2.1.toNat o ho.1 fun y hy => by have := ho.2.1 y hy; omega
 have hol1 : 1 ≤ o.length := ho.2.2
 have hsp := srt_spec cmpE_ord (rnL g.2.2 o)
 refine grB_of h1 ⟨by show (1 : Int) ≤ (o.length : Int); omega, by show (o.length : Int) ≤ 40; omega⟩ ?_ hsp.1 fun e he => ?_
 ·have a := srt_len (c := cmpE) (rnL g.2.2 o)
  have b := rnL_len g.2.2 o
  show (srt cmpE (rnL g.2.2 o)).length ≤ 120
  omega
 ·have hm := (hsp.2 e).1 he
  unfold rnL at hm
  obtain ⟨d, hd, hx⟩ := List.mem_filterMap.1 hm
  exact rnE_ok (edge_of_gr hg hd) hx
theorem grB_rnG {g : GrD} {o : List Int} (hg : grB g = true) (ho : OrdOk g.2.1 o) : grB (rnG g o) = true := grB_rnGN hg ho.toN
def delO (n : Nat) (x : Int) : List Int := ((List.range n).map fun v => ((v : Nat) : Int)).filter fun y => decide (y ≠ x)
theorem delO_succ (n : Nat) (x : Int) : delO (n + 1) x = if (n : Int) ≠ x then delO n x ++ [(n : Int)] else delO n x := by
 unfold delO
 rw [List.range_succ, List.map_append, List.filter_append]
 by_cases h : (n : Int) = x <;> simp [h]
theorem delO_mem {n : Nat} {x y : Int} : y ∈ delO n x ↔ (0 ≤ y ∧ y < n) ∧ y ≠ x := by
 unfold delO
 simp only [List.mem_filter, List.mem_map, List.mem_range, decide_eq_true_eq]
 constructor
 ·rintro ⟨⟨v, hv, rfl⟩, h⟩
  exact ⟨⟨by omega, by omega⟩, h⟩
 ·rintro ⟨⟨h0, h1⟩, h⟩
  exact ⟨⟨y.toNat, by omega, by omega⟩, h⟩
theorem delO_nodup (n : Nat) (x : Int) : (delO n x).Nodup := by
 induction n with
 | zero => exact List.nodup_nil
 | succ n ih =>
   rw [delO_succ]
   split
   ·rw [List.nodup_append]
    refine ⟨ih, by simp, fun a ha b hb e => ?_⟩
    have := (delO_mem.1 ha).1.2
    simp only [List.mem_singleton] at hb
    omega
   ·exact ih
theorem delO_head {n : Nat} {x : Int} (hn : 1 ≤ n) (hx : 1 ≤ x) : (delO n x)[0]? = some 0 := by
 obtain ⟨m, rfl⟩ : ∃ m, n = m + 1 := ⟨n - 1, by omega⟩
 induction m with
 | zero =>
   rw [delO_succ, if_pos (by omega)]
   rfl
 | succ m ih =>
   rw [delO_succ]
   have := ih (by omega)
   split
   ·rw [List.getElem?_append_left (by
     cases h : delO (m + 1) x with
     | nil => rw [h] at this; cases this
     | cons _ _ => simp)]
    exact this
   ·exact this
theorem delO_ok {n : Nat} {x : Int} (hn : 1 ≤ n) (hx : 1 ≤ x) : OrdOk (n : Int) (delO n x) :=
 ⟨delO_nodup n x, fun y hy => (delO_mem.1 hy).1, delO_head hn hx⟩
theorem delO_len {n : Nat} {x : Int} (hx : 0 ≤ x) (hxn : x < n) : (delO n x).length + 1 ≤ n := by
 have h1 : (delO n x).length ≤ n - 1 := by
  -- map the vertices above x down by one
  have hn := delO_nodup n x
  have key := nodup_len (n - 1) ((delO n x).map fun y => if y < x then y else y - 1) ?_ ?_
  ·rwa [List.length_map] at key
  ·unfold List.Nodup at *
   rw [List.pairwise_map]
   refine hn.imp_of_mem fun {a b} ha hb hab e => hab ?_
   have h1 := (delO_mem.1 ha).2
   have h2 := (delO_mem.1 hb).2
   split at e <;> split at e <;> omega
  ·intro y hy
   obtain ⟨z, hz, rfl⟩ := List.mem_map.1 hy
   obtain ⟨⟨a, b⟩, c⟩ := delO_mem.1 hz
   split <;> omega
 omega
theorem leafFrom_range (es : List EdD) (n : Nat) : ∀ f v : Nat, leafFrom es n f v = -1 ∨ ((v : Int) ≤ leafFrom es n f v ∧ leafFrom es n f v < n)
 | 0, v => .inl rfl
 | f + 1, v => by
   unfold leafFrom
   split
   ·split
    ·right; omega
    ·rcases leafFrom_range es n f (v + 1) with h | h
     ·exact .inl h
     ·right; omega
   ·exact .inl rfl
theorem leafV_range (es : List EdD) (n : Nat) : leafV es n = -1 ∨ (1 ≤ leafV es n ∧ leafV es n < n) := by
 have := leafFrom_range es n (n - 1) 1
 unfold leafV
 omega
end Go.Proofs.YtfadnkjlilhneaaGreat
