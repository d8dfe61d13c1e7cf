/- A graph's vertices in another order: plain Lean. -/
import Derived.Test.YtodkandjcodnjaaCanP
namespace Go.Proofs.Ytodkandjcodnjaa
set_option maxRecDepth 20000
set_option linter.unusedVariables false
set_option linter.unusedSimpArgs false
open Go.RowKit

/-- The place of a vertex in an order, from 1 on; 0 if it is not there. -/
def plv : List Int → Int → Int
  | [], _ => 0
  | u :: o, v => if u = v then 1 else if plv o v = 0 then 0 else plv o v + 1
theorem plv_range (o : List Int) (v : Int) : 0 ≤ plv o v ∧ plv o v ≤ o.length := by
  induction o with
  | nil => simp [plv]
  | cons u o ih =>
    unfold plv
    simp only [List.length_cons]
    split
    · omega
    · split <;> omega
theorem plv_zero {o : List Int} {v : Int} : plv o v = 0 ↔ v ∉ o := by
  induction o with
  | nil => simp [plv]
  | cons u o ih =>
    unfold plv
    have := plv_range o v
    split
    · rename_i h
      simp [h]
    · rename_i h
      rw [List.mem_cons]
      split
      · rename_i h0
        constructor
        · intro _
          rintro (e | e)
          · exact h e.symm
          · exact ih.1 h0 e
        · intro _; rfl
      · rename_i h0
        constructor
        · intro e; omega
        · intro hn
          exact absurd (ih.2 fun e => hn (.inr e)) h0
theorem plv_snoc {o : List Int} {u : Int} (hu : u ∉ o) (v : Int) : plv (o ++ [u]) v = if v = u then (o.length : Int) + 1 else plv o v := by
  induction o with
  | nil =>
    simp only [List.nil_append, plv, List.length_nil]
    by_cases h : u = v
    · simp [h]
    · have h' : ¬ v = u := fun e => h e.symm
      simp [h, h']
  | cons a o ih =>
    have hu' : u ∉ o := fun e => hu (by simp [e])
    have hau : a ≠ u := fun e => hu (by simp [e])
    have ih := ih hu'
    simp only [List.cons_append, plv, List.length_cons]
    by_cases h : a = v
    · rw [if_pos h, if_pos h, if_neg (fun e => hau (h.trans e))]
    · rw [if_neg h, if_neg h, ih]
      by_cases h2 : v = u
      · rw [if_pos h2, if_pos h2, if_neg (by omega)]
        omega
      · rw [if_neg h2, if_neg h2]
theorem plv_inj {o : List Int} {v v' : Int} (h : plv o v = plv o v') (h0 : plv o v ≠ 0) : v = v' := by
  induction o with
  | nil => exact absurd rfl h0
  | cons a o ih =>
    have r1 := plv_range o v
    have r2 := plv_range o v'
    unfold plv at h h0
    by_cases e1 : a = v
    · by_cases e2 : a = v'
      · rw [← e1, ← e2]
      · rw [if_pos e1, if_neg e2] at h
        split at h <;> omega
    · by_cases e2 : a = v'
      · rw [if_neg e1, if_pos e2] at h
        split at h <;> omega
      · rw [if_neg e1, if_neg e2] at h
        rw [if_neg e1] at h0
        by_cases z1 : plv o v = 0
        · rw [if_pos z1] at h0; exact absurd rfl h0
        · by_cases z2 : plv o v' = 0
          · rw [if_neg z1, if_pos z2] at h; omega
          · rw [if_neg z1, if_neg z2] at h
            exact ih (by omega) z1
/-- The places of the vertices 0 .. n-1, less d. -/
def plc (n : Nat) (o : List Int) (d : Int) : List Int := (List.range n).map fun v => plv o (v : Nat) - d
theorem plc_len (n : Nat) (o : List Int) (d : Int) : (plc n o d).length = n := by simp [plc]
theorem plc_get (n : Nat) (o : List Int) (d : Int) (v : Nat) (h : v < n) : (plc n o d)[v]'(by rw [plc_len]; exact h) = plv o v - d := by simp [plc]
theorem plc_nil (n : Nat) (d : Int) : plc n [] d = List.replicate n (-d) := by
  apply List.ext_getElem?
  intro i
  simp only [plc, plv, List.getElem?_map, List.getElem?_replicate]
  by_cases h : i < n
  · simp [h]
  · simp [h]
theorem plc_succ (n : Nat) (o : List Int) (d : Int) (k : Nat) (hk : k < o.length) (hd : o.Nodup) (u : Nat) (hu : o[k] = (u : Int)) :
    (plc n (o.take k) d).set u ((k : Int) + 1 - d) = plc n (o.take (k + 1)) d := by
  have hn : (u : Int) ∉ o.take k := by
    rw [← hu]
    intro hm
    obtain ⟨j, hj, e⟩ := List.getElem_of_mem hm
    rw [List.getElem_take] at e
    have hjk : j < k := by rw [List.length_take] at hj; omega
    have := (List.pairwise_iff_getElem.1 hd) j k (by omega) hk hjk
    exact this e
  rw [List.take_succ_eq_append_getElem hk, hu]
  have hl : (o.take k).length = k := by rw [List.length_take]; omega
  apply List.ext_getElem?
  intro i
  rw [List.getElem?_set]
  simp only [plc, List.getElem?_map, List.length_map, List.length_range]
  by_cases hi : i < n
  · simp only [List.getElem?_range hi, Option.map_some]
    rw [plv_snoc hn, hl]
    by_cases e : u = i
    · subst e
      simp [hi]
    · rw [if_neg e, if_neg (by omega)]
  · simp only [List.getElem?_eq_none (show (List.range n).length ≤ i by simp; omega), Option.map_none]
    split
    · rename_i e
      rw [if_neg (by omega)]
    · rfl
/-- An edge behind the change of order; a graph. -/
def rnE (o : List Int) (e : EdD) : Option EdD := if 0 < plv o e.1 ∧ 0 < plv o e.2.2 then some (plv o e.1 - 1, e.2.1, plv o e.2.2 - 1) else none
def rnL (es : List EdD) (o : List Int) : List EdD := es.filterMap (rnE o)
def rnG (g : GrD) (o : List Int) : GrD := (g.1, o.length, srt cmpE (rnL g.2.2 o))
theorem rnL_succ (es : List EdD) (o : List Int) (k : Nat) (h : k < es.length) : rnL (es.take (k + 1)) o = rnL (es.take k) o ++ (rnE o es[k]).toList := by
  unfold rnL
  rw [List.take_succ_eq_append_getElem h, List.filterMap_append]
  congr 1
theorem rnL_len (es : List EdD) (o : List Int) : (rnL es o).length ≤ es.length := List.length_filterMap_le _ _
theorem rnL_nodup {es : List EdD} (o : List Int) (h : es.Nodup) : (rnL es o).Nodup := by
  unfold rnL
  unfold List.Nodup at *
  rw [List.pairwise_filterMap]
  refine h.imp fun {a b} hab x hx y hy e => hab ?_
  subst e
  unfold rnE at hx hy
  split at hx
  · rename_i ha
    split at hy
    · rename_i hb
      injection hx with hx
      injection hy with hy
      rw [← hy] at hx
      injection hx with e1 hx
      injection hx with e2 e3
      have i1 := plv_inj (o := o) (v := a.1) (v' := b.1) (by omega) (by omega)
      have i3 := plv_inj (o := o) (v := a.2.2) (v' := b.2.2) (by omega) (by omega)
      obtain ⟨_, _, _⟩ := a
      obtain ⟨_, _, _⟩ := b
      simp only at i1 e2 i3
      rw [i1, e2, i3]
    · cases hy
  · cases hx
theorem gr_nodup {g : GrD} (h : grB g = true) : Srt cmpE g.2.2 ∧ g.2.2.Nodup := by
  obtain ⟨_, _, _, h4⟩ := grB_parts h
  have adj : ∀ k (hk : k + 1 < g.2.2.length), cmpE g.2.2[k] g.2.2[k + 1] < 0 := fun k hk => by
    have := h4 (k + 1) hk
    rw [okE_pos (by omega) hk, Bool.and_eq_true] at this
    have h2 := this.2
    simp only [Bool.not_eq_true', decide_eq_false_iff_not, Nat.add_sub_cancel] at h2
    omega
  have all : ∀ d k (hk : k + d + 1 < g.2.2.length), cmpE (g.2.2[k]'(by omega)) g.2.2[k + d + 1] < 0 := by
    intro d
    induction d with
    | zero => intro k hk; exact adj k hk
    | succ d ih => intro k hk; exact cmpE_ord.trans (ih k (by omega)) (adj (k + d + 1) hk)
  have hs : Srt cmpE g.2.2 := by
    unfold Srt
    rw [List.pairwise_iff_getElem]
    intro i j hi hj hij
    have := all (j - i - 1) i (by omega)
    have e : i + (j - i - 1) + 1 = j := by omega
    simpa only [e] using this
  refine ⟨hs, hs.imp fun {a b} hab e => ?_⟩
  rw [e] at hab
  exact cmpE_ord.irrefl b hab
end Go.Proofs.Ytodkandjcodnjaa
