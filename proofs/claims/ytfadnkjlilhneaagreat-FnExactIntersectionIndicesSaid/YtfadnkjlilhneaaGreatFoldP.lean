/- Folding a graph: plain Lean. -/
import Derived.Test.YtfadnkjlilhneaaGreatTrim
namespace Go.Proofs.YtfadnkjlilhneaaGreat
set_option maxRecDepth 20000
set_option linter.unusedVariables false
set_option linter.unusedSimpArgs false
open Go.RowKit

abbrev FoD := Int × Int
def fo2 (a b : EdD) : List FoD :=
 (if a.2.1 = b.2.1 ∧ a.1 = b.1 then [(min a.2.2 b.2.2, max a.2.2 b.2.2)] else []) ++
 (if a.2.1 = b.2.1 ∧ a.2.2 = b.2.2 then [(min a.1 b.1, max a.1 b.1)] else [])
def foAt (es : List EdD) (i k : Nat) : List FoD := ((es.take k).drop (i + 1)).flatMap (fo2 (es.getD i (0, 0, 0)))
def foUp (es : List EdD) : Nat → List FoD
 | 0 => []
 | i + 1 => foUp es i ++ foAt es i es.length
def foL (es : List EdD) : List FoD := foUp es es.length
theorem foAt_start (es : List EdD) (i : Nat) : foAt es i (i + 1) = [] := by
 unfold foAt
 rw [List.drop_eq_nil_of_le (by rw [List.length_take]; omega)]
 rfl
theorem foAt_succ (es : List EdD) (i k : Nat) (hk : k < es.length) (hi : i < k) : foAt es i (k + 1) = foAt es i k ++ fo2 (es.getD i (0, 0, 0)) es[k] := by
 unfold foAt
 rw [List.take_succ_eq_append_getElem hk, List.drop_append_of_le_length (by rw [List.length_take]; omega), List.flatMap_append]
 simp
theorem fo2_len (a b : EdD) : (fo2 a b).length ≤ 2 := by
 unfold fo2
 rw [List.length_append]
 split <;> split <;> simp
theorem foAt_len (es : List EdD) (i k : Nat) : (foAt es i k).length ≤ 2 * es.length := by
 unfold foAt
 have h : ∀ L : List EdD, (L.flatMap (fo2 (es.getD i (0, 0, 0)))).length ≤ 2 * L.length := by
  intro L
  induction L with
  | nil => simp
  | cons a L ih =>
    rw [List.flatMap_cons, List.length_append, List.length_cons]
    have := fo2_len (es.getD i (0, 0, 0)) a
    omega
 have h1 := h ((es.take k).drop (i + 1))
 rw [List.length_drop, List.length_take] at h1
 omega
theorem foUp_len (es : List EdD) : ∀ i, (foUp es i).length ≤ 2 * es.length * i
 | 0 => by simp [foUp]
 | i + 1 => by
   have h1 := foUp_len es i
   have h2 := foAt_len es i es.length
   unfold foUp
   rw [List.length_append, Nat.mul_succ]
   omega
theorem foAt_mem {es : List EdD} {i k : Nat} (hi : i < k) (hk : k < es.length) {f : FoD} (h : f ∈ fo2 es[i] es[k]) : f ∈ foAt es i es.length := by
 unfold foAt
 rw [List.take_length]
 refine List.mem_flatMap.2 ⟨es[k], ?_, by simpa [List.getD, show i < es.length by omega] using h⟩
 rw [List.mem_iff_getElem]
 exact ⟨k - (i + 1), by rw [List.length_drop]; omega, by rw [List.getElem_drop]; congr 1; omega⟩
theorem foUp_mem {es : List EdD} {i : Nat} {f : FoD} (h : f ∈ foAt es i es.length) : ∀ n, i < n → f ∈ foUp es n
 | 0, hn => by omega
 | n + 1, hn => by
   unfold foUp
   by_cases e : i = n
   ·subst e; exact List.mem_append.2 (.inr h)
   ·exact List.mem_append.2 (.inl (foUp_mem h n (by omega)))
theorem foUp_from {es : List EdD} {f : FoD} : ∀ n, f ∈ foUp es n → ∃ i, i < n ∧ f ∈ foAt es i es.length
 | 0, h => by cases h
 | n + 1, h => by
   unfold foUp at h
   rcases List.mem_append.1 h with h | h
   ·obtain ⟨i, hi, hf⟩ := foUp_from n h
    exact ⟨i, by omega, hf⟩
   ·exact ⟨n, by omega, h⟩
theorem foL_from {es : List EdD} {f : FoD} (h : f ∈ foL es) : ∃ i k, ∃ (hi : i < k) (hk : k < es.length), f ∈ fo2 (es[i]'(by omega)) es[k] := by
 obtain ⟨i, hi, hf⟩ := foUp_from _ h
 unfold foAt at hf
 rw [List.take_length] at hf
 obtain ⟨b, hb, hf⟩ := List.mem_flatMap.1 hf
 obtain ⟨j, hj, rfl⟩ := List.mem_iff_getElem.1 hb
 rw [List.length_drop] at hj
 rw [List.getElem_drop] at hf
 refine ⟨i, i + 1 + j, by omega, by omega, ?_⟩
 simpa [List.getD, hi] using hf
theorem fol_of_foL {es : List EdD} (h : foL es = []) : Fol es := by
 refine fol_of fun k hk i hi => ?_
 rcases e : clash es[k] es[i] with _ | _
 ·rfl
 ·rw [clash_comm] at e
  have hm : ∃ f, f ∈ fo2 es[i] es[k] := by
   unfold clash at e
   simp only [Bool.and_eq_true, Bool.or_eq_true, beq_iff_eq] at e
   unfold fo2
   rcases e.2 with q | q
   ·exact ⟨_, List.mem_append.2 (.inl (by rw [if_pos ⟨e.1, q⟩]; exact List.mem_singleton.2 rfl))⟩
   ·exact ⟨_, List.mem_append.2 (.inr (by rw [if_pos ⟨e.1, q⟩]; exact List.mem_singleton.2 rfl))⟩
  obtain ⟨f, hf⟩ := hm
  have := foUp_mem (foAt_mem hi hk hf) es.length (by omega)
  rw [show foUp es es.length = [] from h] at this
  cases this
theorem gr_srt {g : GrD} (h : grB g = true) : Srt cmpE g.2.2 := (gr_nodup h).1
theorem foL_ok {g : GrD} (h : grB g = true) {f : FoD} (hf : f ∈ foL g.2.2) : 0 ≤ f.1 ∧ f.1 < f.2 ∧ f.2 < g.2.1 := by
 obtain ⟨i, k, hi, hk, hm⟩ := foL_from hf
 have hne : g.2.2[i] ≠ g.2.2[k] := fun e => by
  have := (List.pairwise_iff_getElem.1 (gr_srt h)) i k (by omega) hk hi
  rw [e, cmpE_zero.2 rfl] at this
  omega
 have e1 := edge_of_gr h (List.getElem_mem (show i < g.2.2.length by omega))
 have e2 := edge_of_gr h (List.getElem_mem hk)
 generalize g.2.2[i]'(by omega) = a at *
 generalize g.2.2[k] = b at *
 obtain ⟨a1, a2, a3⟩ := a
 obtain ⟨b1, b2, b3⟩ := b
 simp only at *
 unfold fo2 at hm
 rcases List.mem_append.1 hm with hm | hm
 ·split at hm
  ·rename_i q
   simp only at q
   have : a3 ≠ b3 := fun e => hne (by rw [q.1, q.2, e])
   rw [List.mem_singleton.1 hm]
   simp only
   omega
  ·cases hm
 ·split at hm
  ·rename_i q
   simp only at q
   have : a1 ≠ b1 := fun e => hne (by rw [q.1, q.2, e])
   rw [List.mem_singleton.1 hm]
   simp only
   omega
  ·cases hm
def plF (f : FoD) (v : Int) : Int := if v = f.2 then f.1 else if f.2 < v then v - 1 else v
def plE (f : FoD) (e : EdD) : EdD := (plF f e.1, e.2.1, plF f e.2.2)
def merG (g : GrD) (f : FoD) : GrD := (g.1, g.2.1 - 1, srt cmpE (g.2.2.map (plE f)))
theorem plF_range {f : FoD} {n v : Int} (hf : 0 ≤ f.1 ∧ f.1 < f.2 ∧ f.2 < n) (hv : 0 ≤ v ∧ v < n) : 0 ≤ plF f v ∧ plF f v < n - 1 := by
 unfold plF
 split
 ·omega
 ·split <;> omega
theorem grB_merG {g : GrD} {f : FoD} (hg : grB g = true) (hf : 0 ≤ f.1 ∧ f.1 < f.2 ∧ f.2 < g.2.1) : grB (merG g f) = true := by
 obtain ⟨h1, h2, h3, _⟩ := grB_parts hg
 have hsp := srt_spec cmpE_ord (g.2.2.map (plE f))
 refine grB_of h1 ⟨by show (1 : Int) ≤ g.2.1 - 1; omega, by show g.2.1 - 1 ≤ 40; omega⟩ ?_ hsp.1 fun e he => ?_
 ·have a := srt_len (c := cmpE) (g.2.2.map (plE f))
  rw [List.length_map] at a
  show (srt cmpE (g.2.2.map (plE f))).length ≤ 120
  omega
 ·obtain ⟨d, hd, rfl⟩ := List.mem_map.1 ((hsp.2 e).1 he)
  obtain ⟨q1, q2, q3⟩ := edge_of_gr hg hd
  exact ⟨plF_range hf q1, q2, plF_range hf q3⟩
def folF : Nat → GrD → GrD
 | 0, g => g
 | n + 1, g => match foL g.2.2 with
   | [] => g
   | f :: _ => folF n (merG g f)
def folA (g : GrD) : GrD := folF g.2.1.toNat g
theorem folF_nil {g : GrD} (h : foL g.2.2 = []) : ∀ n, folF n g = g
 | 0 => rfl
 | n + 1 => by unfold folF; rw [h]
theorem folF_cons {g : GrD} {f : FoD} {l : List FoD} (h : foL g.2.2 = f :: l) (n : Nat) : folF (n + 1) g = folF n (merG g f) := by
 show (match foL g.2.2 with | [] => g | f :: _ => folF n (merG g f)) = _
 rw [h]
theorem folF_ok : ∀ (n : Nat) (g : GrD), grB g = true → g.2.1 ≤ n → foldB (folF n g) = true
 | 0, g, hg, hn => by have := (grB_parts hg).2.1; omega
 | n + 1, g, hg, hn => by
   rcases e : foL g.2.2 with _ | ⟨f, l⟩
   ·rw [folF_nil e]
    unfold foldB
    rw [hg, decide_eq_true (fol_of_foL e)]
    rfl
   ·rw [folF_cons e]
    have hf := foL_ok hg (f := f) (by rw [e]; simp)
    exact folF_ok n (merG g f) (grB_merG hg hf) (by show g.2.1 - 1 ≤ n; omega)
theorem folA_ok {g : GrD} (hg : grB g = true) : foldB (folA g) = true := folF_ok _ g hg (by have := (grB_parts hg).2.1; omega)
theorem fol_mem {es : List EdD} (h : Fol es) {a b : EdD} (ha : a ∈ es) (hb : b ∈ es) (hne : a ≠ b) : clash a b = false := by
 unfold Fol at h
 rw [List.pairwise_iff_getElem] at h
 obtain ⟨i, hi, rfl⟩ := List.getElem_of_mem ha
 obtain ⟨k, hk, rfl⟩ := List.getElem_of_mem hb
 rcases Nat.lt_trichotomy i k with q | q | q
 ·exact h i k hi hk q
 ·subst q; exact absurd rfl hne
 ·rw [clash_comm]; exact h k i hk hi q
theorem fol_rnG {g : GrD} (o : List Int) (h : Fol g.2.2) : Fol (rnG g o).2.2 := by
 have hsp := srt_spec cmpE_ord (rnL g.2.2 o)
 show Fol (srt cmpE (rnL g.2.2 o))
 unfold Fol
 refine hsp.1.imp_of_mem fun {x y} hx hy hxy => ?_
 obtain ⟨a, ha, hxa⟩ := List.mem_filterMap.1 ((hsp.2 x).1 hx)
 obtain ⟨b, hb, hyb⟩ := List.mem_filterMap.1 ((hsp.2 y).1 hy)
 have hne : a ≠ b := fun e => by
  subst e
  rw [hxa] at hyb
  injection hyb with e
  rw [e, cmpE_zero.2 rfl] at hxy
  omega
 have hc := fol_mem h ha hb hne
 unfold rnE at hxa hyb
 split at hxa
 ·rename_i p1
  split at hyb
  ·rename_i p2
   injection hxa with hxa
   injection hyb with hyb
   subst hxa hyb
   unfold clash at hc ⊢
   rw [Bool.eq_false_iff] at hc ⊢
   intro q
   apply hc
   simp only [Bool.and_eq_true, Bool.or_eq_true, beq_iff_eq] at q ⊢
   refine ⟨q.1, ?_⟩
   rcases q.2 with q | q
   ·exact .inl (plv_inj (o := o) (by omega) (by omega))
   ·exact .inr (plv_inj (o := o) (by omega) (by omega))
  ·cases hyb
 ·cases hxa
theorem foldB_rnGN {g : GrD} {o : List Int} (h : foldB g = true) (ho : OrdN g.2.1 o) : foldB (rnG g o) = true := by
 obtain ⟨h1, h2⟩ := foldB_parts h
 unfold foldB
 rw [grB_rnGN h1 ho, decide_eq_true (fol_rnG o h2)]
 rfl
theorem foldB_rnG {g : GrD} {o : List Int} (h : foldB g = true) (ho : OrdOk g.2.1 o) : foldB (rnG g o) = true := foldB_rnGN h ho.toN
theorem trimF_fold : ∀ (n : Nat) (g : GrD) (l : List Int), foldB g = true → foldB (trimF n g l).1 = true
 | 0, g, l, h => h
 | n + 1, g, l, h => by
   unfold trimF
   split
   ·exact h
   ·rename_i hv
    have hsz := (grB_parts (foldB_parts h).1).2.1
    have hr := leafV_range g.2.2 g.2.1.toNat
    refine trimF_fold n _ _ (foldB_rnG h ?_)
    have := delO_ok (n := g.2.1.toNat) (x := leafV g.2.2 g.2.1.toNat) (by omega) (by omega)
    rwa [show ((g.2.1.toNat : Nat) : Int) = g.2.1 by omega] at this
theorem trimG_fold {g : GrD} (h : foldB g = true) : foldB (trimG g).1 = true := trimF_fold _ _ _ h
def coreG (g : GrD) : GrD := canG (trimG (folA g)).1
end Go.Proofs.YtfadnkjlilhneaaGreat
