/- A graph's vertices in another order: the reference's RenumberGraph, where the order is fit. A graph's vertices in another order: plain Lean. -/
import Derived.Test.YtfadnkjlilhneaaGreatCanP
import Derived.Test.YtfadnkjlilhneaaGreatGrH
import Derived.Test.YtfadnkjlilhneaaGreatPut
import Derived.Test.YtfadnkjlilhneaaGreatCanS
import Derived.Test.YtfadnkjlilhneaaGreatQuiC
namespace Go.Proofs.YtfadnkjlilhneaaGreat
set_option maxRecDepth 20000
set_option linter.unusedVariables false
set_option linter.unusedSimpArgs false
open Go.RowKit

def plv : List Int → Int → Int
 | [], _ => 0
 | u :: o, v => if u = v then 1 else if plv o v = 0 then 0 else plv o v + 1
theorem plv_range (o : List Int) (v : Int) : 0 ≤ plv o v ∧ plv o v ≤ o.length := by
 induction o with
 | nil => simp [plv]
 | cons u o ih =>
   unfold plv
   simp only [List.length_cons]
   split
   ·omega
   ·split <;> omega
theorem plv_zero {o : List Int} {v : Int} : plv o v = 0 ↔ v ∉ o := by
 induction o with
 | nil => simp [plv]
 | cons u o ih =>
   unfold plv
   have := plv_range o v
   split
   ·rename_i h
    simp [h]
   ·rename_i h
    rw [List.mem_cons]
    split
    ·rename_i h0
     constructor
     ·intro _
      rintro (e | e)
      ·exact h e.symm
      ·exact ih.1 h0 e
     ·intro _; rfl
    ·rename_i h0
     constructor
     ·intro e; omega
     ·intro hn
      exact absurd (ih.2 fun e => hn (.inr e)) h0
theorem plv_snoc {o : List Int} {u : Int} (hu : u ∉ o) (v : Int) : plv (o ++ [u]) v = if v = u then (o.length : Int) + 1 else plv o v := by
 induction o with
 | nil =>
   simp only [List.nil_append, plv, List.length_nil]
   by_cases h : u = v
   ·simp [h]
   ·have h' : ¬ v = u := fun e => h e.symm
    simp [h, h']
 | cons a o ih =>
   have hu' : u ∉ o := fun e => hu (by simp [e])
   have hau : a ≠ u := fun e => hu (by simp [e])
   have ih := ih hu'
   simp only [List.cons_append, plv, List.length_cons]
   by_cases h : a = v
   ·rw [if_pos h, if_pos h, if_neg (fun e => hau (h.trans e))]
   ·rw [if_neg h, if_neg h, ih]
    by_cases h2 : v = u
    ·rw [if_pos h2, if_pos h2, if_neg (by omega)]
     omega
    ·rw [if_neg h2, if_neg h2]
theorem plv_inj {o : List Int} {v v' : Int} (h : plv o v = plv o v') (h0 : plv o v ≠ 0) : v = v' := by
 induction o with
 | nil => exact absurd rfl h0
 | cons a o ih =>
   have r1 := plv_range o v
   have r2 := plv_range o v'
   unfold plv at h h0
   by_cases e1 : a = v
   ·by_cases e2 : a = v'
    ·rw [← e1, ← e2]
    ·rw [if_pos e1, if_neg e2] at h
     split at h <;> omega
   ·by_cases e2 : a = v'
    ·rw [if_neg e1, if_pos e2] at h
     split at h <;> omega
    ·rw [if_neg e1, if_neg e2] at h
     rw [if_neg e1] at h0
     by_cases z1 : plv o v = 0
     ·rw [if_pos z1] at h0; exact absurd rfl h0
     ·by_cases z2 : plv o v' = 0
      ·rw [if_neg z1, if_pos z2] at h; omega
      ·rw [if_neg z1, if_neg z2] at h
       exact ih (by omega) z1
def plc (n : Nat) (o : List Int) (d : Int) : List Int := (List.range n).map fun v => plv o (v : Nat) - d
theorem plc_len (n : Nat) (o : List Int) (d : Int) : (plc n o d).length = n := by simp [plc]
theorem plc_get (n : Nat) (o : List Int) (d : Int) (v : Nat) (h : v < n) : (plc n o d)[v]'(by rw [plc_len]; exact h) = plv o v - d := by simp [plc]
theorem plc_nil (n : Nat) (d : Int) : plc n [] d = List.replicate n (-d) := by
 apply List.ext_getElem?
 intro i
 simp only [plc, plv, List.getElem?_map, List.getElem?_replicate]
 by_cases h : i < n
 ·simp [h]
 ·simp [h]
theorem plc_succ (n : Nat) (o : List Int) (d : Int) (k : Nat) (hk : k < o.length) (hd : o.Nodup) (u : Nat) (hu : o[k] = (u : Int)) :
  (plc n (o.take k) d).set u ((k : Int) + 1 - d) = plc n (o.take (k + 1)) d := by
 have hn : (u : Int) ∉ o.take k := by
  rw [← hu]
  intro hm
  obtain ⟨j, hj, e⟩ := List.getElem_of_mem hm
  rw [List.getElem_take] at e
  have hjk : j < k := by rw [List.length_take] at hj; omega
  have := (List.pairwise_iff_getElem.1 hd) j k (by omega) hk hjk
  exact this e
 rw [List.take_succ_eq_append_getElem hk, hu]
 have hl : (o.take k).length = k := by rw [List.length_take]; omega
 apply List.ext_getElem?
 intro i
 rw [List.getElem?_set]
 simp only [plc, List.getElem?_map, List.length_map, List.length_range]
 by_cases hi : i < n
 ·simp only [List.getElem?_range hi, Option.map_some]
  rw [plv_snoc hn, hl]
  by_cases e : u = i
  ·subst e
   simp [hi]
  ·rw [if_neg e, if_neg (by omega)]
 ·simp only [List.getElem?_eq_none (show (List.range n).length ≤ i by simp; omega), Option.map_none]
  split
  ·rename_i e
   rw [if_neg (by omega)]
  ·rfl
def rnE (o : List Int) (e : EdD) : Option EdD := if 0 < plv o e.1 ∧ 0 < plv o e.2.2 then some (plv o e.1 - 1, e.2.1, plv o e.2.2 - 1) else none
def rnL (es : List EdD) (o : List Int) : List EdD := es.filterMap (rnE o)
def rnG (g : GrD) (o : List Int) : GrD := (g.1, o.length, srt cmpE (rnL g.2.2 o))
theorem rnL_succ (es : List EdD) (o : List Int) (k : Nat) (h : k < es.length) : rnL (es.take (k + 1)) o = rnL (es.take k) o ++ (rnE o es[k]).toList := by
 unfold rnL
 rw [List.take_succ_eq_append_getElem h, List.filterMap_append]
 congr 1
theorem rnL_len (es : List EdD) (o : List Int) : (rnL es o).length ≤ es.length := List.length_filterMap_le _ _
theorem rnL_nodup {es : List EdD} (o : List Int) (h : es.Nodup) : (rnL es o).Nodup := by
 unfold rnL
 unfold List.Nodup at *
 rw [List.pairwise_filterMap]
 refine h.imp fun {a b} hab x hx y hy e => hab ?_
 subst e
 unfold rnE at hx hy
 split at hx
 ·rename_i ha
  split at hy
  ·rename_i hb
   injection hx with hx
   injection hy with hy
   rw [← hy] at hx
   injection hx with e1 hx
   injection hx with e2 e3
   have i1 := plv_inj (o := o) (v := a.1) (v' := b.1) (by omega) (by omega)
   have i3 := plv_inj (o := o) (v := a.2.2) (v' := b.2.2) (by omega) (by omega)
   obtain ⟨_, _, _⟩ := a
   obtain ⟨_, _, _⟩ := b
   simp only at i1 e2 i3
   rw [i1, e2, i3]
  ·cases hy
 ·cases hx
theorem gr_nodup {g : GrD} (h : grB g = true) : Srt cmpE g.2.2 ∧ g.2.2.Nodup := by
 obtain ⟨_, _, _, h4⟩ := grB_parts h
 have adj : ∀ k (hk : k + 1 < g.2.2.length), cmpE g.2.2[k] g.2.2[k + 1] < 0 := fun k hk => by
  have := h4 (k + 1) hk
  rw [okE_pos (by omega) hk, Bool.and_eq_true] at this
  have h2 := this.2
  simp only [Bool.not_eq_true', decide_eq_false_iff_not, Nat.add_sub_cancel] at h2
  omega
 have all : ∀ d k (hk : k + d + 1 < g.2.2.length), cmpE (g.2.2[k]'(by omega)) g.2.2[k + d + 1] < 0 := by
  intro d
  induction d with
  | zero => intro k hk; exact adj k hk
  | succ d ih => intro k hk; exact cmpE_ord.trans (ih k (by omega)) (adj (k + d + 1) hk)
 have hs : Srt cmpE g.2.2 := by
  unfold Srt
  rw [List.pairwise_iff_getElem]
  intro i j hi hj hij
  have := all (j - i - 1) i (by omega)
  have e : i + (j - i - 1) + 1 = j := by omega
  simpa only [e] using this
 refine ⟨hs, hs.imp fun {a b} hab e => ?_⟩
 rw [e] at hab
 exact cmpE_ord.irrefl b hab
theorem grown_bel {w w' : World} {row : Option Nat} (h : Below w.heap.size w w') : w.grownBy w' row := ⟨h.os, h.tape, h.output, h.size, fun b hb _ => h.block b hb⟩
theorem grown_cell {w w' : World} {x b o : Nat} (h : w.grownBy w' (some x)) (hb : b < w.heap.size) (hne : b ≠ x) : w'.cell? ⟨b, o, none⟩ = w.cell? ⟨b, o, none⟩ :=
 World.cell?_of_block (w := w) (h.block b hb fun e => hne (by injection e))
theorem grown_frozen {w w' : World} {x b o : Nat} (h : w.grownBy w' (some x)) (hb : b < w.heap.size) (hne : b ≠ x) : w'.frozen? ⟨b, o, none⟩ = w.frozen? ⟨b, o, none⟩ :=
 World.frozen?_of_block (w := w) (h.block b hb fun e => hne (by injection e))
theorem cell_set_other (w : World) (b o b' o' : Nat) (u : Value) (h : b ≠ b') : (w.setCell ⟨b', o', none⟩ u).cell? ⟨b, o, none⟩ = w.cell? ⟨b, o, none⟩ :=
 World.cell?_of_block (w := w) (Below.heap_setCell w _ u b h)
set_option maxHeartbeats 1000000 in
theorem specRenumber_anyN (v vo : Value) (g : GrD) (o : List Int) (w : World) (h : ArgG w v g) (ho : RdI w vo o) (hg : grB g = true) (hok : OrdN g.2.1 o) :
  Calls Tryz.prog 122 #[v, vo] w fun e w' => ∃ r, e = .returned (.tuple #[r, .bool true]) ∧ OwG w' w.heap.size r (rnG g o) ∧ Below w.heap.size w w' := by
 have HG := Lib.hid h
 have HGR := Lib.hid hg
 have HOK := Lib.hid hok
 have HOR := Lib.hid ho
 obtain ⟨hr13, hsz40, hl120, _⟩ := grB_parts hg
 have HED := Lib.hid (fun e he => edge_of_gr hg (e := e) he)
 obtain ⟨N, hN⟩ : ∃ N : Nat, g.2.1 = (N : Int) := ⟨g.2.1.toNat, by omega⟩
 have hol : o.length ≤ N := nodup_len N o hok.1 fun y hy => by have := hok.2.1 y hy; omega
 have hol1 : 1 ≤ o.length := hok.2.2
 have HRANGE : Hid (∀ k (hk : k < o.length), ∃ u : Nat, o[k] = (u : Int) ∧ u < N) := Lib.hid fun k hk => by
  have := hok.2.1 o[k] (by simp)
  exact ⟨o[k].toNat, by omega, by omega⟩
 have HND := Lib.hid hok.1
 clear hg hok h
 obtain ⟨r, n, es⟩ := g
 simp only at hN hr13 hsz40 hl120
 subst hN
 have hN1 : 1 ≤ N := by omega
 have hN2 : N ≤ 40 := by omega
 have hN3 : (N : Int) ≤ 40 := by omega
 clear hsz40
 obtain ⟨A, cap, rfl, HE⟩ : ∃ A cap, v = .agg #[.int .i64 r, .int .i64 N, .slice A es.length cap] ∧ Hid (ArgE w (.slice A es.length cap) es) := by
  obtain ⟨s, hv, _, _, ha⟩ := HG.out
  obtain ⟨A, cap, rfl⟩ := ha.form
  exact ⟨A, cap, hv, Lib.hid ha⟩
 obtain ⟨Ao, capo, rfl, hco, hmo, _⟩ := ho.arg
 have hbndE : es.length ≤ cap ∧ cap ≤ maxLen := by
  obtain ⟨_, _, hv, h1, h2, _⟩ := HE.out
  injection hv with _ _ e3
  subst e3
  exact ⟨h1, h2⟩
 obtain ⟨hcap, hm⟩ := hbndE
 unfold maxLen at hmo hm
 clear ho
 have bx : Below w.heap.size w (((w.alloc (Obj.cells #[Value.int IntKind.i64 r, Value.int IntKind.i64 N, .slice A es.length cap] 31)).alloc (Obj.cells #[Value.int IntKind.i64 0, Value.int IntKind.i64 0, .slice none 0 0] 31)).alloc (Obj.cells #[Value.int IntKind.i64 r, Value.int IntKind.i64 o.length, .slice none 0 0] 31)) := (by repeat (first | exact Below.refl _ _ | (refine Below.setCell ?_ (by first | omega | (simp <;> omega)) _) | (refine bel_drewN ?_ _) | (refine Below.drew ?_) | (refine Below.alloc ?_ (by first | omega | (simp <;> omega)) _)))
 go_enter Tryz.func122, Tryz.ntmps122
 go_wp2_with fail
 obtain ⟨W0, hW0⟩ : ∃ W, W = ((w.alloc (Obj.cells #[Value.int IntKind.i64 r, Value.int IntKind.i64 N, .slice A es.length cap] 31)).alloc (Obj.cells #[Value.int IntKind.i64 0, Value.int IntKind.i64 0, .slice none 0 0] 31)).alloc (Obj.cells #[Value.int IntKind.i64 r, Value.int IntKind.i64 o.length, .slice none 0 0] 31) := ⟨_, rfl⟩
 rw [← hW0] at bx ⊢
 have hsW : W0.heap.size = w.heap.size + 3 := by rw [hW0]; simp
 have b0 : W0.cell? ⟨w.heap.size, 0, none⟩ = some (.int .i64 r) := by rw [hW0]; simp [go_sem]
 have b1 : W0.cell? ⟨w.heap.size, 1, none⟩ = some (.int .i64 N) := by rw [hW0]; simp [go_sem]
 have b2 : W0.cell? ⟨w.heap.size, 2, none⟩ = some (.slice A es.length cap) := by rw [hW0]; simp [go_sem]
 have r0 : ∃ u, W0.cell? ⟨w.heap.size + 1, 0, none⟩ = some u := ⟨.int .i64 0, by rw [hW0]; simp [go_sem]⟩
 have r1 : ∃ u, W0.cell? ⟨w.heap.size + 1, 1, none⟩ = some u := ⟨.int .i64 0, by rw [hW0]; simp [go_sem]⟩
 have r2 : ∃ u, W0.cell? ⟨w.heap.size + 1, 2, none⟩ = some u := ⟨.slice none 0 0, by rw [hW0]; simp [go_sem]⟩
 have rf : ∀ j, W0.frozen? ⟨w.heap.size + 1, j, none⟩ = false := fun j => by rw [hW0]; simp [go_sem]
 have x0 : W0.cell? ⟨w.heap.size + 1 + 1, 0, none⟩ = some (.int .i64 r) := by rw [hW0]; simp [go_sem]
 have x1 : W0.cell? ⟨w.heap.size + 1 + 1, 1, none⟩ = some (.int .i64 o.length) := by rw [hW0]; simp [go_sem]
 have x2 : W0.cell? ⟨w.heap.size + 1 + 1, 2, none⟩ = some (.slice none 0 0) := by rw [hW0]; simp [go_sem]
 have xf : ∀ j, W0.frozen? ⟨w.heap.size + 1 + 1, j, none⟩ = false := fun j => by rw [hW0]; simp [go_sem]
 clear hW0
 have BX := Lib.hid bx
 have B0 := Lib.hid b0
 have B1 := Lib.hid b1
 have B2 := Lib.hid b2
 have R0 := Lib.hid r0
 have R1 := Lib.hid r1
 have R2 := Lib.hid r2
 have RF := Lib.hid rf
 have X0 := Lib.hid x0
 have X1 := Lib.hid x1
 have X2 := Lib.hid x2
 have XF := Lib.hid xf
 have hgr := specIsGraph_any _ (r, (N : Int), es) W0 (HG.out.below bx)
 rw [HGR.out] at hgr
 have HGRC := Lib.hid hgr
 clear hgr b0 b1 b2 r0 r1 r2 rf x0 x1 x2 xf
 refine HGRC.out.mono ?_
 rintro e w1 ⟨rfl, bW⟩
 clear HGRC
 have q1 := (bW.cell (p := ⟨w.heap.size, 1, none⟩) (show w.heap.size < W0.heap.size by omega)).trans B1.out
 have s1 := bW.size
 have HB1 := Lib.hid bW
 clear bW bx
 have g0 : ((o.length : Int) == 0) = false := by rw [beq_eq_false_iff_ne]; omega
 have g1 : ¬ (N : Int) < (o.length : Int) := by omega
 obtain ⟨i0, hi0, hz0, hz1, hz2⟩ := info_parts int_info
 go_wp2_with (at_make; refine wpList_make_full _ rfl _ _ 26 rfl w1.heap.size 3 i0 (.int .i64 0) 1 Tryz.underlying26 hi0 hz0 hz1 _ _ _ _ N rfl rfl rfl rfl (by rw [hz2]; omega) (by unfold maxLen; omega) (Nat.le_refl _) ?_)
 intro w2 hown0 hgrow0
 have own0 : OwI w2 w1.heap.size (.slice (some ⟨w1.heap.size, 0, none⟩) N N) (plc N (o.take 0) 0) := by
  refine ⟨?_, fun y hy => ?_⟩
  ·rw [List.take_zero, plc_nil, List.length_replicate]
   have : ints (List.replicate N (-0)) = List.replicate N (Value.int .i64 0) := by simp [ints]
   rw [this]
   simpa [toList_madeCells_one] using hown0
  ·rw [List.take_zero, plc_nil] at hy
   obtain ⟨_, rfl⟩ := List.mem_replicate.1 hy
   exact ⟨by decide, by decide⟩
 have HO0 := Lib.hid own0
 have HB2 := Lib.hid (HB1.out.grown hgrow0 s1 (fun k h => by cases h))
 clear own0 hown0 hgrow0 q1 g0 g1
 go_wp2
 go_loopw [8] (fun i wr => ∃ k : Nat, k ≤ o.length ∧ i = .int .i64 k ∧ OwI wr w1.heap.size (.slice (some ⟨w1.heap.size, 0, none⟩) N N) (plc N (o.take k) 0) ∧ Below W0.heap.size W0 wr) (fun i _ => o.length - (intOf i).toNat)
 case atStart => exact ⟨0, Nat.zero_le _, rfl, HO0.out, HB2.out⟩
 case round =>
  obtain ⟨k, hk, rfl, hown, hbel⟩ := hrel
  have HB3 := Lib.hid hbel
  have HBw := Lib.hid (BX.out.trans (hbel.mono (by omega)))
  have hsz := hbel.size
  have hP := (hown.1.lt w1.heap.size rfl).2
  have hq1 := (hbel.cell (p := ⟨w.heap.size, 1, none⟩) (show w.heap.size < W0.heap.size by omega)).trans B1.out
  have HO := Lib.hid hown
  clear hbel
  by_cases hlt : k < o.length
  ·obtain ⟨bo, offo, rfl, hbo, hco2⟩ := (HOR.out.below HBw.out).at (by omega)
   have c0 := hco2 k hlt
   obtain ⟨u, hu, huN⟩ := HRANGE.out k hlt
   rw [hu] at c0
   have hcur := hown.cellAt u (by rw [plc_len]; exact huN)
   have hz : (plc N (o.take k) 0)[u]'(by rw [plc_len]; exact huN) = 0 := by
    rw [plc_get _ _ _ _ huN, plv_zero.2, Int.sub_zero]
    intro hm
    rw [← hu] at hm
    obtain ⟨j, hj, e⟩ := List.getElem_of_mem hm
    rw [List.getElem_take] at e
    have hjk : j < k := by rw [List.length_take] at hj; omega
    exact (List.pairwise_iff_getElem.1 HND.out) j k (by omega) hlt hjk e
   rw [hz] at hcur
   have hfz := hown.free u
   have HSET := Lib.hid (hown.set u ((k : Int) + 1) ⟨by omega, by omega⟩)
   have HSUC : Hid ((plc N (o.take k) 0).set u ((k : Int) + 1) = plc N (o.take (k + 1)) 0) := Lib.hid (by
    have := plc_succ N o 0 k hlt HND.out u hu
    rwa [Int.sub_zero] at this)
   have j0 : (0 : Int) ≤ (u : Int) := by omega
   have j1 : (u : Int) < (N : Int) := by omega
   have hin := fun w => l1In_any (u : Int) 0 ((N : Int) - 1) w
   have hib : inB (u : Int) 0 ((N : Int) - 1) = true := inB_iff.2 ⟨by omega, by omega⟩
   simp only [hib] at hin
   have HIN := Lib.hid hin
   have hws : w.heap.size < wr.heap.size := by omega
   clear hco2 hu hz hown hin hib
   go_wp2_with fail
   have f0 := BelW.cell hq1 hws
   have f1 := BelW.cell c0 hbo
   have f2 := BelW.cell hcur hP
   (refine wp_region_quiet_bel (by kernel_rfl) (by kernel_rfl) ?_; (repeat (go_big_quiet_step (first | (go_at_call 57; exact Calls.bel_same (HIN.out _))))); refine wpQuiet_nil ?_; intro wq hw'; obtain ⟨pq, hw''⟩ := hw'; have bq := pq.h; rw [← hw''] at bq; clear hw'' pq)
   replace c0 := f1 ⟨wq, bq⟩
   replace hcur := f2 ⟨wq, bq⟩
   simp only at c0 hcur
   clear f0 f1 f2
   have hfq := (bq.frozen (p := ⟨w1.heap.size, u, none⟩) hP).trans hfz
   have sq := bq.size
   have HOQ := Lib.hid ((HO.out.below bq).set u ((k : Int) + 1) ⟨by omega, by omega⟩)
   have HBQ := Lib.hid (HB3.out.trans (bq.mono (by omega)))
   clear bq hfz hq1
   go_wp2
   go_roundw
   case rel => exact ⟨k + 1, by omega, by go_num, by rw [← HSUC.out]; exact HOQ.out.1, HBQ.out.grown HOQ.out.2 (by omega) (fun j hj => by cases hj; omega)⟩
   case measure => simp [intOf]; omega
  ·obtain rfl : k = o.length := by omega
   rw [List.take_length] at HO
   clear hown
   have HP := Lib.hid HO.out
   obtain ⟨w5, rfl⟩ : ∃ w5 : World, w5 = wr := ⟨_, rfl⟩
   have hX : w.heap.size + 1 + 1 < w5.heap.size := by omega
   have PX2 := Lib.hid ((HB3.out.cell (p := ⟨w.heap.size + 1 + 1, 2, none⟩) (show w.heap.size + 1 + 1 < W0.heap.size by omega)).trans X2.out)
   have PX0 := Lib.hid ((HB3.out.cell (p := ⟨w.heap.size + 1 + 1, 0, none⟩) (show w.heap.size + 1 + 1 < W0.heap.size by omega)).trans X0.out)
   have PX1 := Lib.hid ((HB3.out.cell (p := ⟨w.heap.size + 1 + 1, 1, none⟩) (show w.heap.size + 1 + 1 < W0.heap.size by omega)).trans X1.out)
   have PXF : Hid (∀ j, w5.frozen? ⟨w.heap.size + 1 + 1, j, none⟩ = false) := Lib.hid fun j => (HB3.out.frozen (p := ⟨w.heap.size + 1 + 1, j, none⟩) (show w.heap.size + 1 + 1 < W0.heap.size by omega)).trans (XF.out j)
   clear hq1
   have HPL : Hid (∀ (wr : World), w5.grownBy wr (some (w.heap.size + 1 + 1)) → ∀ u : Nat, u < N → wr.cell? ⟨w1.heap.size, u, none⟩ = some (.int .i64 (plv o u))) := Lib.hid fun wr hg u hu => by
    rw [grown_cell hg hP (by omega), HP.out.cellAt u (by rw [plc_len]; exact hu), plc_get _ _ _ _ hu, Int.sub_zero]
   have PLR : Hid (∀ v : Int, 0 ≤ plv o v ∧ plv o v ≤ 40) := Lib.hid fun v => by have := plv_range o v; omega
   go_wp2
   go_loopw [9] (fun i wr => ∃ (k : Nat) (A2 : Option Addr) (cap2 : Nat), k ≤ es.length ∧ i = .int .i64 k ∧ wr.cell? ⟨w.heap.size + 1 + 1, 2, none⟩ = some (.slice A2 (srt cmpE (rnL (es.take k) o)).length cap2) ∧ OwE wr (w.heap.size + 1 + 1 + 1) (.slice A2 (srt cmpE (rnL (es.take k) o)).length cap2) (srt cmpE (rnL (es.take k) o)) ∧ w5.grownBy wr (some (w.heap.size + 1 + 1)) ∧ wr.cell? ⟨w.heap.size + 1 + 1, 0, none⟩ = some (.int .i64 r) ∧ wr.cell? ⟨w.heap.size + 1 + 1, 1, none⟩ = some (.int .i64 o.length) ∧ ∀ j, wr.frozen? ⟨w.heap.size + 1 + 1, j, none⟩ = false) (fun i _ => es.length - (intOf i).toNat)
   case atStart => exact ⟨0, none, 0, Nat.zero_le _, rfl, PX2.out, OwE.nil, World.grownBy.refl _ _, PX0.out, PX1.out, PXF.out⟩
   case round =>
    obtain ⟨k, A2, cap2, hk2, rfl, hx2, hown2, hgr, hx0, hx1, hxf⟩ := hrel
    have HGW := Lib.hid hgr
    have hsz2 := hgr.size
    have HBw2 := Lib.hid (HBw.out.grown hgr (by omega) (fun j hj => by cases hj; omega))
    have b2 := (grown_cell (o := 2) hgr (show w.heap.size < w5.heap.size by omega) (by omega)).trans ((HB3.out.cell (p := ⟨w.heap.size, 2, none⟩) (show w.heap.size < W0.heap.size by omega)).trans B2.out)
    have HX2 := Lib.hid hx2
    have HX0 := Lib.hid hx0
    have HX1 := Lib.hid hx1
    have HXF := Lib.hid hxf
    clear hx0 hx1 hxf
    have HOW2 := Lib.hid hown2
    clear hgr hown2
    by_cases hlt2 : k < es.length
    ·obtain ⟨be, offe, rfl, hbe, c0, c1, c2, he64⟩ := (HE.out.below HBw2.out).at hlt2
     obtain ⟨e1, e2, e3⟩ := HED.out es[k] (by simp)
     have HS := Lib.hid (rnL_succ es o k hlt2)
     have HSS : Hid (∀ x, rnE o es[k] = some x → srt cmpE (rnL (es.take (k + 1)) o) = insF cmpE (srt cmpE (rnL (es.take k) o)) x) := Lib.hid fun x hx => by
      rw [HS.out, hx]
      unfold srt
      rw [List.foldl_append]
      rfl
     have HSN : Hid (rnE o es[k] = none → rnL (es.take (k + 1)) o = rnL (es.take k) o) := Lib.hid fun hx => by rw [HS.out, hx]; simp
     have hlr : (srt cmpE (rnL (es.take k) o)).length ≤ 120 := by
      have h1 := srt_len (c := cmpE) (rnL (es.take k) o)
      have h2 := rnL_len (es.take k) o
      rw [List.length_take] at h2
      omega
     have HE64 := Lib.hid he64
     generalize es[k] = e at *
     obtain ⟨f, l, t⟩ := e
     simp only at e1 e2 e3 c0 c1 c2
     obtain ⟨a, rfl⟩ : ∃ a : Nat, f = (a : Int) := ⟨f.toNat, by omega⟩
     obtain ⟨c, rfl⟩ : ∃ c : Nat, t = (c : Int) := ⟨t.toNat, by omega⟩
     have pa := HPL.out wr HGW.out a (by omega)
     have pc := HPL.out wr HGW.out c (by omega)
     obtain ⟨ra1, ra2⟩ := PLR.out a
     obtain ⟨rc1, rc2⟩ := PLR.out c
     have RN : Hid (rnE o ((a : Int), l, (c : Int)) = if 0 < plv o a ∧ 0 < plv o c then some (plv o a - 1, l, plv o c - 1) else none) := Lib.hid rfl
     have ja : (a : Int) < (N : Int) := by omega
     have jc : (c : Int) < (N : Int) := by omega
     have ja0 : (0 : Int) ≤ (a : Int) := by omega
     have jc0 : (0 : Int) ≤ (c : Int) := by omega
     have hPr : w1.heap.size < wr.heap.size := by omega
     have hXr : w.heap.size + 1 + 1 < wr.heap.size := by omega
     have hl64 : I64 l := by unfold I64; omega
     have HL64 := Lib.hid hl64
     generalize plv o a = pav at *
     generalize plv o c = pcv at *
     generalize hL : srt cmpE (rnL (es.take k) o) = L at *
     clear hl64 HS HE64 he64
     have bA : Below wr.heap.size wr (wr.alloc (Obj.cells #[Value.int IntKind.i64 a, Value.int IntKind.i64 l, Value.int IntKind.i64 c] 54)) := (Below.refl _ _).alloc (Nat.le_refl _) _
     by_cases t1 : 0 < pav
     ·by_cases t2 : 0 < pcv
      ·have F := Lib.hid (HSS.out _ (by rw [RN.out, if_pos ⟨t1, t2⟩]))
       go_wp2_with fail
       have sA : wr.heap.size < (wr.alloc (Obj.cells #[Value.int IntKind.i64 a, Value.int IntKind.i64 l, Value.int IntKind.i64 c] 54)).heap.size := by simp
       have l0 : (wr.alloc (Obj.cells #[Value.int IntKind.i64 a, Value.int IntKind.i64 l, Value.int IntKind.i64 c] 54)).cell? ⟨wr.heap.size, 0, none⟩ = some (.int .i64 a) := by simp [go_sem]
       have l1 : (wr.alloc (Obj.cells #[Value.int IntKind.i64 a, Value.int IntKind.i64 l, Value.int IntKind.i64 c] 54)).cell? ⟨wr.heap.size, 1, none⟩ = some (.int .i64 l) := by simp [go_sem]
       have l2 : (wr.alloc (Obj.cells #[Value.int IntKind.i64 a, Value.int IntKind.i64 l, Value.int IntKind.i64 c] 54)).cell? ⟨wr.heap.size, 2, none⟩ = some (.int .i64 c) := by simp [go_sem]
       generalize wr.alloc (Obj.cells #[Value.int IntKind.i64 a, Value.int IntKind.i64 l, Value.int IntKind.i64 c] 54) = W at bA sA l0 l1 l2 ⊢
       have la := (bA.cell (p := ⟨w1.heap.size, a, none⟩) hPr).trans pa
       have lc := (bA.cell (p := ⟨w1.heap.size, c, none⟩) hPr).trans pc
       have lx := (bA.cell (p := ⟨w.heap.size + 1 + 1, 2, none⟩) hXr).trans HX2.out
       have LX0 := Lib.hid ((bA.cell (p := ⟨w.heap.size + 1 + 1, 0, none⟩) hXr).trans HX0.out)
       have LX1 := Lib.hid ((bA.cell (p := ⟨w.heap.size + 1 + 1, 1, none⟩) hXr).trans HX1.out)
       have LXF : Hid (∀ j, W.frozen? ⟨w.heap.size + 1 + 1, j, none⟩ = false) := Lib.hid fun j => (bA.frozen (p := ⟨w.heap.size + 1 + 1, j, none⟩) hXr).trans (HXF.out j)
       have OW := Lib.hid (HOW2.out.below bA)
       have GW := Lib.hid (HGW.out.trans (grown_bel bA))
       have hXW : w.heap.size + 1 + 1 < W.heap.size := by omega
       have hPW : w1.heap.size < W.heap.size := by omega
       have hPX : w1.heap.size ≠ w.heap.size + 1 + 1 := by omega
       have hwX : wr.heap.size ≠ w.heap.size + 1 + 1 := by omega
       clear bA pa pc hx2
       have wa1 : IntKind.i64.wrap (pav - 1) = pav - 1 := by rw [IntKind.wrap_i64]; omega
       have wc1 : IntKind.i64.wrap (pcv - 1) = pcv - 1 := by rw [IntKind.wrap_i64]; omega
       have f0 := BelW.cell l0 sA
       have f1 := BelW.cell l1 sA
       have f2 := BelW.cell l2 sA
       have f3 := BelW.cell la hPW
       have f4 := BelW.cell lc hPW
       have f5 := BelW.cell lx hXW
       (refine wp_region_call3 17 (by kernel_rfl) (by kernel_rfl) (by kernel_rfl) (by kernel_rfl) (by rfl) (by rfl) ?_; dsimp only [dum3, dumO]; (repeat (go_big_quiet_step (fail))); refine wpQuiet_nil ?_; refine ⟨⟨_, fun _ => by rfl⟩, ?_⟩; intro wq hw'; obtain ⟨pq, hw''⟩ := hw'; have bq := pq.h; rw [← hw''] at bq; clear hw'' pq; refine ⟨_, _, by rfl, ?_⟩)
       clear f0 f1 f2 f3 f4 f5
       simp only [wa1, wc1, List.map_toArray, List.map_cons, List.map_nil, Array.empty_append, Array.append_empty]
       refine (show Calls Tryz.prog 59 #[.slice A2 L.length cap2, .agg #[.int .i64 (pav - 1), .int .i64 l, .int .i64 (pcv - 1)]] wq _ from ?_)
       refine (l4Put_any _ L (pav - 1, l, pcv - 1) wq (OW.out.below bq).arg ⟨⟨by simp only; omega, by simp only; omega⟩, HL64.out, ⟨by simp only; omega, by simp only; omega⟩⟩ (by omega)).mono ?_
       rintro e' w9 ⟨r9, rfl, o9, b9⟩
       have B9 := Lib.hid (bq.trans (b9.mono bq.size))
       have qx := (B9.out.cell (p := ⟨w.heap.size + 1 + 1, 2, none⟩) hXW).trans lx
       have qf := (B9.out.frozen (p := ⟨w.heap.size + 1 + 1, 2, none⟩) hXW).trans (LXF.out 2)
       have s9 : W.heap.size ≤ w9.heap.size := B9.out.size
       have O9 := Lib.hid o9
       obtain ⟨A9, cap9, rfl, _⟩ := o9.form
       clear o9 b9
       refine ⟨_, rfl, ?_⟩
       simp only [Act.put, List.setIfInBounds_toArray, List.set_cons_zero, List.set_cons_succ]
       go_wp2
       go_roundw
       case rel =>
        have g9 : w5.grownBy w9 (some (w.heap.size + 1 + 1)) := GW.out.trans (grown_bel B9.out)
        refine ⟨k + 1, A9, cap9, by omega, by go_num, by rw [F.out]; exact World.cell?_setCell_same _ _ _ qx, ?_, g9.trans (set_grown _ _ _ _), ?_, ?_, fun j => by rw [World.frozen?_setCell]; exact (B9.out.frozen (p := ⟨w.heap.size + 1 + 1, j, none⟩) hXW).trans (LXF.out j)⟩
        ·rw [F.out]
         exact (O9.out.mono (by show _ ≤ wq.heap.size; have := bq.size; omega)).far (show w.heap.size + 1 + 1 < w.heap.size + 1 + 1 + 1 by omega) _
        ·rw [World.cell?_setCell_other _ _ _ _ (by simp)]
         exact (B9.out.cell (p := ⟨w.heap.size + 1 + 1, 0, none⟩) hXW).trans LX0.out
        ·rw [World.cell?_setCell_other _ _ _ _ (by simp)]
         exact (B9.out.cell (p := ⟨w.heap.size + 1 + 1, 1, none⟩) hXW).trans LX1.out
       case measure => simp [intOf]; omega
      ·have F := Lib.hid (HSN.out (by rw [RN.out, if_neg (fun h => t2 h.2)]))
       go_wp2
       go_roundw
       case rel => exact ⟨k + 1, A2, cap2, by omega, by go_num, by rw [F.out, hL]; exact (bA.cell (p := ⟨w.heap.size + 1 + 1, 2, none⟩) hXr).trans HX2.out, by rw [F.out, hL]; exact HOW2.out.below bA, HGW.out.trans (grown_bel bA), (bA.cell (p := ⟨w.heap.size + 1 + 1, 0, none⟩) hXr).trans HX0.out, (bA.cell (p := ⟨w.heap.size + 1 + 1, 1, none⟩) hXr).trans HX1.out, fun j => (bA.frozen (p := ⟨w.heap.size + 1 + 1, j, none⟩) hXr).trans (HXF.out j)⟩
       case measure => simp [intOf]; omega
     ·have F := Lib.hid (HSN.out (by rw [RN.out, if_neg (fun h => t1 h.1)]))
      go_wp2
      go_roundw
      case rel => exact ⟨k + 1, A2, cap2, by omega, by go_num, by rw [F.out, hL]; exact (bA.cell (p := ⟨w.heap.size + 1 + 1, 2, none⟩) hXr).trans HX2.out, by rw [F.out, hL]; exact HOW2.out.below bA, HGW.out.trans (grown_bel bA), (bA.cell (p := ⟨w.heap.size + 1 + 1, 0, none⟩) hXr).trans HX0.out, (bA.cell (p := ⟨w.heap.size + 1 + 1, 1, none⟩) hXr).trans HX1.out, fun j => (bA.frozen (p := ⟨w.heap.size + 1 + 1, j, none⟩) hXr).trans (HXF.out j)⟩
      case measure => simp [intOf]; omega
    ·obtain rfl : k = es.length := by omega
     rw [List.take_length] at hx2 HOW2
     have RR0 := (grown_cell (o := 0) HGW.out (show w.heap.size + 1 < w5.heap.size by omega) (by omega)).trans (HB3.out.cell (p := ⟨w.heap.size + 1, 0, none⟩) (show w.heap.size + 1 < W0.heap.size by omega))
     have RR1 := (grown_cell (o := 1) HGW.out (show w.heap.size + 1 < w5.heap.size by omega) (by omega)).trans (HB3.out.cell (p := ⟨w.heap.size + 1, 1, none⟩) (show w.heap.size + 1 < W0.heap.size by omega))
     have RR2 := (grown_cell (o := 2) HGW.out (show w.heap.size + 1 < w5.heap.size by omega) (by omega)).trans (HB3.out.cell (p := ⟨w.heap.size + 1, 2, none⟩) (show w.heap.size + 1 < W0.heap.size by omega))
     have rrf : ∀ j, wr.frozen? ⟨w.heap.size + 1, j, none⟩ = false := fun j => ((grown_frozen (o := j) HGW.out (show w.heap.size + 1 < w5.heap.size by omega) (by omega)).trans (HB3.out.frozen (p := ⟨w.heap.size + 1, j, none⟩) (show w.heap.size + 1 < W0.heap.size by omega))).trans (RF.out j)
     obtain ⟨u0, hu0⟩ := R0.out
     obtain ⟨u1, hu1⟩ := R1.out
     obtain ⟨u2, hu2⟩ := R2.out
     have rr0 := RR0.trans hu0
     have rr1 := RR1.trans hu1
     have rr2 := RR2.trans hu2
     have hx0 := HX0.out
     have hx1 := HX1.out
     have rf0 := rrf 0
     have rf1 := rrf 1
     have rf2 := rrf 2
     have hRw : w.heap.size + 1 < wr.heap.size := by omega
     clear RR0 RR1 RR2 hu0 hu1 hu2 rrf
     generalize hL : srt cmpE (rnL es o) = L at *
     have HLL := Lib.hid hL
     clear hL
     go_wp2
     have c0 : (((wr.setCell ⟨w.heap.size + 1, 0, none⟩ (.int .i64 r)).setCell ⟨w.heap.size + 1, 1, none⟩ (.int .i64 o.length)).setCell ⟨w.heap.size + 1, 2, none⟩ (.slice A2 L.length cap2)).cell? ⟨w.heap.size + 1, 0, none⟩ = some (.int .i64 r) := by
      rw [World.cell?_setCell_other _ _ _ _ (by simp), World.cell?_setCell_other _ _ _ _ (by simp), World.cell?_setCell_same _ _ _ rr0]
     have c1 : (((wr.setCell ⟨w.heap.size + 1, 0, none⟩ (.int .i64 r)).setCell ⟨w.heap.size + 1, 1, none⟩ (.int .i64 o.length)).setCell ⟨w.heap.size + 1, 2, none⟩ (.slice A2 L.length cap2)).cell? ⟨w.heap.size + 1, 1, none⟩ = some (.int .i64 o.length) := by
      rw [World.cell?_setCell_other _ _ _ _ (by simp)]
      exact World.cell?_setCell_same _ _ _ ((World.cell?_setCell_other _ _ _ _ (by simp)).trans rr1)
     have c2 : (((wr.setCell ⟨w.heap.size + 1, 0, none⟩ (.int .i64 r)).setCell ⟨w.heap.size + 1, 1, none⟩ (.int .i64 o.length)).setCell ⟨w.heap.size + 1, 2, none⟩ (.slice A2 L.length cap2)).cell? ⟨w.heap.size + 1, 2, none⟩ = some (.slice A2 L.length cap2) :=
      World.cell?_setCell_same _ _ _ ((World.cell?_setCell_other _ _ _ _ (by simp)).trans ((World.cell?_setCell_other _ _ _ _ (by simp)).trans rr2))
     have bw : Below w.heap.size w (((wr.setCell ⟨w.heap.size + 1, 0, none⟩ (.int .i64 r)).setCell ⟨w.heap.size + 1, 1, none⟩ (.int .i64 o.length)).setCell ⟨w.heap.size + 1, 2, none⟩ (.slice A2 L.length cap2)) := (by repeat (first | exact Below.refl _ _ | (refine Below.setCell ?_ (by first | omega | (simp <;> omega)) _) | (refine bel_drewN ?_ _) | (refine Below.drew ?_) | (refine Below.alloc ?_ (by first | omega | (simp <;> omega)) _) | (refine Below.trans ?_ (Below.mono (Hid.out HBw2) (by first | omega | (simp <;> omega))))))
     have ow : OwE (((wr.setCell ⟨w.heap.size + 1, 0, none⟩ (.int .i64 r)).setCell ⟨w.heap.size + 1, 1, none⟩ (.int .i64 o.length)).setCell ⟨w.heap.size + 1, 2, none⟩ (.slice A2 L.length cap2)) (w.heap.size + 1 + 1 + 1) (.slice A2 L.length cap2) L :=
      ((HOW2.out.far (by show w.heap.size + 1 < _; omega) _).far (by show w.heap.size + 1 < _; omega) _).far (by show w.heap.size + 1 < _; omega) _
     generalize ((wr.setCell ⟨w.heap.size + 1, 0, none⟩ (.int .i64 r)).setCell ⟨w.heap.size + 1, 1, none⟩ (.int .i64 o.length)).setCell ⟨w.heap.size + 1, 2, none⟩ (.slice A2 L.length cap2) = wf at *
     refine bodyPost_ret (v := .tuple #[.agg #[.int .i64 r, .int .i64 o.length, .slice A2 L.length cap2], .bool true]) (by simp [results, Tryz.results122, go_sem, c0, c1, c2]) rfl ⟨_, rfl, ⟨.slice A2 L.length cap2, ?_, ?_, ?_, ?_⟩, bw⟩
     ·rfl
     ·show I64 r
      unfold I64
      omega
     ·show I64 (o.length : Int)
      unfold I64
      omega
     ·show OwE wf w.heap.size (.slice A2 L.length cap2) (srt cmpE (rnL es o))
      rw [HLL.out]
      exact ow.mono (by omega)
theorem specRenumber_any (v vo : Value) (g : GrD) (o : List Int) (w : World) (h : ArgG w v g) (ho : RdI w vo o) (hg : grB g = true) (hok : OrdOk g.2.1 o) :
  Calls Tryz.prog 122 #[v, vo] w fun e w' => ∃ r, e = .returned (.tuple #[r, .bool true]) ∧ OwG w' w.heap.size r (rnG g o) ∧ Below w.heap.size w w' := specRenumber_anyN v vo g o w h ho hg hok.toN
end Go.Proofs.YtfadnkjlilhneaaGreat
