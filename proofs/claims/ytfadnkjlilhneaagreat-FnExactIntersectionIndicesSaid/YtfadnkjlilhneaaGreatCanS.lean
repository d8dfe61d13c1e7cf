/- The order in which the vertices of a folded graph are found: the reference's CanonicalOrder. The first vertex that no loop needs: the reference's l8Leaf. -/
import Derived.Test.YtfadnkjlilhneaaGreatCanP
import Derived.Test.YtfadnkjlilhneaaGreatGrG
namespace Go.Proofs.YtfadnkjlilhneaaGreat
set_option maxRecDepth 20000
set_option linter.unusedVariables false
set_option linter.unusedSimpArgs false
open Go.RowKit

def leafB (es : List EdD) (v : Nat) : Bool := decide (degL es v < 2) || !hasB (reachL es 0) v
def leafFrom (es : List EdD) (n : Nat) : Nat → Nat → Int
 | 0, _ => -1
 | f + 1, v => if v < n then (if leafB es v then (v : Int) else leafFrom es n f (v + 1)) else -1
def leafV (es : List EdD) (n : Nat) : Int := leafFrom es n (n - 1) 1
theorem leafFrom_end (es : List EdD) (n f : Nat) : leafFrom es n f n = -1 := by
 cases f with
 | zero => rfl
 | succ f => unfold leafFrom; rw [if_neg (Nat.lt_irrefl n)]
theorem leafFrom_hit {es : List EdD} {n v : Nat} (hv : v < n) (h : leafB es v = true) : leafFrom es n (n - v) v = v := by
 obtain ⟨f, hf⟩ : ∃ f, n - v = f + 1 := ⟨n - v - 1, by omega⟩
 rw [hf]
 unfold leafFrom
 rw [if_pos hv, if_pos h]
theorem leafFrom_miss {es : List EdD} {n v : Nat} (hv : v < n) (h : leafB es v = false) : leafFrom es n (n - v) v = leafFrom es n (n - (v + 1)) (v + 1) := by
 obtain ⟨f, hf⟩ : ∃ f, n - v = f + 1 := ⟨n - v - 1, by omega⟩
 rw [hf]
 rw [leafFrom, if_pos hv, if_neg (by simp [h]), show n - (v + 1) = f by omega]
set_option maxHeartbeats 2000000 in
theorem l8Leaf_any (v : Value) (g : GrD) (w : World) (h : ArgG w v g) (hg : grB g = true) :
  Calls Tryz.prog 91 #[v] w fun e w' => e = .returned (.int .i64 (leafV g.2.2 g.2.1.toNat)) ∧ Below w.heap.size w w' := by
 have HG := Lib.hid h
 have HGR := Lib.hid hg
 obtain ⟨_, hsz40, hl120, _⟩ := grB_parts hg
 have hu : inB 0 0 (wrap64 (g.2.1 - 1)) = true := by
  rw [IntWalk.wrap64_in _ ⟨by omega, by omega⟩]
  exact inB_iff.2 ⟨Int.le_refl _, by omega⟩
 have HU := Lib.hid hu
 obtain ⟨N, hN⟩ : ∃ N : Nat, g.2.1 = (N : Int) := ⟨g.2.1.toNat, by omega⟩
 clear hu hg
 obtain ⟨s, rfl, _, _, ha⟩ := h
 obtain ⟨A, cap, rfl⟩ := ha.form
 obtain ⟨r, n, es⟩ := g
 simp only at hN hsz40 hl120
 subst hN
 simp only [Int.toNat_natCast]
 have hN1 : 1 ≤ N := by omega
 have hN2 : N ≤ 40 := by omega
 obtain ⟨R, hR⟩ : ∃ R, R = leafV es N := ⟨_, rfl⟩
 rw [← hR]
 have HR := Lib.hid hR
 clear hR ha hsz40
 have bx : Below w.heap.size w (w.alloc (Obj.cells #[Value.int IntKind.i64 r, Value.int IntKind.i64 N, .slice A es.length cap] 31)) := (by repeat (first | exact Below.refl _ _ | (refine Below.setCell ?_ (by first | omega | (simp <;> omega)) _) | (refine bel_drewN ?_ _) | (refine Below.drew ?_) | (refine Below.alloc ?_ (by first | omega | (simp <;> omega)) _)))
 have k0 : (w.alloc (Obj.cells #[Value.int IntKind.i64 r, Value.int IntKind.i64 N, .slice A es.length cap] 31)).cell? ⟨w.heap.size, 0, none⟩ = some (.int .i64 r) := by simp [go_sem]
 have k1 : (w.alloc (Obj.cells #[Value.int IntKind.i64 r, Value.int IntKind.i64 N, .slice A es.length cap] 31)).cell? ⟨w.heap.size, 1, none⟩ = some (.int .i64 N) := by simp [go_sem]
 have k2 : (w.alloc (Obj.cells #[Value.int IntKind.i64 r, Value.int IntKind.i64 N, .slice A es.length cap] 31)).cell? ⟨w.heap.size, 2, none⟩ = some (.slice A es.length cap) := by simp [go_sem]
 have sx : w.heap.size < (w.alloc (Obj.cells #[Value.int IntKind.i64 r, Value.int IntKind.i64 N, .slice A es.length cap] 31)).heap.size := by simp
 have BX := Lib.hid bx
 have K0 := Lib.hid k0
 have K1 := Lib.hid k1
 have K2 := Lib.hid k2
 clear k0 k1 k2 bx
 go_enter Tryz.func91, Tryz.ntmps91
 go_wp2_with fail
 refine (reachedFrom_any _ (r, (N : Int), es) 0 _ (HG.out.below BX.out) HGR.out HU.out ⟨by decide, by decide⟩).mono ?_
 rintro e w1 ⟨rs, rfl, o1, b1⟩
 have HB := Lib.hid (BX.out.trans (b1.mono BX.out.size))
 have s1 := b1.size
 have hs0 : w.heap.size < w1.heap.size := by omega
 have q0 := (b1.cell (p := ⟨w.heap.size, 0, none⟩) sx).trans K0.out
 have q1 := (b1.cell (p := ⟨w.heap.size, 1, none⟩) sx).trans K1.out
 have q2 := (b1.cell (p := ⟨w.heap.size, 2, none⟩) sx).trans K2.out
 have Q0 := Lib.hid q0
 have Q1 := Lib.hid q1
 have Q2 := Lib.hid q2
 have O1 := Lib.hid o1
 obtain ⟨A1, cap1, rfl, _⟩ := o1.form
 have hrl : (reachL es 0).length ≤ 100000 := by
  have := iterR_len es 0 (es.length + 1) hl120
  unfold reachL
  omega
 have HLB : Hid (∀ v : Nat, leafB es v = (decide (degL es v < 2) || !hasB (reachL es 0) v)) := Lib.hid fun v => rfl
 clear q0 q1 q2 b1 o1 K0 K1 K2 s1 sx
 simp only at O1 hrl
 generalize reachL es 0 = L at *
 go_wp2
 go_loopw [4] (fun i wr => ∃ k : Nat, 1 ≤ k ∧ k ≤ N ∧ i = .int .i64 k ∧ R = leafFrom es N (N - k) k ∧ Below w1.heap.size w1 wr) (fun i _ => N - (intOf i).toNat)
 case atStart => exact ⟨1, Nat.le_refl _, hN1, rfl, HR.out, Below.refl _ _⟩
 case round =>
  obtain ⟨k, hk1, hk, rfl, hrem, hbel⟩ := hrel
  have HREM := Lib.hid hrem
  have HB2 := Lib.hid hbel
  have HB3 := Lib.hid (HB.out.trans (hbel.mono HB.out.size))
  have hsz := hbel.size
  have p0 := (hbel.cell (p := ⟨w.heap.size, 0, none⟩) hs0).trans Q0.out
  have p1 := (hbel.cell (p := ⟨w.heap.size, 1, none⟩) hs0).trans Q1.out
  have p2 := (hbel.cell (p := ⟨w.heap.size, 2, none⟩) hs0).trans Q2.out
  have OL := Lib.hid (O1.out.below hbel)
  clear hrem hbel
  by_cases hlt : k < N
  ·have hlti : (k : Int) < (N : Int) := by omega
   have hdle : degL es k ≤ 240 := by have := degL_le es k es.length; rw [List.take_length] at this; omega
   have LB := Lib.hid (HLB.out k)
   go_wp2_with fail
   refine (specDegreeOf_any _ (r, (N : Int), es) k _ (HG.out.below HB3.out) (by simp only; omega)).mono ?_
   rintro e w2 ⟨rfl, b2⟩
   have B2 := Lib.hid b2
   have s2 := b2.size
   have OL2 := Lib.hid (OL.out.below b2)
   clear b2
   simp only
   generalize degL es k = d at *
   by_cases hd : d < 2
   ·have hdi : (d : Int) < 2 := by omega
    have F := Lib.hid (leafFrom_hit hlt (by rw [LB.out]; simp [hd]))
    go_wp2
    go_ret
    exact ⟨ret_int (by rw [HREM.out, F.out]), HB3.out.trans (B2.out.mono (by omega))⟩
   ·have hdi : ¬ (d : Int) < 2 := by omega
    go_wp2_with fail
    refine (l4Has_any _ L k _ OL2.out.rd.arg (by omega)).mono ?_
    rintro e' w' ⟨rfl, rfl⟩
    rcases h1 : hasB L k with _ | _
    ·have F := Lib.hid (leafFrom_hit hlt (by rw [LB.out, h1]; simp))
     go_wp2
     go_ret
     exact ⟨ret_int (by rw [HREM.out, F.out]), HB3.out.trans (B2.out.mono (by omega))⟩
    ·have F := Lib.hid (leafFrom_miss hlt (by rw [LB.out, h1]; simp [hd]))
     go_wp2
     go_roundw
     case rel => exact ⟨k + 1, by omega, by omega, by go_num, by rw [HREM.out, F.out], HB2.out.trans (B2.out.mono (by omega))⟩
     case measure => simp [intOf]; omega
  ·obtain rfl : k = N := by omega
   have F : Hid (R = -1) := Lib.hid (by rw [HREM.out, leafFrom_end])
   go_wp2
   go_ret
   exact ⟨ret_int F.out.symm, HB3.out⟩
theorem cfold_take_ok {g : GrD} (hg : grB g = true) {u : Int} (ls : List Int) (k : Nat) {o : List Int} (h : OrdOk g.2.1 o) : OrdOk g.2.1 ((ls.take k).foldl (cstep g.2.2 u) o) := cfold_ok hg _ h
theorem cstep_no {es : List EdD} {u x : Int} {o : List Int} (h : ¬ 0 ≤ nextV es u x) : cstep es u o x = o := by unfold cstep; rw [if_neg h]
theorem cstep_in {es : List EdD} {u x : Int} {o : List Int} (h : 0 ≤ nextV es u x) (h1 : hasB o (nextV es u x) = true) : cstep es u o x = o := by unfold cstep; rw [if_pos h, if_pos h1]
theorem cstep_new {es : List EdD} {u x : Int} {o : List Int} (h : 0 ≤ nextV es u x) (h1 : hasB o (nextV es u x) = false) : cstep es u o x = o ++ [nextV es u x] := by unfold cstep; rw [if_pos h, if_neg (by simp [h1])]
set_option maxHeartbeats 1000000 in
theorem specCanonicalOrder_any (v : Value) (g : GrD) (w : World) (h : ArgG w v g) (hf : foldB g = true) :
  Calls Tryz.prog 127 #[v] w fun e w' => ∃ r, e = .returned r ∧ OwI w' w.heap.size r (canO g) ∧ Below w.heap.size w w' := by
 have HG := Lib.hid h
 obtain ⟨hg, hfol⟩ := foldB_parts hf
 have HGR := Lib.hid hg
 have HF := Lib.hid hf
 have ONE := Lib.hid (steps_one hfol)
 obtain ⟨hr13, hsz40, hl120, _⟩ := grB_parts hg
 obtain ⟨A, cap, hv⟩ : ∃ A cap, v = .agg #[.int .i64 g.1, .int .i64 g.2.1, .slice A g.2.2.length cap] := by
  obtain ⟨s, hv, _, _, ha⟩ := h
  obtain ⟨A, cap, rfl⟩ := ha.form
  exact ⟨A, cap, hv⟩
 subst hv
 obtain ⟨rn, hrn⟩ : ∃ rn : Nat, g.1 = (rn : Int) := ⟨g.1.toNat, by omega⟩
 have hrn1 : 1 ≤ rn := by omega
 have hrn3 : rn ≤ 3 := by omega
 have HCO : Hid (canO g = canF g.2.2 (lettersL rn) 41 0 [0]) := Lib.hid (by unfold canO; rw [hrn]; rfl)
 have OK0 := Lib.hid (OrdOk.one (n := g.2.1) (by omega))
 have OKS : Hid (∀ (u : Int) (o : List Int) (k : Nat), OrdOk g.2.1 o → OrdOk g.2.1 (((lettersL rn).take k).foldl (cstep g.2.2 u) o)) := Lib.hid fun u o k h => cfold_take_ok hg _ k h
 have OKL : Hid (∀ o : List Int, OrdOk g.2.1 o → o.length ≤ 40) := Lib.hid fun o h => h.len (by omega) (by omega)
 have NV : Hid (∀ u x, nextV g.2.2 u x = -1 ∨ (0 ≤ nextV g.2.2 u x ∧ nextV g.2.2 u x < 41)) := Lib.hid fun u x => by
  rcases nextV_range hg u x with e | e
  ·exact .inl e
  ·exact .inr ⟨e.1, by omega⟩
 have HRN := Lib.hid hrn
 clear hg hf hfol h hrn
 have hr1 : 1 ≤ g.1 ∧ g.1 ≤ 3 := hr13
 clear hsz40 hl120 hr13
 have bx : Below w.heap.size w (w.alloc (Obj.cells #[Value.int IntKind.i64 g.1, Value.int IntKind.i64 g.2.1, .slice A g.2.2.length cap] 31)) := (by repeat (first | exact Below.refl _ _ | (refine Below.setCell ?_ (by first | omega | (simp <;> omega)) _) | (refine bel_drewN ?_ _) | (refine Below.drew ?_) | (refine Below.alloc ?_ (by first | omega | (simp <;> omega)) _)))
 have k0 : (w.alloc (Obj.cells #[Value.int IntKind.i64 g.1, Value.int IntKind.i64 g.2.1, .slice A g.2.2.length cap] 31)).cell? ⟨w.heap.size, 0, none⟩ = some (.int .i64 g.1) := by simp [go_sem]
 have k1 : (w.alloc (Obj.cells #[Value.int IntKind.i64 g.1, Value.int IntKind.i64 g.2.1, .slice A g.2.2.length cap] 31)).cell? ⟨w.heap.size, 1, none⟩ = some (.int .i64 g.2.1) := by simp [go_sem]
 have k2 : (w.alloc (Obj.cells #[Value.int IntKind.i64 g.1, Value.int IntKind.i64 g.2.1, .slice A g.2.2.length cap] 31)).cell? ⟨w.heap.size, 2, none⟩ = some (.slice A g.2.2.length cap) := by simp [go_sem]
 have sx : w.heap.size < (w.alloc (Obj.cells #[Value.int IntKind.i64 g.1, Value.int IntKind.i64 g.2.1, .slice A g.2.2.length cap] 31)).heap.size := by simp
 have BX := Lib.hid bx
 have K0 := Lib.hid k0
 have K1 := Lib.hid k1
 have K2 := Lib.hid k2
 clear k0 k1 k2 bx
 go_enter Tryz.func127, Tryz.ntmps127
 go_wp2_with fail
 have hfo := specIsFolded_any _ g _ (HG.out.below BX.out)
 rw [HF.out] at hfo
 have HFO := Lib.hid hfo
 clear hfo
 refine HFO.out.mono ?_
 rintro e w1 ⟨rfl, b1⟩
 clear HFO
 have HB := Lib.hid (BX.out.trans (b1.mono BX.out.size))
 have s1 := b1.size
 have hs0 : w.heap.size < w1.heap.size := by omega
 have q0 := (b1.cell (p := ⟨w.heap.size, 0, none⟩) sx).trans K0.out
 have q1 := (b1.cell (p := ⟨w.heap.size, 1, none⟩) sx).trans K1.out
 have q2 := (b1.cell (p := ⟨w.heap.size, 2, none⟩) sx).trans K2.out
 clear b1 K0 K1 K2 s1 sx
 go_wp2_with fail
 have hb2 : Below w1.heap.size w1 (w1.alloc (Obj.cells #[Value.int IntKind.i64 0] 3)) := (Below.refl _ _).alloc (Nat.le_refl _) _
 have o2 : OwI (w1.alloc (Obj.cells #[Value.int IntKind.i64 0] 3)) w1.heap.size (.slice (some ⟨w1.heap.size, 0, none⟩) 1 1) [0] := OwI_lit w1 [0] (fun x hx => by simp at hx; subst hx; exact ⟨by decide, by decide⟩) (by simp) (Nat.le_refl _)
 have s2 : w1.heap.size < (w1.alloc (Obj.cells #[Value.int IntKind.i64 0] 3)).heap.size := by simp
 generalize w1.alloc (Obj.cells #[Value.int IntKind.i64 0] 3) = w2 at hb2 o2 s2 ⊢
 have hle := l5Letters_any rn w2 (by omega)
 rw [← HRN.out] at hle
 have HLE := Lib.hid hle
 clear hle
 refine HLE.out.mono ?_
 rintro e w3 ⟨rl, rfl, ol, b3⟩
 have s3 := b3.size
 have hb13 := hb2.trans (b3.mono hb2.size)
 have HB3 := Lib.hid (HB.out.trans (hb13.mono HB.out.size))
 have Q0 := Lib.hid ((hb13.cell (p := ⟨w.heap.size, 0, none⟩) hs0).trans q0)
 have Q1 := Lib.hid ((hb13.cell (p := ⟨w.heap.size, 1, none⟩) hs0).trans q1)
 have Q2 := Lib.hid ((hb13.cell (p := ⟨w.heap.size, 2, none⟩) hs0).trans q2)
 have O2 := Lib.hid ((o2.below b3).mono (base' := w.heap.size + 1) (by omega))
 have hll := lettersL_len rn
 generalize lettersL rn = ls at *
 obtain ⟨Al, capl, rfl, hcl, hml, _, hfl⟩ := ol.form
 obtain ⟨bl, rfl, hbl1, hbl2⟩ := hfl (by omega)
 unfold maxLen at hml
 have OL := Lib.hid ol.rd
 have hblw : bl ≠ w1.heap.size := by omega
 clear ol b3 hb2 o2 hb13 q0 q1 q2 hfl HLE
 go_wp2
 go_loopw [3, 5] (fun out i wo => ∃ (k : Nat) (o : List Int), k ≤ o.length ∧ i = .int .i64 k ∧ OrdOk g.2.1 o ∧ canO g = canF g.2.2 ls (41 - k) k o ∧ OwI wo (w.heap.size + 1) out o ∧ RdI wo (.slice (some ⟨bl, 0, none⟩) ls.length capl) ls ∧ out.ownBlock ≠ some bl ∧ bl < wo.heap.size ∧ Below (w.heap.size + 1) w3 wo) (fun _ i _ => 41 - (intOf i).toNat)
 case atStart => exact ⟨0, [0], by simp, rfl, OK0.out, HCO.out, O2.out, OL.out, by simp [Value.ownBlock]; omega, hbl2, Below.refl _ _⟩
 case round =>
  obtain ⟨k, o, hk, rfl, hok, hco, hown, hrd, hne, hblt, hbel⟩ := hrel
  obtain ⟨wo, rfl⟩ : ∃ wo : World, wo = wr := ⟨_, rfl⟩
  have hol := OKL.out o hok
  have HOK := Lib.hid hok
  have HC := Lib.hid hco
  have HO := Lib.hid hown
  have HRD := Lib.hid hrd
  have HNE := Lib.hid hne
  have HB2 := Lib.hid hbel
  have hsz := hbel.size
  obtain ⟨A1, cap1, rfl, _⟩ := hown.form
  clear hok hco hown hrd hne hbel
  by_cases hlt : k < o.length
  ·obtain ⟨u, hu⟩ : ∃ u, o[k]? = some u := ⟨o[k], by simp⟩
   have hku : o[k] = u := by rw [List.getElem?_eq_getElem hlt] at hu; injection hu
   have HCF : Hid (canO g = canF g.2.2 ls (41 - (k + 1)) (k + 1) (ls.foldl (cstep g.2.2 u) o)) := Lib.hid (by
    rw [HC.out, show 41 - k = (41 - (k + 1)) + 1 by omega, canF_step _ _ _ _ _ hlt, hku])
   have HPU : Hid (∀ m : Nat, (((ls.take m).foldl (cstep g.2.2 u) o))[k]? = some u) := Lib.hid fun m => cfold_prefix _ _ _ _ _ _ hu
   have HSU : Hid (∀ (m : Nat) (hm : m < ls.length), (ls.take (m + 1)).foldl (cstep g.2.2 u) o = cstep g.2.2 u ((ls.take m).foldl (cstep g.2.2 u) o) ls[m]) := Lib.hid fun m hm => cfold_succ _ _ _ _ _ hm
   have HOKm : Hid (∀ m : Nat, OrdOk g.2.1 ((ls.take m).foldl (cstep g.2.2 u) o)) := Lib.hid fun m => OKS.out u o m HOK.out
   clear hu hku
   go_wp2
   go_loopw [3, 6] (fun out j wr => ∃ m : Nat, m ≤ ls.length ∧ j = .int .i64 m ∧ OwI wr (w.heap.size + 1) out ((ls.take m).foldl (cstep g.2.2 u) o) ∧ RdI wr (.slice (some ⟨bl, 0, none⟩) ls.length capl) ls ∧ out.ownBlock ≠ some bl ∧ bl < wr.heap.size ∧ Below (w.heap.size + 1) wo wr) (fun _ j _ => ls.length - (intOf j).toNat)
   case atStart => exact ⟨0, Nat.zero_le _, rfl, HO.out, HRD.out, HNE.out, hblt, Below.refl _ _⟩
   case round =>
    obtain ⟨m, hm1, rfl, hown, hrd, hne, hblr, hbi⟩ := hrel
    have hsi := hbi.size
    have HBI := Lib.hid hbi
    have HB4 := Lib.hid (HB3.out.trans ((HB2.out.trans hbi).mono (by omega)))
    have hws : w.heap.size < wr.heap.size := by omega
    have hbb := HB2.out.trans hbi
    have p0 := (hbb.cell (p := ⟨w.heap.size, 0, none⟩) (show w.heap.size < w.heap.size + 1 by omega)).trans Q0.out
    have p1 := (hbb.cell (p := ⟨w.heap.size, 1, none⟩) (show w.heap.size < w.heap.size + 1 by omega)).trans Q1.out
    have p2 := (hbb.cell (p := ⟨w.heap.size, 2, none⟩) (show w.heap.size < w.heap.size + 1 by omega)).trans Q2.out
    have HRR := Lib.hid hrd
    have HNR := Lib.hid hne
    clear hbi hbb
    by_cases hlt2 : m < ls.length
    ·have hokm := HOKm.out m
     have hlm := OKL.out _ hokm
     have hpu := HPU.out m
     have HS := Lib.hid (HSU.out m hlt2)
     obtain ⟨_, _, hAl, _, hcl⟩ := hrd.at (by omega)
     obtain ⟨rfl, rfl⟩ : bl = _ ∧ 0 = _ := by simpa using hAl
     have c0 := hcl m hlt2
     rw [Nat.zero_add] at c0
     generalize ls[m] = x at c0 HS
     generalize (ls.take m).foldl (cstep g.2.2 u) o = om at *
     have hkm : k < om.length := (List.getElem?_eq_some_iff.1 hpu).1
     have hkg : om[k] = u := by rw [List.getElem?_eq_getElem hkm] at hpu; injection hpu
     have HOM := Lib.hid hown
     obtain ⟨A2, cap2, rfl, _, _, _, hf2⟩ := hown.form
     obtain ⟨b2, rfl, hb21, hb22⟩ := hf2 (by omega)
     have d0 := hown.cellAt k hkm
     rw [hkg] at d0
     have NX := Lib.hid (NV.out u x)
     have N0 := Lib.hid (cstep_no (es := g.2.2) (u := u) (x := x) (o := om))
     have N1 := Lib.hid (cstep_in (es := g.2.2) (u := u) (x := x) (o := om))
     have N2 := Lib.hid (cstep_new (es := g.2.2) (u := u) (x := x) (o := om))
     have HNX := Lib.hid (fun W (h : ArgG W (.agg #[.int .i64 g.1, .int .i64 g.2.1, .slice A g.2.2.length cap]) g) => specNextVertex_any _ g u x W h (ONE.out u x))
     clear hcl hAl hown hrd hf2 hpu hkg hokm
     go_wp2_with fail
     have f0 := BelW.cell p0 hws
     have f1 := BelW.cell p1 hws
     have f2 := BelW.cell p2 hws
     have f3 := BelW.cell c0 hblr
     have f4 := BelW.cell d0 hb22
     (refine wp_region_quiet_bel (by kernel_rfl) (by kernel_rfl) ?_; (repeat (go_big_quiet_step (first | (go_at_call 58; exact Calls.bel_of (HNX.out _ (HG.out.below (HB4.out.trans ((BelW.h _).mono (by omega))))))))); refine wpQuiet_nil ?_; intro wq hw'; obtain ⟨pq, hw''⟩ := hw'; have bq := pq.h; rw [← hw''] at bq; clear hw'' pq)
     clear f0 f1 f2 f3 f4 p0 p1 p2 c0 d0
     have sq := bq.size
     have HQ := Lib.hid (HBI.out.trans (bq.mono (by omega)))
     have HOQ := Lib.hid (HOM.out.below bq)
     have HRQ := Lib.hid (HRR.out.below bq)
     clear bq
     generalize nextV g.2.2 u x = y at *
     rcases NX.out with hy | hy
     ·subst hy
      have F := Lib.hid (N0.out (by omega))
      go_wp2
      go_roundw
      case rel => exact ⟨m + 1, by omega, by go_num, by rw [HS.out, F.out]; exact HOQ.out, HRQ.out, HNR.out, by omega, HQ.out⟩
      case measure => simp [intOf]; omega
     ·have hy0 : (0 : Int) ≤ y := hy.1
      have hy41 : y < 41 := hy.2
      go_wp2_with fail
      refine (l4Has_any _ om y _ HOQ.out.rd.arg (by omega)).mono ?_
      rintro e' w' ⟨rfl, rfl⟩
      rcases h1 : hasB om y with _ | _
      ·have F := Lib.hid (N2.out hy0 h1)
       have HY : Hid (I64 y) := Lib.hid ⟨by omega, by omega⟩
       go_wp2_with (at_builtin; refine push_int rfl (.tmp 46) (.tmp 48) rfl _ _ _ (OwI.alloc HOQ.out _) rfl _ _ rfl (cell_new1 _ _ _) HY.out (by first | omega | (simp <;> omega)) (by first | omega | (simp <;> omega)) ?_; intro v9 wv9 o9 g9 p9)
       have hz9 := g9.size
       simp at hz9
       go_roundw
       case rel =>
        refine ⟨m + 1, by omega, by go_num, by rw [HS.out, F.out]; exact o9, (HRQ.out.alloc _).grown g9 (fun b hb hb' => ?_), fun e => ?_, by omega, bel_push HQ.out (by omega) HOQ.out.1 (Nat.le_refl _) g9⟩
        ·simp [Value.ownBlock] at hb hb'
         have := HNR.out
         simp [Value.ownBlock] at this
         omega
        ·rcases p9 with p9 | p9
         ·rw [p9] at e; exact HNR.out e
         ·rw [p9] at e; simp at e; omega
       case measure => simp [intOf]; omega
      ·have F := Lib.hid (N1.out hy0 h1)
       go_wp2
       go_roundw
       case rel => exact ⟨m + 1, by omega, by go_num, by rw [HS.out, F.out]; exact HOQ.out, HRQ.out, HNR.out, by omega, HQ.out⟩
       case measure => simp [intOf]; omega
    ·obtain rfl : m = ls.length := by omega
     rw [List.take_length] at hown
     have hokm := HOKm.out ls.length
     rw [List.take_length] at hokm
     have HOKF := Lib.hid hokm
     have HOM := Lib.hid hown
     have hlen : k + 1 ≤ (ls.foldl (cstep g.2.2 u) o).length := by
      have := HPU.out ls.length
      rw [List.take_length] at this
      have := (List.getElem?_eq_some_iff.1 this).1
      omega
     obtain ⟨A2, cap2, rfl, _⟩ := hown.form
     clear hown hrd hne hokm p0 p1 p2
     go_wp2
     go_roundw
     case rel => exact ⟨k + 1, _, hlen, by go_num, HOKF.out, HCF.out, HOM.out, HRR.out, HNR.out, hblr, HB2.out.trans HBI.out⟩
     case measure => simp [intOf]; omega
  ·obtain rfl : k = o.length := by omega
   have F : Hid (canO g = o) := Lib.hid (by rw [HC.out, canF_end])
   go_wp2
   go_ret
   exact ⟨_, rfl, by rw [F.out]; exact HO.out.mono (by omega), HB3.out.trans (HB2.out.mono (by omega))⟩
end Go.Proofs.YtfadnkjlilhneaaGreat
