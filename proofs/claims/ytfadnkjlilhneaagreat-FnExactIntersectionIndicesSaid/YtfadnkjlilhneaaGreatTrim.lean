/- The program's TrimGraph, at a graph. Plain: a graph trimmed, leaf by leaf. The program's joined. The program's row of what hangs together with a vertex: rows of bools of one's own; the law; the walk of joined. -/
import Derived.Test.YtfadnkjlilhneaaGreatRenQ
import Derived.Test.YtfadnkjlilhneaaGreatCanP
import Derived.Test.YtfadnkjlilhneaaGreatRen
import Derived.Test.YtfadnkjlilhneaaGreatRankS
import Derived.Test.YtfadnkjlilhneaaGreatPart
namespace Go.Proofs.YtfadnkjlilhneaaGreat
set_option maxRecDepth 20000
set_option linter.unusedVariables false
set_option linter.unusedSimpArgs false
open Go.RowKit

def bools (bs : List Bool) : List Value := bs.map Value.bool
def OwB (w : World) (base : Nat) (v : Value) (bs : List Bool) : Prop := w.ownsRow base 4 1 v bs.length (bools bs)
section
variable {w w' : World} {base n g cap : Nat} {v : Value} {bs : List Bool}
theorem OwB.len (h : OwB w base (.slice (some ⟨g, 0, none⟩) n cap) bs) : n = bs.length := by
 rcases h.2 with ⟨hv, _⟩ | ⟨g', cap', cur, hv, _⟩
 ·cases hv
 ·injection hv
theorem OwB.set (h : OwB w base (.slice (some ⟨g, 0, none⟩) n cap) bs) (j : Nat) (z : Bool) :
  OwB (w.setCell ⟨g, j, none⟩ (.bool z)) base (.slice (some ⟨g, 0, none⟩) n cap) (bs.set j z) ∧ w.grownBy (w.setCell ⟨g, j, none⟩ (.bool z)) (some g) := by
 have hn := h.len
 subst hn
 obtain ⟨h1, h2⟩ := World.ownsRow.stored h j (.bool z)
 refine ⟨?_, h2⟩
 unfold OwB
 rw [List.length_set]
 simpa [bools, List.map_set] using h1
theorem OwB.cellAt (h : OwB w base (.slice (some ⟨g, 0, none⟩) n cap) bs) (j : Nat) (hj : j < bs.length) : w.cell? ⟨g, j, none⟩ = some (.bool bs[j]) := by
 have hn := h.len
 subst hn
 rw [World.ownsRow.cellAt h j (by omega)]
 simp [bools, hj]
theorem OwB.free (h : OwB w base (.slice (some ⟨g, 0, none⟩) n cap) bs) (j : Nat) : w.frozen? ⟨g, j, none⟩ = false := by
 have hn := h.len
 subst hn
 exact World.ownsRow.frozenAt h j
end
theorem OwB.below {w w' : World} {base : Nat} {v : Value} {bs : List Bool} (h : OwB w base v bs) (hb : Below w.heap.size w w') : OwB w' base v bs := ownsRow_below h hb
theorem OwB.mono {w : World} {base base' : Nat} {v : Value} {bs : List Bool} (h : OwB w base v bs) (hb : base' ≤ base) : OwB w base' v bs := by
 refine ⟨h.1, ?_⟩
 rcases h.2 with h0 | ⟨g, cap, cur, hv, hg, r⟩
 ·exact .inl h0
 ·exact .inr ⟨g, cap, cur, hv, by omega, r⟩
def cellF (w : World) (b v : Nat) : Nat := match w.cell? ⟨b, v, none⟩ with
 | some (.bool false) => 1
 | _ => 0
def mB (w : World) (b n : Nat) : Nat := ((List.range n).map (cellF w b)).sum
theorem sum_count (bs : List Bool) : (bs.map fun b => if b = false then 1 else 0).sum = bs.count false := by
 induction bs with
 | nil => rfl
 | cons b bs ih => cases b <;> simp [ih]; omega
theorem mB_eq {w : World} {base g n cap : Nat} {bs : List Bool} (h : OwB w base (.slice (some ⟨g, 0, none⟩) n cap) bs) : mB w g bs.length = bs.count false := by
 rw [← sum_count]
 unfold mB
 congr 1
 refine List.ext_getElem (by simp) fun i h1 h2 => ?_
 have hi : i < bs.length := by simpa using h2
 simp only [List.getElem_map, List.getElem_range]
 unfold cellF
 rw [h.cellAt i hi]
 cases bs[i] <;> rfl
def JI (es : List EdD) (n : Nat) (bs : List Bool) : Prop := bs.length = n ∧ bs[0]? = some true ∧ ∀ v : Nat, bs[v]? = some true → Conn es 0 v
theorem set_true_get {bs : List Bool} {a v : Nat} : (bs.set a true)[v]? = some true ↔ (v = a ∧ a < bs.length) ∨ bs[v]? = some true := by
 rw [List.getElem?_set]
 by_cases e : a = v
 ·subst e
  by_cases hl : a < bs.length
  ·simp [hl]
  ·simp [hl]
 ·rw [if_neg e]
  constructor
  ·exact .inr
  ·rintro (⟨h, _⟩ | h)
   ·exact absurd h.symm e
   ·exact h
theorem count_set_true {bs : List Bool} {a : Nat} (ha : a < bs.length) : (bs.set a true).count false + (if bs[a] = false then 1 else 0) = bs.count false := by
 induction bs generalizing a with
 | nil => simp at ha
 | cons b bs ih =>
   cases a with
   | zero => cases b <;> simp
   | succ a =>
     have := ih (a := a) (by simpa using ha)
     cases b <;> simp [List.count_cons] <;> omega
theorem JI.step {es : List EdD} {n a c : Nat} {bs : List Bool} {l : Int} (h : JI es n bs) (he : ((a : Int), l, (c : Int)) ∈ es) (ha : a < n) (hc : c < n) (hne : bs[a]? ≠ bs[c]?) :
  JI es n ((bs.set a true).set c true) ∧ ((bs.set a true).set c true).count false < bs.count false := by
 obtain ⟨h1, h2, h3⟩ := h
 have hla : a < bs.length := by omega
 have hlc : c < bs.length := by omega
 have e1 : bs[a]? = some bs[a] := by simp [hla]
 have e2 : bs[c]? = some bs[c] := by simp [hlc]
 have hor : bs[a]? = some true ∨ bs[c]? = some true := by
  rw [e1, e2] at hne ⊢
  cases h : bs[a] <;> cases h' : bs[c] <;> simp [h, h'] at hne ⊢
 refine ⟨⟨by simp [h1], ?_, fun v hv => ?_⟩, ?_⟩
 ·rw [set_true_get, set_true_get]
  exact .inr (.inr h2)
 ·rw [set_true_get, set_true_get] at hv
  rcases hv with ⟨rfl, _⟩ | ⟨rfl, _⟩ | hv
  ·rcases hor with h | h
   ·exact Conn.fwd _ he (h3 _ h)
   ·exact h3 _ h
  ·rcases hor with h | h
   ·exact h3 _ h
   ·exact Conn.back _ he (h3 _ h)
  ·exact h3 _ hv
 ·have k1 := count_set_true hla
  have k2 := count_set_true (bs := bs.set a true) (a := c) (by simpa using hlc)
  rw [e1, e2] at hne
  have hac : a ≠ c := fun e => by subst e; exact hne rfl
  have k3 : (bs.set a true)[c]'(by simpa using hlc) = bs[c] := by rw [List.getElem_set_ne hac]
  rw [k3] at k2
  cases h : bs[a] <;> cases h' : bs[c] <;> simp [h, h'] at hne k1 k2 <;> omega
theorem JI.done {es : List EdD} {n : Nat} {bs : List Bool} (h : JI es n bs) (hr : ∀ e ∈ es, 0 ≤ e.1 ∧ 0 ≤ e.2.2) (hcl : ∀ e ∈ es, bs[e.1.toNat]? = bs[e.2.2.toNat]?) :
  ∀ v (hv : v < bs.length), bs[v] = hasB (reachL es 0) v := by
 intro v hv
 have key : bs[v]? = some true ↔ Conn es 0 v := by
  refine ⟨h.2.2 v, fun hc => ?_⟩
  have := conn_of_closed (S := fun x => 0 ≤ x → bs[x.toNat]? = some true) (v := 0) (fun _ => h.2.1) ?_ hc (by omega)
  ·simpa using this
  ·intro e he
   obtain ⟨a, b⟩ := hr e he
   have := hcl e he
   exact ⟨fun hx _ => by rw [← this]; exact hx a, fun hx _ => by rw [this]; exact hx b⟩
 rw [Bool.eq_iff_iff, hasB_iff, reachL_mem, ← key]
 simp [hv]
theorem heapSize_setCell' (w : World) (a : Addr) (u : Value) : (w.setCell a u).heap.size = w.heap.size := by simp
theorem bool_info : (Tryz.prog.info? 4).map (fun i => (i.zero, i.size, i.bytes)) = some (some (.bool false), 1, 1) := by kernel_rfl
def joinL (g : GrD) : List Bool := (List.range g.2.1.toNat).map fun v => hasB (reachL g.2.2 0) (v : Nat)
theorem joinL_of {g : GrD} {bs : List Bool} (hl : bs.length = g.2.1.toNat) (h : ∀ v (hv : v < bs.length), bs[v] = hasB (reachL g.2.2 0) v) : bs = joinL g := by
 refine List.ext_getElem (by simp [joinL, hl]) fun i h1 h2 => ?_
 rw [h i h1]
 simp [joinL]
set_option maxHeartbeats 1000000 in
theorem joined_any (v : Value) (g : GrD) (w : World) (h : ArgG w v g) (hg : grB g = true) :
  Calls Tryz.prog 100 #[v, .int .i64 0] w fun e w' => ∃ r, e = .returned r ∧ OwB w' w.heap.size r (joinL g) ∧ Below w.heap.size w w' := by
 have HG := Lib.hid h
 obtain ⟨hr13, hsz40, hl120, _⟩ := grB_parts hg
 have HED := Lib.hid (fun e he => edge_of_gr hg (e := e) he)
 have HJ : Hid (∀ bs : List Bool, bs.length = g.2.1.toNat → (∀ v (hv : v < bs.length), bs[v] = hasB (reachL g.2.2 0) v) → bs = joinL g) := Lib.hid fun bs => joinL_of
 generalize joinL g = JL at *
 clear hg h
 obtain ⟨r, n, es⟩ := g
 simp only at hr13 hsz40 hl120 HG HED HJ
 obtain ⟨N, rfl⟩ : ∃ N : Nat, n = (N : Int) := ⟨n.toNat, by omega⟩
 have hN1 : 1 ≤ N := by omega
 have hN2 : N ≤ 40 := by omega
 clear hsz40 hr13
 obtain ⟨A, cap, rfl, HE⟩ : ∃ A cap, v = .agg #[.int .i64 r, .int .i64 N, .slice A es.length cap] ∧ Hid (ArgE w (.slice A es.length cap) es) := by
  obtain ⟨s, hv, _, _, ha⟩ := HG.out
  obtain ⟨A, cap, rfl⟩ := ha.form
  exact ⟨A, cap, hv, Lib.hid ha⟩
 have hbndE : es.length ≤ cap ∧ cap ≤ maxLen := by
  obtain ⟨_, _, hv, h1, h2, _⟩ := HE.out
  injection hv with _ _ e3
  subst e3
  exact ⟨h1, h2⟩
 obtain ⟨hcap, hm⟩ := hbndE
 unfold maxLen at hm
 have bx : Below w.heap.size w (w.alloc (Obj.cells #[Value.int IntKind.i64 r, Value.int IntKind.i64 N, .slice A es.length cap] 31)) := (by repeat (first | exact Below.refl _ _ | (refine Below.setCell ?_ (by first | omega | (simp <;> omega)) _) | (refine bel_drewN ?_ _) | (refine Below.drew ?_) | (refine Below.alloc ?_ (by first | omega | (simp <;> omega)) _)))
 go_enter Tryz.func100, Tryz.ntmps100
 obtain ⟨i0, hi0, hz0, hz1, hz2⟩ := info_parts bool_info
 go_wp2_with (at_make; refine wpList_make_full _ rfl _ _ 96 rfl (w.heap.size + 1) 4 i0 (.bool false) 1 Tryz.underlying96 hi0 hz0 hz1 _ _ _ _ N rfl rfl rfl rfl (by rw [hz2]; omega) (by unfold maxLen; omega) (by simp) ?_)
 have b1 : (w.alloc (Obj.cells #[Value.int IntKind.i64 r, Value.int IntKind.i64 N, .slice A es.length cap] 31)).cell? ⟨w.heap.size, 1, none⟩ = some (.int .i64 N) := by simp [go_sem]
 have b2 : (w.alloc (Obj.cells #[Value.int IntKind.i64 r, Value.int IntKind.i64 N, .slice A es.length cap] 31)).cell? ⟨w.heap.size, 2, none⟩ = some (.slice A es.length cap) := by simp [go_sem]
 have hsW : (w.alloc (Obj.cells #[Value.int IntKind.i64 r, Value.int IntKind.i64 N, .slice A es.length cap] 31)).heap.size = w.heap.size + 1 := by simp
 generalize w.alloc (Obj.cells #[Value.int IntKind.i64 r, Value.int IntKind.i64 N, .slice A es.length cap] 31) = w1 at bx b1 b2 hsW ⊢
 rw [← hsW]
 have hlt1 : w.heap.size < w1.heap.size := by omega
 have HSW := Lib.hid hsW
 clear hsW
 have B2 := Lib.hid b2
 have BX := Lib.hid bx
 clear b2 bx
 intro w2 hown0 hgrow0
 have own0 : OwB w2 w1.heap.size (.slice (some ⟨w1.heap.size, 0, none⟩) N N) (List.replicate N false) := by
  unfold OwB
  rw [List.length_replicate]
  have : bools (List.replicate N false) = List.replicate N (Value.bool false) := by simp [bools]
  rw [this]
  simpa [toList_madeCells_one] using hown0
 have hc0 := own0.cellAt 0 (by simp; omega)
 have hf0 := own0.free 0
 have O1 := Lib.hid (own0.set 0 true)
 have G0 := Lib.hid hgrow0
 have hP2 : w1.heap.size < w2.heap.size := (own0.lt w1.heap.size rfl).2
 have j1 : (0 : Int) < (N : Int) := by omega
 clear hown0 own0 hgrow0
 simp only [List.getElem_replicate] at hc0
 have JI0 : Hid (JI es N ((List.replicate N false).set 0 true)) := Lib.hid (by
  refine ⟨by simp, ?_, fun v hv => ?_⟩
  ·rw [set_true_get]; left; exact ⟨rfl, by simp; omega⟩
  ·rw [set_true_get] at hv
   rcases hv with ⟨rfl, _⟩ | hv
   ·exact Conn.base
   ·rw [List.getElem?_replicate] at hv
    split at hv
    ·injection hv with hv; cases hv
    ·cases hv)
 have HR0 : Hid (∀ e ∈ es, 0 ≤ e.1 ∧ 0 ≤ e.2.2) := Lib.hid fun e he => by have := HED.out e he; omega
 go_wp2
 go_loopw [6] (fun a wr => ∃ (ag : Bool) (bs : List Bool), a = .bool ag ∧ JI es N bs ∧ OwB wr w1.heap.size (.slice (some ⟨w1.heap.size, 0, none⟩) N N) bs ∧ Below w1.heap.size w1 wr ∧ (ag = false → ∀ e ∈ es, bs[e.1.toNat]? = bs[e.2.2.toNat]?)) (fun a wr => 2 * mB wr w1.heap.size N + (match a with | .bool true => 1 | _ => 0))
 case atStart => exact ⟨true, _, rfl, JI0.out, O1.out.1, ((Below.refl _ _).grown G0.out (Nat.le_refl _) (fun k h => by cases h)).grown O1.out.2 (by omega) (fun k h => by cases h; omega), fun h => by cases h⟩
 case round =>
  obtain ⟨ag, bs, rfl, hji, hown, hbel, hcl⟩ := hrel
  have HJI := Lib.hid hji
  have HO := Lib.hid hown
  have HB := Lib.hid hbel
  have HCL := Lib.hid hcl
  have hbl := hji.1
  have hm0 := mB_eq hown
  rw [hbl] at hm0
  have HM := Lib.hid hm0
  clear hm0
  clear hji hown hcl
  cases ag with
  | false =>
    have HF : Hid (bs = JL) := Lib.hid (HJ.out bs (by simpa using hbl) (HJI.out.done HR0.out (HCL.out rfl)))
    have BB : Hid (Below w.heap.size w wr) := Lib.hid (BX.out.trans (hbel.mono (by omega)))
    have hbase : w.heap.size ≤ w1.heap.size := by omega
    clear hbel
    have HOJ : Hid (OwB wr w.heap.size (.slice (some ⟨w1.heap.size, 0, none⟩) N N) JL) := Lib.hid (by rw [← HF.out]; exact HO.out.mono hbase)
    go_wp2
    exact bodyPost_ret (v := .slice (some ⟨w1.heap.size, 0, none⟩) N N) (by simp [results, Tryz.results100]) rfl ⟨_, rfl, HOJ.out, BB.out⟩
  | true =>
    have q2 := (hbel.cell (p := ⟨w.heap.size, 2, none⟩) (show w.heap.size < w1.heap.size from hlt1)).trans B2.out
    clear hbel hbl
    obtain ⟨wo, hwo⟩ : ∃ wo : World, wo = wr := ⟨_, rfl⟩
    have HWO := Lib.hid hwo
    clear hwo
    go_wp2
    go_loopw [6, 19] (fun a i wr => ∃ (k : Nat) (ag : Bool) (b2 : List Bool), k ≤ es.length ∧ i = .int .i64 k ∧ a = .bool ag ∧ JI es N b2 ∧ OwB wr w1.heap.size (.slice (some ⟨w1.heap.size, 0, none⟩) N N) b2 ∧ Below w1.heap.size w1 wr ∧ b2.count false ≤ bs.count false ∧ (ag = true → b2.count false < bs.count false) ∧ (ag = false → ∀ j (hj : j < es.length), j < k → b2[es[j].1.toNat]? = b2[es[j].2.2.toNat]?)) (fun _ i _ => es.length - (intOf i).toNat)
    case atStart => exact ⟨0, false, bs, Nat.zero_le _, rfl, rfl, HJI.out, HO.out, HB.out, Nat.le_refl _, (fun h => by cases h), fun _ j hj h => absurd h (by omega)⟩
    case round =>
     obtain ⟨k, ag, b2, hk, rfl, rfl, hji2, hown2, hbel2, hle2, hlt2, hcl2⟩ := hrel
     have HJ2 := Lib.hid hji2
     have HO2 := Lib.hid hown2
     have HB2 := Lib.hid hbel2
     have HLE := Lib.hid hle2
     have HLT := Lib.hid hlt2
     have HC2 := Lib.hid hcl2
     have hbl2 := hji2.1
     have hP := (hown2.lt w1.heap.size rfl).2
     have s12 := hbel2.size
     clear hji2 hle2 hlt2 hcl2
     by_cases hlt : k < es.length
     ·obtain ⟨be, offe, rfl, hbe, c0, c1, c2, he64⟩ := (HE.out.below (BX.out.trans (hbel2.mono (by omega)))).at hlt
      obtain ⟨e1, e2, e3⟩ := HED.out es[k] (by simp)
      have hmem : es[k] ∈ es := by simp
      have HX : Hid (∃ x, es[k] = x) := Lib.hid ⟨_, rfl⟩
      generalize hx : es[k] = e at c0 c1 c2 he64 e1 e2 e3 hmem
      have HX := Lib.hid hx
      clear hx
      obtain ⟨f, l, t⟩ := e
      simp only at e1 e2 e3 c0 c1 c2
      obtain ⟨a, rfl⟩ : ∃ a : Nat, f = (a : Int) := ⟨f.toNat, by omega⟩
      obtain ⟨c, rfl⟩ : ∃ c : Nat, t = (c : Int) := ⟨t.toNat, by omega⟩
      have ha : a < b2.length := by omega
      have hc : c < b2.length := by omega
      have ca := hown2.cellAt a ha
      have cc := hown2.cellAt c hc
      have ga : b2[a]? = some b2[a] := by simp [ha]
      have gc : b2[c]? = some b2[c] := by simp [hc]
      have GA := Lib.hid ga
      have GC := Lib.hid gc
      have ja : (a : Int) < (N : Int) := by omega
      have jc : (c : Int) < (N : Int) := by omega
      have ja0 : (0 : Int) ≤ (a : Int) := by omega
      have jc0 : (0 : Int) ≤ (c : Int) := by omega
      have hfa := hown2.free a
      have hfc := hown2.free c
      have HSTEP : Hid (b2[a]? ≠ b2[c]? → JI es N ((b2.set a true).set c true) ∧ ((b2.set a true).set c true).count false < b2.count false) := Lib.hid fun h => HJ2.out.step hmem (by omega) (by omega) h
      have HMEM := Lib.hid hmem
      have bA : Below wr.heap.size wr (wr.alloc (Obj.cells #[Value.int IntKind.i64 a, Value.int IntKind.i64 l, Value.int IntKind.i64 c] 54)) := (Below.refl _ _).alloc (Nat.le_refl _) _
      have BA := Lib.hid bA
      generalize b2[a] = ba at *
      generalize b2[c] = bc at *
      clear ga gc he64 hown2 hbel2 hmem bA ha hc hbl2
      go_wp2_with fail
      have l0 : (wr.alloc (Obj.cells #[Value.int IntKind.i64 a, Value.int IntKind.i64 l, Value.int IntKind.i64 c] 54)).cell? ⟨wr.heap.size, 0, none⟩ = some (.int .i64 a) := by simp [go_sem]
      have l2 : (wr.alloc (Obj.cells #[Value.int IntKind.i64 a, Value.int IntKind.i64 l, Value.int IntKind.i64 c] 54)).cell? ⟨wr.heap.size, 2, none⟩ = some (.int .i64 c) := by simp [go_sem]
      have la := (BA.out.cell (p := ⟨w1.heap.size, a, none⟩) hP).trans ca
      have lc := (BA.out.cell (p := ⟨w1.heap.size, c, none⟩) hP).trans cc
      have lfa := (BA.out.frozen (p := ⟨w1.heap.size, a, none⟩) hP).trans hfa
      have lfc := (BA.out.frozen (p := ⟨w1.heap.size, c, none⟩) hP).trans hfc
      have hsA : wr.heap.size < (wr.alloc (Obj.cells #[Value.int IntKind.i64 a, Value.int IntKind.i64 l, Value.int IntKind.i64 c] 54)).heap.size := by simp
      clear ca cc hfa hfc c0 c1 c2
      generalize wr.alloc (Obj.cells #[Value.int IntKind.i64 a, Value.int IntKind.i64 l, Value.int IntKind.i64 c] 54) = W at BA l0 l2 la lc lfa lfc hsA ⊢
      have hPW : w1.heap.size < W.heap.size := by omega
      have hne1 : wr.heap.size ≠ w1.heap.size := by omega
      cases ba <;> cases bc
      ·have CLX : Hid (b2[a]? = b2[c]?) := Lib.hid (by rw [GA.out, GC.out])
       go_quiet (fail)
       go_wp2
       go_roundw
       case rel =>
        refine ⟨k + 1, ag, b2, by omega, by go_num, rfl, HJ2.out, HO2.out.below (bel_drewN BA.out _), HB2.out.trans ((bel_drewN BA.out _).mono (by omega)), HLE.out, HLT.out, fun h j hj hjk => ?_⟩
        rcases Nat.lt_or_eq_of_le (Nat.le_of_lt_succ hjk) with h2 | rfl
        ·exact HC2.out h j hj h2
        ·rw [HX.out]; simpa using CLX.out
       case measure => simp [intOf]; omega
      ·have STP := Lib.hid (HSTEP.out (by rw [GA.out, GC.out]; simp))
       go_quiet (fail)
       have O3 := Lib.hid ((HO2.out.below (bel_drewN BA.out nq)).set a true)
       have O4 := Lib.hid (O3.out.1.set c true)
       have l9 := O3.out.1.cellAt c (by rw [List.length_set]; have := HJ2.out.1; omega)
       have f9 := O3.out.1.free c
       generalize (b2.set a true)[c]'(by rw [List.length_set]; have := HJ2.out.1; omega) = z9 at l9
       go_wp2
       go_roundw
       case rel =>
        refine ⟨k + 1, true, _, by omega, by go_num, rfl, STP.out.1, O4.out.1, ?_, ?_, fun _ => ?_, fun h => by cases h⟩
        ·have b5 := HB2.out.trans ((bel_drewN BA.out nq).mono (by omega))
         exact (b5.grown O3.out.2 (show w1.heap.size ≤ W.heap.size by omega) (fun j hj => by cases hj; exact Nat.le_refl _)).grown O4.out.2 (by rw [heapSize_setCell']; exact Nat.le_of_lt hPW) (fun j hj => by cases hj; exact Nat.le_refl _)
        ·have := STP.out.2; have := HLE.out; omega
        ·have := STP.out.2; have := HLE.out; omega
       case measure => simp [intOf]; omega
      ·have STP := Lib.hid (HSTEP.out (by rw [GA.out, GC.out]; simp))
       go_quiet (fail)
       have O3 := Lib.hid ((HO2.out.below (bel_drewN BA.out nq)).set a true)
       have O4 := Lib.hid (O3.out.1.set c true)
       have l9 := O3.out.1.cellAt c (by rw [List.length_set]; have := HJ2.out.1; omega)
       have f9 := O3.out.1.free c
       generalize (b2.set a true)[c]'(by rw [List.length_set]; have := HJ2.out.1; omega) = z9 at l9
       go_wp2
       go_roundw
       case rel =>
        refine ⟨k + 1, true, _, by omega, by go_num, rfl, STP.out.1, O4.out.1, ?_, ?_, fun _ => ?_, fun h => by cases h⟩
        ·have b5 := HB2.out.trans ((bel_drewN BA.out nq).mono (by omega))
         exact (b5.grown O3.out.2 (show w1.heap.size ≤ W.heap.size by omega) (fun j hj => by cases hj; exact Nat.le_refl _)).grown O4.out.2 (by rw [heapSize_setCell']; exact Nat.le_of_lt hPW) (fun j hj => by cases hj; exact Nat.le_refl _)
        ·have := STP.out.2; have := HLE.out; omega
        ·have := STP.out.2; have := HLE.out; omega
       case measure => simp [intOf]; omega
      ·have CLX : Hid (b2[a]? = b2[c]?) := Lib.hid (by rw [GA.out, GC.out])
       go_quiet (fail)
       go_wp2
       go_roundw
       case rel =>
        refine ⟨k + 1, ag, b2, by omega, by go_num, rfl, HJ2.out, HO2.out.below (bel_drewN BA.out _), HB2.out.trans ((bel_drewN BA.out _).mono (by omega)), HLE.out, HLT.out, fun h j hj hjk => ?_⟩
        rcases Nat.lt_or_eq_of_le (Nat.le_of_lt_succ hjk) with h2 | rfl
        ·exact HC2.out h j hj h2
        ·rw [HX.out]; simpa using CLX.out
       case measure => simp [intOf]; omega
     ·obtain rfl : k = es.length := by omega
      have hm2 := mB_eq hown2
      rw [hbl2] at hm2
      have HM2 := Lib.hid hm2
      clear hm2 hown2 hbel2
      go_wp2
      go_roundw
      case rel => exact ⟨ag, b2, rfl, HJ2.out, HO2.out, HB2.out, fun h e he => by obtain ⟨j, hj, rfl⟩ := List.getElem_of_mem he; exact HC2.out h j hj hj⟩
      case measure =>
       rw [HM.out, HM2.out]
       cases ag with
       | false =>
         have := HLE.out
         show 2 * _ + 0 < 2 * _ + 1
         omega
       | true =>
         have := HLT.out rfl
         show 2 * _ + 1 < 2 * _ + 1
         omega
theorem delO_len2 (x : Int) : ∀ n : Nat, (delO n x).length = if 0 ≤ x ∧ x < n then n - 1 else n
 | 0 => by
   rw [if_neg (by omega)]
   rfl
 | n + 1 => by
   rw [delO_succ]
   have ih := delO_len2 x n
   by_cases h : (n : Int) ≠ x
   ·rw [if_pos h, List.length_append, ih]
    by_cases h2 : 0 ≤ x ∧ x < n
    ·rw [if_pos h2, if_pos (by omega)]
     simp
     omega
    ·rw [if_neg h2, if_neg (by omega)]
     rfl
   ·rw [if_neg h, ih, if_neg (by omega), if_pos (by omega)]
    omega
def trimF : Nat → GrD → List Int → GrD × List Int
 | 0, g, l => (g, l)
 | f + 1, g, l => if leafV g.2.2 g.2.1.toNat < 0 then (g, l) else trimF f (rnG g (delO g.2.1.toNat (leafV g.2.2 g.2.1.toNat))) (l.take (leafV g.2.2 g.2.1.toNat).toNat ++ l.drop ((leafV g.2.2 g.2.1.toNat).toNat + 1))
theorem trimF_stop {g : GrD} (l : List Int) (h : leafV g.2.2 g.2.1.toNat < 0) : ∀ f, trimF f g l = (g, l)
 | 0 => rfl
 | f + 1 => by unfold trimF; rw [if_pos h]
theorem rnG_size (g : GrD) (o : List Int) : (rnG g o).2.1 = (o.length : Int) := rfl
theorem trimF_step {g : GrD} (l : List Int) {u : Nat} (hu : leafV g.2.2 g.2.1.toNat = (u : Int)) (hn : u < g.2.1.toNat) :
  trimF g.2.1.toNat g l = trimF (rnG g (delO g.2.1.toNat u)).2.1.toNat (rnG g (delO g.2.1.toNat u)) (l.take u ++ l.drop (u + 1)) := by
 rw [rnG_size, delO_len2, if_pos (by omega)]
 obtain ⟨f, hf⟩ : ∃ f, g.2.1.toNat = f + 1 := ⟨g.2.1.toNat - 1, by omega⟩
 have e : ((g.2.1.toNat - 1 : Nat) : Int).toNat = f := by omega
 rw [e]
 have e2 : trimF (f + 1) g l = if leafV g.2.2 g.2.1.toNat < 0 then (g, l) else trimF f (rnG g (delO g.2.1.toNat (leafV g.2.2 g.2.1.toNat))) (l.take (leafV g.2.2 g.2.1.toNat).toNat ++ l.drop ((leafV g.2.2 g.2.1.toNat).toNat + 1)) := rfl
 rw [show trimF g.2.1.toNat g l = trimF (f + 1) g l by rw [hf], e2, hu, if_neg (by omega)]
 simp
theorem trimF_le : ∀ (f : Nat) (g : GrD) (l : List Int), grB g = true → (trimF f g l).1.2.1 ≤ g.2.1 := by
 intro f
 induction f with
 | zero => intro g l _; exact Int.le_refl _
 | succ f ih =>
   intro g l hg
   unfold trimF
   obtain ⟨_, hsz, _, _⟩ := grB_parts hg
   rcases leafV_range g.2.2 g.2.1.toNat with h | ⟨h1, h2⟩
   ·rw [if_pos (by omega)]
    exact Int.le_refl _
   ·rw [if_neg (by omega)]
    have hd := delO_len2 (leafV g.2.2 g.2.1.toNat) g.2.1.toNat
    rw [if_pos (by omega)] at hd
    have hok := delO_ok (n := g.2.1.toNat) (by omega) h1
    rw [show ((g.2.1.toNat : Nat) : Int) = g.2.1 by omega] at hok
    have := ih (rnG g (delO g.2.1.toNat (leafV g.2.2 g.2.1.toNat))) (l.take (leafV g.2.2 g.2.1.toNat).toNat ++ l.drop ((leafV g.2.2 g.2.1.toNat).toNat + 1)) (grB_rnG hg hok)
    rw [rnG_size, hd] at this
    omega
def trimG (g : GrD) : GrD × List Int := trimF g.2.1.toNat g ((List.range g.2.1.toNat).map fun v => ((v : Nat) : Int))
theorem trimG_size {g : GrD} (hg : grB g = true) : decide ((trimG g).1.2.1 = g.2.1) = decide (leafV g.2.2 g.2.1.toNat < 0) := by
 obtain ⟨_, hsz, _, _⟩ := grB_parts hg
 unfold trimG
 rcases leafV_range g.2.2 g.2.1.toNat with h | ⟨h1, h2⟩
 ·rw [trimF_stop _ (by omega)]
  simp [h]
 ·obtain ⟨u, hu⟩ : ∃ u : Nat, leafV g.2.2 g.2.1.toNat = (u : Int) := ⟨(leafV g.2.2 g.2.1.toNat).toNat, by omega⟩
  rw [trimF_step _ hu (by omega)]
  have hok := delO_ok (n := g.2.1.toNat) (x := (u : Int)) (by omega) (by omega)
  rw [show ((g.2.1.toNat : Nat) : Int) = g.2.1 by omega] at hok
  have hd := delO_len2 (u : Int) g.2.1.toNat
  rw [if_pos (by omega)] at hd
  have := trimF_le (rnG g (delO g.2.1.toNat u)).2.1.toNat (rnG g (delO g.2.1.toNat u)) (((List.range g.2.1.toNat).map fun v => ((v : Nat) : Int)).take u ++ ((List.range g.2.1.toNat).map fun v => ((v : Nat) : Int)).drop (u + 1)) (grB_rnG hg hok)
  rw [rnG_size g, hd] at this
  have e1 : decide (leafV g.2.2 g.2.1.toNat < 0) = false := by rw [hu]; simp
  rw [e1]
  rw [decide_eq_false_iff_not]
  rw [rnG_size, hd]
  omega
def slN : Value → Nat
 | .slice _ n _ => n
 | _ => 0
def rng (n : Nat) : List Int := (List.range n).map fun v => ((v : Nat) : Int)
theorem rng_succ (n : Nat) : rng (n + 1) = rng n ++ [(n : Int)] := by simp [rng, List.range_succ]
theorem rng_len (n : Nat) : (rng n).length = n := by simp [rng]
theorem joinL_get {g : GrD} (k : Nat) (h : k < g.2.1.toNat) : (joinL g)[k]'(by simpa [joinL] using h) = hasB (reachL g.2.2 0) k := by simp [joinL]
theorem joinL_len (g : GrD) : (joinL g).length = g.2.1.toNat := by simp [joinL]
set_option maxHeartbeats 2000000 in
theorem trimGraph_any (v : Value) (g : GrD) (w : World) (h : ArgG w v g) (hg : grB g = true) :
  Calls Tryz.prog 63 #[v] w fun e w' => ∃ r l, e = .returned (.tuple #[r, l]) ∧ OwG w' w.heap.size r (trimG g).1 ∧ OwI w' w.heap.size l (trimG g).2 ∧ Below w.heap.size w w' := by
 have HG := Lib.hid h
 have HGR := Lib.hid hg
 obtain ⟨hr13, hsz40, hl120, _⟩ := grB_parts hg
 have HT : Hid (trimG g = trimF g.2.1.toNat g (rng g.2.1.toNat)) := Lib.hid rfl
 generalize trimG g = R at *
 clear hg h
 obtain ⟨r, n, es⟩ := g
 simp only at hr13 hsz40 hl120 HG HT
 obtain ⟨N, rfl⟩ : ∃ N : Nat, n = (N : Int) := ⟨n.toNat, by omega⟩
 simp only [Int.toNat_natCast] at HT
 have hN1 : 1 ≤ N := by omega
 have hN2 : N ≤ 40 := by omega
 clear hsz40
 obtain ⟨A, cap, rfl⟩ : ∃ A cap, v = .agg #[.int .i64 r, .int .i64 N, .slice A es.length cap] := by
  obtain ⟨s, hv, _, _, ha⟩ := HG.out
  obtain ⟨A, cap, rfl⟩ := ha.form
  exact ⟨A, cap, hv⟩
 have bx : Below w.heap.size w ((w.alloc (Obj.cells #[Value.int IntKind.i64 r, Value.int IntKind.i64 N, .slice A es.length cap] 31)).alloc (Obj.cells #[Value.int IntKind.i64 0, Value.int IntKind.i64 0, .slice none 0 0] 31)) := (by repeat (first | exact Below.refl _ _ | (refine Below.setCell ?_ (by first | omega | (simp <;> omega)) _) | (refine bel_drewN ?_ _) | (refine Below.drew ?_) | (refine Below.alloc ?_ (by first | omega | (simp <;> omega)) _)))
 go_enter Tryz.func63, Tryz.ntmps63
 go_wp2_with fail
 obtain ⟨W0, hW0⟩ : ∃ W, W = (w.alloc (Obj.cells #[Value.int IntKind.i64 r, Value.int IntKind.i64 N, .slice A es.length cap] 31)).alloc (Obj.cells #[Value.int IntKind.i64 0, Value.int IntKind.i64 0, .slice none 0 0] 31) := ⟨_, rfl⟩
 rw [← hW0] at bx ⊢
 have hsW : W0.heap.size = w.heap.size + 1 + 1 := by rw [hW0]; simp
 have B0 : Hid (W0.cell? ⟨w.heap.size, 0, none⟩ = some (.int .i64 r)) := Lib.hid (by rw [hW0]; simp [go_sem])
 have B1 : Hid (W0.cell? ⟨w.heap.size, 1, none⟩ = some (.int .i64 N)) := Lib.hid (by rw [hW0]; simp [go_sem])
 have B2 : Hid (W0.cell? ⟨w.heap.size, 2, none⟩ = some (.slice A es.length cap)) := Lib.hid (by rw [hW0]; simp [go_sem])
 have R0 : Hid (W0.cell? ⟨w.heap.size + 1, 0, none⟩ = some (.int .i64 0)) := Lib.hid (by rw [hW0]; simp [go_sem])
 have R1 : Hid (W0.cell? ⟨w.heap.size + 1, 1, none⟩ = some (.int .i64 0)) := Lib.hid (by rw [hW0]; simp [go_sem])
 have R2 : Hid (W0.cell? ⟨w.heap.size + 1, 2, none⟩ = some (.slice none 0 0)) := Lib.hid (by rw [hW0]; simp [go_sem])
 have RF : Hid (∀ j, W0.frozen? ⟨w.heap.size + 1, j, none⟩ = false) := Lib.hid fun j => by rw [hW0]; simp [go_sem]
 clear hW0
 have BX := Lib.hid bx
 have HSW := Lib.hid hsW
 have hltw : w.heap.size < W0.heap.size := by omega
 have hltw1 : w.heap.size + 1 < W0.heap.size := by omega
 refine (copyGraph_any _ (r, (N : Int), es) W0 (HG.out.below bx) (by simp only; omega)).mono ?_
 clear bx hsW
 rintro e w1 ⟨r1, rfl, o1, b1⟩
 obtain ⟨s1, rfl, hi1, hi2, oe⟩ := o1
 simp only at hi1 hi2 oe ⊢
 obtain ⟨A1, cap1, rfl, hcap1, hm1, _⟩ := OwE.form oe
 have OE := Lib.hid oe
 have hlt1 : ∀ b, (Value.slice A1 es.length cap1).ownBlock = some b → b < w1.heap.size := fun b hb => (oe.1.lt b hb).2
 have q0 := (b1.cell (p := ⟨w.heap.size, 0, none⟩) hltw).trans B0.out
 have q1 := (b1.cell (p := ⟨w.heap.size, 1, none⟩) hltw).trans B1.out
 have q2 := (b1.cell (p := ⟨w.heap.size, 2, none⟩) hltw).trans B2.out
 have RQ0 := Lib.hid ((b1.cell (p := ⟨w.heap.size + 1, 0, none⟩) hltw1).trans R0.out)
 have RQ1 := Lib.hid ((b1.cell (p := ⟨w.heap.size + 1, 1, none⟩) hltw1).trans R1.out)
 have RQ2 := Lib.hid ((b1.cell (p := ⟨w.heap.size + 1, 2, none⟩) hltw1).trans R2.out)
 have RQF : Hid (∀ j, w1.frozen? ⟨w.heap.size + 1, j, none⟩ = false) := Lib.hid fun j => (b1.frozen (p := ⟨w.heap.size + 1, j, none⟩) hltw1).trans (RF.out j)
 have HB1 : Hid (Below w.heap.size w w1) := Lib.hid (BX.out.trans (b1.mono (by omega)))
 have s1 := b1.size
 have HLT1 := Lib.hid hlt1
 clear oe hlt1 b1 B0 B1 B2 R0 R1 R2 RF
 have hw1 : w.heap.size < w1.heap.size := by omega
 have hw11 : w.heap.size + 1 < w1.heap.size := by omega
 go_wp2_with fail
 have bA : Below w1.heap.size w1 ((w1.alloc (Obj.cells #[Value.int IntKind.i64 r, Value.int IntKind.i64 N, .slice A1 es.length cap1] 31)).alloc (Obj.cells #[] 3)) := (by repeat (first | exact Below.refl _ _ | (refine Below.setCell ?_ (by first | omega | (simp <;> omega)) _) | (refine bel_drewN ?_ _) | (refine Below.drew ?_) | (refine Below.alloc ?_ (by first | omega | (simp <;> omega)) _)))
 obtain ⟨W2, hW2⟩ : ∃ W, W = (w1.alloc (Obj.cells #[Value.int IntKind.i64 r, Value.int IntKind.i64 N, .slice A1 es.length cap1] 31)).alloc (Obj.cells #[] 3) := ⟨_, rfl⟩
 have o0 : OwI W2 (w1.heap.size + 1) (.slice (some ⟨w1.heap.size + 1, 0, none⟩) 0 0) (rng 0) := by
  rw [hW2]
  exact OwI_litN _ [] (w1.heap.size + 1) (by simp) (fun _ h => by cases h) (by simp) (Nat.le_refl _)
 have G0 : Hid (W2.cell? ⟨w1.heap.size, 0, none⟩ = some (.int .i64 r)) := Lib.hid (by rw [hW2]; simp [go_sem])
 have G1 : Hid (W2.cell? ⟨w1.heap.size, 1, none⟩ = some (.int .i64 N)) := Lib.hid (by rw [hW2]; simp [go_sem])
 have G2 : Hid (W2.cell? ⟨w1.heap.size, 2, none⟩ = some (.slice A1 es.length cap1)) := Lib.hid (by rw [hW2]; simp [go_sem])
 have GF : Hid (∀ j, W2.frozen? ⟨w1.heap.size, j, none⟩ = false) := Lib.hid fun j => by rw [hW2]; simp [go_sem]
 have hs2 : W2.heap.size = w1.heap.size + 1 + 1 := by rw [hW2]; simp
 rw [← hW2] at bA ⊢
 clear hW2
 have hig := implIsGraph_any _ (r, (N : Int), es) W2 ((HG.out.below HB1.out).below bA)
 rw [HGR.out] at hig
 have HIG := Lib.hid hig
 clear hig
 refine HIG.out.mono ?_
 rintro e w3 ⟨rfl, b3⟩
 have s3 := b3.size
 have hg03 : w1.heap.size < W2.heap.size := by omega
 have bA3 := bA.trans (b3.mono (by omega))
 have BA3 := Lib.hid bA3
 have B3 := Lib.hid b3
 have OE3 := Lib.hid (OE.out.below bA3)
 have O03 := Lib.hid (o0.below b3)
 have QN := Lib.hid ((bA3.cell (p := ⟨w.heap.size, 1, none⟩) hw1).trans q1)
 have G03 := Lib.hid ((b3.cell (p := ⟨w1.heap.size, 0, none⟩) hg03).trans G0.out)
 have G13 := Lib.hid ((b3.cell (p := ⟨w1.heap.size, 1, none⟩) hg03).trans G1.out)
 have G23 := Lib.hid ((b3.cell (p := ⟨w1.heap.size, 2, none⟩) hg03).trans G2.out)
 have GF3 : Hid (∀ j, w3.frozen? ⟨w1.heap.size, j, none⟩ = false) := Lib.hid fun j => (b3.frozen (p := ⟨w1.heap.size, j, none⟩) hg03).trans (GF.out j)
 clear bA b3 bA3 o0 q0 q1 q2 G0 G1 G2 GF HIG
 go_wp2
 go_loopw [5, 6] (fun l i wr => ∃ k : Nat, k ≤ N ∧ i = .int .i64 k ∧ OwI wr (w1.heap.size + 1) l (rng k) ∧ Below (w1.heap.size + 1) w3 wr) (fun _ i _ => N - (intOf i).toNat)
 case atStart => exact ⟨0, Nat.zero_le _, rfl, O03.out, Below.refl _ _⟩
 case round =>
  obtain ⟨k, hk, rfl, hown, hbel⟩ := hrel
  have HO := Lib.hid hown
  have HB := Lib.hid hbel
  have hs := hbel.size
  have qn := (hbel.cell (p := ⟨w.heap.size, 1, none⟩) (by show w.heap.size < w1.heap.size + 1; omega)).trans QN.out
  have hlk := rng_len k
  obtain ⟨Al, capl, rfl, _⟩ := OwI.form hown
  clear hown hbel
  by_cases hlt : k < N
  ·have HK : Hid (I64 (k : Int)) := Lib.hid ⟨by omega, by omega⟩
   have HRS := Lib.hid (rng_succ k)
   go_wp2_with (at_builtin; refine push_int rfl (.tmp 26) (.tmp 28) rfl _ _ _ (OwI.alloc HO.out _) rfl _ _ rfl (cell_new1 _ _ _) HK.out (by first | omega | (simp <;> omega)) (by first | omega | (simp <;> omega)) ?_; intro v9 wv9 o9 g9 p9)
   go_roundw
   case rel => exact ⟨k + 1, by omega, by go_num, by rw [HRS.out]; exact o9, bel_push HB.out (by omega) HO.out.1 (Nat.le_refl _) g9⟩
   case measure => simp [intOf]; omega
  ·obtain rfl : k = N := by omega
   have GE : Hid (OwE wr W0.heap.size (.slice A1 es.length cap1) es) := Lib.hid (OE3.out.keep fun b hb => HB.out.block b (by have := HLT1.out b hb; omega))
   have GC0 := Lib.hid ((HB.out.cell (p := ⟨w1.heap.size, 0, none⟩) (by show w1.heap.size < w1.heap.size + 1; omega)).trans G03.out)
   have GC1 := Lib.hid ((HB.out.cell (p := ⟨w1.heap.size, 1, none⟩) (by show w1.heap.size < w1.heap.size + 1; omega)).trans G13.out)
   have GC2 := Lib.hid ((HB.out.cell (p := ⟨w1.heap.size, 2, none⟩) (by show w1.heap.size < w1.heap.size + 1; omega)).trans G23.out)
   have GCF : Hid (∀ j, wr.frozen? ⟨w1.heap.size, j, none⟩ = false) := Lib.hid fun j => (HB.out.frozen (p := ⟨w1.heap.size, j, none⟩) (by show w1.heap.size < w1.heap.size + 1; omega)).trans (GF3.out j)
   have BB : Hid (Below w1.heap.size w1 wr) := Lib.hid (BA3.out.trans (HB.out.mono (by omega)))
   have hwlt : w1.heap.size < wr.heap.size := by omega
   clear G03 G13 G23 GF3 O03 OE3 BA3 B3 QN
   go_wp2
   go_loopw [5] (fun l wr => ∃ (gg : GrD) (xs : List Int) (A' : Option Addr) (cap' : Nat), grB gg = true ∧ R = trimF gg.2.1.toNat gg xs ∧ xs.length = gg.2.1.toNat ∧ OwI wr (w1.heap.size + 1) l xs ∧ wr.cell? ⟨w1.heap.size, 0, none⟩ = some (.int .i64 gg.1) ∧ wr.cell? ⟨w1.heap.size, 1, none⟩ = some (.int .i64 gg.2.1) ∧ wr.cell? ⟨w1.heap.size, 2, none⟩ = some (.slice A' gg.2.2.length cap') ∧ (∀ j, wr.frozen? ⟨w1.heap.size, j, none⟩ = false) ∧ OwE wr W0.heap.size (.slice A' gg.2.2.length cap') gg.2.2 ∧ (∀ b, (Value.slice A' gg.2.2.length cap').ownBlock = some b → l.ownBlock ≠ some b) ∧ Below w1.heap.size w1 wr ∧ w1.heap.size < wr.heap.size) (fun l _ => slN l)
   case atStart => exact ⟨(r, (k : Int), es), rng k, A1, cap1, HGR.out, HT.out, hlk, HO.out, GC0.out, GC1.out, GC2.out, GCF.out, GE.out, fun b hb he => by have h1 := HLT1.out b hb; have h2 := HO.out.1.lt b he; omega, BB.out, hwlt⟩
   case round =>
    clear HT HO GC0 GC1 GC2 GCF GE BB HLT1
    obtain ⟨gg, xs, A', cap', hgg, hR, hxl, hown, hc0, hc1, hc2, hcf, hoe, hne, hbel, hlw⟩ := hrel
    obtain ⟨wq, rfl⟩ : ∃ wq : World, wq = wr := ⟨_, rfl⟩
    obtain ⟨hr2, hsz2, hle2, _⟩ := grB_parts hgg
    obtain ⟨r2, n2, es2⟩ := gg
    simp only at hR hxl hc0 hc1 hc2 hoe hne hsz2 hle2 hr2
    obtain ⟨M, rfl⟩ : ∃ M : Nat, n2 = (M : Int) := ⟨n2.toNat, by omega⟩
    simp only [Int.toNat_natCast] at hxl hR
    have hM1 : 1 ≤ M := by omega
    have hM2 : M ≤ 40 := by omega
    clear hsz2
    have HGG := Lib.hid hgg
    have HR := Lib.hid hR
    have HO := Lib.hid hown
    have HOE := Lib.hid hoe
    have HNE := Lib.hid hne
    have HCF := Lib.hid hcf
    have HBEL := Lib.hid hbel
    have hs := hbel.size
    obtain ⟨Al, capl, rfl, hlc, hml, _, hf⟩ := OwI.form hown
    obtain ⟨gl, rfl, hgl1, hgl2⟩ := hf (by omega)
    have hcapE : es2.length ≤ cap' := by obtain ⟨_, _, e, h1, _⟩ := OwE.form hoe; injection e with _ _ e3; subst e3; exact h1
    have HA : Hid (∀ w', Below wq.heap.size wq w' → ArgG w' (.agg #[.int .i64 r2, .int .i64 M, .slice A' es2.length cap']) (r2, (M : Int), es2)) := Lib.hid fun w' hb => ⟨_, rfl, by show I64 r2; unfold I64; omega, by show I64 (M : Int); unfold I64; omega, (HOE.out.below hb).arg⟩
    clear hgg hR hown hoe hne hcf hbel hf
    go_wp2_with fail
    refine (joined_any _ (r2, (M : Int), es2) wq (HA.out _ (Below.refl _ _)) HGG.out).mono ?_
    rintro e wj ⟨rj, rfl, oj, bj⟩
    obtain ⟨Aj, capj, rfl, hjc, _, _, hfj⟩ := owns_form oj
    rw [joinL_len] at hfj hjc ⊢
    simp only [Int.toNat_natCast] at hfj hjc ⊢
    obtain ⟨gj, rfl, hgj1, hgj2⟩ := hfj (by omega)
    have sj := bj.size
    have HJC : Hid (∀ k : Nat, k < M → wj.cell? ⟨gj, k, none⟩ = some (.bool (hasB (reachL es2 0) k))) := Lib.hid fun k hk => by
     have h1 := OwB.cellAt oj k (by rw [joinL_len]; simpa using hk)
     rw [joinL_get k (by simpa using hk)] at h1
     exact h1
    have HBJ := Lib.hid bj
    have d0 := Lib.hid ((bj.cell (p := ⟨w1.heap.size, 0, none⟩) hlw).trans hc0)
    have d1 := Lib.hid ((bj.cell (p := ⟨w1.heap.size, 1, none⟩) hlw).trans hc1)
    have d2 := Lib.hid ((bj.cell (p := ⟨w1.heap.size, 2, none⟩) hlw).trans hc2)
    have dF : Hid (∀ j, wj.frozen? ⟨w1.heap.size, j, none⟩ = false) := Lib.hid fun j => (bj.frozen (p := ⟨w1.heap.size, j, none⟩) hlw).trans (HCF.out j)
    have hlj : w1.heap.size < wj.heap.size := by omega
    clear oj bj hfj hc0 hc1 hc2 HCF
    obtain ⟨U, hU⟩ : ∃ U, U = leafV es2 M := ⟨_, rfl⟩
    have HU := Lib.hid hU
    have HLB : Hid (∀ k : Nat, leafB es2 k = (decide (degL es2 k < 2) || !hasB (reachL es2 0) k)) := Lib.hid fun k => rfl
    clear hU
    go_wp2
    go_loopw [8, 9] (fun a i wg => ∃ k : Nat, i = .int .i64 k ∧ 1 ≤ k ∧ k ≤ M ∧ ((a = .int .i64 0 ∧ leafFrom es2 M (M - k) k = U) ∨ (∃ u : Nat, a = .int .i64 u ∧ U = (u : Int) ∧ 1 ≤ u ∧ u < M ∧ k = u + 1)) ∧ Below wj.heap.size wj wg) (fun _ i _ => M + 1 - (intOf i).toNat)
    case atStart => exact ⟨1, rfl, Nat.le_refl _, hM1, .inl ⟨rfl, by rw [HU.out]; rfl⟩, Below.refl _ _⟩
    case round =>
     obtain ⟨k, rfl, hk1, hk, hcase, hbg⟩ := hrel
     have HBG := Lib.hid hbg
     have hsg := hbg.size
     have e0 := (hbg.cell (p := ⟨w1.heap.size, 0, none⟩) hlj).trans d0.out
     have e1 := (hbg.cell (p := ⟨w1.heap.size, 1, none⟩) hlj).trans d1.out
     have e2 := (hbg.cell (p := ⟨w1.heap.size, 2, none⟩) hlj).trans d2.out
     clear hbg
     rcases hcase with ⟨rfl, hlf⟩ | ⟨u, rfl, hUu, hu1, huM, rfl⟩
     ·have HLF := Lib.hid hlf
      clear hlf
      by_cases hlt : k < M
      ·have hj0 := (HBG.out.cell (p := ⟨gj, k, none⟩) hgj2).trans (HJC.out k hlt)
       have LB := Lib.hid (HLB.out k)
       have hki : (k : Int) < (M : Int) := by omega
       have hdle : degL es2 k ≤ 240 := by have := degL_le es2 k es2.length; rw [List.take_length] at this; omega
       go_wp2_with fail
       refine (implDegreeOf_any _ (r2, (M : Int), es2) k _ (HA.out _ (HBJ.out.trans (HBG.out.mono sj))) (by simp only; omega)).mono ?_
       rintro e w7 ⟨rfl, b7⟩
       have B7 := Lib.hid b7
       have s7 := b7.size
       have hj7 := (b7.cell (p := ⟨gj, k, none⟩) (by show gj < wr.heap.size; omega)).trans hj0
       clear b7 hj0
       simp only
       generalize degL es2 k = d at *
       by_cases hd : d < 2
       ·have hdi : (d : Int) < 2 := by omega
        have F := Lib.hid (leafFrom_hit hlt (by rw [LB.out]; simp [hd]))
        go_wp2
        go_roundw
        case rel => exact ⟨k + 1, by go_num, by omega, by omega, .inr ⟨k, rfl, by rw [← HLF.out, F.out], hk1, hlt, rfl⟩, HBG.out.trans (B7.out.mono hsg)⟩
        case measure => simp [intOf]; omega
       ·have hdi : ¬ (d : Int) < 2 := by omega
        rcases h1 : hasB (reachL es2 0) k with _ | _
        ·have F := Lib.hid (leafFrom_hit hlt (by rw [LB.out, h1]; simp))
         rw [h1] at hj7
         go_wp2
         go_roundw
         case rel => exact ⟨k + 1, by go_num, by omega, by omega, .inr ⟨k, rfl, by rw [← HLF.out, F.out], hk1, hlt, rfl⟩, HBG.out.trans (B7.out.mono hsg)⟩
         case measure => simp [intOf]; omega
        ·have F := Lib.hid (leafFrom_miss hlt (by rw [LB.out, h1]; simp [hd]))
         rw [h1] at hj7
         go_wp2
         go_roundw
         case rel => exact ⟨k + 1, by go_num, by omega, by omega, .inl ⟨rfl, by rw [← F.out, HLF.out]⟩, HBG.out.trans (B7.out.mono hsg)⟩
         case measure => simp [intOf]; omega
      ·obtain rfl : k = M := by omega
       have hUn : U = -1 := by rw [← HLF.out, leafFrom_end]
       have HE : Hid (R = ((r2, (k : Int), es2), xs)) := Lib.hid (by rw [HR.out]; exact trimF_stop _ (show leafV es2 ((k : Int)).toNat < 0 by rw [Int.toNat_natCast, ← HU.out, hUn]; decide) _)
       have bb : Hid (Below w1.heap.size w1 wr) := Lib.hid (HBEL.out.trans ((HBJ.out.trans (HBG.out.mono sj)).mono (by omega)))
       have rq0 := (bb.out.cell (p := ⟨w.heap.size + 1, 0, none⟩) hw11).trans RQ0.out
       have rq1 := (bb.out.cell (p := ⟨w.heap.size + 1, 1, none⟩) hw11).trans RQ1.out
       have rq2 := (bb.out.cell (p := ⟨w.heap.size + 1, 2, none⟩) hw11).trans RQ2.out
       have rf0 := (bb.out.frozen (p := ⟨w.heap.size + 1, 0, none⟩) hw11).trans (RQF.out 0)
       have rf1 := (bb.out.frozen (p := ⟨w.heap.size + 1, 1, none⟩) hw11).trans (RQF.out 1)
       have rf2 := (bb.out.frozen (p := ⟨w.heap.size + 1, 2, none⟩) hw11).trans (RQF.out 2)
       have ow := HOE.out.below (HBJ.out.trans (HBG.out.mono sj))
       have ol := HO.out.below (HBJ.out.trans (HBG.out.mono sj))
       have OW : Hid (OwE (((wr.setCell ⟨w.heap.size + 1, 0, none⟩ (.int .i64 r2)).setCell ⟨w.heap.size + 1, 1, none⟩ (.int .i64 k)).setCell ⟨w.heap.size + 1, 2, none⟩ (.slice A' es2.length cap')) W0.heap.size (.slice A' es2.length cap') es2) := Lib.hid
        (((ow.far (p := ⟨w.heap.size + 1, 0, none⟩) (by show w.heap.size + 1 < _; omega) _).far (p := ⟨w.heap.size + 1, 1, none⟩) (by show w.heap.size + 1 < _; omega) _).far (p := ⟨w.heap.size + 1, 2, none⟩) (by show w.heap.size + 1 < _; omega) _)
       have OL : Hid (OwI (((wr.setCell ⟨w.heap.size + 1, 0, none⟩ (.int .i64 r2)).setCell ⟨w.heap.size + 1, 1, none⟩ (.int .i64 k)).setCell ⟨w.heap.size + 1, 2, none⟩ (.slice A' es2.length cap')) (w1.heap.size + 1) (.slice (some ⟨gl, 0, none⟩) xs.length capl) xs) := Lib.hid
        (((ol.far (p := ⟨w.heap.size + 1, 0, none⟩) (by show w.heap.size + 1 < _; omega) _).far (p := ⟨w.heap.size + 1, 1, none⟩) (by show w.heap.size + 1 < _; omega) _).far (p := ⟨w.heap.size + 1, 2, none⟩) (by show w.heap.size + 1 < _; omega) _)
       have BBW := Lib.hid (HB1.out.trans (bb.out.mono (show w.heap.size ≤ w1.heap.size by omega)))
       clear ow ol
       go_wp2
       obtain ⟨c0, c1, c2⟩ := set3_cells wr (w.heap.size + 1) (.int .i64 r2) (.int .i64 k) (.slice A' es2.length cap') rq0 rq1 rq2
       have bw : Below w.heap.size w (((wr.setCell ⟨w.heap.size + 1, 0, none⟩ (.int .i64 r2)).setCell ⟨w.heap.size + 1, 1, none⟩ (.int .i64 k)).setCell ⟨w.heap.size + 1, 2, none⟩ (.slice A' es2.length cap')) := (by repeat (first | exact Below.refl _ _ | (refine Below.setCell ?_ (by first | omega | (simp <;> omega)) _) | (refine bel_drewN ?_ _) | (refine Below.drew ?_) | (refine Below.alloc ?_ (by first | omega | (simp <;> omega)) _) | (refine Below.trans ?_ (Below.mono (Hid.out BBW) (by first | omega | (simp <;> omega))))))
       generalize ((wr.setCell ⟨w.heap.size + 1, 0, none⟩ (.int .i64 r2)).setCell ⟨w.heap.size + 1, 1, none⟩ (.int .i64 k)).setCell ⟨w.heap.size + 1, 2, none⟩ (.slice A' es2.length cap') = wf at *
       refine bodyPost_ret (v := .tuple #[.agg #[.int .i64 r2, .int .i64 k, .slice A' es2.length cap'], .slice (some ⟨gl, 0, none⟩) xs.length capl]) (by simp [results, Tryz.results63, go_sem, c0, c1, c2, hxl]) rfl ⟨_, _, rfl, ?_, ?_, bw⟩
       ·rw [HE.out]
        refine ⟨.slice A' es2.length cap', rfl, ?_, ?_, OW.out.mono (by omega)⟩
        ·show I64 r2
         unfold I64
         omega
        ·show I64 (k : Int)
         unfold I64
         omega
       ·rw [HE.out]
        exact OL.out.mono (by omega)
     ·obtain ⟨wg, rfl⟩ : ∃ wg : World, wg = wr := ⟨_, rfl⟩
      have HUu : Hid (leafV es2 M = (u : Int)) := Lib.hid (by rw [← HU.out, hUu])
      have hok : OrdOk (M : Int) (delO M u) := delO_ok hM1 (by omega)
      have HOK := Lib.hid hok
      have hdl : (delO M u).length = M - 1 := by rw [delO_len2, if_pos (by omega)]
      have HRN : Hid (rnG (r2, (M : Int), es2) (delO M u) = (r2, ((M - 1 : Nat) : Int), srt cmpE (rnL es2 (delO M u)))) := Lib.hid (by rw [← hdl]; rfl)
      have HR2 : Hid (R = trimF (M - 1) (r2, ((M - 1 : Nat) : Int), srt cmpE (rnL es2 (delO M u))) (xs.take u ++ xs.drop (u + 1))) := Lib.hid (by
       have h1 := trimF_step (g := (r2, (M : Int), es2)) (u := u) xs (by simpa using HUu.out) (by simpa using huM)
       simp only [Int.toNat_natCast] at h1
       rw [HRN.out] at h1
       simp only [Int.toNat_natCast] at h1
       rw [HR.out, h1])
      have HGB : Hid (grB (r2, ((M - 1 : Nat) : Int), srt cmpE (rnL es2 (delO M u))) = true) := Lib.hid (by rw [← HRN.out]; exact grB_rnG HGG.out hok)
      have hw5 : (wg.alloc (Obj.cells #[] 3)).heap.size = wg.heap.size + 1 := by simp
      have o5 : OwI (wg.alloc (Obj.cells #[] 3)) wg.heap.size (.slice (some ⟨wg.heap.size, 0, none⟩) 0 0) (delO 0 u) := OwI_lit wg [] (fun _ h => by cases h) (by simp) (Nat.le_refl _)
      have O5 := Lib.hid o5
      have B5 : Hid (Below wg.heap.size wg (wg.alloc (Obj.cells #[] 3))) := Lib.hid (by repeat (first | exact Below.refl _ _ | (refine Below.setCell ?_ (by first | omega | (simp <;> omega)) _) | (refine bel_drewN ?_ _) | (refine Below.drew ?_) | (refine Below.alloc ?_ (by first | omega | (simp <;> omega)) _)))
      have HW5 := Lib.hid hw5
      have E0 := Lib.hid e0
      have E1 := Lib.hid e1
      have E2 := Lib.hid e2
      have EF : Hid (∀ j, wg.frozen? ⟨w1.heap.size, j, none⟩ = false) := Lib.hid fun j => (HBG.out.frozen (p := ⟨w1.heap.size, j, none⟩) hlj).trans (dF.out j)
      have hlg : w1.heap.size < wg.heap.size := by omega
      have g0 : ((u : Int) == 0) = false := by rw [beq_eq_false_iff_ne]; omega
      clear hok o5 hw5 hUu hdl
      obtain ⟨kk, hkk⟩ : ∃ kk : Int, ((u + 1 : Nat) : Int) = kk := ⟨_, rfl⟩
      rw [hkk]
      have hqc : kk < (M : Int) ∨ ¬ kk < (M : Int) := by omega
      clear hk hk1 hkk
      rcases hqc with hq | hq
      all_goals
       go_wp2
       generalize wg.alloc (Obj.cells #[] 3) = W5 at O5 B5 HW5 ⊢
       go_loopw [10, 11] (fun o i wo => ∃ k : Nat, k ≤ M ∧ i = .int .i64 k ∧ OwI wo wg.heap.size o (delO k u) ∧ Below wg.heap.size wg wo) (fun _ i _ => M - (intOf i).toNat)
       case atStart => exact ⟨0, Nat.zero_le _, rfl, O5.out, B5.out⟩
       case round =>
        obtain ⟨k, hk, rfl, hown, hbo⟩ := hrel
        have HOO := Lib.hid hown
        have HBO := Lib.hid hbo
        have hso := hbo.size
        have e1' := (hbo.cell (p := ⟨w1.heap.size, 1, none⟩) hlg).trans E1.out
        have e0' := (hbo.cell (p := ⟨w1.heap.size, 0, none⟩) hlg).trans E0.out
        have e2' := (hbo.cell (p := ⟨w1.heap.size, 2, none⟩) hlg).trans E2.out
        obtain ⟨Ao, capo, rfl, _⟩ := OwI.form hown
        clear hown hbo
        by_cases hlt : k < M
        ·by_cases hku : k = u
         ·subst hku
          have F : Hid (delO (k + 1) (k : Int) = delO k (k : Int)) := Lib.hid (by rw [delO_succ]; simp)
          go_wp2
          go_roundw
          case rel => exact ⟨k + 1, by omega, by go_num, by rw [F.out]; exact HOO.out, HBO.out⟩
          case measure => simp [intOf]; omega
         ·have hne1 : ¬ (k : Int) = (u : Int) := by omega
          have F : Hid (delO (k + 1) (u : Int) = delO k (u : Int) ++ [(k : Int)]) := Lib.hid (by rw [delO_succ, if_pos hne1])
          have HK : Hid (I64 (k : Int)) := Lib.hid ⟨by omega, by omega⟩
          have hdk : (delO k (u : Int)).length ≤ 40 := by rw [delO_len2]; split <;> omega
          go_wp2_with (at_builtin; refine push_int rfl (.tmp 68) (.tmp 70) rfl _ _ _ (OwI.alloc HOO.out _) rfl _ _ rfl (cell_new1 _ _ _) HK.out (by first | omega | (simp <;> omega)) (by first | omega | (simp <;> omega)) ?_; intro v9 wv9 o9 g9 p9)
          go_roundw
          case rel => exact ⟨k + 1, by omega, by go_num, by rw [F.out]; exact o9, bel_push HBO.out (by omega) HOO.out.1 (Nat.le_refl _) g9⟩
          case measure => simp [intOf]; omega
        ·obtain rfl : k = M := by omega
         go_wp2_with fail
         refine (part_any _ _ (r2, (k : Int), es2) (delO k u) _ (HA.out _ ((HBJ.out.trans (HBG.out.mono sj)).trans (HBO.out.mono (by omega)))) HOO.out.rd HGG.out HOK.out).mono ?_
         rintro e w6 ⟨r6, rfl, o6, b6⟩
         rw [HRN.out] at o6
         obtain ⟨s6, rfl, _, _, oe6⟩ := o6
         simp only at oe6 ⊢
         generalize srt cmpE (rnL es2 (delO k (u : Int))) = es6 at *
         generalize hm : k - 1 = m at *
         have HM := Lib.hid hm
         clear hm
         have B6 := Lib.hid b6
         have s6' := b6.size
         have OE6 := Lib.hid oe6
         obtain ⟨A6, cap6, rfl, hcap6, hm6, _⟩ := OwE.form oe6
         have hE6 : ∀ b, (Value.slice A6 es6.length cap6).ownBlock = some b → wr.heap.size ≤ b ∧ b < w6.heap.size := fun b hb => oe6.1.lt b hb
         have HE6 := Lib.hid hE6
         have f0 := (b6.cell (p := ⟨w1.heap.size, 0, none⟩) (by show w1.heap.size < wr.heap.size; omega)).trans e0'
         have f1 := (b6.cell (p := ⟨w1.heap.size, 1, none⟩) (by show w1.heap.size < wr.heap.size; omega)).trans e1'
         have f2 := (b6.cell (p := ⟨w1.heap.size, 2, none⟩) (by show w1.heap.size < wr.heap.size; omega)).trans e2'
         have FF : Hid (∀ j, w6.frozen? ⟨w1.heap.size, j, none⟩ = false) := Lib.hid fun j => (b6.frozen (p := ⟨w1.heap.size, j, none⟩) (by show w1.heap.size < wr.heap.size; omega)).trans ((HBO.out.frozen (p := ⟨w1.heap.size, j, none⟩) hlg).trans (EF.out j))
         have ff0 := FF.out 0
         have ff1 := FF.out 1
         have ff2 := FF.out 2
         clear oe6 b6 hE6 e0' e1' e2'
         go_wp2
         obtain ⟨c0, c1, c2⟩ := set3_cells w6 w1.heap.size (.int .i64 r2) (.int .i64 m) (.slice A6 es6.length cap6) f0 f1 f2
         have hB6 : Hid (Below wq.heap.size wq w6) := Lib.hid ((HBJ.out.trans (HBG.out.mono sj)).trans (((HBO.out.trans (B6.out.mono (by omega)))).mono (by omega)))
         have ol7 : OwI (((w6.setCell ⟨w1.heap.size, 0, none⟩ (.int .i64 r2)).setCell ⟨w1.heap.size, 1, none⟩ (.int .i64 m)).setCell ⟨w1.heap.size, 2, none⟩ (.slice A6 es6.length cap6)) (w1.heap.size + 1) (.slice (some ⟨gl, 0, none⟩) xs.length capl) xs :=
          ((((HO.out.below hB6.out).far (p := ⟨w1.heap.size, 0, none⟩) (by show w1.heap.size < _; omega) _).far (p := ⟨w1.heap.size, 1, none⟩) (by show w1.heap.size < _; omega) _).far (p := ⟨w1.heap.size, 2, none⟩) (by show w1.heap.size < _; omega) _)
         have oe7 : OwE (((w6.setCell ⟨w1.heap.size, 0, none⟩ (.int .i64 r2)).setCell ⟨w1.heap.size, 1, none⟩ (.int .i64 m)).setCell ⟨w1.heap.size, 2, none⟩ (.slice A6 es6.length cap6)) wr.heap.size (.slice A6 es6.length cap6) es6 :=
          (((OE6.out.far (p := ⟨w1.heap.size, 0, none⟩) (by show w1.heap.size < _; omega) _).far (p := ⟨w1.heap.size, 1, none⟩) (by show w1.heap.size < _; omega) _).far (p := ⟨w1.heap.size, 2, none⟩) (by show w1.heap.size < _; omega) _)
         have hb7 : Below w1.heap.size w1 (((w6.setCell ⟨w1.heap.size, 0, none⟩ (.int .i64 r2)).setCell ⟨w1.heap.size, 1, none⟩ (.int .i64 m)).setCell ⟨w1.heap.size, 2, none⟩ (.slice A6 es6.length cap6)) :=
          (((HBEL.out.trans (hB6.out.mono (by omega))).setCell (p := ⟨w1.heap.size, 0, none⟩) (by show w1.heap.size ≤ _; exact Nat.le_refl _) _).setCell (p := ⟨w1.heap.size, 1, none⟩) (by show w1.heap.size ≤ _; exact Nat.le_refl _) _).setCell (p := ⟨w1.heap.size, 2, none⟩) (by show w1.heap.size ≤ _; exact Nat.le_refl _) _
         have fz7 : ∀ j, (((w6.setCell ⟨w1.heap.size, 0, none⟩ (.int .i64 r2)).setCell ⟨w1.heap.size, 1, none⟩ (.int .i64 m)).setCell ⟨w1.heap.size, 2, none⟩ (.slice A6 es6.length cap6)).frozen? ⟨w1.heap.size, j, none⟩ = false := fun j => by
          rw [World.frozen?_setCell, World.frozen?_setCell, World.frozen?_setCell]; exact FF.out j
         have sz7 : (((w6.setCell ⟨w1.heap.size, 0, none⟩ (.int .i64 r2)).setCell ⟨w1.heap.size, 1, none⟩ (.int .i64 m)).setCell ⟨w1.heap.size, 2, none⟩ (.slice A6 es6.length cap6)).heap.size = w6.heap.size := by simp
         generalize ((w6.setCell ⟨w1.heap.size, 0, none⟩ (.int .i64 r2)).setCell ⟨w1.heap.size, 1, none⟩ (.int .i64 m)).setCell ⟨w1.heap.size, 2, none⟩ (.slice A6 es6.length cap6) = w7 at *
         have OL7 := Lib.hid ol7
         have OE7 := Lib.hid oe7
         have HB7 := Lib.hid hb7
         have FZ7 := Lib.hid fz7
         have C0 := Lib.hid c0
         have C1 := Lib.hid c1
         have C2 := Lib.hid c2
         have hx1 : u ≤ xs.length := by omega
         have hx2 : u + 1 ≤ xs.length := by omega
         have OC := Lib.hid (owI_cut ol7 hx1)
         have RC := Lib.hid (RdI.cut (k := u + 1) (A := some ⟨gl, 0, none⟩) (cap := capl) ol7.rd rfl hx2)
         clear ol7 oe7 hb7 fz7 c0 c1 c2 f0 f1 f2 ff0 ff1 ff2 FF
         have z1 : (0 : Int) ≤ (u : Int) := by omega
         have z2 : (u : Int) ≤ (capl : Int) := by omega
         have z3 : (u : Int) + 1 ≤ (k : Int) := by omega
         have z4 : (k : Int) ≤ (capl : Int) := by omega
         have z5 : (0 : Int) ≤ (u : Int) + 1 := by omega
         have z6 : (u : Int) + 1 ≤ (capl : Int) := by omega
         have zw : IntKind.i64.wrap ((u : Int) + 1) = (u : Int) + 1 := by rw [IntKind.wrap_i64]; omega
         have HC : Hid (∀ (v9 : Value) (w9 : World), OwI w9 (w1.heap.size + 1) v9 (xs.take u ++ xs.drop (u + 1)) → w7.drew.grownBy w9 (Value.slice (some ⟨gl, 0, none⟩) u capl).ownBlock → (v9.ownBlock = (Value.slice (some ⟨gl, 0, none⟩) u capl).ownBlock ∨ v9.ownBlock = some w7.drew.heap.size) →
           (∃ (gg : GrD) (xs : List Int) (A' : Option Addr) (cap' : Nat), grB gg = true ∧ R = trimF gg.2.1.toNat gg xs ∧ xs.length = gg.2.1.toNat ∧ OwI w9 (w1.heap.size + 1) v9 xs ∧ w9.cell? ⟨w1.heap.size, 0, none⟩ = some (.int .i64 gg.1) ∧ w9.cell? ⟨w1.heap.size, 1, none⟩ = some (.int .i64 gg.2.1) ∧ w9.cell? ⟨w1.heap.size, 2, none⟩ = some (.slice A' gg.2.2.length cap') ∧ (∀ j, w9.frozen? ⟨w1.heap.size, j, none⟩ = false) ∧ OwE w9 W0.heap.size (.slice A' gg.2.2.length cap') gg.2.2 ∧ (∀ b, (Value.slice A' gg.2.2.length cap').ownBlock = some b → v9.ownBlock ≠ some b) ∧ Below w1.heap.size w1 w9 ∧ w1.heap.size < w9.heap.size) ∧ slN v9 < k) := Lib.hid (by
          intro v9 w9 o9 g9 p9
          have g9b : ∀ b, b < w7.heap.size → b ≠ gl → w9.heap[b]? = w7.heap[b]? := fun b hb hne => g9.block b hb fun e => hne (by simpa [Value.ownBlock] using e)
          have hs9 : w7.heap.size ≤ w9.heap.size := g9.size
          have hln : (xs.take u ++ xs.drop (u + 1)).length = m := by
           have := HM.out
           rw [List.length_append, List.length_take, List.length_drop]
           omega
          have hb9 : Below w1.heap.size w1 w9 := (HB7.out.drew).grown g9 (by show w1.heap.size ≤ w7.heap.size; omega) fun x hx => by simp [Value.ownBlock] at hx; omega
          have cc : ∀ o, w9.cell? ⟨w1.heap.size, o, none⟩ = w7.cell? ⟨w1.heap.size, o, none⟩ := fun o => World.cell?_of_block (g9b w1.heap.size (by omega) (by omega))
          have cf : ∀ o, w9.frozen? ⟨w1.heap.size, o, none⟩ = w7.frozen? ⟨w1.heap.size, o, none⟩ := fun o => World.frozen?_of_block (g9b w1.heap.size (by omega) (by omega))
          obtain ⟨A9, cap9, hv9, _⟩ := OwI.form o9
          refine ⟨⟨(r2, (m : Int), es6), xs.take u ++ xs.drop (u + 1), A6, cap6, HGB.out, by rw [HR2.out]; simp, by rw [hln]; simp, o9, (cc 0).trans C0.out, (cc 1).trans C1.out, (cc 2).trans C2.out, fun j => (cf j).trans (FZ7.out j), (OE7.out.keep fun b hb => g9b b (by have := HE6.out b hb; omega) (by have := HE6.out b hb; omega)).mono (by omega), fun b hb he => ?_, hb9, by omega⟩, ?_⟩
          ·have h1 := HE6.out b hb
           rcases p9 with p9 | p9
           ·rw [p9] at he
            simp [Value.ownBlock] at he
            omega
           ·rw [p9] at he
            have h2 : w7.heap.size = b := by simpa using he
            omega
          ·rw [hv9, hln]
           show m < k
           have := HM.out
           omega)
         by_cases hcu : capl = u + 1
         ·have RC' : Hid (RdI w7 (.slice (some ⟨gl, 0, none⟩) (k - (u + 1)) 0) (xs.drop (u + 1))) := Lib.hid (by
           have h1 := RC.out
           rw [if_pos hcu, hxl, show capl - (u + 1) = 0 by omega] at h1
           exact h1)
          clear RC
          subst hcu
          have y1 : (u : Int) ≤ (u : Int) + 1 := by omega
          have y2 : (k : Int) ≤ (u : Int) + 1 := by omega
          clear z2 z4 z6
          go_region_held3 (fun w' => True) (trivial)
           (first | (refine step_append_ints rfl (.tmp 77) (.tmp 81) rfl (w1.heap.size + 1) _ (xs.take u) (OwI.drew OC.out) (by rfl) _ (xs.drop (u + 1)) ?_ (by rfl) (by simp only [List.length_take, List.length_drop]; omega) (by show _ ≤ w7.heap.size; omega) ?_; (exact RC'.out.drew); intro v9 w9 o9 g9 p9; have X9 := Lib.hid (HC.out v9 w9 o9 g9 p9); clear o9 g9 p9))
          clear HC
          obtain ⟨X1, X2⟩ := X9.out
          clear X9
          have HX1 := Lib.hid X1
          clear X1
          go_wp2
          go_roundw
          case rel => exact HX1.out
          case measure => (show slN v9 < xs.length; omega)
         ·have RC' : Hid (RdI w7 (.slice (some ⟨gl, u + 1, none⟩) (k - (u + 1)) (capl - (u + 1))) (xs.drop (u + 1))) := Lib.hid (by
           have h1 := RC.out
           rw [if_neg hcu, hxl] at h1
           simpa [Addr.add] using h1)
          go_region_held3 (fun w' => True) (trivial)
           (first | (refine step_append_ints rfl (.tmp 77) (.tmp 81) rfl (w1.heap.size + 1) _ (xs.take u) (OwI.drew OC.out) (by rfl) _ (xs.drop (u + 1)) ?_ (by rfl) (by simp only [List.length_take, List.length_drop]; omega) (by show _ ≤ w7.heap.size; omega) ?_; (exact RC'.out.drew); intro v9 w9 o9 g9 p9; have X9 := Lib.hid (HC.out v9 w9 o9 g9 p9); clear o9 g9 p9))
          clear HC
          obtain ⟨X1, X2⟩ := X9.out
          clear X9
          have HX1 := Lib.hid X1
          clear X1
          go_wp2
          go_roundw
          case rel => exact HX1.out
          case measure => (show slN v9 < xs.length; omega)
end Go.Proofs.YtfadnkjlilhneaaGreat
