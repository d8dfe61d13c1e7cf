/- The order in which the vertices of a folded graph are found: plain Lean. The vertices that are reached from one: the reference's ReachedFrom. Which vertices are connected: plain Lean. -/
import Derived.Test.YtfadnkjlilhneaaGreatOrd
import Derived.Test.YtfadnkjlilhneaaGreatHas
import Derived.Test.YtfadnkjlilhneaaGreatGrD
import Derived.Test.YtfadnkjlilhneaaGreatGrB
import Derived.Test.YtfadnkjlilhneaaGreatGrF
import Derived.Test.YtfadnkjlilhneaaGreatLet
namespace Go.Proofs.YtfadnkjlilhneaaGreat
set_option maxRecDepth 20000
set_option linter.unusedVariables false
set_option linter.unusedSimpArgs false
open Go.RowKit

inductive Conn (es : List EdD) (v : Int) : Int → Prop
 | base : Conn es v v
 | fwd (e : EdD) (he : e ∈ es) (h : Conn es v e.1) : Conn es v e.2.2
 | back (e : EdD) (he : e ∈ es) (h : Conn es v e.2.2) : Conn es v e.1
def stepR (o : List Int) (e : EdD) : List Int :=
 if e.2.2 ∈ (if e.1 ∈ o then insF cmpI o e.2.2 else o) then insF cmpI (if e.1 ∈ o then insF cmpI o e.2.2 else o) e.1 else (if e.1 ∈ o then insF cmpI o e.2.2 else o)
theorem insF_mem {xs : List Int} {x y : Int} : y ∈ insF cmpI xs x ↔ y = x ∨ y ∈ xs := by rw [insF_eq]; exact insR_mem x xs cmpI_ord y
theorem stepR_mem {o : List Int} {e : EdD} {x : Int} : x ∈ stepR o e ↔ x ∈ o ∨ ((e.1 ∈ o ∨ e.2.2 ∈ o) ∧ (x = e.1 ∨ x = e.2.2)) := by
 unfold stepR
 by_cases h1 : e.1 ∈ o
 ·simp only [h1, if_true]
  have h2 : e.2.2 ∈ insF cmpI o e.2.2 := insF_mem.2 (.inl rfl)
  rw [if_pos h2, insF_mem, insF_mem]
  constructor
  ·rintro (h | h | h)
   ·exact .inr ⟨.inl trivial, .inl h⟩
   ·exact .inr ⟨.inl trivial, .inr h⟩
   ·exact .inl h
  ·rintro (h | ⟨_, h | h⟩)
   ·exact .inr (.inr h)
   ·exact .inl h
   ·exact .inr (.inl h)
 ·simp only [h1, if_false]
  by_cases h2 : e.2.2 ∈ o
  ·rw [if_pos h2, insF_mem]
   constructor
   ·rintro (h | h)
    ·exact .inr ⟨.inr h2, .inl h⟩
    ·exact .inl h
   ·rintro (h | ⟨_, h | h⟩)
    ·exact .inr h
    ·exact .inl h
    ·exact .inr (by rw [h]; exact h2)
  ·rw [if_neg h2]
   constructor
   ·exact .inl
   ·rintro (h | ⟨h | h, _⟩)
    ·exact h
    ·exact absurd h (by simp)
    ·exact absurd h h2
def passR (es : List EdD) (o : List Int) : List Int := es.foldl stepR o
theorem passR_mono {es : List EdD} {o : List Int} {x : Int} (h : x ∈ o) : x ∈ passR es o := by
 unfold passR
 induction es generalizing o with
 | nil => exact h
 | cons e es ih => exact ih (stepR_mem.2 (.inl h))
theorem passR_both {es : List EdD} {o : List Int} {e : EdD} (he : e ∈ es) (h : e.1 ∈ o ∨ e.2.2 ∈ o) : e.1 ∈ passR es o ∧ e.2.2 ∈ passR es o := by
 unfold passR
 induction es generalizing o with
 | nil => cases he
 | cons d es ih =>
   rcases List.mem_cons.1 he with rfl | he
   ·exact ⟨passR_mono (es := es) (o := stepR o e) (stepR_mem.2 (.inr ⟨h, .inl rfl⟩)), passR_mono (es := es) (o := stepR o e) (stepR_mem.2 (.inr ⟨h, .inr rfl⟩))⟩
   ·refine ih he ?_
    rcases h with h | h
    ·exact .inl (stepR_mem.2 (.inl h))
    ·exact .inr (stepR_mem.2 (.inl h))
theorem passR_sound {es es' : List EdD} {v : Int} {o : List Int} (hsub : ∀ e ∈ es', e ∈ es) (h : ∀ x ∈ o, Conn es v x) : ∀ x ∈ passR es' o, Conn es v x := by
 unfold passR
 induction es' generalizing o with
 | nil => exact h
 | cons e es' ih =>
   refine ih (fun d hd => hsub d (by simp [hd])) fun x hx => ?_
   have he := hsub e (by simp)
   rcases stepR_mem.1 hx with hx | ⟨h1 | h1, rfl | rfl⟩
   ·exact h x hx
   ·exact h _ h1
   ·exact .fwd e he (h _ h1)
   ·exact .back e he (h _ h1)
   ·exact h _ h1
def Clo (es : List EdD) (o : List Int) : Prop := ∀ e ∈ es, (e.1 ∈ o ↔ e.2.2 ∈ o)
theorem passR_clo {es : List EdD} {o : List Int} (h : Clo es o) : ∀ x, x ∈ passR es o ↔ x ∈ o := by
 have key : ∀ es' : List EdD, (∀ e ∈ es', e ∈ es) → ∀ o', (∀ x, x ∈ o' ↔ x ∈ o) → ∀ x, x ∈ es'.foldl stepR o' ↔ x ∈ o := by
  intro es'
  induction es' with
  | nil => intro _ o' ho; exact ho
  | cons e es' ih =>
    intro hsub o' ho
    refine ih (fun d hd => hsub d (by simp [hd])) _ fun x => ?_
    rw [stepR_mem, ho, ho, ho]
    have := h e (hsub e (by simp))
    constructor
    ·rintro (hx | ⟨h1 | h1, rfl | rfl⟩)
     ·exact hx
     ·exact h1
     ·exact this.1 h1
     ·exact this.2 h1
     ·exact h1
    ·exact .inl
 exact key es (fun _ h => h) o fun _ => Iff.rfl
def phi (es : List EdD) (o : List Int) : Nat := (es.filter fun e => decide (e.1 ∈ o ∧ e.2.2 ∈ o)).length
theorem filter_lt {α : Type} {p q : α → Bool} {l : List α} (hpq : ∀ x, p x = true → q x = true) {a : α} (ha : a ∈ l) (hq : q a = true) (hp : p a = false) : (l.filter p).length < (l.filter q).length := by
 have le : ∀ l : List α, (l.filter p).length ≤ (l.filter q).length := by
  intro l
  induction l with
  | nil => simp
  | cons b l ih =>
    rw [List.filter_cons, List.filter_cons]
    split
    ·rename_i h
     rw [if_pos (hpq b h)]
     simp; exact ih
    ·split
     ·simp; omega
     ·exact ih
 induction l with
 | nil => cases ha
 | cons b l ih =>
   rw [List.filter_cons, List.filter_cons]
   rcases List.mem_cons.1 ha with rfl | ha
   ·rw [if_neg (by simp [hp]), if_pos hq]
    have := le l
    simp; omega
   ·have := ih ha
    split
    ·rename_i h
     rw [if_pos (hpq b h)]
     simp; exact this
    ·split
     ·simp; omega
     ·exact this
theorem phi_lt {es : List EdD} {o : List Int} (h : ¬ Clo es o) : phi es o < phi es (passR es o) := by
 unfold Clo at h
 have : ∃ e, e ∈ es ∧ ¬ (e.1 ∈ o ↔ e.2.2 ∈ o) := by
  apply Classical.byContradiction
  intro hn
  exact h fun e he => Classical.byContradiction fun hne => hn ⟨e, he, hne⟩
 obtain ⟨e, he, hne⟩ := this
 have hor : e.1 ∈ o ∨ e.2.2 ∈ o := by
  apply Classical.byContradiction
  intro hn
  exact hne ⟨fun h => absurd (.inl h) hn, fun h => absurd (.inr h) hn⟩
 refine filter_lt (fun d hd => ?_) he ?_ ?_
 ·simp only [decide_eq_true_eq] at hd ⊢
  exact ⟨passR_mono hd.1, passR_mono hd.2⟩
 ·simp only [decide_eq_true_eq]
  exact passR_both he hor
 ·rw [decide_eq_false_iff_not]
  exact fun hh => hne ⟨fun _ => hh.2, fun _ => hh.1⟩
def iterR (es : List EdD) (v : Int) : Nat → List Int
 | 0 => [v]
 | i + 1 => passR es (iterR es v i)
theorem iterR_clo (es : List EdD) (v : Int) (i : Nat) : Clo es (iterR es v i) ∨ i ≤ phi es (iterR es v i) := by
 induction i with
 | zero => exact .inr (Nat.zero_le _)
 | succ i ih =>
   by_cases h : Clo es (iterR es v i)
   ·left
    intro e he
    show e.1 ∈ passR es _ ↔ e.2.2 ∈ passR es _
    rw [passR_clo h, passR_clo h]
    exact h e he
   ·right
    have h1 := phi_lt h
    rcases ih with ih | ih
    ·exact absurd ih h
    ·show i + 1 ≤ phi es (passR es (iterR es v i))
     omega
def reachL (es : List EdD) (v : Int) : List Int := iterR es v (es.length + 1)
theorem reachL_mem (es : List EdD) (v x : Int) : x ∈ reachL es v ↔ Conn es v x := by
 have hclo : Clo es (reachL es v) := by
  rcases iterR_clo es v (es.length + 1) with h | h
  ·exact h
  ·have : phi es (iterR es v (es.length + 1)) ≤ es.length := List.length_filter_le _ _
   omega
 have hv : ∀ i, v ∈ iterR es v i := by
  intro i
  induction i with
  | zero => simp [iterR]
  | succ i ih => exact passR_mono ih
 have hs : ∀ i, ∀ x ∈ iterR es v i, Conn es v x := by
  intro i
  induction i with
  | zero => intro x hx; simp [iterR] at hx; subst hx; exact .base
  | succ i ih => exact passR_sound (fun _ h => h) ih
 refine ⟨hs _ x, fun h => ?_⟩
 induction h with
 | base => exact hv _
 | fwd e he _ ih => exact (hclo e he).1 ih
 | back e he _ ih => exact (hclo e he).2 ih
theorem conn_of_closed {es : List EdD} {v : Int} {S : Int → Prop} (hv : S v) (hc : ∀ e ∈ es, (S e.1 ↔ S e.2.2)) {x : Int} (h : Conn es v x) : S x := by
 induction h with
 | base => exact hv
 | fwd e he _ ih => exact (hc e he).1 ih
 | back e he _ ih => exact (hc e he).2 ih
theorem hasB_iff {l : List Int} {x : Int} : hasB l x = true ↔ x ∈ l := by
 unfold hasB
 rw [List.any_eq_true]
 constructor
 ·rintro ⟨y, hy, h⟩
  have : y = x := by simpa using h
  rw [← this]; exact hy
 ·intro h
  exact ⟨x, h, by simp⟩
theorem hasB_not {l : List Int} {x : Int} (h : hasB l x = false) : x ∉ l := fun hm => by
 rw [hasB_iff.2 hm] at h
 cases h
theorem stepR_len (o : List Int) (e : EdD) : (stepR o e).length ≤ o.length + 2 := by
 unfold stepR
 have h1 : (if e.1 ∈ o then insF cmpI o e.2.2 else o).length ≤ o.length + 1 := by
  split
  ·exact insF_len _ _
  ·omega
 generalize (if e.1 ∈ o then insF cmpI o e.2.2 else o) = o1 at h1 ⊢
 split
 ·have := insF_len (c := cmpI) o1 e.1
  omega
 ·omega
theorem foldR_len (es : List EdD) (o : List Int) : (es.foldl stepR o).length ≤ o.length + 2 * es.length := by
 induction es generalizing o with
 | nil => simp
 | cons e es ih =>
   have h1 := ih (stepR o e)
   have h2 := stepR_len o e
   simp only [List.foldl_cons, List.length_cons]
   omega
theorem iterR_len (es : List EdD) (v : Int) (i : Nat) (hl : es.length ≤ 120) : (iterR es v i).length ≤ 1 + 240 * i := by
 induction i with
 | zero => simp [iterR]
 | succ i ih =>
   have := foldR_len es (iterR es v i)
   show (passR es (iterR es v i)).length ≤ _
   unfold passR
   omega
def rsL (es : List EdD) (v : Int) (i k : Nat) : List Int := (es.take k).foldl stepR (iterR es v i)
theorem rsL_succ (es : List EdD) (v : Int) (i k : Nat) (h : k < es.length) : rsL es v i (k + 1) = stepR (rsL es v i k) es[k] := by
 unfold rsL
 rw [List.take_succ_eq_append_getElem h, List.foldl_append]
 rfl
theorem rsL_len (es : List EdD) (v : Int) (i k : Nat) (hl : es.length ≤ 120) (hi : i ≤ 121) (hk : k ≤ 120) : (rsL es v i k).length ≤ 100000 := by
 have h1 := iterR_len es v i hl
 have h2 := foldR_len (es.take k) (iterR es v i)
 have h3 : (es.take k).length ≤ k := List.length_take_le _ _
 unfold rsL
 omega
theorem stepR_ff {o : List Int} {e : EdD} (h1 : hasB o e.1 = false) (h2 : hasB o e.2.2 = false) : stepR o e = o := by
 unfold stepR
 rw [if_neg (hasB_not h1), if_neg (hasB_not h2)]
theorem stepR_ft {o : List Int} {e : EdD} (h1 : hasB o e.1 = false) (h2 : hasB o e.2.2 = true) : stepR o e = insF cmpI o e.1 := by
 unfold stepR
 rw [if_neg (hasB_not h1), if_pos (hasB_iff.1 h2)]
theorem stepR_t {o : List Int} {e : EdD} (h1 : hasB o e.1 = true) : stepR o e = insF cmpI (insF cmpI o e.2.2) e.1 := by
 unfold stepR
 rw [if_pos (hasB_iff.1 h1), if_pos (insF_mem.2 (.inl rfl))]
set_option maxHeartbeats 800000 in
theorem reachedFrom_any (v : Value) (g : GrD) (u : Int) (w : World) (h : ArgG w v g) (hg : grB g = true) (hu : inB u 0 (wrap64 (g.2.1 - 1)) = true) (hu64 : I64 u) :
  Calls Tryz.prog 126 #[v, .int .i64 u] w fun e w' => ∃ r, e = .returned r ∧ OwI w' w.heap.size r (reachL g.2.2 u) ∧ Below w.heap.size w w' := by
 have HG := Lib.hid h
 obtain ⟨_, hsz40, hl120, _⟩ := grB_parts hg
 have hw1 : wrap64 (g.2.1 - 1) = g.2.1 - 1 := IntWalk.wrap64_in _ ⟨by omega, by omega⟩
 rw [hw1] at hu
 clear hw1
 have HU := Lib.hid hu64
 clear hu64
 obtain ⟨s, rfl, _, _, ha⟩ := h
 have H := Lib.hid ha
 obtain ⟨A, cap, rfl, hcap, hm, _, hr, _⟩ := ha
 have HR := Lib.hid hr
 unfold maxLen at hm
 have bx : Below w.heap.size w (w.alloc (Obj.cells #[Value.int IntKind.i64 g.1, Value.int IntKind.i64 g.2.1, .slice A g.2.2.length cap] 31)) := (by repeat (first | exact Below.refl _ _ | (refine Below.setCell ?_ (by first | omega | (simp <;> omega)) _) | (refine bel_drewN ?_ _) | (refine Below.drew ?_) | (refine Below.alloc ?_ (by first | omega | (simp <;> omega)) _)))
 have kx1 : (w.alloc (Obj.cells #[Value.int IntKind.i64 g.1, Value.int IntKind.i64 g.2.1, .slice A g.2.2.length cap] 31)).cell? ⟨w.heap.size, 1, none⟩ = some (.int .i64 g.2.1) := by simp [go_sem]
 have kx : (w.alloc (Obj.cells #[Value.int IntKind.i64 g.1, Value.int IntKind.i64 g.2.1, .slice A g.2.2.length cap] 31)).cell? ⟨w.heap.size, 2, none⟩ = some (.slice A g.2.2.length cap) := by simp [go_sem]
 have sx : w.heap.size < (w.alloc (Obj.cells #[Value.int IntKind.i64 g.1, Value.int IntKind.i64 g.2.1, .slice A g.2.2.length cap] 31)).heap.size := by simp
 have BX := Lib.hid bx
 have KX := Lib.hid kx
 have KX1 := Lib.hid kx1
 clear bx kx kx1 hr
 go_enter Tryz.func126, Tryz.ntmps126
 go_wp2_with fail
 have hgr := specIsGraph_any _ g _ (HG.out.below BX.out)
 rw [hg] at hgr
 have HGR := Lib.hid hgr
 clear hgr
 refine HGR.out.mono ?_
 rintro e w0 ⟨rfl, b1⟩
 have B0 := Lib.hid (BX.out.trans (b1.mono BX.out.size))
 have k2 := (b1.cell (p := ⟨w.heap.size, 2, none⟩) sx).trans KX.out
 have k1 := (b1.cell (p := ⟨w.heap.size, 1, none⟩) sx).trans KX1.out
 have hs0 : w.heap.size < w0.heap.size := by have := b1.size; omega
 clear b1 sx HGR
 go_wp2_with fail
 have hin := l1In_any u 0 (g.2.1 - 1) w0
 rw [hu] at hin
 have HIN := Lib.hid hin
 clear hin
 refine HIN.out.mono ?_
 rintro e w' ⟨rfl, rfl⟩
 clear HIN
 go_wp2
 have hb : Below w0.heap.size w0 (w0.alloc (Obj.cells #[Value.int IntKind.i64 u] 3)) := (Below.refl _ _).alloc (Nat.le_refl _) _
 have o0 : OwI (w0.alloc (Obj.cells #[Value.int IntKind.i64 u] 3)) w0.heap.size (.slice (some ⟨w0.heap.size, 0, none⟩) 1 1) [u] := OwI_lit w0 [u] (fun x hx => by simp at hx; subst hx; exact HU.out) (by simp) (Nat.le_refl _)
 have hs1 : w0.heap.size < (w0.alloc (Obj.cells #[Value.int IntKind.i64 u] 3)).heap.size := by simp
 generalize w0.alloc (Obj.cells #[Value.int IntKind.i64 u] 3) = w1 at hb o0 hs1 ⊢
 have HB := Lib.hid (B0.out.trans (hb.mono B0.out.size))
 have K2 := Lib.hid ((hb.cell (p := ⟨w.heap.size, 2, none⟩) hs0).trans k2)
 have O0 := Lib.hid (o0.mono (base' := w.heap.size + 1) (by omega))
 clear hb k1 k2 o0
 go_loopw [5, 6] (fun out i wo => ∃ k : Nat, k ≤ g.2.2.length + 1 ∧ i = .int .i64 k ∧ OwI wo (w.heap.size + 1) out (iterR g.2.2 u k) ∧ Below (w.heap.size + 1) w1 wo) (fun _ i _ => g.2.2.length + 1 - (intOf i).toNat)
 case atStart => exact ⟨0, Nat.zero_le _, rfl, O0.out, Below.refl _ _⟩
 case round =>
  obtain ⟨k, hk, rfl, hown, hbel⟩ := hrel
  obtain ⟨wo, rfl⟩ : ∃ wo : World, wo = wr := ⟨_, rfl⟩
  have HB2 := Lib.hid hbel
  have HB3 := Lib.hid (HB.out.trans (hbel.mono (by omega)))
  have hsz := hbel.size
  have p2 := (hbel.cell (p := ⟨w.heap.size, 2, none⟩) (show w.heap.size < w.heap.size + 1 by omega)).trans K2.out
  have hws : w.heap.size < wo.heap.size := by omega
  have hil := iterR_len g.2.2 u k hl120
  have HO := Lib.hid hown
  obtain ⟨A1, cap1, rfl, _⟩ := hown.form
  clear hown hbel
  by_cases hlt : k < g.2.2.length + 1
  ·have hlt' : (k : Int) < (g.2.2.length : Int) + 1 := by omega
   go_wp2
   go_loopw [5, 7] (fun out j wr => ∃ m : Nat, m ≤ g.2.2.length ∧ j = .int .i64 m ∧ OwI wr (w.heap.size + 1) out (rsL g.2.2 u k m) ∧ Below (w.heap.size + 1) wo wr) (fun _ j _ => g.2.2.length - (intOf j).toNat)
   case atStart => exact ⟨0, Nat.zero_le _, rfl, HO.out, Below.refl _ _⟩
   case round =>
    obtain ⟨m, hm1, rfl, hown, hbi⟩ := hrel
    have hsi := hbi.size
    have p2 := (hbi.cell (p := ⟨w.heap.size, 2, none⟩) (show w.heap.size < w.heap.size + 1 by omega)).trans p2
    have HBI := Lib.hid hbi
    have HB4 := Lib.hid (HB3.out.trans (hbi.mono (by omega)))
    have hwr : w.heap.size < wr.heap.size := by omega
    have hrl := rsL_len g.2.2 u k m hl120 (by omega) (by omega)
    clear hbi
    by_cases hlt2 : m < g.2.2.length
    ·obtain ⟨b, off, rfl, hbl, c0, c1, c2, _⟩ := (H.out.below HB4.out).at hlt2
     have HX := Lib.hid (HR.out g.2.2[m] (by simp))
     have HS := Lib.hid (rsL_succ g.2.2 u k m hlt2)
     generalize g.2.2[m] = e at *
     generalize rsL g.2.2 u k m = o at *
     have HO2 := Lib.hid hown
     obtain ⟨A2, cap2, rfl, _⟩ := hown.form
     clear hown
     go_wp2_with fail
     obtain ⟨W, hW⟩ : ∃ W, W = World.alloc wr (Obj.cells #[Value.int IntKind.i64 e.1, Value.int IntKind.i64 e.2.1, Value.int IntKind.i64 e.2.2] 54) := ⟨_, rfl⟩
     rw [← hW]
     have bW : Below wr.heap.size wr W := by rw [hW]; exact (Below.refl _ _).alloc (Nat.le_refl _) _
     have sW : wr.heap.size < W.heap.size := by rw [hW]; simp
     have l0 : W.cell? ⟨wr.heap.size, 0, none⟩ = some (.int .i64 e.1) := by rw [hW]; simp [go_sem]
     have l2 : W.cell? ⟨wr.heap.size, 2, none⟩ = some (.int .i64 e.2.2) := by rw [hW]; simp [go_sem]
     have OW := Lib.hid (HO2.out.below bW)
     have BW := Lib.hid (HBI.out.trans (bW.mono (by omega)))
     clear hW bW p2 c0 c1 c2
     refine (l4Has_any _ o e.1 _ OW.out.rd.arg (by omega)).mono ?_
     rintro e' w' ⟨rfl, rfl⟩
     rcases h1 : hasB o e.1 with _ | _
     ·go_wp2_with fail
      refine (l4Has_any _ o e.2.2 _ OW.out.rd.arg (by omega)).mono ?_
      rintro e' w' ⟨rfl, rfl⟩
      rcases h2 : hasB o e.2.2 with _ | _
      ·have F := Lib.hid (stepR_ff h1 h2)
       go_wp2
       go_roundw
       case rel => exact ⟨m + 1, by omega, by go_num, by rw [HS.out, F.out]; exact OW.out, BW.out⟩
       case measure => simp [intOf]; omega
      ·have F := Lib.hid (stepR_ft h1 h2)
       go_wp2_with fail
       refine (l4Add_any _ o e.1 _ OW.out.rd HX.out.1 (by omega)).mono ?_
       rintro e' w2 ⟨r2, rfl, o2, b2⟩
       have O2 := Lib.hid o2
       have B2 := Lib.hid b2
       obtain ⟨A3, cap3, rfl, _⟩ := o2.form
       clear o2 b2
       go_wp2
       go_roundw
       case rel => exact ⟨m + 1, by omega, by go_num, by rw [HS.out, F.out]; exact O2.out.mono (by omega), BW.out.trans (B2.out.mono (by omega))⟩
       case measure => simp [intOf]; omega
     ·have F := Lib.hid (stepR_t h1)
      go_wp2_with fail
      refine (l4Add_any _ o e.2.2 _ OW.out.rd HX.out.2.2 (by omega)).mono ?_
      rintro e' w2 ⟨r2, rfl, o2, b2⟩
      have O2 := Lib.hid o2
      have B2 := Lib.hid b2
      have s2 := b2.size
      have hq0 := (b2.cell (p := ⟨wr.heap.size, 0, none⟩) sW).trans l0
      have hq2 := (b2.cell (p := ⟨wr.heap.size, 2, none⟩) sW).trans l2
      obtain ⟨A3, cap3, rfl, _⟩ := o2.form
      have hl2 := insF_len (c := cmpI) o e.2.2
      have hm2 : hasB (insF cmpI o e.2.2) e.2.2 = true := hasB_iff.2 (insF_mem.2 (.inl rfl))
      have HM2 := Lib.hid hm2
      clear o2 b2 l0 l2 hm2
      generalize insF cmpI o e.2.2 = o1 at *
      go_wp2_with fail
      refine (l4Has_any _ o1 e.2.2 _ O2.out.rd.arg (by omega)).mono ?_
      rintro e' w' ⟨rfl, rfl⟩
      rw [HM2.out]
      go_wp2_with fail
      refine (l4Add_any _ o1 e.1 _ O2.out.rd HX.out.1 (by omega)).mono ?_
      rintro e' w3 ⟨r3, rfl, o3, b3⟩
      have O3 := Lib.hid o3
      have B3 := Lib.hid b3
      obtain ⟨A4, cap4, rfl, _⟩ := o3.form
      clear o3 b3
      go_wp2
      go_roundw
      case rel => exact ⟨m + 1, by omega, by go_num, by rw [HS.out, F.out]; exact O3.out.mono (by omega), (BW.out.trans (B2.out.mono (by omega))).trans (B3.out.mono (by omega))⟩
      case measure => simp [intOf]; omega
    ·obtain rfl : m = g.2.2.length := by omega
     have F : Hid (rsL g.2.2 u k g.2.2.length = iterR g.2.2 u (k + 1)) := Lib.hid (by unfold rsL; rw [List.take_length]; rfl)
     have HO2 := Lib.hid hown
     obtain ⟨A2, cap2, rfl, _⟩ := hown.form
     clear hown
     go_wp2
     go_roundw
     case rel => exact ⟨k + 1, by omega, by go_num, by rw [← F.out]; exact HO2.out, HB2.out.trans HBI.out⟩
     case measure => simp [intOf]; omega
  ·obtain rfl : k = g.2.2.length + 1 := by omega
   have hge : ¬ ((g.2.2.length : Int) + 1 < (g.2.2.length : Int) + 1) := by omega
   go_wp2
   go_ret
   exact ⟨_, rfl, HO.out.mono (by omega), HB3.out⟩
theorem mt_clash {v x y y' : Int} {e e' : EdD} (h : mt v x e = some y) (h' : mt v x e' = some y') : clash e e' = true := by
 unfold mt at h h'
 by_cases hp : 0 < x
 ·rw [if_pos hp] at h h'
  split at h
  ·rename_i a
   split at h'
   ·rename_i b
    unfold clash
    simp [a.1, a.2, b.1, b.2]
   ·cases h'
  ·cases h
 ·rw [if_neg hp] at h h'
  by_cases hn : x < 0
  ·rw [if_pos hn] at h h'
   split at h
   ·rename_i a
    split at h'
    ·rename_i b
     unfold clash
     simp [a.1, a.2, b.1, b.2]
    ·cases h'
   ·cases h
  ·rw [if_neg hn] at h; cases h
theorem steps_one {es : List EdD} (h : Fol es) (v x : Int) : (stepsL es v x).length ≤ 1 := by
 unfold stepsL
 unfold Fol at h
 induction es with
 | nil => simp
 | cons e es ih =>
   have p := List.pairwise_cons.1 h
   rw [List.filterMap_cons]
   cases hm : mt v x e with
   | none => exact ih p.2
   | some y =>
     have : es.filterMap (mt v x) = [] := by
      rw [List.filterMap_eq_nil_iff]
      intro e' he'
      cases hm' : mt v x e' with
      | none => rfl
      | some y' =>
        have := mt_clash hm hm'
        rw [p.1 e' he'] at this
        cases this
     simp [this]
theorem edge_of_gr {g : GrD} (h : grB g = true) {e : EdD} (he : e ∈ g.2.2) : (0 ≤ e.1 ∧ e.1 < g.2.1) ∧ (1 ≤ e.2.1 ∧ e.2.1 ≤ g.1) ∧ (0 ≤ e.2.2 ∧ e.2.2 < g.2.1) := by
 obtain ⟨h1, h2, _, h4⟩ := grB_parts h
 obtain ⟨k, hk, rfl⟩ := List.getElem_of_mem he
 have := h4 k hk
 have ho : edgeOk g.1 g.2.1 g.2.2[k] = true := by
  rcases Nat.eq_zero_or_pos k with rfl | h0
  ·rw [okE_zero hk] at this; exact this
  ·rw [okE_pos h0 hk, Bool.and_eq_true] at this; exact this.1
 unfold edgeOk at ho
 rw [IntWalk.wrap64_in (g.2.1 - 1) ⟨by omega, by omega⟩] at ho
 simp only [Bool.and_eq_true, inB_iff] at ho
 omega
theorem nextV_range {g : GrD} (h : grB g = true) (v x : Int) : nextV g.2.2 v x = -1 ∨ (0 ≤ nextV g.2.2 v x ∧ nextV g.2.2 v x < g.2.1) := by
 unfold nextV stepsL
 cases hs : g.2.2.filterMap (mt v x) with
 | nil => exact .inl rfl
 | cons y l =>
   right
   have hy : y ∈ g.2.2.filterMap (mt v x) := by rw [hs]; simp
   obtain ⟨e, he, hm⟩ := List.mem_filterMap.1 hy
   obtain ⟨a, _, b⟩ := edge_of_gr h he
   show 0 ≤ y ∧ y < g.2.1
   unfold mt at hm
   split at hm
   ·split at hm
    ·injection hm with hm; subst hm; exact b
    ·cases hm
   ·split at hm
    ·split at hm
     ·injection hm with hm; subst hm; exact a
     ·cases hm
    ·cases hm
theorem let_of_gr {g : GrD} (h : grB g = true) : ∀ e ∈ g.2.2, 1 ≤ e.2.1 := fun _ he => (edge_of_gr h he).2.1.1

def cstep (es : List EdD) (u : Int) (o : List Int) (x : Int) : List Int :=
 if 0 ≤ nextV es u x then (if hasB o (nextV es u x) then o else o ++ [nextV es u x]) else o
def canF (es : List EdD) (ls : List Int) : Nat → Nat → List Int → List Int
 | 0, _, o => o
 | f + 1, i, o => match o[i]? with
   | none => o
   | some u => canF es ls f (i + 1) (ls.foldl (cstep es u) o)
def canO (g : GrD) : List Int := canF g.2.2 (lettersL g.1.toNat) 41 0 [0]
def OrdOk (n : Int) (o : List Int) : Prop := o.Nodup ∧ (∀ y ∈ o, 0 ≤ y ∧ y < n) ∧ o[0]? = some 0
theorem nodup_len : ∀ (n : Nat) (o : List Int), o.Nodup → (∀ y ∈ o, 0 ≤ y ∧ y < n) → o.length ≤ n
 | 0, [], _, _ => Nat.le_refl _
 | 0, y :: o, _, h => by have := h y (by simp); omega
 | n + 1, o, hd, h => by
   by_cases hm : (n : Int) ∈ o
   ·have h1 := List.length_erase_of_mem hm
    have h2 := nodup_len n (o.erase n) (hd.erase _) fun y hy => by
     have hy' := (hd.mem_erase_iff).1 hy
     have := h y hy'.2
     have : y ≠ (n : Int) := hy'.1
     omega
    have : 0 < o.length := List.length_pos_of_mem hm
    omega
   ·have := nodup_len n o hd fun y hy => by
     have := h y hy
     have : y ≠ (n : Int) := fun e => hm (e ▸ hy)
     omega
    omega
def OrdN (n : Int) (o : List Int) : Prop := o.Nodup ∧ (∀ y ∈ o, 0 ≤ y ∧ y < n) ∧ 1 ≤ o.length
theorem OrdOk.toN {n : Int} {o : List Int} (h : OrdOk n o) : OrdN n o := by
 refine ⟨h.1, h.2.1, ?_⟩
 have := h.2.2
 cases o with
 | nil => cases this
 | cons _ _ => simp
theorem OrdOk.len {n : Int} {o : List Int} (h : OrdOk n o) (hn : n ≤ 40) (hn0 : 0 ≤ n) : o.length ≤ 40 := by
 have := nodup_len n.toNat o h.1 fun y hy => by have := h.2.1 y hy; omega
 omega
theorem cstep_ok {g : GrD} (hg : grB g = true) {u : Int} {o : List Int} (x : Int) (h : OrdOk g.2.1 o) : OrdOk g.2.1 (cstep g.2.2 u o x) := by
 unfold cstep
 split
 ·rename_i h0
  split
  ·exact h
  ·rename_i hb
   have hb' : nextV g.2.2 u x ∉ o := hasB_not (by simpa using hb)
   refine ⟨List.nodup_append.2 ⟨h.1, by simp, fun a ha b hb e => ?_⟩, fun y hy => ?_, ?_⟩
   ·simp at hb
    subst hb e
    exact hb' ha
   ·rcases List.mem_append.1 hy with hy | hy
    ·exact h.2.1 y hy
    ·simp at hy
     subst hy
     rcases nextV_range hg u x with e | e
     ·omega
     ·exact e
   ·have : 0 < o.length := by
     have := h.2.2
     cases o with
     | nil => cases this
     | cons _ _ => simp
    rw [List.getElem?_append_left this]
    exact h.2.2
 ·exact h
theorem cfold_ok {g : GrD} (hg : grB g = true) {u : Int} (ls : List Int) {o : List Int} (h : OrdOk g.2.1 o) : OrdOk g.2.1 (ls.foldl (cstep g.2.2 u) o) := by
 induction ls generalizing o with
 | nil => exact h
 | cons x ls ih => exact ih (cstep_ok hg x h)
theorem cfold_prefix (es : List EdD) (u : Int) (ls : List Int) (o : List Int) (i : Nat) (y : Int) (h : o[i]? = some y) : (ls.foldl (cstep es u) o)[i]? = some y := by
 induction ls generalizing o with
 | nil => exact h
 | cons x ls ih =>
   refine ih _ ?_
   unfold cstep
   split
   ·split
    ·exact h
    ·rw [List.getElem?_append_left (List.getElem?_eq_some_iff.1 h).1]; exact h
   ·exact h
theorem cfold_succ (es : List EdD) (u : Int) (ls o : List Int) (k : Nat) (h : k < ls.length) : (ls.take (k + 1)).foldl (cstep es u) o = cstep es u ((ls.take k).foldl (cstep es u) o) ls[k] := by
 rw [List.take_succ_eq_append_getElem h, List.foldl_append]
 rfl
theorem OrdOk.one {n : Int} (h : 1 ≤ n) : OrdOk n [0] := ⟨by simp, fun y hy => by simp at hy; omega, rfl⟩
theorem canF_end (es : List EdD) (ls : List Int) (f : Nat) (o : List Int) : canF es ls f o.length o = o := by
 cases f with
 | zero => rfl
 | succ f => unfold canF; rw [List.getElem?_eq_none (Nat.le_refl _)]
theorem canF_step (es : List EdD) (ls : List Int) (f i : Nat) (o : List Int) (h : i < o.length) : canF es ls (f + 1) i o = canF es ls f (i + 1) (ls.foldl (cstep es o[i]) o) := by
 rw [canF, List.getElem?_eq_getElem h]
theorem canF_ok {g : GrD} (hg : grB g = true) (ls : List Int) (f i : Nat) {o : List Int} (h : OrdOk g.2.1 o) : OrdOk g.2.1 (canF g.2.2 ls f i o) := by
 induction f generalizing i o with
 | zero => exact h
 | succ f ih =>
   unfold canF
   split
   ·exact h
   ·exact ih _ (cfold_ok hg ls h)
theorem canO_ok {g : GrD} (hg : grB g = true) : OrdOk g.2.1 (canO g) := canF_ok hg _ _ _ (OrdOk.one (grB_parts hg).2.1.1)
end Go.Proofs.YtfadnkjlilhneaaGreat
