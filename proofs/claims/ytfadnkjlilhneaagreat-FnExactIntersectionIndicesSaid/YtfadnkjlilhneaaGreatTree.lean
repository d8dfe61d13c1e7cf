/- The program's tree, of a folded graph, from vertex 0: the order is canO. The row of words that the program's tree keeps beside the order: a vertex has a word exactly if it stands in the order. The steps from a vertex by a letter; the next vertex: the program's. -/
import Derived.Test.YtfadnkjlilhneaaGreatGrD
import Derived.Test.YtfadnkjlilhneaaGreatCanS
import Derived.Test.YtfadnkjlilhneaaGreatRen
import Derived.Test.YtfadnkjlilhneaaGreatCpy
import Derived.Test.YtfadnkjlilhneaaGreatLet
import Derived.Lib.SliceRun
namespace Go.Proofs.YtfadnkjlilhneaaGreat
set_option maxRecDepth 20000
set_option linter.unusedVariables false
set_option linter.unusedSimpArgs false
open Go.RowKit

/-! The library's sort of at most one number does nothing. -/
set_option maxHeartbeats 400000 in
theorem ins1_any (v : Value) (n : Int) (w : World) (hn : n = 0 ∨ n = 1) :
  Calls Tryz.prog 159 #[v, .int .i64 0, .int .i64 n] w fun e w' => e = .returned (.tuple #[]) ∧ w = w' := by
 rcases hn with rfl | rfl
 all_goals (
  go_enter Tryz.func159, Tryz.ntmps159
  go_wp2
  refine wp_loop_rounds 1 ?_
  rw [rounds_succ]
  go_wp2
  go_end0
  exact ⟨rfl, rfl⟩)
set_option maxHeartbeats 1000000 in
theorem len64_any (n : Int) (w : World) (hn : n = 0 ∨ n = 1) :
  Calls Tryz.prog 154 #[.int .u64 n] w fun e w' => (∃ l : Int, e = .returned (.int .i64 l)) ∧ w = w' := by
 rcases hn with rfl | rfl
 ·go_enter Tryz.func154, Tryz.ntmps154
  go_wp2
  go_ret
  exact ⟨⟨_, rfl⟩, rfl⟩
 ·go_enter Tryz.func154, Tryz.ntmps154
  go_wp2
  go_ret
  exact ⟨⟨_, rfl⟩, rfl⟩
set_option maxHeartbeats 400000 in
theorem len1_any (n : Int) (w : World) (hn : n = 0 ∨ n = 1) :
  Calls Tryz.prog 134 #[.int .u64 n] w fun e w' => (∃ l : Int, e = .returned (.int .i64 l)) ∧ w = w' := by
 have h := len64_any n w hn
 have HN := Lib.hid h
 clear h
 rcases hn with rfl | rfl
 all_goals (
  go_enter Tryz.func134, Tryz.ntmps134
  go_wp2_with fail
  refine HN.out.mono ?_
  rintro e w' ⟨⟨l, rfl⟩, rfl⟩
  go_wp2
  go_ret
  exact ⟨⟨_, rfl⟩, rfl⟩)
set_option maxHeartbeats 400000 in
theorem pdq1_any (v : Value) (n : Int) (l : Int) (w : World) (hn : n = 0 ∨ n = 1) :
  Calls Tryz.prog 144 #[v, .int .i64 0, .int .i64 n, .int .i64 l] w fun e w' => e = .returned (.tuple #[]) ∧ w = w' := by
 have h := ins1_any v n w hn
 have HN := Lib.hid h
 clear h
 rcases hn with rfl | rfl
 all_goals (
  go_enter Tryz.func144, Tryz.ntmps144
  go_wp2
  refine wp_loop_rounds 1 ?_
  rw [rounds_succ]
  go_wp2_with fail
  refine HN.out.mono ?_
  rintro e w' ⟨rfl, rfl⟩
  go_wp2
  exact bodyPost_ret (v := .tuple #[]) (by simp [results, Tryz.results144, go_sem]) rfl ⟨rfl, rfl⟩)
set_option maxHeartbeats 400000 in
theorem sort1_any (v : Value) (xs : List Int) (w : World) (h : RdI w v xs) (hn : xs.length ≤ 1) :
  Calls Tryz.prog 131 #[v] w fun e w' => e = .returned (.tuple #[]) ∧ w = w' := by
 obtain ⟨A, cap, rfl, _⟩ := h.arg
 have hn1 : (xs.length : Int) = 0 ∨ (xs.length : Int) = 1 := by omega
 have H1 := Lib.hid (len1_any (xs.length : Int) w hn1)
 have H2 := Lib.hid (fun l => pdq1_any (.slice A xs.length cap) (xs.length : Int) l w hn1)
 have hw : IntKind.u64.wrap (xs.length : Int) = (xs.length : Int) := by
  rcases hn1 with h | h <;> rw [h] <;> decide +kernel
 clear hn1 h
 go_enter Tryz.func131, Tryz.ntmps131
 go_wp2_with fail
 refine H1.out.mono ?_
 rintro e w' ⟨⟨l, rfl⟩, rfl⟩
 go_wp2_with fail
 refine (H2.out l).mono ?_
 rintro e w' ⟨rfl, rfl⟩
 go_wp2
 go_end0
 exact ⟨rfl, rfl⟩
set_option maxHeartbeats 400000 in
theorem compact1_any (A : Option Addr) (n cap : Nat) (w : World) (hn : n ≤ 1) :
  Calls Tryz.prog 132 #[.slice A n cap] w fun e w' => e = .returned (.slice A n cap) ∧ w = w' := by
 have h1 : (n : Int) < 2 := by omega
 go_enter Tryz.func132, Tryz.ntmps132
 go_wp2
 go_ret
 exact ⟨rfl, rfl⟩
set_option maxHeartbeats 2000000 in
theorem implStepsFrom_any (v : Value) (g : GrD) (u x : Int) (w : World) (h : ArgG w v g) (hone : (stepsL g.2.2 u x).length ≤ 1) (hlet : ∀ e ∈ g.2.2, 1 ≤ e.2.1) :
  Calls Tryz.prog 105 #[v, .int .i64 u, .int .i64 x] w fun e w' => ∃ r, e = .returned r ∧ OwI w' w.heap.size r (stepsL g.2.2 u x) ∧ Below w.heap.size w w' := by
 obtain ⟨s, rfl, _, _, ha⟩ := h
 have H := Lib.hid ha
 obtain ⟨A, cap, rfl, hcap, hm, _, hr, _⟩ := ha
 have HR := Lib.hid hr
 unfold maxLen at hm
 clear hr
 have HLET := Lib.hid hlet
 clear hlet
 go_enter Tryz.func105, Tryz.ntmps105
 go_wp2
 have hb : Below w.heap.size w ((w.alloc (Obj.cells #[Value.int IntKind.i64 g.1, Value.int IntKind.i64 g.2.1, .slice A g.2.2.length cap] 31)).alloc (Obj.cells #[] 3)) := (by repeat (first | exact Below.refl _ _ | (refine Below.setCell ?_ (by first | omega | (simp <;> omega)) _) | (refine bel_drewN ?_ _) | (refine Below.drew ?_) | (refine Below.alloc ?_ (by first | omega | (simp <;> omega)) _)))
 have k2 : ((w.alloc (Obj.cells #[Value.int IntKind.i64 g.1, Value.int IntKind.i64 g.2.1, .slice A g.2.2.length cap] 31)).alloc (Obj.cells #[] 3)).cell? ⟨w.heap.size, 2, none⟩ = some (.slice A g.2.2.length cap) := by simp [go_sem]
 have hs0 : w.heap.size + 1 < ((w.alloc (Obj.cells #[Value.int IntKind.i64 g.1, Value.int IntKind.i64 g.2.1, .slice A g.2.2.length cap] 31)).alloc (Obj.cells #[] 3)).heap.size := by simp
 have o0 : OwI ((w.alloc (Obj.cells #[Value.int IntKind.i64 g.1, Value.int IntKind.i64 g.2.1, .slice A g.2.2.length cap] 31)).alloc (Obj.cells #[] 3)) (w.heap.size + 1) (.slice (some ⟨w.heap.size + 1, 0, none⟩) 0 0) [] := OwI_litN (w.alloc (Obj.cells #[Value.int IntKind.i64 g.1, Value.int IntKind.i64 g.2.1, .slice A g.2.2.length cap] 31)) [] (w.heap.size + 1) (by simp) I64s_nil (by simp) (Nat.le_refl _)
 generalize (w.alloc (Obj.cells #[Value.int IntKind.i64 g.1, Value.int IntKind.i64 g.2.1, .slice A g.2.2.length cap] 31)).alloc (Obj.cells #[] 3) = w1 at hb k2 hs0 o0 ⊢
 have HB := Lib.hid hb
 have K2 := Lib.hid k2
 have O0 := Lib.hid o0
 clear hb k2 o0
 go_loopw [7, 14] (fun out i wr => ∃ k : Nat, k ≤ g.2.2.length ∧ i = .int .i64 k ∧ OwI wr (w.heap.size + 1) out (stepsL (g.2.2.take k) u x) ∧ Below (w.heap.size + 1) w1 wr) (fun _ i _ => g.2.2.length - (intOf i).toNat)
 case atStart => exact ⟨0, Nat.zero_le _, rfl, O0.out, Below.refl _ _⟩
 case round =>
  obtain ⟨k, hk, rfl, hown, hbel⟩ := hrel
  have hsz := hbel.size
  have HB3 := Lib.hid (HB.out.trans (hbel.mono (by omega)))
  have p2 := (hbel.cell (p := ⟨w.heap.size, 2, none⟩) (show w.heap.size < w.heap.size + 1 by omega)).trans K2.out
  have HO := Lib.hid hown
  have HB2 := Lib.hid hbel
  obtain ⟨A1, cap1, rfl, hcap1, hm1, _, _⟩ := hown.form
  clear hbel
  by_cases hlt : k < g.2.2.length
  ·obtain ⟨b, off, rfl, hbl, c0, c1, c2, _⟩ := (H.out.below HB3.out).at hlt
   have HS := Lib.hid (stepsL_succ g.2.2 u x k hlt)
   have HX := Lib.hid (HR.out g.2.2[k] (by simp))
   have HLE := Lib.hid (HLET.out g.2.2[k] (by simp))
   have hl1 := stepsL_take g.2.2 u x (k + 1)
   have hl0 : (stepsL (g.2.2.take k) u x).length ≤ 1 := by have := stepsL_take g.2.2 u x k; omega
   have HL1 : Hid ((stepsL (g.2.2.take (k + 1)) u x).length ≤ 1) := Lib.hid (by omega)
   clear hl1 hown
   generalize g.2.2[k] = e at *
   obtain ⟨f, l, t⟩ := e
   simp only at c0 c1 c2
   have keep : mt u x (f, l, t) = none → stepsL (g.2.2.take (k + 1)) u x = stepsL (g.2.2.take k) u x := fun e => by rw [HS.out, e]; simp
   have KE := Lib.hid keep
   have put : ∀ y, mt u x (f, l, t) = some y → stepsL (g.2.2.take k) u x = [] ∧ stepsL (g.2.2.take (k + 1)) u x = [y] := fun y e => by
    have h1 := HS.out
    have h2 := HL1.out
    rw [e] at h1
    rw [h1] at h2
    simp at h2
    refine ⟨h2, by rw [h1, h2]; rfl⟩
   have PU := Lib.hid put
   clear keep put
   by_cases hp : 0 < x
   ·have hn : ¬ x < 0 := by omega
    rcases e1 : (l == x) with _ | _
    ·have F := Lib.hid (KE.out (by simp at e1; simp [mt, hp, e1]))
     go_wp2
     go_roundw
     case rel => exact ⟨k + 1, by omega, by go_num, by rw [F.out]; exact HO.out.alloc _, HB2.out.alloc (by omega) _⟩
     case measure => simp [intOf]; omega
    ·rcases e2 : (f == u) with _ | _
     ·have F := Lib.hid (KE.out (by simp at e2; simp [mt, hp, e2]))
      go_wp2
      go_roundw
      case rel => exact ⟨k + 1, by omega, by go_num, by rw [F.out]; exact HO.out.alloc _, HB2.out.alloc (by omega) _⟩
      case measure => simp [intOf]; omega
     ·have F := Lib.hid (PU.out t (by simp at e1 e2; simp [mt, hp, e1, e2]))
      go_wp2_with (at_builtin; refine push_int rfl (.tmp 33) (.tmp 36) rfl _ _ _ (OwI.alloc (OwI.alloc HO.out _) _) rfl (wr.heap.size + 1) t rfl (by simp [go_sem]) HX.out.2.2 (by omega) (by simp; omega) ?_; intro v9 wv9 o9 g9 p9)
      go_roundw
      case rel => exact ⟨k + 1, by omega, by go_num, by have := o9; rw [F.out.1] at this; rw [F.out.2]; exact this, bel_push (B := w.heap.size + 1) (HB2.out.alloc (by omega) _) (by simp; omega) (OwI.alloc HO.out _).1 (Nat.le_refl _) g9⟩
      case measure => simp [intOf]; omega
   ·by_cases hn : x < 0
    ·rcases e0 : (x != -9223372036854775808) with _ | _
     ·have hx0 : x = -9223372036854775808 := by simpa using e0
      have F := Lib.hid (KE.out (by
       have h1 : wrap64 (-x) = -9223372036854775808 := by rw [hx0]; decide +kernel
       have h2 := HLE.out
       unfold mt
       rw [if_neg hp, if_pos hn, h1, if_neg (fun h => by have := h.1; simp only at this; omega)]))
      go_wp2
      go_roundw
      case rel => exact ⟨k + 1, by omega, by go_num, by rw [F.out]; exact HO.out.alloc _, HB2.out.alloc (by omega) _⟩
      case measure => simp [intOf]; omega
     rcases e1 : (l == wrap64 (-x)) with _ | _
     ·have F := Lib.hid (KE.out (by simp at e1; simp [mt, hp, hn, e1]))
      go_wp2
      go_roundw
      case rel => exact ⟨k + 1, by omega, by go_num, by rw [F.out]; exact HO.out.alloc _, HB2.out.alloc (by omega) _⟩
      case measure => simp [intOf]; omega
     ·rcases e2 : (t == u) with _ | _
      ·have F := Lib.hid (KE.out (by simp at e2; simp [mt, hp, hn, e2]))
       go_wp2
       go_roundw
       case rel => exact ⟨k + 1, by omega, by go_num, by rw [F.out]; exact HO.out.alloc _, HB2.out.alloc (by omega) _⟩
       case measure => simp [intOf]; omega
      ·have F := Lib.hid (PU.out f (by simp at e1 e2; simp [mt, hp, hn, e1, e2]))
       go_wp2_with (at_builtin; refine push_int rfl (.tmp 58) (.tmp 61) rfl _ _ _ (OwI.alloc (OwI.alloc HO.out _) _) rfl (wr.heap.size + 1) f rfl (by simp [go_sem]) HX.out.1 (by omega) (by simp; omega) ?_; intro v9 wv9 o9 g9 p9)
       go_roundw
       case rel => exact ⟨k + 1, by omega, by go_num, by have := o9; rw [F.out.1] at this; rw [F.out.2]; exact this, bel_push (B := w.heap.size + 1) (HB2.out.alloc (by omega) _) (by simp; omega) (OwI.alloc HO.out _).1 (Nat.le_refl _) g9⟩
       case measure => simp [intOf]; omega
    ·have F := Lib.hid (KE.out (by simp [mt, hp, hn]))
     go_wp2
     go_roundw
     case rel => exact ⟨k + 1, by omega, by go_num, by rw [F.out]; exact HO.out.alloc _, HB2.out.alloc (by omega) _⟩
     case measure => simp [intOf]; omega
  ·obtain rfl : k = g.2.2.length := by omega
   clear hown
   rw [List.take_length]
   rw [List.take_length] at HO hcap1
   have hn1 : (stepsL g.2.2 u x).length ≤ 1 := hone
   go_wp2_with fail
   refine (sort1_any _ _ _ HO.out.rd hn1).mono ?_
   rintro e wz ⟨rfl, rfl⟩
   go_wp2_with fail
   refine (compact1_any _ _ _ _ hn1).mono ?_
   rintro e wz ⟨rfl, rfl⟩
   go_wp2
   go_ret
   exact ⟨_, rfl, HO.out.mono (base' := w.heap.size) (by omega), HB3.out⟩
set_option maxHeartbeats 1000000 in
theorem implNextVertex_any (v : Value) (g : GrD) (u x : Int) (w : World) (h : ArgG w v g) (hone : (stepsL g.2.2 u x).length ≤ 1) (hlet : ∀ e ∈ g.2.2, 1 ≤ e.2.1) :
  Calls Tryz.prog 67 #[v, .int .i64 u, .int .i64 x] w fun e w' => e = .returned (.int .i64 (nextV g.2.2 u x)) ∧ Below w.heap.size w w' := by
 have H := Lib.hid h
 obtain ⟨s, rfl, _, _, ha⟩ := h
 obtain ⟨A, cap, rfl⟩ := ha.form
 obtain ⟨R, hR⟩ : ∃ R, R = nextV g.2.2 u x := ⟨_, rfl⟩
 rw [← hR]
 unfold nextV at hR
 have HR := Lib.hid hR
 clear hR
 go_enter Tryz.func67, Tryz.ntmps67
 go_wp2_with fail
 have hb : Below w.heap.size w (w.alloc (Obj.cells #[Value.int IntKind.i64 g.1, Value.int IntKind.i64 g.2.1, .slice A g.2.2.length cap] 31)) := (by repeat (first | exact Below.refl _ _ | (refine Below.setCell ?_ (by first | omega | (simp <;> omega)) _) | (refine bel_drewN ?_ _) | (refine Below.drew ?_) | (refine Below.alloc ?_ (by first | omega | (simp <;> omega)) _)))
 refine (implStepsFrom_any _ g u x _ (H.out.below hb) hone hlet).mono ?_
 rintro e w1 ⟨r, rfl, o1, b1⟩
 have B1 := Lib.hid (hb.trans (b1.mono hb.size))
 generalize stepsL g.2.2 u x = L at o1 HR
 clear hb b1 ha
 obtain ⟨A1, cap1, rfl, hc1, hm1, _, _⟩ := o1.form
 match L, o1, HR with
 | [], o1, HR =>
   have F : Hid (R = -1) := HR
   clear o1
   go_wp2
   go_ret
   exact ⟨ret_int F.out.symm, B1.out⟩
 | y :: L, o1, HR =>
   obtain rfl : R = y := HR.out
   clear HR
   obtain ⟨b, off, rfl, hbl, hc⟩ := o1.rd.at (by simp)
   have c0 := hc 0 (by simp)
   simp only [List.getElem_cons_zero, Nat.add_zero] at c0
   clear o1 hc
   go_wp2
   go_ret
   exact ⟨rfl, B1.out⟩
structure TreeW (bb P N : Nat) (w : World) (ord : Value) (o : List Int) : Prop where
 ex : ∃ vs : List Value, vs.length = N ∧ w.ownsRow bb 26 1 (.slice (some ⟨P, 0, none⟩) N N) N vs ∧ ∀ (j : Nat) (hj : j < vs.length),
  ((j : Int) ∉ o ∧ vs[j] = .slice none 0 0) ∨ ((j : Int) ∈ o ∧ ∃ (b cap : Nat) (ws : List Int), vs[j] = .slice (some ⟨b, 0, none⟩) ws.length cap ∧ ws.length ≤ o.length ∧ RdI w vs[j] ws ∧ b ≠ P ∧ ord.ownBlock ≠ some b ∧ b < w.heap.size)
 ne : ord.ownBlock ≠ some P
section
variable {bb P N : Nat} {w w' : World} {ord : Value} {o : List Int}
theorem TreeW.lt (h : TreeW bb P N w ord o) : bb ≤ P ∧ P < w.heap.size := by
 obtain ⟨vs, _, h2, _⟩ := h.ex
 exact h2.lt P rfl
theorem TreeW.at_new (h : TreeW bb P N w ord o) {y : Nat} (hy : y < N) (hn : (y : Int) ∉ o) : w.cell? ⟨P, y, none⟩ = some (.slice none 0 0) := by
 obtain ⟨vs, h1, h2, h3⟩ := h.ex
 rw [World.ownsRow.cellAt h2 y (by omega)]
 rcases h3 y (by omega) with ⟨_, h4⟩ | ⟨h4, _⟩
 ·rw [List.getElem?_eq_getElem (by omega), h4]
 ·exact absurd h4 hn
theorem TreeW.at_old (h : TreeW bb P N w ord o) {y : Nat} (hy : y < N) (hn : (y : Int) ∈ o) :
  ∃ (b cap : Nat) (ws : List Int), w.cell? ⟨P, y, none⟩ = some (.slice (some ⟨b, 0, none⟩) ws.length cap) ∧ ws.length ≤ o.length ∧ RdI w (.slice (some ⟨b, 0, none⟩) ws.length cap) ws := by
 obtain ⟨vs, h1, h2, h3⟩ := h.ex
 rw [World.ownsRow.cellAt h2 y (by omega)]
 rcases h3 y (by omega) with ⟨h4, _⟩ | ⟨_, b, cap, ws, e1, e2, e3, _⟩
 ·exact absurd hn h4
 ·rw [e1] at e3
  exact ⟨b, cap, ws, by rw [List.getElem?_eq_getElem (by omega), e1], e2, e3⟩
theorem TreeW.free (h : TreeW bb P N w ord o) (j : Nat) : w.frozen? ⟨P, j, none⟩ = false := by
 obtain ⟨vs, h1, h2, h3⟩ := h.ex
 exact World.ownsRow.frozenAt h2 j
theorem TreeW.below (h : TreeW bb P N w ord o) (hb : Below w.heap.size w w') : TreeW bb P N w' ord o := by
 obtain ⟨vs, h1, h2, h3⟩ := h.ex
 refine ⟨⟨vs, h1, ownsRow_below h2 hb, fun j hj => ?_⟩, h.ne⟩
 rcases h3 j hj with h4 | ⟨h4, b, cap, ws, e1, e2, e3, e4, e5, e6⟩
 ·exact .inl h4
 ·exact .inr ⟨h4, b, cap, ws, e1, e2, e3.below hb, e4, e5, by have := hb.size; omega⟩
theorem TreeW.set (h : TreeW bb P N w ord o) {y : Nat} (hy : y < N) {b cap : Nat} {ws : List Int} (hr : RdI w (.slice (some ⟨b, 0, none⟩) ws.length cap) ws) (hl : ws.length ≤ o.length + 1) (hb : b ≠ P) (ho : ord.ownBlock ≠ some b) (hlt : b < w.heap.size) :
  TreeW bb P N (w.setCell ⟨P, y, none⟩ (.slice (some ⟨b, 0, none⟩) ws.length cap)) ord (o ++ [(y : Int)]) := by
 obtain ⟨vs, h1, h2, h3⟩ := h.ex
 obtain ⟨s1, s2⟩ := World.ownsRow.stored h2 y (.slice (some ⟨b, 0, none⟩) ws.length cap)
 have hsz : (w.setCell ⟨P, y, none⟩ (.slice (some ⟨b, 0, none⟩) ws.length cap)).heap.size = w.heap.size := by simp
 have hg : w.grownBy (w.setCell ⟨P, y, none⟩ (.slice (some ⟨b, 0, none⟩) ws.length cap)) (some P) := set_grown _ _ _ _
 refine ⟨⟨_, by simpa using h1, s1, fun j hj => ?_⟩, h.ne⟩
 have hj' : j < vs.length := by simpa using hj
 by_cases hjy : j = y
 ·subst hjy
  refine .inr ⟨by simp, b, cap, ws, by simp, by simp; omega, ?_, hb, ho, by omega⟩
  rw [List.getElem_set_self]
  exact hr.grown hg fun x hx hx' => by simp [Value.ownBlock] at hx hx'; omega
 ·rw [List.getElem_set_ne (Ne.symm hjy)]
  rcases h3 j hj' with ⟨h4, h5⟩ | ⟨h4, b', cap', ws', e1, e2, e3, e4, e5, e6⟩
  ·refine .inl ⟨?_, h5⟩
   rw [List.mem_append, List.mem_singleton]
   rintro (h6 | h6)
   ·exact h4 h6
   ·omega
  ·refine .inr ⟨List.mem_append_left _ h4, b', cap', ws', e1, by simp; omega, e3.grown hg fun x hx hx' => ?_, e4, e5, by omega⟩
   rw [e1] at hx
   simp [Value.ownBlock] at hx hx'
   omega
theorem TreeW.lit (h : TreeW bb P N w (.slice none 0 0) o) (ob : Obj) (n c : Nat) : TreeW bb P N (w.alloc ob) (.slice (some ⟨w.heap.size, 0, none⟩) n c) o := by
 have hlt := h.lt
 obtain ⟨vs, h1, h2, h3⟩ := h.ex
 refine ⟨⟨vs, h1, ownsRow_below h2 ((Below.refl w.heap.size w).alloc (Nat.le_refl _) ob), fun j hj => ?_⟩, by simp [Value.ownBlock]; omega⟩
 rcases h3 j hj with h4 | ⟨h4, b, cap, ws, e1, e2, e3, e4, e5, e6⟩
 ·exact .inl h4
 ·exact .inr ⟨h4, b, cap, ws, e1, e2, e3.alloc _, e4, by simp [Value.ownBlock]; omega, by simp; omega⟩
theorem TreeW.push (h : TreeW bb P N w ord o) {w9 : World} {v9 : Value} {ob : Obj} (hg : (w.alloc ob).grownBy w9 ord.ownBlock) (hp : v9.ownBlock = ord.ownBlock ∨ v9.ownBlock = some (w.alloc ob).heap.size) : TreeW bb P N w9 v9 o := by
 have hlt := h.lt
 have h' := h.below ((Below.refl w.heap.size w).alloc (Nat.le_refl _) ob)
 obtain ⟨vs, h1, h2, h3⟩ := h'.ex
 have hs : (w.alloc ob).heap.size = w.heap.size + 1 := by simp
 have hs9 := hg.size
 refine ⟨⟨vs, h1, h2.kept hg (.inr fun e => h.ne e.symm), fun j hj => ?_⟩, ?_⟩
 ·rcases h3 j hj with h4 | ⟨h4, b, cap, ws, e1, e2, e3, e4, e5, e6⟩
  ·exact .inl h4
  ·refine .inr ⟨h4, b, cap, ws, e1, e2, e3.grown hg fun x hx hx' => ?_, e4, ?_, by omega⟩
   ·rw [e1] at hx
    simp only [Value.ownBlock, Option.some.injEq] at hx
    subst hx
    exact e5 hx'
   ·rcases hp with hp | hp
    ·rw [hp]; exact e5
    ·rw [hp]
     intro e
     injection e with e
     omega
 ·rcases hp with hp | hp
  ·rw [hp]; exact h.ne
  ·rw [hp]
   intro e
   injection e with e
   omega
end
theorem ints_info' : (Tryz.prog.info? 26).map (fun i => (i.zero, i.size, i.bytes)) = some (some (.slice none 0 0), 1, 24) := by kernel_rfl
set_option maxHeartbeats 1000000 in
theorem tree_any (v : Value) (g : GrD) (w : World) (h : ArgG w v g) (hf : foldB g = true) :
  Calls Tryz.prog 110 #[v, .int .i64 0] w fun e w' => ∃ r s, e = .returned (.tuple #[r, s]) ∧ OwI w' w.heap.size r (canO g) ∧ Below w.heap.size w w' := by
 have HG := Lib.hid h
 obtain ⟨hg, hfol⟩ := foldB_parts hf
 have ONE := Lib.hid (steps_one hfol)
 have LET := Lib.hid (let_of_gr hg)
 obtain ⟨hr13, hsz40, hl120, _⟩ := grB_parts hg
 obtain ⟨A, cap, hv⟩ : ∃ A cap, v = .agg #[.int .i64 g.1, .int .i64 g.2.1, .slice A g.2.2.length cap] := by
  obtain ⟨s, hv, _, _, ha⟩ := h
  obtain ⟨A, cap, rfl⟩ := ha.form
  exact ⟨A, cap, hv⟩
 subst hv
 obtain ⟨N, hN⟩ : ∃ N : Nat, g.2.1 = (N : Int) := ⟨g.2.1.toNat, by omega⟩
 obtain ⟨rn, hrn⟩ : ∃ rn : Nat, g.1 = (rn : Int) := ⟨g.1.toNat, by omega⟩
 have hrn1 : 1 ≤ rn := by omega
 have hrn3 : rn ≤ 3 := by omega
 have hN1 : 1 ≤ N := by omega
 have hN2 : N ≤ 40 := by omega
 have HCO : Hid (canO g = canF g.2.2 (lettersL rn) 41 0 [0]) := Lib.hid (by unfold canO; rw [hrn]; rfl)
 have OK0 := Lib.hid (OrdOk.one (n := g.2.1) (by omega))
 have OKS : Hid (∀ (u : Int) (o : List Int) (k : Nat), OrdOk g.2.1 o → OrdOk g.2.1 (((lettersL rn).take k).foldl (cstep g.2.2 u) o)) := Lib.hid fun u o k h => cfold_take_ok hg _ k h
 have OKL : Hid (∀ o : List Int, OrdOk g.2.1 o → o.length ≤ 40) := Lib.hid fun o h => h.len (by omega) (by omega)
 have OKR : Hid (∀ o : List Int, OrdOk g.2.1 o → ∀ y ∈ o, 0 ≤ y ∧ y < N) := Lib.hid fun o h y hy => by have := h.2.1 y hy; omega
 have NV : Hid (∀ u x, nextV g.2.2 u x = -1 ∨ (0 ≤ nextV g.2.2 u x ∧ nextV g.2.2 u x < N)) := Lib.hid fun u x => by
  rcases nextV_range hg u x with e | e
  ·exact .inl e
  ·exact .inr ⟨e.1, by omega⟩
 have hll := lettersL_len rn
 have HLE : Hid (∀ W : World, Calls Tryz.prog 66 #[.int .i64 g.1] W fun e w' => ∃ r, e = .returned r ∧ OwI w' W.heap.size r (lettersL rn) ∧ Below W.heap.size W w') := Lib.hid fun W => by
  rw [hrn]
  exact letters_any rn W (by omega)
 generalize lettersL rn = ls at *
 rw [hN] at HG
 clear hg hf hfol h hrn
 have hr1 : 1 ≤ g.1 ∧ g.1 ≤ 3 := hr13
 clear hsz40 hl120 hr13
 rw [hN]
 have bx : Below w.heap.size w (w.alloc (Obj.cells #[Value.int IntKind.i64 g.1, Value.int IntKind.i64 N, .slice A g.2.2.length cap] 31)) := (by repeat (first | exact Below.refl _ _ | (refine Below.setCell ?_ (by first | omega | (simp <;> omega)) _) | (refine bel_drewN ?_ _) | (refine Below.drew ?_) | (refine Below.alloc ?_ (by first | omega | (simp <;> omega)) _)))
 have k0 : (w.alloc (Obj.cells #[Value.int IntKind.i64 g.1, Value.int IntKind.i64 N, .slice A g.2.2.length cap] 31)).cell? ⟨w.heap.size, 0, none⟩ = some (.int .i64 g.1) := by simp [go_sem]
 have k1 : (w.alloc (Obj.cells #[Value.int IntKind.i64 g.1, Value.int IntKind.i64 N, .slice A g.2.2.length cap] 31)).cell? ⟨w.heap.size, 1, none⟩ = some (.int .i64 N) := by simp [go_sem]
 have k2 : (w.alloc (Obj.cells #[Value.int IntKind.i64 g.1, Value.int IntKind.i64 N, .slice A g.2.2.length cap] 31)).cell? ⟨w.heap.size, 2, none⟩ = some (.slice A g.2.2.length cap) := by simp [go_sem]
 have sx : w.heap.size < (w.alloc (Obj.cells #[Value.int IntKind.i64 g.1, Value.int IntKind.i64 N, .slice A g.2.2.length cap] 31)).heap.size := by simp
 have ex : (w.alloc (Obj.cells #[Value.int IntKind.i64 g.1, Value.int IntKind.i64 N, .slice A g.2.2.length cap] 31)).heap.size = w.heap.size + 1 := by simp
 have qT : ∀ (w : World) (a : Option Addr) (n c n' c' : Nat), (binOp .eql 26 (.slice a n c) (.slice none n' c')).run Tryz.prog w = .ok (.bool a.isNone) w := fun w a n c n' c' => Lib.run_eql_slice_nil w _ _ a n c n' c' Tryz.underlying26
 go_enter Tryz.func110, Tryz.ntmps110
 obtain ⟨i0, hi0, hz0, hz1, hz2⟩ := info_parts ints_info'
 go_wp2_with (at_make; refine wpList_make_full _ rfl _ _ 57 rfl (w.heap.size + 1) 26 i0 (.slice none 0 0) 1 Tryz.underlying57 hi0 hz0 hz1 _ _ _ _ N rfl rfl rfl rfl (by rw [hz2]; omega) (by unfold maxLen; omega) (by simp) ?_)
 generalize w.alloc (Obj.cells #[Value.int IntKind.i64 g.1, Value.int IntKind.i64 N, .slice A g.2.2.length cap] 31) = w1 at bx k0 k1 k2 sx ex ⊢
 rw [← ex]
 have BX := Lib.hid bx
 have K0 := Lib.hid k0
 have K1 := Lib.hid k1
 have K2 := Lib.hid k2
 have EX := Lib.hid ex
 clear k0 k1 k2 bx ex
 intro w2 hown0 hgrow0
 have hP2 : w1.heap.size < w2.heap.size := (hown0.lt w1.heap.size rfl).2
 have B12 : Below w1.heap.size w1 w2 := (Below.refl w1.heap.size w1).grown hgrow0 (Nat.le_refl _) (fun k h => by cases h)
 have TW0 : TreeW w1.heap.size w1.heap.size N w2 (.slice none 0 0) [] := ⟨⟨List.replicate N (.slice none 0 0), by simp, by simpa [toList_madeCells_one] using hown0, fun j hj => .inl ⟨by simp, by simp⟩⟩, by simp [Value.ownBlock]⟩
 have TW1 : TreeW w1.heap.size w1.heap.size N (w2.alloc (.cells #[] 3)) (.slice none 0 0) [] := TW0.below ((Below.refl _ _).alloc (Nat.le_refl _) _)
 have oE : OwI (w2.alloc (.cells #[] 3)) w2.heap.size (.slice (some ⟨w2.heap.size, 0, none⟩) 0 0) [] := OwI_lit w2 [] (fun _ h => by cases h) (by simp) (Nat.le_refl _)
 have TW2 := TW1.set (y := 0) (by omega) (b := w2.heap.size) (cap := 0) (ws := []) oE.rd (by simp) (by omega) (by simp [Value.ownBlock]) (by simp)
 have hc0 := TW1.at_new (y := 0) (by omega) (by simp)
 have hf0 := TW1.free 0
 have j1 : (0 : Int) < (N : Int) := by omega
 have TWH := Lib.hid TW2
 have B13 : Hid (Below w1.heap.size w1 ((w2.alloc (.cells #[] 3)).setCell ⟨w1.heap.size, 0, none⟩ (.slice (some ⟨w2.heap.size, 0, none⟩) 0 0))) := Lib.hid ((B12.alloc (by omega) _).setCell (by show w1.heap.size ≤ w1.heap.size; omega) _)
 clear TW0 TW1 TW2 oE hown0 hgrow0 B12
 go_wp2
 have oO : OwI (((w2.alloc (.cells #[] 3)).setCell ⟨w1.heap.size, 0, none⟩ (.slice (some ⟨w2.heap.size, 0, none⟩) 0 0)).alloc (.cells #[Value.int IntKind.i64 0] 3)) (w1.heap.size + 1) (.slice (some ⟨w2.heap.size + 1, 0, none⟩) 1 1) [0] := OwI_litN _ [0] (w2.heap.size + 1) (by simp) (fun x hx => by simp at hx; subst hx; exact ⟨by decide, by decide⟩) (by simp) (by omega)
 have TWL := TWH.out.lit (.cells #[Value.int IntKind.i64 0] 3) 1 1
 have B14 : Below w1.heap.size w1 (((w2.alloc (.cells #[] 3)).setCell ⟨w1.heap.size, 0, none⟩ (.slice (some ⟨w2.heap.size, 0, none⟩) 0 0)).alloc (.cells #[Value.int IntKind.i64 0] 3)) := B13.out.alloc (by simp; omega) _
 have e3 : ((w2.alloc (.cells #[] 3)).setCell ⟨w1.heap.size, 0, none⟩ (.slice (some ⟨w2.heap.size, 0, none⟩) 0 0)).heap.size = w2.heap.size + 1 := by simp
 simp only [List.length_nil, List.nil_append] at TWL
 rw [e3] at TWL
 have hsw : (w2.alloc (.cells #[] 3)).setCell ⟨w1.heap.size, 0, none⟩ (.slice (some ⟨w2.heap.size, 0, none⟩) 0 0) = (w2.setCell ⟨w1.heap.size, 0, none⟩ (.slice (some ⟨w2.heap.size, 0, none⟩) 0 0)).alloc (.cells #[] 3) := World.setCell_alloc_past _ _ _ _ hP2
 rw [hsw] at oO TWL B14
 generalize ((w2.setCell ⟨w1.heap.size, 0, none⟩ (.slice (some ⟨w2.heap.size, 0, none⟩) 0 0)).alloc (.cells #[] 3)).alloc (.cells #[Value.int IntKind.i64 0] 3) = w3 at oO TWL B14 ⊢
 have OO := Lib.hid oO
 have TW := Lib.hid TWL
 have HB0 := Lib.hid B14
 clear oO TWL B14 e3 hc0 hf0 TWH B13
 go_loopw [7, 8] (fun out i wo => ∃ (k : Nat) (o : List Int), k ≤ o.length ∧ i = .int .i64 k ∧ OrdOk g.2.1 o ∧ canO g = canF g.2.2 ls (41 - k) k o ∧ OwI wo (w1.heap.size + 1) out o ∧ TreeW w1.heap.size w1.heap.size N wo out o ∧ Below w1.heap.size w1 wo) (fun _ i _ => 41 - (intOf i).toNat)
 case atStart => exact ⟨0, [0], by simp, rfl, OK0.out, HCO.out, OO.out, TW.out, HB0.out⟩
 case round =>
  obtain ⟨k, o, hk, rfl, hok, hco, hown, htw, hbel⟩ := hrel
  obtain ⟨wo, rfl⟩ : ∃ wo : World, wo = wr := ⟨_, rfl⟩
  have hol := OKL.out o hok
  have HOK := Lib.hid hok
  have HC := Lib.hid hco
  have HO := Lib.hid hown
  have HTW := Lib.hid htw
  have HB2 := Lib.hid hbel
  have hsz := hbel.size
  have q0 := (hbel.cell (p := ⟨w.heap.size, 0, none⟩) sx).trans K0.out
  obtain ⟨A1, cap1, rfl, _, _, _, hf2⟩ := hown.form
  clear hok hco htw hbel
  by_cases hlt : k < o.length
  ·obtain ⟨u, hu⟩ : ∃ u, o[k]? = some u := ⟨o[k], by simp⟩
   have hku : o[k] = u := by rw [List.getElem?_eq_getElem hlt] at hu; injection hu
   have HCF : Hid (canO g = canF g.2.2 ls (41 - (k + 1)) (k + 1) (ls.foldl (cstep g.2.2 u) o)) := Lib.hid (by
    rw [HC.out, show 41 - k = (41 - (k + 1)) + 1 by omega, canF_step _ _ _ _ _ hlt, hku])
   have HPU : Hid (∀ m : Nat, (((ls.take m).foldl (cstep g.2.2 u) o))[k]? = some u) := Lib.hid fun m => cfold_prefix _ _ _ _ _ _ hu
   have HSU : Hid (∀ (m : Nat) (hm : m < ls.length), (ls.take (m + 1)).foldl (cstep g.2.2 u) o = cstep g.2.2 u ((ls.take m).foldl (cstep g.2.2 u) o) ls[m]) := Lib.hid fun m hm => cfold_succ _ _ _ _ _ hm
   have HOKm : Hid (∀ m : Nat, OrdOk g.2.1 ((ls.take m).foldl (cstep g.2.2 u) o)) := Lib.hid fun m => OKS.out u o m HOK.out
   obtain ⟨un, hun, hunN⟩ : ∃ un : Nat, u = (un : Int) ∧ un < N := by
    have h1 := HOK.out.2.1 u (by rw [← hku]; simp)
    exact ⟨u.toNat, by omega, by omega⟩
   obtain ⟨b1, rfl, _, hb1⟩ := hf2 (by omega)
   have ck := hown.cellAt k hlt
   rw [hku] at ck
   have HUN := Lib.hid hun
   clear hf2 hu hku hown hun
   go_wp2_with fail
   refine (HLE.out wo).mono ?_
   rintro e wl ⟨rl, rfl, ol, bl⟩
   have sl := bl.size
   obtain ⟨Al, capl, rfl, hcl, hml, _, hfl⟩ := ol.form
   obtain ⟨gl, rfl, hgl1, hgl2⟩ := hfl (by omega)
   unfold maxLen at hml
   have OL := Lib.hid ol.rd
   have BL := Lib.hid bl
   have HO3 := Lib.hid (HO.out.below bl)
   have HT3 := Lib.hid (HTW.out.below bl)
   have hne1 : b1 ≠ gl := by omega
   clear hfl ol bl
   go_wp2
   go_loopw [7, 36] (fun out j wr => ∃ m : Nat, m ≤ ls.length ∧ j = .int .i64 m ∧ OwI wr (w1.heap.size + 1) out ((ls.take m).foldl (cstep g.2.2 u) o) ∧ TreeW w1.heap.size w1.heap.size N wr out ((ls.take m).foldl (cstep g.2.2 u) o) ∧ RdI wr (.slice (some ⟨gl, 0, none⟩) ls.length capl) ls ∧ out.ownBlock ≠ some gl ∧ gl ≠ w1.heap.size ∧ gl < wr.heap.size ∧ Below w1.heap.size wl wr) (fun _ j _ => ls.length - (intOf j).toNat)
   case atStart => exact ⟨0, Nat.zero_le _, rfl, HO3.out, HT3.out, OL.out, by simp [Value.ownBlock]; omega, by have := HTW.out.lt; omega, hgl2, Below.refl _ _⟩
   case round =>
    obtain ⟨m, hm1, rfl, hown, htw, hrd, hne, hnP, hblr, hbi⟩ := hrel
    have hsi := hbi.size
    have HBI := Lib.hid hbi
    have HB4 : Hid (Below w1.heap.size w1 wr) := Lib.hid ((HB2.out.trans (BL.out.mono (by omega))).trans hbi)
    have p0 := (HB4.out.cell (p := ⟨w.heap.size, 0, none⟩) sx).trans K0.out
    have p1 := (HB4.out.cell (p := ⟨w.heap.size, 1, none⟩) sx).trans K1.out
    have p2 := (HB4.out.cell (p := ⟨w.heap.size, 2, none⟩) sx).trans K2.out
    have HRR := Lib.hid hrd
    have HNR := Lib.hid hne
    have HTW2 := Lib.hid htw
    clear hbi htw
    by_cases hlt2 : m < ls.length
    ·have hokm := HOKm.out m
     have hlm := OKL.out _ hokm
     have hpu := HPU.out m
     have HS := Lib.hid (HSU.out m hlt2)
     have HORm := Lib.hid (OKR.out _ hokm)
     obtain ⟨_, _, hAl, _, hcl⟩ := hrd.at (by omega)
     obtain ⟨rfl, rfl⟩ : gl = _ ∧ 0 = _ := by simpa using hAl
     have c0 := hcl m hlt2
     rw [Nat.zero_add] at c0
     have hx64 : I64 ls[m] := hrd.2 _ (by simp)
     generalize ls[m] = x at c0 HS hx64
     have HX := Lib.hid hx64
     generalize (ls.take m).foldl (cstep g.2.2 u) o = om at *
     have hum : u ∈ om := List.mem_of_getElem? hpu
     have HUM := Lib.hid hum
     have HOM := Lib.hid hown
     have NX := Lib.hid (NV.out u x)
     have N0 := Lib.hid (cstep_no (es := g.2.2) (u := u) (x := x) (o := om))
     have N1 := Lib.hid (cstep_in (es := g.2.2) (u := u) (x := x) (o := om))
     have N2 := Lib.hid (cstep_new (es := g.2.2) (u := u) (x := x) (o := om))
     have HNX := Lib.hid (implNextVertex_any _ g u x wr (HG.out.below (BX.out.trans (HB4.out.mono (by omega)))) (ONE.out u x) LET.out)
     clear hcl hAl hown hrd hpu hokm hx64 hum
     go_wp2_with fail
     refine HNX.out.mono ?_
     rintro e wq ⟨rfl, bq⟩
     clear HNX
     have sq := bq.size
     have HQ : Hid (Below w1.heap.size wl wq) := Lib.hid (HBI.out.trans (bq.mono (by omega)))
     have HOQ := Lib.hid (HOM.out.below bq)
     have HRQ := Lib.hid (HRR.out.below bq)
     have HTQ := Lib.hid (HTW2.out.below bq)
     clear bq p0 p1 p2
     generalize nextV g.2.2 u x = y at *
     rcases NX.out with hy | hy
     ·subst hy
      have F := Lib.hid (N0.out (by omega))
      go_wp2
      go_roundw
      case rel => exact ⟨m + 1, by omega, by go_num, by rw [HS.out, F.out]; exact HOQ.out, by rw [HS.out, F.out]; exact HTQ.out, HRQ.out, HNR.out, hnP, by omega, HQ.out⟩
      case measure => simp [intOf]; omega
     ·obtain ⟨yn, rfl⟩ : ∃ yn : Nat, y = (yn : Int) := ⟨y.toNat, by omega⟩
      have hy0 : (0 : Int) ≤ (yn : Int) := hy.1
      have hyN : (yn : Int) < (N : Int) := hy.2
      have hynN : yn < N := by omega
      rcases h1 : hasB om (yn : Int) with _ | _
      ·have F := Lib.hid (N2.out hy0 h1)
       have HY : Hid (I64 (yn : Int)) := Lib.hid ⟨by omega, by omega⟩
       have hnotin : (yn : Int) ∉ om := hasB_not h1
       have ct := HTQ.out.at_new hynN hnotin
       have ft := HTQ.out.free yn
       obtain ⟨bu, capu, wu, cu, hwul, hru⟩ := HTQ.out.at_old hunN (by rw [← HUN.out]; exact HUM.out)
       have HRU := Lib.hid hru
       have huN' : u < (N : Int) := by rw [HUN.out]; omega
       have hu0' : (0 : Int) ≤ u := by rw [HUN.out]; omega
       have cu' : wq.cell? ⟨w1.heap.size, u.toNat, none⟩ = some (.slice (some ⟨bu, 0, none⟩) wu.length capu) := by rw [HUN.out]; exact cu
       clear hru hnotin
       go_wp2_with fail
       refine (copyInts_any _ wu _ HRU.out (by omega)).mono ?_
       rintro e wc ⟨rc, rfl, oc, bc⟩
       have sc := bc.size
       have OC := Lib.hid oc
       have BC := Lib.hid bc
       have hPq := HTQ.out.lt.2
       have hneT := HTQ.out.ne
       have hA2 : ∀ x, u7.ownBlock = some x → x < wq.heap.size := fun x hx => (HOQ.out.1.lt x hx).2
       have HA2 := Lib.hid hA2
       have CT := Lib.hid ct
       have FT := Lib.hid ft
       obtain ⟨Ac, capc, rfl, _⟩ := OwI.form oc
       clear oc bc ct ft hA2
       go_wp2_with (first | ((at_builtin; refine push_int rfl (.tmp 59) (.tmp 61) rfl _ _ _ (OwI.alloc OC.out _) rfl _ _ rfl (cell_new1 _ _ _) HX.out (by first | omega | (simp <;> omega)) (by first | omega | (simp <;> omega)) ?_; intro v8 wv8 o8 g8 p8); obtain ⟨A8, cap8, rfl, hl8, hm8, _, hf8⟩ := OwI.form o8; obtain ⟨b8, rfl, hb81, hb82⟩ := hf8 (by simp); have B8 : Below wq.heap.size wq wv8 := bel_push BC.out sc OC.out.1 (Nat.le_refl _) g8; have ct3 := (B8.cell (p := ⟨w1.heap.size, yn, none⟩) hPq).trans CT.out; have ft3 := (B8.frozen (p := ⟨w1.heap.size, yn, none⟩) hPq).trans FT.out; have hts := (HTQ.out.below B8).set hynN o8.rd (by simp; omega) (by omega) (fun e => by have := HA2.out _ e; omega) hb82; have s8 := B8.size; have HB8 := Lib.hid B8; simp only [List.length_append, List.length_cons, List.length_nil, Nat.zero_add] at hts; have HTS := Lib.hid hts; clear o8 g8 p8 hf8 B8 hts; have hgS : wv8.grownBy (wv8.setCell ⟨w1.heap.size, yn, none⟩ (.slice (some ⟨b8, 0, none⟩) (wu.length + 1) cap8)) (some w1.heap.size) := set_grown _ _ _ _; have HOS : Hid (OwI (wv8.setCell ⟨w1.heap.size, yn, none⟩ (.slice (some ⟨b8, 0, none⟩) (wu.length + 1) cap8)) (w1.heap.size + 1) u7 om) := Lib.hid ((HOQ.out.below HB8.out).far (p := ⟨w1.heap.size, yn, none⟩) (by show w1.heap.size < _; omega) _); have HRS : Hid (RdI (wv8.setCell ⟨w1.heap.size, yn, none⟩ (.slice (some ⟨b8, 0, none⟩) (wu.length + 1) cap8)) (.slice (some ⟨gl, 0, none⟩) ls.length capl) ls) := Lib.hid ((HRQ.out.below HB8.out).grown hgS fun b hb hb' => by simp [Value.ownBlock] at hb hb'; omega); have HBS : Hid (Below w1.heap.size wl (wv8.setCell ⟨w1.heap.size, yn, none⟩ (.slice (some ⟨b8, 0, none⟩) (wu.length + 1) cap8))) := Lib.hid ((HQ.out.trans (HB8.out.mono (by omega))).setCell (by show w1.heap.size ≤ w1.heap.size; omega) _); clear hgS) | (at_builtin; refine push_int rfl (.tmp 64) (.tmp 66) rfl _ _ _ (OwI.alloc HOS.out _) rfl _ _ rfl (by simp [go_sem]) HY.out (by first | omega | (simp <;> omega)) (by first | omega | (simp <;> omega)) ?_; intro v9 wv9 o9 g9 p9))
       have hS : (wv8.setCell ⟨w1.heap.size, yn, none⟩ (.slice (some ⟨b8, 0, none⟩) (wu.length + 1) cap8)).heap.size = wv8.heap.size := by simp
       have hz9 := g9.size
       simp at hz9
       go_roundw
       case rel =>
        refine ⟨m + 1, by omega, by go_num, by rw [HS.out, F.out]; exact o9, by rw [HS.out, F.out]; exact HTS.out.push g9 p9, (HRS.out.alloc _).grown g9 (fun b hb hb' => ?_), fun e => ?_, hnP, by omega, bel_push HBS.out (by omega) HOS.out.1 (by omega) g9⟩
        ·simp only [Value.ownBlock, Option.some.injEq] at hb
         subst hb
         exact HNR.out hb'
        ·rcases p9 with p9 | p9
         ·rw [p9] at e; exact HNR.out e
         ·rw [p9] at e; simp at e; omega
       case measure => simp [intOf]; omega
      ·have F := Lib.hid (N1.out hy0 h1)
       obtain ⟨bu, capu, wu, cu, hwul, hru⟩ := HTQ.out.at_old hynN (hasB_iff.1 h1)
       clear hru
       go_wp2
       go_roundw
       case rel => exact ⟨m + 1, by omega, by go_num, by rw [HS.out, F.out]; exact HOQ.out, by rw [HS.out, F.out]; exact HTQ.out, HRQ.out, HNR.out, hnP, by omega, HQ.out⟩
       case measure => simp [intOf]; omega
    ·obtain rfl : m = ls.length := by omega
     rw [List.take_length] at hown HTW2
     have hokm := HOKm.out ls.length
     rw [List.take_length] at hokm
     have HOKF := Lib.hid hokm
     have HOM := Lib.hid hown
     have hlen : k + 1 ≤ (ls.foldl (cstep g.2.2 u) o).length := by
      have := HPU.out ls.length
      rw [List.take_length] at this
      have := (List.getElem?_eq_some_iff.1 this).1
      omega
     obtain ⟨A2, cap2, rfl, _⟩ := hown.form
     clear hown hrd hne hokm p0 p1 p2
     go_wp2
     go_roundw
     case rel => exact ⟨k + 1, _, hlen, by go_num, HOKF.out, HCF.out, HOM.out, HTW2.out, HB4.out⟩
     case measure => simp [intOf]; omega
  ·obtain rfl : k = o.length := by omega
   have F : Hid (canO g = o) := Lib.hid (by rw [HC.out, canF_end])
   clear hown hf2
   have HBW : Hid (Below w.heap.size w wo) := Lib.hid (BX.out.trans (HB2.out.mono (by omega)))
   have HEX := EX.out
   have hbase : w.heap.size ≤ w1.heap.size + 1 := by omega
   clear HEX
   go_wp2
   exact bodyPost_ret (v := .tuple #[.slice A1 o.length cap1, .slice (some ⟨w1.heap.size, 0, none⟩) N N]) (by simp [results, Tryz.results110]) rfl ⟨_, _, rfl, by rw [F.out]; exact HO.out.mono hbase, HBW.out⟩
end Go.Proofs.YtfadnkjlilhneaaGreat
