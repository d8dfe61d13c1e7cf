/- How a law's walk keeps its objects: each depends on a range of blocks; each step of the law changes blocks of one range, or none that was there. The helpers of the laws over slices of ints: toIntS copies, eqIntS compares, markIntS writes, heldIntS reads. -/
import Derived.Test.YtnmkbkpegkchpaaBase
namespace Go.Proofs.Ytnmkbkpegkchpaa
set_option maxRecDepth 20000
set_option linter.unusedVariables false
set_option linter.unusedSimpArgs false
open Go.RowKit

theorem set_of_zeros (xs : List Int) (k : Nat) (hk : k < xs.length) :
    (((xs.take k).map (Value.int .i64)) ++ List.replicate (xs.length - k) (Value.int .i64 0)).set k (.int .i64 xs[k]) = ((xs.take (k + 1)).map (Value.int .i64)) ++ List.replicate (xs.length - (k + 1)) (Value.int .i64 0) := by
  have e : xs.length - k = (xs.length - (k + 1)) + 1 := by omega
  rw [e, List.replicate_succ, List.set_append_right _ _ (by simp; omega), List.length_map, List.length_take, Nat.min_eq_left (by omega), Nat.sub_self, List.set_cons_zero, List.take_succ_eq_append_getElem hk]
  simp only [List.map_append, List.map_cons, List.map_nil, List.append_assoc, List.cons_append, List.nil_append]

set_option maxHeartbeats 400000 in
theorem toIntS_any (v : Value) (xs : List Int) (w : World) (h : ArgI w v xs) (hl : xs.length ≤ 1048576) :
    Calls Try.prog 13 #[v] w fun e w' => ∃ r, e = .returned r ∧ OwI w' w.heap.size r xs ∧ Below w.heap.size w w' := by
  obtain ⟨i0, hi0, hz0, hz1, hz2⟩ := info_parts int_info
  obtain ⟨A, cap, rfl, hcap, hm, hr, hb⟩ := h
  go_enter Try.func13, Try.ntmps13
  go_wp2_with (at_make; refine wpList_make_full _ rfl _ _ 27 rfl w.heap.size 3 i0 (.int .i64 0) 1 Try.underlying27 hi0 hz0 hz1 _ _ _ _ xs.length rfl rfl rfl rfl (by rw [hz2]; omega) (by unfold maxLen; omega) (Nat.le_refl _) ?_)
  intro w0 hown0 hgrow0
  go_wp2
  go_loopw [4] (fun i wr => ∃ k : Nat, k ≤ xs.length ∧ i = .int .i64 k ∧
      wr.ownsRow w.heap.size 3 1 (.slice (some ⟨w.heap.size, 0, none⟩) xs.length xs.length) xs.length (((xs.take k).map (Value.int .i64)) ++ List.replicate (xs.length - k) (Value.int .i64 0)) ∧ Below w.heap.size w wr)
    (fun i _ => xs.length - (intOf i).toNat)
  case atStart => exact ⟨0, Nat.zero_le _, rfl, by simpa [toList_madeCells_one] using hown0, (Below.refl _ _).grown hgrow0 (Nat.le_refl _) (fun k h => by cases h)⟩
  case round =>
    obtain ⟨k, hk, rfl, hown, hbel⟩ := hrel
    by_cases hlt : k < xs.length
    · obtain ⟨b, off, rfl, hc⟩ := hb (by omega)
      have hbl : b < w.heap.size := World.block_lt_of_cell? w _ (hc 0 (by omega))
      have hcell : wr.cell? ⟨b, off + k, none⟩ = some (.int .i64 xs[k]) := (hbel.cell hbl).trans (hc k hlt)
      have hfr := hown.frozenAt k
      have hold := hown.cellAt k (by omega)
      have hold' : wr.cell? ⟨w.heap.size, k, none⟩ = some (.int .i64 0) := by
        rw [hold]; simp [List.getElem?_append, List.getElem?_replicate, Nat.min_eq_left (Nat.le_of_lt hlt)]; omega
      clear hold
      have hst := hown.stored k (.int .i64 xs[k])
      have HS := Lib.hid hst
      clear hst hb hc
      go_wp2
      go_roundw
      case rel => exact ⟨k + 1, by omega, by go_num, by rw [← set_of_zeros xs k hlt]; exact HS.out.1, hbel.setCell (Nat.le_refl _) _⟩
      case measure => simp [intOf]; omega
    · obtain rfl : k = xs.length := by omega
      go_wp2
      go_ret
      exact ⟨_, rfl, ⟨by simpa using hown, hr⟩, hbel⟩

set_option maxHeartbeats 400000 in
theorem eqIntS_any (v u : Value) (xs ys : List Int) (w : World) (h : ArgI w v xs) (h' : ArgI w u ys) :
    Calls Try.prog 15 #[v, u] w fun e w' => e = .returned (.bool (decide (xs = ys))) ∧ ∃ n, w' = w.drewN n := by
  obtain ⟨A, cap, rfl, hcap, hm, hr, hb⟩ := h
  obtain ⟨A', cap', rfl, hcap', hm', hr', hb'⟩ := h'
  unfold maxLen at hm hm'
  by_cases hne : xs.length = ys.length
  · have hd : ((xs.length : Int) != (ys.length : Int)) = false := by simp [hne]
    have HNE := Lib.hid hne
    clear hne
    go_enter Try.func15, Try.ntmps15
    go_wp2
    go_loopw [5] (fun i wr => ∃ k : Nat, k ≤ xs.length ∧ i = .int .i64 k ∧ xs.take k = ys.take k ∧ ∃ n, wr = w.drewN n) (fun i _ => xs.length - (intOf i).toNat)
    case atStart => exact ⟨0, Nat.zero_le _, rfl, by simp, 0, rfl⟩
    case round =>
      obtain ⟨k, hk, rfl, heq, n, rfl⟩ := hrel
      have HEQ := Lib.hid heq
      clear heq
      by_cases hlt : k < xs.length
      · obtain ⟨b, off, rfl, hc⟩ := hb (by omega)
        have hlt' : k < ys.length := by have := HNE.out; omega
        obtain ⟨b', off', rfl, hc'⟩ := hb' (by omega)
        have hcell := hc k hlt
        have hcell' := hc' k hlt'
        clear hc hc' hb hb'
        by_cases hx : xs[k] = ys[k]
        · have hx1 : (xs[k] != ys[k]) = false := by simp [hx]
          have HX := Lib.hid hx
          clear hx
          go_wp2
          go_quiet (fail)
          go_wp2
          go_roundw
          case rel => exact ⟨k + 1, by omega, by go_num, take_eq_succ HEQ.out hlt hlt' HX.out, _, rfl⟩
          case measure => simp [intOf]; omega
        · have hx1 : (xs[k] != ys[k]) = true := by simp [hx]
          go_wp2
          go_quiet (fail)
          go_wp2
          go_ret
          exact ⟨ret_bool (by symm; rw [decide_eq_false_iff_not]; rintro rfl; exact hx rfl), _, World.drewN_drewN _ _ _⟩
      · obtain rfl : k = xs.length := by omega
        go_wp2
        go_ret
        refine ⟨ret_bool ?_, n, rfl⟩
        have h1 := HEQ.out
        rw [List.take_length, HNE.out, List.take_length] at h1
        simp [h1]
  · have hd : ((xs.length : Int) != (ys.length : Int)) = true := by simp; omega
    go_enter Try.func15, Try.ntmps15
    go_wp2
    go_ret
    exact ⟨ret_bool (by symm; rw [decide_eq_false_iff_not]; rintro rfl; exact hne rfl), 0, rfl⟩

def iota (k : Int) (n : Nat) : List Int := (List.range n).map fun i => k + (i : Nat)
theorem iota_length (k : Int) (n : Nat) : (iota k n).length = n := by simp [iota]
theorem iota_get (k : Int) (n i : Nat) (h : i < n) : (iota k n)[i]'(by simp [iota, h]) = k + (i : Nat) := by simp [iota]
theorem mark_step (k : Int) (xs : List Int) (i : Nat) (hi : i < xs.length) :
    (((iota k i ++ xs.drop i).map (Value.int .i64)).set i (.int .i64 (k + (i : Nat)))) = (iota k (i + 1) ++ xs.drop (i + 1)).map (Value.int .i64) := by
  have e : xs.drop i = xs[i] :: xs.drop (i + 1) := List.drop_eq_getElem_cons hi
  rw [e, ← List.map_set, List.set_append_right _ _ (by simp [iota])]
  simp only [iota, List.length_map, List.length_range, Nat.sub_self, List.set_cons_zero, List.range_succ, List.map_append, List.map_cons, List.map_nil, List.append_assoc, List.cons_append, List.nil_append]

set_option maxHeartbeats 400000 in
/-- markIntS over a row of the caller's own. -/
theorem markIntS_any (v : Value) (xs : List Int) (k : Int) (base : Nat) (w : World) (h : OwI w base v xs) (hl : xs.length ≤ 1073741824) (hk0 : 0 ≤ k) (hk : k ≤ 1125899906842624) :
    Calls Try.prog 16 #[v, .int .i64 k] w fun e w' => e = .returned (.int .i64 (k + xs.length)) ∧ OwI w' base v (iota k xs.length) ∧ w.grownBy w' v.ownBlock := by
  obtain ⟨hown, hr⟩ := h
  rcases hown.2 with ⟨rfl, hn⟩ | ⟨g, cap, cur, rfl, hg, hh, hnc, hcm, hcs, htake⟩
  · have : xs = [] := List.eq_nil_of_length_eq_zero hn
    subst this
    go_enter Try.func16, Try.ntmps16
    go_wp2
    refine wp_loop_rounds 1 ?_
    rw [rounds_succ]
    go_wp2
    go_ret
    exact ⟨ret_int (by simp), ⟨by simpa [iota] using hown, fun x hx => by simp [iota] at hx⟩, World.grownBy.refl _ _⟩
  · clear hh hcs htake cur
    go_enter Try.func16, Try.ntmps16
    go_wp2
    go_loopw [1, 5] (fun kk i wr => ∃ j : Nat, j ≤ xs.length ∧ i = .int .i64 j ∧ kk = .int .i64 (k + (j : Nat)) ∧
        wr.ownsRow base 3 1 (.slice (some ⟨g, 0, none⟩) xs.length cap) xs.length ((iota k j ++ xs.drop j).map (Value.int .i64)) ∧ w.grownBy wr (some g))
      (fun _ i _ => xs.length - (intOf i).toNat)
    case atStart => exact ⟨0, Nat.zero_le _, rfl, by simp, by simpa [iota] using hown, World.grownBy.refl _ _⟩
    case round =>
      obtain ⟨j, hj, rfl, rfl, hown1, hgr⟩ := hrel
      by_cases hlt : j < xs.length
      · have hfr := hown1.frozenAt j
        have hold := hown1.cellAt j (by omega)
        have hold' : wr.cell? ⟨g, j, none⟩ = some (.int .i64 xs[j]) := by
          rw [hold]; simp [List.getElem?_append, iota, hlt]
        have HS := Lib.hid (hown1.stored j (.int .i64 (k + (j : Nat))))
        clear hold
        go_wp2
        go_roundw
        case rel => exact ⟨j + 1, by omega, by go_num, by go_num, by rw [← mark_step k xs j hlt]; exact HS.out.1, hgr.trans HS.out.2⟩
        case measure => simp [intOf]; omega
      · obtain rfl : j = xs.length := by omega
        go_wp2
        go_ret
        exact ⟨rfl, ⟨by simpa [iota] using hown1, fun x hx => by simp [iota] at hx; obtain ⟨a, ha, rfl⟩ := hx; unfold I64; omega⟩, hgr⟩

set_option maxHeartbeats 400000 in
/-- heldIntS over what markIntS has written. -/
theorem heldIntS_any (v : Value) (n : Nat) (k : Int) (w : World) (h : ArgI w v (iota k n)) (hl : n ≤ 1073741824) (hk0 : 0 ≤ k) (hk : k ≤ 1125899906842624) :
    Calls Try.prog 17 #[v, .int .i64 k] w fun e w' => e = .returned (.int .i64 (k + n)) ∧ w = w' := by
  obtain ⟨A, cap, hv, hcap, hm, hr, hb⟩ := h
  rw [iota_length] at hv hcap
  subst hv
  go_enter Try.func17, Try.ntmps17
  go_wp2
  go_loop [1, 5] (fun kk i => ∃ j : Nat, j ≤ n ∧ i = .int .i64 j ∧ kk = .int .i64 (k + (j : Nat))) (fun _ i => n - (intOf i).toNat)
  case atStart => exact ⟨0, Nat.zero_le _, rfl, by simp⟩
  case round =>
    obtain ⟨j, hj, rfl, rfl⟩ := hrel
    by_cases hlt : j < n
    · obtain ⟨b, off, rfl, hc⟩ := hb (by rw [iota_length]; omega)
      have hcell := hc j (by rw [iota_length]; omega)
      rw [iota_get k n j hlt] at hcell
      clear hc hb
      go_wp2
      go_round
      case rel => exact ⟨j + 1, by omega, by go_num, by go_num⟩
      case measure => simp [intOf]; omega
    · obtain rfl : j = n := by omega
      go_wp2
      go_ret
      exact ⟨rfl, rfl⟩

/-- From w to w' no block that was there changed, but those with numbers from a on and below b. -/
structure Tr (a b : Nat) (w w' : World) : Prop where
  os : w'.os = w.os
  tape : w'.tape = w.tape
  output : w'.output = w.output
  size : w.heap.size ≤ w'.heap.size
  block : ∀ k, k < w.heap.size → ¬ (a ≤ k ∧ k < b) → w'.heap[k]? = w.heap[k]?

theorem Tr.refl (w : World) : Tr 0 0 w w := ⟨rfl, rfl, rfl, Nat.le_refl _, fun _ _ _ => rfl⟩
theorem Tr.below {w w' : World} (h : Below w.heap.size w w') : Tr 0 0 w w' := ⟨h.os, h.tape, h.output, h.size, fun k hk _ => h.block k hk⟩
theorem Tr.drewN (w : World) (n : Nat) : Tr 0 0 w (w.drewN n) := ⟨rfl, rfl, rfl, Nat.le_refl _, fun _ _ _ => rfl⟩
theorem Tr.drew (w : World) : Tr 0 0 w w.drew := ⟨rfl, rfl, rfl, Nat.le_refl _, fun _ _ _ => rfl⟩
theorem Tr.grown {w w' : World} {row : Option Nat} (h : w.grownBy w' row) {a b : Nat} (hr : ∀ k, row = some k → a ≤ k ∧ k < b) : Tr a b w w' :=
  ⟨h.os, h.tape, h.output, h.size, fun k hk hn => h.block k hk (fun e => hn (hr k e.symm))⟩

/-- O speaks of blocks from lo on and below hi alone. -/
def Loc (O : World → Prop) (lo hi : Nat) : Prop := ∀ w w' : World, O w → (∀ b, lo ≤ b → b < hi → w'.heap[b]? = w.heap[b]?) → O w'
/-- An object of the law: it holds now, and hangs on the blocks of its range. -/
structure Ob (O : World → Prop) (lo hi : Nat) (w : World) : Prop where
  holds : O w
  loc : Loc O lo hi
  le : hi ≤ w.heap.size
theorem Ob.tr {O : World → Prop} {lo hi a b : Nat} {w w' : World} (h : Ob O lo hi w) (t : Tr a b w w') (hd : b ≤ lo ∨ hi ≤ a ∨ b ≤ a) : Ob O lo hi w' := by
  refine ⟨h.loc w w' h.holds fun k h1 h2 => t.block k ?_ ?_, h.loc, ?_⟩
  · have := h.le; omega
  · omega
  · have := h.le; have := t.size; omega
theorem bel_tr {N a b : Nat} {w0 w w' : World} (h : Below N w0 w) (t : Tr a b w w') (hN : N ≤ w.heap.size) (hd : N ≤ a ∨ b ≤ a) : Below N w0 w' :=
  ⟨t.os.trans h.os, t.tape.trans h.tape, t.output.trans h.output, Nat.le_trans h.size t.size, fun k hk => (t.block k (by omega) (by omega)).trans (h.block k hk)⟩

theorem Tr.then_ {a b : Nat} {w w1 w2 : World} (h : Tr 0 0 w w1) (t : Tr a b w1 w2) (hb : b ≤ w.heap.size) : Tr a b w w2 :=
  ⟨t.os.trans h.os, t.tape.trans h.tape, t.output.trans h.output, Nat.le_trans h.size t.size, fun k hk hn => (t.block k (Nat.lt_of_lt_of_le hk h.size) hn).trans (h.block k hk (by omega))⟩
theorem Tr.then0 {w w1 w2 : World} (h : Tr 0 0 w w1) (t : Tr 0 0 w1 w2) : Tr 0 0 w w2 := h.then_ t (Nat.zero_le _)
theorem Tr.alloc_eq {w W : World} {o : Obj} (h : W = w.alloc o) : Tr 0 0 w W := by
  subst h
  exact Tr.below ((Below.refl _ _).alloc (Nat.le_refl _) _)
theorem Tr.alloc_size {w W : World} {o : Obj} (h : W = w.alloc o) : w.heap.size + 1 ≤ W.heap.size := by
  subst h
  simp
/-- A variable's box: block b holds the cells cs. -/
def Box (b : Nat) (cs : List Value) (t : TypeId) (w : World) : Prop := w.heap[b]? = some (.cells cs.toArray t (0, 0))
theorem Box.new {w W : World} {cs : List Value} {t : TypeId} (h : W = w.alloc (Obj.cells cs.toArray t)) : Ob (Box w.heap.size cs t) w.heap.size (w.heap.size + 1) W := by
  subst h
  exact ⟨heap_alloc_new w _, fun u u' hu hb => by unfold Box at *; rw [hb _ (Nat.le_refl _) (by omega)]; exact hu, by simp⟩
theorem Box.cell_0 {b : Nat} {x : Value} {cs : List Value} {t : TypeId} {w : World} (h : Box b (x :: cs) t w) : w.cell? ⟨b, 0, none⟩ = some x := by
  rw [cell_of_row w b 0 _ t (0, 0) h]; rfl
theorem Box.cell_1 {b : Nat} {x y : Value} {cs : List Value} {t : TypeId} {w : World} (h : Box b (x :: y :: cs) t w) : w.cell? ⟨b, 1, none⟩ = some y := by
  rw [cell_of_row w b 1 _ t (0, 0) h]; rfl
theorem Box.cell_2 {b : Nat} {x y z : Value} {cs : List Value} {t : TypeId} {w : World} (h : Box b (x :: y :: z :: cs) t w) : w.cell? ⟨b, 2, none⟩ = some z := by
  rw [cell_of_row w b 2 _ t (0, 0) h]; rfl
theorem ArgI.loc {w : World} {v : Value} {xs : List Int} (h : ArgI w v xs) : Loc (fun w => ArgI w v xs) 0 w.heap.size := by
  intro u u' hu hb
  obtain ⟨A, cap, hv, hc, hm, hr, hx⟩ := h
  obtain ⟨A', cap', hv', hc', hm', hr', hx'⟩ := hu
  refine ⟨A', cap', hv', hc', hm', hr', fun h0 => ?_⟩
  obtain ⟨b, off, hA, hcell⟩ := hx h0
  obtain ⟨b', off', hA', hcell'⟩ := hx' h0
  have hbb : b = b' := by
    rw [hv] at hv'
    injection hv' with e1 e2 e3
    rw [hA, hA'] at e1
    simpa using (by simpa using e1 : b = b' ∧ off = off').1
  subst hbb
  have hlt : b < w.heap.size := World.block_lt_of_cell? w _ (hcell 0 h0)
  exact ⟨b, off', hA', fun i hi => by rw [World.cell?_of_block (w := u) (hb b (Nat.zero_le _) hlt)]; exact hcell' i hi⟩
theorem ArgI.ob {w : World} {v : Value} {xs : List Int} (h : ArgI w v xs) : Ob (fun w => ArgI w v xs) 0 w.heap.size w := ⟨h, h.loc, Nat.le_refl _⟩

/-- A fresh row of ints in blocks from lo on and below hi. -/
def OI (lo hi : Nat) (v : Value) (xs : List Int) (w : World) : Prop := OwI w lo v xs ∧ ∀ b, v.ownBlock = some b → b < hi
theorem OI.loc {lo hi : Nat} {v : Value} {xs : List Int} (hr : ∀ b, v.ownBlock = some b → b < hi) : Loc (OI lo hi v xs) lo hi := by
  intro u u' hu hb
  refine ⟨⟨⟨hu.1.1.1, ?_⟩, hu.1.2⟩, hu.2⟩
  rcases hu.1.1.2 with h0 | ⟨g, cap, cur, hv, hg, hh, r⟩
  · exact .inl h0
  · exact .inr ⟨g, cap, cur, hv, hg, by rw [hb g hg (hr g (by rw [hv]; rfl))]; exact hh, r⟩
theorem OwI.ob {w : World} {lo : Nat} {v : Value} {xs : List Int} (h : OwI w lo v xs) : Ob (OI lo w.heap.size v xs) lo w.heap.size w :=
  ⟨⟨h, fun b hb => (h.1.lt b hb).2⟩, OI.loc fun b hb => (h.1.lt b hb).2, Nat.le_refl _⟩
theorem ArgI.form {w : World} {v : Value} {xs : List Int} (h : ArgI w v xs) : ∃ A cap, v = .slice A xs.length cap := by
  obtain ⟨A, cap, hv, _⟩ := h
  exact ⟨A, cap, hv⟩

theorem toIntS_ob (v : Value) (xs : List Int) (w : World) (h : ArgI w v xs) (hl : xs.length ≤ 1048576) :
    Calls Try.prog 13 #[v] w fun e w' => ∃ r, e = .returned r ∧ Ob (OI w.heap.size w'.heap.size r xs) w.heap.size w'.heap.size w' ∧ Tr 0 0 w w' :=
  (toIntS_any v xs w h hl).mono fun _ _ ⟨r, he, ho, hb⟩ => ⟨r, he, ho.ob, Tr.below hb⟩
theorem eqIntS_ob (v u : Value) (xs ys : List Int) (w : World) {lo hi lo' hi' : Nat} (h : OI lo hi v xs w) (h' : OI lo' hi' u ys w) :
    Calls Try.prog 15 #[v, u] w fun e w' => e = .returned (.bool (decide (xs = ys))) ∧ Tr 0 0 w w' :=
  (eqIntS_any v u xs ys w h.1.arg h'.1.arg).mono fun _ _ ⟨he, n, hn⟩ => ⟨he, by rw [hn]; exact Tr.drewN _ _⟩
theorem markIntS_ob (v : Value) (xs : List Int) (k : Int) (lo hi : Nat) (w : World) (h : Ob (OI lo hi v xs) lo hi w)
    (hl : xs.length ≤ 1073741824) (hk0 : 0 ≤ k) (hk : k ≤ 1125899906842624) :
    Calls Try.prog 16 #[v, .int .i64 k] w fun e w' => e = .returned (.int .i64 (k + xs.length)) ∧ Ob (OI lo hi v (iota k xs.length)) lo hi w' ∧ Tr lo hi w w' :=
  (markIntS_any v xs k lo w h.holds.1 hl hk0 hk).mono fun _ w' ⟨he, ho, hg⟩ =>
    ⟨he, ⟨⟨ho, h.holds.2⟩, OI.loc h.holds.2, Nat.le_trans h.le hg.size⟩, Tr.grown hg fun b hb => ⟨(h.holds.1.1.lt b hb).1, h.holds.2 b hb⟩⟩
theorem heldIntS_ob (v : Value) (xs : List Int) (k : Int) (lo hi : Nat) (w : World) (h : Ob (OI lo hi v (iota k xs.length)) lo hi w)
    (hl : xs.length ≤ 1073741824) (hk0 : 0 ≤ k) (hk : k ≤ 1125899906842624) :
    Calls Try.prog 17 #[v, .int .i64 k] w fun e w' => e = .returned (.int .i64 (k + xs.length)) ∧ Tr 0 0 w w' :=
  (heldIntS_any v xs.length k w h.holds.1.arg hl hk0 hk).mono fun _ _ ⟨he, hw⟩ => ⟨he, by rw [← hw]; exact Tr.refl _⟩
theorem same_bel {P : Program} {f : FuncId} {args : Array Value} {w : World} {E : Ending} (h : Calls P f args w fun e w' => e = E ∧ w = w') : Calls P f args w fun e w' => e = E ∧ Below w.heap.size w w' :=
  h.mono fun _ _ ⟨he, hw⟩ => ⟨he, by rw [← hw]; exact Below.refl _ _⟩
theorem drew_bel {P : Program} {f : FuncId} {args : Array Value} {w : World} {E : Ending} (h : Calls P f args w fun e w' => e = E ∧ ∃ n, w' = w.drewN n) : Calls P f args w fun e w' => e = E ∧ Below w.heap.size w w' :=
  h.mono fun _ _ ⟨he, n, hw⟩ => ⟨he, by rw [hw]; exact bel_drewN (Below.refl _ _) _⟩
theorem Tr.trans {a b : Nat} {w w1 w2 : World} (h : Tr a b w w1) (t : Tr a b w1 w2) : Tr a b w w2 :=
  ⟨t.os.trans h.os, t.tape.trans h.tape, t.output.trans h.output, Nat.le_trans h.size t.size, fun k hk hn => (t.block k (Nat.lt_of_lt_of_le hk h.size) hn).trans (h.block k hk hn)⟩
theorem setCell_block (w : World) (p : Addr) (u : Value) (b : Nat) (h : b ≠ p.block) : (w.setCell p u).heap[b]? = w.heap[b]? := Below.heap_setCell w p u b h
theorem setCell_grown (w : World) (g j : Nat) (u : Value) : w.grownBy (w.setCell ⟨g, j, none⟩ u) (some g) :=
  ⟨rfl, rfl, rfl, by simp, fun b _ hb => setCell_block w _ u b (fun e => hb (by rw [e]))⟩
/-- What was said of the first world, whose blocks are as they were. -/
def Kept (w0 : World) (P : World → Prop) (u : World) : Prop := P w0 ∧ ∀ b, b < w0.heap.size → u.heap[b]? = w0.heap[b]?
theorem Kept.ob {w : World} {P : World → Prop} (h : P w) : Ob (Kept w P) 0 w.heap.size w :=
  ⟨⟨h, fun _ _ => rfl⟩, fun _ _ hu hb => ⟨hu.1, fun b hlt => (hb b (Nat.zero_le _) hlt).trans (hu.2 b hlt)⟩, Nat.le_refl _⟩
end Go.Proofs.Ytnmkbkpegkchpaa
