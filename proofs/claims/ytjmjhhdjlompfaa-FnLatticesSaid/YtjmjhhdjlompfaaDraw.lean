/- The cursor from which the reference draws: every draw stays within its bounds, and turns nothing but the cursor. -/
import Derived.Test.YtjmjhhdjlompfaaLaw
import Derived.Test.YtjmjhhdjlompfaaNum
import Derived.Test.YtjmjhhdjlompfaaOwnF
namespace Go.Proofs.Ytjmjhhdjlompfaa
set_option maxRecDepth 20000
set_option linter.unusedVariables false
set_option linter.unusedSimpArgs false
open Go.RowKit

/-- A slice of bytes that reads as cs. -/
def ArgC (w : World) (v : Value) (cs : List Int) : Prop :=
  ∃ A cap, v = .slice A cs.length cap ∧ cs.length ≤ cap ∧ cap ≤ maxLen ∧ (∀ x ∈ cs, 0 ≤ x ∧ x ≤ 255) ∧
    (0 < cs.length → ∃ b off, A = some ⟨b, off, none⟩ ∧ ∀ i (hi : i < cs.length), w.cell? ⟨b, off + i, none⟩ = some (.int .u8 cs[i]))
/-- The cursor's struct at block p. -/
structure Cur (p : Nat) (A : Option Addr) (cap : Nat) (cs : List Int) (w : World) : Prop where
  c0 : w.cell? ⟨p, 0, none⟩ = some (.slice A cs.length cap)
  c1 : ∃ i : Nat, i ≤ cs.length ∧ w.cell? ⟨p, 1, none⟩ = some (.int .i64 i)
  c2 : ∃ h : Int, w.cell? ⟨p, 2, none⟩ = some (.int .i64 h)
  fz : ∀ j, w.frozen? ⟨p, j, none⟩ = false
  lt : p < w.heap.size
  len : cs.length ≤ 1048576
  by_ : ∀ x ∈ cs, 0 ≤ x ∧ x ≤ 255
  at_ : 0 < cs.length → ∃ b off, A = some ⟨b, off, none⟩ ∧ b ≠ p ∧ b < w.heap.size ∧ ∀ i (hi : i < cs.length), w.cell? ⟨b, off + i, none⟩ = some (.int .u8 cs[i])
theorem Cur.tr {p : Nat} {A : Option Addr} {cap lo hi : Nat} {cs : List Int} {w w' : World} (h : Cur p A cap cs w) (ht : Tr lo hi w w') (hp : ¬ (lo ≤ p ∧ p < hi)) (hA : 0 < cs.length → ∀ b off, A = some ⟨b, off, none⟩ → ¬ (lo ≤ b ∧ b < hi)) : Cur p A cap cs w' := by
  have hk : w'.heap[p]? = w.heap[p]? := ht.block p h.lt hp
  refine ⟨(World.cell?_of_block (w := w) hk).trans h.c0, ?_, ?_, fun j => (World.frozen?_of_block (w := w) hk).trans (h.fz j), Nat.lt_of_lt_of_le h.lt ht.size, h.len, h.by_, fun h0 => ?_⟩
  · obtain ⟨i, hi, hc⟩ := h.c1
    exact ⟨i, hi, (World.cell?_of_block (w := w) hk).trans hc⟩
  · obtain ⟨i, hc⟩ := h.c2
    exact ⟨i, (World.cell?_of_block (w := w) hk).trans hc⟩
  · obtain ⟨b, off, hA', hb, hlt, hc⟩ := h.at_ h0
    exact ⟨b, off, hA', hb, Nat.lt_of_lt_of_le hlt ht.size, fun i hi => (World.cell?_of_block (w := w) (ht.block b hlt (hA h0 b off hA'))).trans (hc i hi)⟩
theorem Cur.below {p : Nat} {A : Option Addr} {cap : Nat} {cs : List Int} {w w' : World} (h : Cur p A cap cs w) (hb : Below w.heap.size w w') : Cur p A cap cs w' :=
  h.tr (lo := 0) (hi := 0) (Tr.below hb) (by omega) fun _ _ _ _ => by omega
theorem Cur.new {p : Nat} {A : Option Addr} {cap : Nat} {cs : List Int} {w0 w w' : World} {row : Option Nat} (h : Cur p A cap cs w) (h0 : Cur p A cap cs w0) (hg : w.grownBy w' row) (hrow : ∀ b, row = some b → w0.heap.size ≤ b) : Cur p A cap cs w' := by
  have hk : w'.heap[p]? = w.heap[p]? := hg.block p h.lt fun e => by have := hrow p e.symm; have := h0.lt; omega
  refine ⟨(World.cell?_of_block (w := w) hk).trans h.c0, ?_, ?_, fun j => (World.frozen?_of_block (w := w) hk).trans (h.fz j), Nat.lt_of_lt_of_le h.lt hg.size, h.len, h.by_, fun hl => ?_⟩
  · obtain ⟨i, hi, hc⟩ := h.c1
    exact ⟨i, hi, (World.cell?_of_block (w := w) hk).trans hc⟩
  · obtain ⟨i, hc⟩ := h.c2
    exact ⟨i, (World.cell?_of_block (w := w) hk).trans hc⟩
  · obtain ⟨b, off, hA', hb, hlt, hc⟩ := h.at_ hl
    obtain ⟨b0, off0, hA0, _, hlt0, _⟩ := h0.at_ hl
    rw [hA'] at hA0
    injection hA0 with e
    injection e with e1 e2
    subst e1
    exact ⟨b, off, hA', hb, Nat.lt_of_lt_of_le hlt hg.size, fun i hi => (World.cell?_of_block (w := w) (hg.block b hlt fun e => by have := hrow b e.symm; omega)).trans (hc i hi)⟩
theorem OwI.trP {p base : Nat} {w w' : World} {v : Value} {xs : List Int} (h : OwI w base v xs) (ht : Tr p (p + 1) w w') (hp : p < base) : OwI w' base v xs :=
  ⟨ownsRow_keep h.1 fun b hb => ht.block b (h.1.lt b hb).2 (by have := (h.1.lt b hb).1; omega), h.2⟩
theorem Tr.grow2 {a b : Nat} {w w1 w2 : World} {row : Option Nat} (h : Tr a b w w1) (hg : w1.grownBy w2 row) (hrow : ∀ c, row = some c → w.heap.size ≤ c) : Tr a b w w2 :=
  ⟨hg.os.trans h.os, hg.tape.trans h.tape, hg.output.trans h.output, Nat.le_trans h.size hg.size, fun k hk hn => (hg.block k (Nat.lt_of_lt_of_le hk h.size) fun e => by have := hrow k e.symm; omega).trans (h.block k hk hn)⟩
theorem Tr.bel2 {a b : Nat} {w w1 w2 : World} (h : Tr a b w w1) (hb : Below w1.heap.size w1 w2) : Tr a b w w2 :=
  ⟨hb.os.trans h.os, hb.tape.trans h.tape, hb.output.trans h.output, Nat.le_trans h.size hb.size, fun k hk hn => (hb.block k (Nat.lt_of_lt_of_le hk h.size)).trans (h.block k hk hn)⟩
theorem Tr.set1 {p j : Nat} {w w1 : World} (h : Tr p (p + 1) w w1) (v : Value) : Tr p (p + 1) w (w1.setCell ⟨p, j, none⟩ v) :=
  h.trans (Tr.grown (setCell_grown w1 p j _) fun b hb => by cases hb; omega)
theorem and255 (E : Int) : 0 ≤ bits .and .i64 E 255 ∧ bits .and .i64 E 255 ≤ 255 := by
  unfold bits
  have h : (BitVec.ofInt 64 E &&& BitVec.ofInt 64 255).toNat ≤ 255 := by
    rw [BitVec.toNat_and]
    exact Nat.le_trans Nat.and_le_right (by decide)
  have e : IntKind.i64.wrap ((BitVec.ofInt 64 E &&& BitVec.ofInt 64 255).toNat : Int) = ((BitVec.ofInt 64 E &&& BitVec.ofInt 64 255).toNat : Int) := by rw [IntKind.wrap_i64]; omega
  show 0 ≤ IntKind.i64.wrap ((BitVec.ofInt 64 E &&& BitVec.ofInt 64 255).toNat : Int) ∧ IntKind.i64.wrap ((BitVec.ofInt 64 E &&& BitVec.ofInt 64 255).toNat : Int) ≤ 255
  rw [e]
  omega
set_option maxHeartbeats 1000000 in
theorem l1Byte_any (p : Nat) (A : Option Addr) (cap : Nat) (cs : List Int) (w : World) (h : Cur p A cap cs w) :
    Calls Try.prog 40 #[.pointer (some ⟨p, 0, none⟩)] w fun e w' => ∃ n : Int, e = .returned (.int .i64 n) ∧ (0 ≤ n ∧ n ≤ 255) ∧ Cur p A cap cs w' ∧ Tr p (p + 1) w w' := by
  have H := Lib.hid h
  have c0 := h.c0
  obtain ⟨i, hi, c1⟩ := h.c1
  obtain ⟨x, c2⟩ := h.c2
  have fz := h.fz
  have hlen := h.len
  have hp := h.lt
  have HBY := Lib.hid h.by_
  have HAT := Lib.hid h.at_
  clear h
  go_enter Try.func40, Try.ntmps40
  go_wp2
  generalize hx : wrap64 (wrap64 (x * 6364136223846793005) + 1442695040888963407) = x1
  clear hx
  obtain ⟨W1, hW1⟩ : ∃ W1 : World, W1 = w.setCell ⟨p, 2, none⟩ (.int .i64 x1) := ⟨_, rfl⟩
  have d0 : W1.cell? ⟨p, 0, none⟩ = some (.slice A cs.length cap) := by rw [hW1]; simp [go_sem, c0]
  have d1 : W1.cell? ⟨p, 1, none⟩ = some (.int .i64 i) := by rw [hW1]; simp [go_sem, c1]
  have d2 : W1.cell? ⟨p, 2, none⟩ = some (.int .i64 x1) := by rw [hW1]; simp [go_sem, c2]
  have df : ∀ j, W1.frozen? ⟨p, j, none⟩ = false := fun j => by rw [hW1]; simp [go_sem, fz]
  have T1 : Hid (Tr p (p + 1) w W1) := Lib.hid (by rw [hW1]; exact Tr.grown (setCell_grown w p 2 _) fun b hb => by cases hb; omega)
  have hs1 : W1.heap.size = w.heap.size := by rw [hW1]; simp
  have HS1 := Lib.hid hs1
  rw [← hW1]
  have HATW : Hid (∀ W', Tr p (p + 1) w W' → (0 < cs.length → ∃ b off, A = some ⟨b, off, none⟩ ∧ b ≠ p ∧ b < W'.heap.size ∧ ∀ i (hi : i < cs.length), W'.cell? ⟨b, off + i, none⟩ = some (.int .u8 cs[i]))) := Lib.hid fun W' ht h0 => by
    obtain ⟨b, off, hA, hb, hbl, hc⟩ := HAT.out h0
    exact ⟨b, off, hA, hb, Nat.lt_of_lt_of_le hbl ht.size, fun i hi => (World.cell?_of_block (w := w) (ht.block b hbl (by omega))).trans (hc i hi)⟩
  clear hW1 c0 c1 c2 fz hs1
  go_quiet (fail)
  obtain ⟨y0, y1⟩ := and255 (bits .xor .i64 (x1 / 8589934592) (x1 / 35184372088832))
  generalize bits .and .i64 (bits .xor .i64 (x1 / 8589934592) (x1 / 35184372088832)) 255 = y at *
  generalize bits .xor .i64 (x1 / 8589934592) (x1 / 35184372088832) = y2 at *
  by_cases hlt : i < cs.length
  · obtain ⟨b, off, rfl, hb, hbl, hc⟩ := HAT.out (by omega)
    have hcell : W1.cell? ⟨b, off + i, none⟩ = some (.int .u8 cs[i]) := (World.cell?_of_block (w := w) (T1.out.block b hbl (by omega))).trans (hc i hlt)
    have hx := HBY.out _ (List.getElem_mem hlt)
    have hI : (i : Int) < (cs.length : Int) := by omega
    have hi0 : (0 : Int) ≤ (i : Int) := by omega
    generalize cs[i] = z at *
    have hcv : IntKind.i64.wrap z = z := by rw [IntKind.wrap_i64]; omega
    clear hc
    go_wp2
    go_quiet (fail)
    go_wp2
    go_quiet (fail)
    obtain ⟨u0, u1⟩ := and255 (y + z)
    generalize bits .and .i64 (y + z) 255 = u at *
    have hwi : IntKind.i64.wrap ((i : Int) + 1) = ((i + 1 : Nat) : Int) := by rw [IntKind.wrap_i64]; omega
    go_wp2
    refine bodyPost_ret (v := .int .i64 u) (by simp [results, Try.results40, go_sem]) rfl ⟨u, rfl, ⟨u0, u1⟩, ?_, ?_⟩
    · refine ⟨by simp [go_sem, d0], ⟨i + 1, hlt, by simp [go_sem, d1]⟩, ⟨x1, by simp [go_sem, d2]⟩, fun j => by simp [go_sem, df], ?_, hlen, HBY.out, HATW.out _ ?_⟩
      · have := HS1.out; simp; omega
      · first | exact (T1.out.set1 _).bel2 (bel_drewN (Below.refl _ _) _) | exact (T1.out.bel2 (bel_drewN (Below.refl _ _) _)).set1 _ | exact (T1.out.set1 _).bel2 (bel_drewN (bel_drewN (Below.refl _ _) _) _) | exact (T1.out.bel2 (bel_drewN (bel_drewN (Below.refl _ _) _) _)).set1 _ | exact (T1.out.set1 _).bel2 (bel_drewN (bel_drewN (bel_drewN (Below.refl _ _) _) _) _) | exact (T1.out.bel2 (bel_drewN (bel_drewN (bel_drewN (Below.refl _ _) _) _) _)).set1 _
    · first | exact (T1.out.set1 _).bel2 (bel_drewN (Below.refl _ _) _) | exact (T1.out.bel2 (bel_drewN (Below.refl _ _) _)).set1 _ | exact (T1.out.set1 _).bel2 (bel_drewN (bel_drewN (Below.refl _ _) _) _) | exact (T1.out.bel2 (bel_drewN (bel_drewN (Below.refl _ _) _) _)).set1 _ | exact (T1.out.set1 _).bel2 (bel_drewN (bel_drewN (bel_drewN (Below.refl _ _) _) _) _) | exact (T1.out.bel2 (bel_drewN (bel_drewN (bel_drewN (Below.refl _ _) _) _) _)).set1 _
  · have hI : ¬ (i : Int) < (cs.length : Int) := by omega
    go_wp2
    go_quiet (fail)
    go_wp2
    refine bodyPost_ret (v := .int .i64 y) (by simp [results, Try.results40, go_sem]) rfl ⟨y, rfl, ⟨y0, y1⟩, ?_, ?_⟩
    · refine ⟨by simp [go_sem, d0], ⟨i, hi, by simp [go_sem, d1]⟩, ⟨x1, by simp [go_sem, d2]⟩, fun j => by simp [go_sem, df], ?_, hlen, HBY.out, HATW.out _ ?_⟩
      · have := HS1.out; simp; omega
      · exact T1.out.bel2 (bel_drewN (bel_drewN (Below.refl _ _) _) _)
    · exact T1.out.bel2 (bel_drewN (bel_drewN (Below.refl _ _) _) _)
set_option maxHeartbeats 1000000 in
theorem l1Below_any (p : Nat) (A : Option Addr) (cap : Nat) (cs : List Int) (n : Int) (w : World) (h : Cur p A cap cs w) (hn0 : 0 < n) (hn : n ≤ 256) :
    Calls Try.prog 29 #[.pointer (some ⟨p, 0, none⟩), .int .i64 n] w fun e w' => ∃ x : Int, e = .returned (.int .i64 x) ∧ (0 ≤ x ∧ x < n) ∧ Cur p A cap cs w' ∧ Tr p (p + 1) w w' := by
  have H := Lib.hid h
  have h1 : ¬ n ≤ 0 := by omega
  have h2 : ¬ n = 0 := by omega
  clear h
  go_enter Try.func29, Try.ntmps29
  go_wp2_with (go_at_call 40; (with_reducible refine (l1Byte_any p A cap cs _ H.out).mono ?_); rintro e w1 ⟨y, rfl, ⟨y0, y1⟩, c1, t1⟩; have C1 := Lib.hid c1; have T1 := Lib.hid t1; clear c1 t1)
  exact bodyPost_ret (v := .int .i64 (y % n)) (by simp [results, Try.results29, go_sem]) rfl ⟨y % n, rfl, ⟨Int.emod_nonneg _ h2, Int.emod_lt_of_pos _ hn0⟩, C1.out, T1.out⟩
theorem l1Once_any (p : Nat) (A : Option Addr) (cap : Nat) (cs : List Int) (n : Int) (w : World) (h : Cur p A cap cs w) (hn0 : 0 < n) (hn : n ≤ 256) :
    Calls Try.prog 30 #[.pointer (some ⟨p, 0, none⟩), .int .i64 n] w fun e w' => ∃ x : Bool, e = .returned (.bool x) ∧ Cur p A cap cs w' ∧ Tr p (p + 1) w w' := by
  have H := Lib.hid h
  clear h
  go_enter Try.func30, Try.ntmps30
  go_wp2_with (go_at_call 29; (with_reducible refine (l1Below_any p A cap cs n _ H.out hn0 hn).mono ?_); rintro e w1 ⟨y, rfl, _, c1, t1⟩; have C1 := Lib.hid c1; have T1 := Lib.hid t1; clear c1 t1)
  exact bodyPost_ret (v := .bool (y == 0)) (by simp [results, Try.results30, go_sem]) rfl ⟨_, rfl, C1.out, T1.out⟩
theorem OwI.any2 {w : World} {base : Nat} {v : Value} {xs : List Int} (h : OwI w base v xs) : ∃ A m cap, v = .slice A m cap := by
  obtain ⟨A, cap, hv, _⟩ := h.form
  exact ⟨A, _, cap, hv⟩
theorem lt_cell {w : World} {b o : Nat} {v : Value} (h : w.cell? ⟨b, o, none⟩ = some v) : b < w.heap.size := by
  rcases Nat.lt_or_ge b w.heap.size with h' | h'
  · exact h'
  · simp [World.cell?, Array.getElem?_eq_none h'] at h
set_option maxHeartbeats 1000000 in
theorem l1New_any (v : Value) (cs : List Int) (w : World) (h : ArgC w v cs) (hl : cs.length ≤ 1048576) :
    Calls Try.prog 16 #[v] w fun e w' => ∃ p A cap, e = .returned (.pointer (some ⟨p, 0, none⟩)) ∧ Cur p A cap cs w' ∧ w.heap.size ≤ p ∧ Below w.heap.size w w' := by
  obtain ⟨A, cap, rfl, hcap, hm, hby, hat⟩ := h
  have HBY := Lib.hid hby
  have HAT := Lib.hid hat
  unfold maxLen at hm
  clear hby hat
  go_enter Try.func16, Try.ntmps16
  go_wp2
  go_loop [3, 4] (fun hv i => ∃ (k : Nat) (x : Int), k ≤ cs.length ∧ i = .int .i64 k ∧ hv = .int .i64 x) (fun _ i => cs.length - (intOf i).toNat)
  case atStart => exact ⟨0, _, Nat.zero_le _, rfl, rfl⟩
  case round =>
    obtain ⟨k, x, hk, rfl, rfl⟩ := hrel
    by_cases hlt : k < cs.length
    · rcases h4 : decide ((k : Int) < 4000) with _ | _
      · have h4' : ¬ (k : Int) < 4000 := of_decide_eq_false h4
        clear h4
        go_wp2
        refine bodyPost_ret (v := .pointer (some ⟨w.heap.size, 0, none⟩)) (by simp [results, Try.results16, go_sem]) rfl ⟨w.heap.size, rfl, ⟨A, cap, ?_⟩, Nat.le_refl _, (Below.refl _ _).alloc (Nat.le_refl _) _⟩
        refine ⟨by simp [go_sem], ⟨0, Nat.zero_le _, by simp [go_sem]⟩, ⟨x, by simp [go_sem]⟩, fun j => by simp [go_sem], by simp, hl, HBY.out, fun h0 => ?_⟩
        obtain ⟨b, off, hA, hc⟩ := HAT.out h0
        have hb : b < w.heap.size := lt_cell (hc 0 h0)
        exact ⟨b, off, hA, by omega, by simp; omega, fun i hi => (World.cell?_alloc_past _ _ _ hb).trans (hc i hi)⟩
      · obtain ⟨b, off, rfl, hc⟩ := HAT.out (by omega)
        have hcell := hc k hlt
        have hz := HBY.out _ (List.getElem_mem hlt)
        generalize cs[k] = z at *
        have hcv : IntKind.i64.wrap z = z := by rw [IntKind.wrap_i64]; omega
        clear hc
        go_wp2
        go_round
        case rel => exact ⟨k + 1, _, by omega, by go_num, rfl⟩
        case measure => (simp [intOf]; omega)
    · obtain rfl : k = cs.length := by omega
      go_wp2
      refine bodyPost_ret (v := .pointer (some ⟨w.heap.size, 0, none⟩)) (by simp [results, Try.results16, go_sem]) rfl ⟨w.heap.size, rfl, ⟨A, cap, ?_⟩, Nat.le_refl _, (Below.refl _ _).alloc (Nat.le_refl _) _⟩
      refine ⟨by simp [go_sem], ⟨0, Nat.zero_le _, by simp [go_sem]⟩, ⟨x, by simp [go_sem]⟩, fun j => by simp [go_sem], by simp, hl, HBY.out, fun h0 => ?_⟩
      obtain ⟨b, off, hA, hc⟩ := HAT.out h0
      have hb : b < w.heap.size := lt_cell (hc 0 h0)
      exact ⟨b, off, hA, by omega, by simp; omega, fun i hi => (World.cell?_alloc_past _ _ _ hb).trans (hc i hi)⟩
end Go.Proofs.Ytjmjhhdjlompfaa
