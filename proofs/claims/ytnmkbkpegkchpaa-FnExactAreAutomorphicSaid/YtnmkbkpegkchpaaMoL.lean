/- Lists of morphisms in the laws: compared, marked, read again. -/
import Derived.Test.YtnmkbkpegkchpaaRel
import Derived.Test.YtnmkbkpegkchpaaQuiC
namespace Go.Proofs.Ytnmkbkpegkchpaa
set_option maxRecDepth 20000
set_option linter.unusedVariables false
set_option linter.unusedSimpArgs false
open Go.RowKit

/-- All is as it was but for the blocks F; no block is new. -/
structure FrN (F : List Nat) (w w' : World) : Prop where
  os : w'.os = w.os
  tape : w'.tape = w.tape
  output : w'.output = w.output
  size : w.heap.size ≤ w'.heap.size
  block : ∀ b, b < w.heap.size → b ∉ F → w'.heap[b]? = w.heap[b]?
theorem FrN.refl (F : List Nat) (w : World) : FrN F w w := ⟨rfl, rfl, rfl, Nat.le_refl _, fun _ _ _ => rfl⟩
theorem FrN.trans {F : List Nat} {w w1 w2 : World} (h : FrN F w w1) (h' : FrN F w1 w2) : FrN F w w2 :=
  ⟨h'.os.trans h.os, h'.tape.trans h.tape, h'.output.trans h.output, Nat.le_trans h.size h'.size, fun b h1 h2 => (h'.block b (Nat.lt_of_lt_of_le h1 h.size) h2).trans (h.block b h1 h2)⟩
theorem FrN.mono {F F' : List Nat} {w w1 : World} (h : FrN F w w1) (hs : ∀ b ∈ F, b ∈ F') : FrN F' w w1 := ⟨h.os, h.tape, h.output, h.size, fun b h1 h2 => h.block b h1 fun hb => h2 (hs b hb)⟩
theorem FrN.grown {F : List Nat} {w w1 : World} {row : Option Nat} (h : w.grownBy w1 row) (hr : ∀ b, row = some b → b ∈ F) : FrN F w w1 := ⟨h.os, h.tape, h.output, h.size, fun b h1 h2 => h.block b h1 fun e => h2 (hr b e.symm)⟩
theorem FrN.tr {F : List Nat} {lo hi : Nat} {w w1 : World} (h : FrN F w w1) (hF : ∀ b ∈ F, lo ≤ b ∧ b < hi) : Tr lo hi w w1 := ⟨h.os, h.tape, h.output, h.size, fun b h1 h2 => h.block b h1 fun hb => h2 (hF b hb)⟩
theorem Tr.bel {w w' : World} (h : Tr 0 0 w w') : Below w.heap.size w w' := ⟨h.os, h.tape, h.output, h.size, fun b hb => h.block b hb (by omega)⟩
theorem OwLf.focus {α : Type} {E : El α} {t : TypeId} {width : Nat} {w : World} {ds : List α} {F : List Nat} {A : Option Addr} {m cap : Nat} (h : OwLf E t width w (.slice A m cap) ds F) (hnF : F.Nodup) (hE : Stable E) {k : Nat} (hk : k < ds.length) :
    ∃ g cs Fe, A = some ⟨g, 0, none⟩ ∧ g ∈ F ∧ E w cs ds[k] Fe ∧ cs.length = width ∧ (∀ b ∈ Fe, b ∈ F ∧ b ≠ g) ∧ Fe.Nodup ∧ (∀ j (hj : j < cs.length), w.cell? ⟨g, k * width + j, none⟩ = some cs[j]) ∧
      (∀ j, w.frozen? ⟨g, j, none⟩ = false) ∧ g < w.heap.size ∧
      ∀ w' cs' d', (∀ pre post, pre.length = k * width → w.ownsRow 0 t width (.slice A m cap) ds.length (pre ++ cs ++ post) → w'.ownsRow 0 t width (.slice A m cap) ds.length (pre ++ cs' ++ post)) → cs'.length = width → E w' cs' d' Fe →
        (∀ b ∈ F, b ≠ g → b ∉ Fe → w'.heap[b]? = w.heap[b]?) → OwLf E t width w' (.slice A m cap) (ds.set k d') F := by
  obtain ⟨es, h1, h2, h3, rfl⟩ := h
  have hl : es.length = ds.length := by rw [← h1]; simp
  rw [hl] at h3
  obtain ⟨p, x, q, rfl, hp⟩ : ∃ p x q, es = p ++ x :: q ∧ p.length = k := ⟨es.take k, es[k], es.drop (k + 1), by rw [← List.drop_eq_getElem_cons (by omega), List.take_append_drop], by simp; omega⟩
  obtain ⟨A', cap', hv, _, _, _, hg⟩ := owns_form h3
  obtain ⟨g, hA, hge, _⟩ := hg (by omega)
  injection hv with e1 e2 e3
  subst e1 e2 e3 hA
  obtain ⟨cs, d, Fe⟩ := x
  have hd : ds[k] = d := by simp [← h1, ← hp]
  have hx := h2 (cs, d, Fe) (by simp)
  simp only [List.map_append, List.map_cons, List.flatten_append, List.flatten_cons, Value.ownBlock, Option.toList_some] at h3 hnF
  have hpl : ((p.map (·.1)).flatten).length = k * width := by
    have : ∀ l : List (List Value × α × List Nat), (∀ e ∈ l, e.1.length = width) → ((l.map (·.1)).flatten).length = l.length * width := by
      intro l hl
      induction l with
      | nil => simp
      | cons e l ih =>
        simp only [List.map_cons, List.flatten_cons, List.length_append, List.length_cons, ih fun e he => hl e (by simp [he]), hl e (by simp), Nat.add_mul]
        omega
    rw [this p fun e he => (h2 e (by simp [he])).1, hp]
  have hng := (List.nodup_append.1 hnF).2.2 g (by simp)
  have hn2 := (List.nodup_append.1 hnF).2.1
  obtain ⟨np, nq, npq⟩ := List.nodup_append.1 hn2
  obtain ⟨nF, nq2, nFq⟩ := List.nodup_append.1 nq
  have hlen := h3.1
  have hx1 : cs.length = width := hx.1
  simp only [List.length_append, hpl, hx1] at hlen
  refine ⟨g, cs, Fe, rfl, by simp [Value.ownBlock], by rw [hd]; exact hx.2, hx.1, fun b hb => ?_, nF, fun j hj => ?_, fun j => h3.frozenAt j, ?_, ?_⟩
  · skip
    exact ⟨by simp [Value.ownBlock, hb], fun e => hng b (by simp [hb]) e.symm⟩
  · have hj' : k * width + j < ds.length * width := by omega
    rw [h3.cellAt _ hj', List.getElem?_append_right (by omega), hpl, Nat.add_sub_cancel_left, List.getElem?_append_left hj, List.getElem?_eq_getElem hj]
  · exact (h3.lt g rfl).2
  · intro w' cs' d' hrow hcs' hE' hoth
    have hmem : ∀ e, e ∈ p ∨ e ∈ q → ∀ b ∈ e.2.2, b ∈ g :: ((p ++ (cs, d, Fe) :: q).map (·.2.2)).flatten ∧ b ≠ g ∧ b ∉ Fe := by
      intro e he b hb
      have hbm : b ∈ (p.map (·.2.2)).flatten ∨ b ∈ (q.map (·.2.2)).flatten := by
        rcases he with he | he
        · exact .inl (List.mem_flatten.2 ⟨e.2.2, List.mem_map.2 ⟨e, he, rfl⟩, hb⟩)
        · exact .inr (List.mem_flatten.2 ⟨e.2.2, List.mem_map.2 ⟨e, he, rfl⟩, hb⟩)
      have hbn : b ∈ (p.map (·.2.2)).flatten ++ (Fe ++ (q.map (·.2.2)).flatten) := by
        rcases hbm with hbm | hbm
        · exact List.mem_append.2 (.inl hbm)
        · exact List.mem_append.2 (.inr (List.mem_append.2 (.inr hbm)))
      refine ⟨?_, fun e' => hng b hbn e'.symm, fun hbF => ?_⟩
      · simp only [List.map_append, List.map_cons, List.flatten_append, List.flatten_cons]
        exact List.mem_cons.2 (.inr hbn)
      · rcases hbm with hbm | hbm
        · exact npq b hbm b (List.mem_append.2 (.inl hbF)) rfl
        · exact nFq b hbF b hbm rfl
    refine ⟨p ++ (cs', d', Fe) :: q, ?_, ?_, ?_, by simp⟩
    · rw [← h1]
      simp only [List.map_append, List.map_cons]
      rw [List.set_append_right _ _ (by simp [hp]), List.length_map, hp, Nat.sub_self, List.set_cons_zero]
    · intro e he
      simp only [List.mem_append, List.mem_cons] at he
      rcases he with he | rfl | he
      · exact ⟨(h2 e (by simp [he])).1, hE _ _ _ _ _ (h2 e (by simp [he])).2 fun b hb => hoth b (hmem e (.inl he) b hb).1 (hmem e (.inl he) b hb).2.1 (hmem e (.inl he) b hb).2.2⟩
      · exact ⟨hcs', hE'⟩
      · exact ⟨(h2 e (by simp [he])).1, hE _ _ _ _ _ (h2 e (by simp [he])).2 fun b hb => hoth b (hmem e (.inr he) b hb).1 (hmem e (.inr he) b hb).2.1 (hmem e (.inr he) b hb).2.2⟩
    · have := hrow (p.map (·.1)).flatten (q.map (·.1)).flatten hpl (by simpa using h3)
      simp only [List.map_append, List.map_cons, List.flatten_append, List.flatten_cons, List.length_append, List.length_cons, List.append_assoc] at this hl ⊢
      rw [hl]
      exact this
set_option maxHeartbeats 1000000 in
theorem markIntSS_f (v : Value) (ds : List (List Int)) (k : Int) (F : List Nat) (w : World) (h : OwLf EI 27 1 w v ds F) (hnF : F.Nodup) (hF : ∀ b ∈ F, b < w.heap.size)
    (hl : cntL cI ds ≤ 1073741824) (hk0 : 0 ≤ k) (hk : k ≤ 1125890000000000) :
    Calls Try.prog 23 #[v, .int .i64 k] w fun e w' => e = .returned (.int .i64 (k + cntL cI ds)) ∧ OwLf EI 27 1 w' v (mkL cI mI k ds) F ∧ FrN F w w' := by
  obtain ⟨A, cap, rfl, hcap, hm, _⟩ := (OwnL.of_f (lo := 0) (hi := w.heap.size) h hnF fun b hb => ⟨Nat.zero_le _, hF b hb⟩).len
  unfold maxLen at hm
  have H := Lib.hid h
  have HNF := Lib.hid hnF
  have HFL := Lib.hid hF
  clear h hF
  go_enter Try.func23, Try.ntmps23
  go_wp2
  go_loopw [1, 5] (fun kk i wr => ∃ j : Nat, j ≤ ds.length ∧ i = .int .i64 j ∧ kk = .int .i64 (k + (cntL cI (ds.take j) : Nat)) ∧ OwLf EI 27 1 wr (.slice A ds.length cap) (mkAt cI mI k ds j) F ∧ FrN F w wr)
    (fun _ i _ => ds.length - (intOf i).toNat)
  case atStart => exact ⟨0, Nat.zero_le _, rfl, by simp [cntL], by rw [mkAt_zero]; exact H.out, FrN.refl _ _⟩
  case round =>
    obtain ⟨j, hj, rfl, rfl, hown, ht⟩ := hrel
    have hsz := ht.size
    by_cases hlt : j < ds.length
    · have hml := mkAt_length (c := cI) (m := mI) k ds j
      obtain ⟨g, cs, Fe, rfl, hg1, hE, hcw, hFe, hnd, hc, hfz, hgs, hfin⟩ := hown.focus HNF.out EI.stable (k := j) (by rw [hml]; exact hlt)
      rw [mkAt_get k ds j hlt] at hE
      obtain ⟨s, rfl, ho, rfl⟩ := hE
      have c0 := hc 0 (by simp)
      simp only [List.getElem_cons_zero, Nat.add_zero, Nat.mul_one] at c0
      have hcnt := cntL_at (c := cI) ds j hlt
      have HSUC := Lib.hid (cntL_succ (c := cI) ds j hlt)
      have HSET := Lib.hid (mkAt_succ (c := cI) (m := mI) k ds j hlt)
      have HT := Lib.hid ht
      have HO := Lib.hid ho
      have HFE := Lib.hid hFe
      have HFIN := Lib.hid hfin
      have hcd : cI ds[j] = ds[j].length := rfl
      have HCD := Lib.hid hcd
      have hdl : ds[j].length ≤ 1073741824 := by omega
      have hc2 : cntL cI (ds.take j) ≤ 1073741824 := by omega
      clear hc hfz hfin hFe hnd ht hown ho hml hcd
      go_wp2_with fail
      refine (markIntS_any s ds[j] _ 0 _ HO.out hdl (by omega) (by omega)).mono ?_
      rintro e w9 ⟨rfl, o9, g9⟩
      have O9 := Lib.hid o9
      have G9 := Lib.hid g9
      clear o9 g9
      go_wp2
      go_roundw
      case rel =>
        have hne : s.ownBlock ≠ some g := fun e => (HFE.out g (by simp [e])).2 rfl
        refine ⟨j + 1, by omega, by go_num, by rw [HSUC.out, HCD.out]; go_num, ?_, HT.out.trans (FrN.grown G9.out fun b hb => (HFE.out b (by simp [hb])).1)⟩
        rw [← HSET.out]
        refine HFIN.out _ [s] _ (fun pre post hp hrow => ?_) rfl ⟨s, rfl, O9.out, rfl⟩ fun b hb h1 h2 => ?_
        · exact ownsRow_keep hrow fun b hb => G9.out.block b (by simp [Value.ownBlock] at hb; subst hb; exact hgs) (by rw [← hb]; exact fun e => hne e.symm)
        · exact G9.out.block b (by have := HFL.out b hb; omega) (fun e => h2 (by simp [← e]))
      case measure => simp [intOf]; omega
    · obtain rfl : j = ds.length := by omega
      rw [List.take_length]
      rw [mkAt_all] at hown
      go_wp2
      go_ret
      exact ⟨rfl, hown, ht⟩
theorem OMS.ob {lo : Nat} {v : Value} {ds : List MoD} {w : World} (h : OMS lo w.heap.size v ds w) : Ob (OMS lo w.heap.size v ds) lo w.heap.size w :=
  ⟨h, fun _ _ hu hb => OwnL.keep hu EM.stable hb, Nat.le_refl _⟩
theorem EM.ow {w : World} {s : Value} {d : MoD} {F : List Nat} (h1 : I64 d.1) (h : OwLf EI 27 1 w s d.2 F) (hn : F.Nodup) (hF : ∀ b ∈ F, b < w.heap.size) : Ob (OwM 0 w.heap.size (.agg #[.int .i64 d.1, s]) d) 0 w.heap.size w :=
  OwM.ob ⟨s, rfl, h1, OwnL.of_f h hn fun b hb => ⟨Nat.zero_le _, hF b hb⟩⟩
set_option maxHeartbeats 1000000 in
theorem eqMorphismS_ob (v u : Value) (ds ds' : List MoD) (w : World) {lo hi lo' hi' : Nat} (h : Ob (OMS lo hi v ds) lo hi w) (h' : Ob (OMS lo' hi' u ds') lo' hi' w) :
    Calls Try.prog 9 #[v, u] w fun e w' => e = .returned (.bool (decide (ds = ds'))) ∧ Tr 0 0 w w' := by
  have hh := h.le
  have hh' := h'.le
  obtain ⟨A, cap, rfl, hcap, hm, _⟩ := h.holds.len
  obtain ⟨A', cap', rfl, hcap', hm', _⟩ := h'.holds.len
  have H := Lib.hid h.holds
  have H' := Lib.hid h'.holds
  unfold maxLen at hm hm'
  clear h h'
  by_cases hne : ds.length = ds'.length
  · have hd : ((ds.length : Int) != (ds'.length : Int)) = false := by simp [hne]
    have HNE := Lib.hid hne
    clear hne
    go_enter Try.func9, Try.ntmps9
    go_wp2
    go_loopw [5] (fun i wr => ∃ k : Nat, k ≤ ds.length ∧ i = .int .i64 k ∧ ds.take k = ds'.take k ∧ Below w.heap.size w wr) (fun i _ => ds.length - (intOf i).toNat)
    case atStart => exact ⟨0, Nat.zero_le _, rfl, by simp, Below.refl _ _⟩
    case round =>
      obtain ⟨k, hk, rfl, heq, hbel⟩ := hrel
      have HEQ := Lib.hid heq
      have HB := Lib.hid hbel
      have hsz := hbel.size
      by_cases hlt : k < ds.length
      · have hlt' : k < ds'.length := by have := HNE.out; omega
        obtain ⟨g, cs, Fe, rfl, _, hg, hE, hcw, hFe, hnd, hc, _⟩ := (H.out.keep EM.stable (w' := wr) fun b _ hb => hbel.block b (by omega)).focus EM.stable hlt
        obtain ⟨g', cs', Fe', rfl, _, hg', hE', hcw', hFe', hnd', hc', _⟩ := (H'.out.keep EM.stable (w' := wr) fun b _ hb => hbel.block b (by omega)).focus EM.stable hlt'
        obtain ⟨s, rfl, hi1, ho⟩ := hE
        obtain ⟨s', rfl, hi1', ho'⟩ := hE'
        have c0 := hc 0 (by simp)
        have c1 := hc 1 (by simp)
        have c0' := hc' 0 (by simp)
        have c1' := hc' 1 (by simp)
        simp only [List.getElem_cons_zero, List.getElem_cons_succ, Nat.add_zero] at c0 c1 c0' c1'
        have HQ : Hid (ds.take (k + 1) = ds'.take (k + 1) ↔ ds[k] = ds'[k]) := Lib.hid ⟨fun e => by
          have := congrArg (fun l => l[k]?) e
          simpa [hlt, hlt'] using this, fun e => take_eq_succ HEQ.out hlt hlt' e⟩
        have HN : Hid (ds[k] ≠ ds'[k] → ds ≠ ds') := Lib.hid (fun e1 e2 => by subst e2; exact e1 rfl)
        have hgw : g < wr.heap.size := by omega
        have hgw' : g' < wr.heap.size := by omega
        have X1 : Hid (∀ W, Below wr.heap.size wr W → Ob (OwM 0 W.heap.size (.agg #[.int .i64 ds[k].1, s]) ds[k]) 0 W.heap.size W) := Lib.hid fun W hb => EM.ow hi1 (ho.stable EI.stable fun b hbF => hb.block b (by have := hFe b hbF; omega)) hnd fun b hbF => by have := hFe b hbF; have := hb.size; omega
        have X2 : Hid (∀ W, Below wr.heap.size wr W → Ob (OwM 0 W.heap.size (.agg #[.int .i64 ds'[k].1, s']) ds'[k]) 0 W.heap.size W) := Lib.hid fun W hb => EM.ow hi1' (ho'.stable EI.stable fun b hbF => hb.block b (by have := hFe' b hbF; omega)) hnd' fun b hbF => by have := hFe' b hbF; have := hb.size; omega
        have hkI : (k : Int) < (ds.length : Int) := by omega
        have hkI' : (k : Int) < (ds'.length : Int) := by omega
        clear hc hc' heq hbel ho ho' hFe hFe' hnd hnd' hi1 hi1' hcw hcw'
        generalize ds[k] = d at *
        generalize ds'[k] = d' at *
        obtain ⟨d1, d2⟩ := d
        obtain ⟨d1', d2'⟩ := d'
        simp only at c0 c0' X1 X2
        have f0 := BelW.cell c0 hgw
        have f1 := BelW.cell c1 hgw
        have f0' := BelW.cell c0' hgw'
        have f1' := BelW.cell c1' hgw'
        obtain ⟨bb, hbb⟩ : ∃ bb : Bool, bb = decide ((d1, d2) = (d1', d2')) := ⟨_, rfl⟩
        have XE : Hid (∀ (W : World), Below wr.heap.size wr W → Calls Try.prog 32 #[.agg #[.int .i64 d1, s], .agg #[.int .i64 d1', s']] W fun e w' => e = .returned (.bool bb) ∧ Below W.heap.size W w') := Lib.hid fun W hb => (eqMorphism_ob _ _ (d1, d2) (d1', d2') W (X1.out W hb) (X2.out W hb)).mono fun _ _ ⟨he, ht⟩ => ⟨by rw [hbb]; exact he, Tr.bel ht⟩
        have HBB := Lib.hid hbb
        clear hbb
        go_wp2_with fail
        (refine wp_region_quiet_bel (by kernel_rfl) (by kernel_rfl) ?_; (repeat (go_big_quiet_step (first | (go_at_call 32; exact Calls.bel_of (XE.out _ (BelW.h _)))))); refine wpQuiet_nil ?_; intro wz hw'; obtain ⟨pq, hw''⟩ := hw'; have bz := pq.h; rw [← hw''] at bz; clear hw'' pq)
        have BZ := Lib.hid bz
        clear bz
        rcases bb with _ | _
        · go_wp2
          go_ret
          exact ⟨ret_bool (by symm; rw [decide_eq_false_iff_not]; exact HN.out (of_decide_eq_false HBB.out.symm)), Tr.below (HB.out.trans (BZ.out.mono hsz))⟩
        · go_wp2
          go_roundw
          case rel => exact ⟨k + 1, by omega, by go_num, HQ.out.2 (of_decide_eq_true HBB.out.symm), HB.out.trans (BZ.out.mono hsz)⟩
          case measure => simp [intOf]; omega
      · obtain rfl : k = ds.length := by omega
        go_wp2
        go_ret
        refine ⟨ret_bool ?_, Tr.below HB.out⟩
        have h1 := HEQ.out
        rw [List.take_length, HNE.out, List.take_length] at h1
        simp [h1]
  · have hd : ((ds.length : Int) != (ds'.length : Int)) = true := by simp; omega
    go_enter Try.func9, Try.ntmps9
    go_wp2
    go_ret
    exact ⟨ret_bool (by symm; rw [decide_eq_false_iff_not]; rintro rfl; exact hne rfl), Tr.refl _⟩
def cM (d : MoD) : Nat := cntL cI d.2 + 1
def mM (k : Int) (d : MoD) : MoD := (k, mkL cI mI (k + 1) d.2)
set_option maxHeartbeats 1000000 in
theorem markMorphismS_ob (v : Value) (ds : List MoD) (k : Int) (lo hi : Nat) (w : World) (h : Ob (OMS lo hi v ds) lo hi w)
    (hl : cntL cM ds ≤ 1073741824) (hk0 : 0 ≤ k) (hk : k ≤ 1125880000000000) :
    Calls Try.prog 10 #[v, .int .i64 k] w fun e w' => e = .returned (.int .i64 (k + cntL cM ds)) ∧ Ob (OMS lo hi v (mkL cM mM k ds)) lo hi w' ∧ Tr lo hi w w' := by
  obtain ⟨A, cap, rfl, hcap, hm, _⟩ := h.holds.len
  unfold maxLen at hm
  have hle := h.le
  obtain ⟨F, hO, hnF, hF⟩ := h.holds
  have H := Lib.hid hO
  have HNF := Lib.hid hnF
  have HF := Lib.hid hF
  have HLOC : Hid (∀ ds', Loc (OMS lo hi (.slice A ds.length cap) ds') lo hi) := Lib.hid fun ds' _ _ hu hb => OwnL.keep hu EM.stable hb
  clear h hO hnF hF
  go_enter Try.func10, Try.ntmps10
  go_wp2
  go_loopw [1, 5] (fun kk i wr => ∃ j : Nat, j ≤ ds.length ∧ i = .int .i64 j ∧ kk = .int .i64 (k + (cntL cM (ds.take j) : Nat)) ∧ OwLf EM 45 2 wr (.slice A ds.length cap) (mkAt cM mM k ds j) F ∧ FrN F w wr)
    (fun _ i _ => ds.length - (intOf i).toNat)
  case atStart => exact ⟨0, Nat.zero_le _, rfl, by simp [cntL], by rw [mkAt_zero]; exact H.out, FrN.refl _ _⟩
  case round =>
    obtain ⟨j, hj, rfl, rfl, hown, ht⟩ := hrel
    have hsz := ht.size
    by_cases hlt : j < ds.length
    · have hml := mkAt_length (c := cM) (m := mM) k ds j
      obtain ⟨g, cs, Fe, rfl, hg1, hE, hcw, hFe, hnd, hc, hfz, hgs, hfin⟩ := hown.focus HNF.out EM.stable (k := j) (by rw [hml]; exact hlt)
      rw [mkAt_get k ds j hlt] at hE
      obtain ⟨s, rfl, hi1, ho⟩ := hE
      have c0 := hc 0 (by simp)
      have c1 := hc 1 (by simp)
      simp only [List.getElem_cons_zero, List.getElem_cons_succ, Nat.add_zero] at c0 c1
      have hf0 := hfz (j * 2)
      have hcnt := cntL_at (c := cM) ds j hlt
      have HSUC := Lib.hid (cntL_succ (c := cM) ds j hlt)
      have HSET := Lib.hid (mkAt_succ (c := cM) (m := mM) k ds j hlt)
      have HT := Lib.hid ht
      have HO := Lib.hid ho
      have HFE := Lib.hid hFe
      have HND := Lib.hid hnd
      have HFIN := Lib.hid hfin
      have hcd : cM ds[j] = cntL cI ds[j].2 + 1 := rfl
      have HCD := Lib.hid hcd
      have hdl : cntL cI ds[j].2 ≤ 1073741824 := by omega
      have hc2 : cntL cM (ds.take j) ≤ 1073741824 := by omega
      have hw1 : IntKind.i64.wrap (k + (cntL cM (ds.take j) : Nat) + 1) = k + (cntL cM (ds.take j) : Nat) + 1 := by rw [IntKind.wrap_i64]; omega
      have hgF := hg1
      clear hc hfz hfin hFe hnd ht hown ho hml hcd
      have HI1 : Hid (I64 (k + (cntL cM (ds.take j) : Nat))) := Lib.hid ⟨by omega, by omega⟩
      go_wp2_with fail
      have HMK := markIntSS_f s ds[j].2 (k + (cntL cM (ds.take j) : Nat) + 1) Fe (wr.setCell ⟨g, j * 2, none⟩ (.int .i64 (k + (cntL cM (ds.take j) : Nat)))) (HO.out.stable EI.stable fun b hb => setCell_block _ _ _ b (HFE.out b hb).2) HND.out (fun b hb => by have := (HF.out b (HFE.out b hb).1); have := hsz; simp; omega) hdl (by omega) (by omega)
      refine HMK.mono ?_
      rintro e w9 ⟨rfl, o9, g9⟩
      have O9 := Lib.hid o9
      have G9 := Lib.hid g9
      clear o9 g9 HMK
      go_wp2
      go_roundw
      case rel =>
        have hgr : wr.grownBy (wr.setCell ⟨g, j * 2, none⟩ (.int .i64 (k + (cntL cM (ds.take j) : Nat)))) (some g) := setCell_grown wr g (j * 2) _
        refine ⟨j + 1, by omega, by go_num, by rw [HSUC.out, HCD.out]; go_num, ?_, (HT.out.trans (FrN.grown hgr fun b hb => by cases hb; exact hgF)).trans (G9.out.mono fun b hb => (HFE.out b hb).1)⟩
        rw [← HSET.out]
        refine HFIN.out _ [.int .i64 (k + (cntL cM (ds.take j) : Nat)), s] _ (fun pre post hp hrow => ?_) rfl ⟨s, rfl, HI1.out, ?_⟩ fun b hb h1 h2 => ?_
        · have r0 := row_store (j := 0) (u := .int .i64 (k + (cntL cM (ds.take j) : Nat))) hrow hp (by simp)
          exact ownsRow_keep r0 fun b hb => G9.out.block b (by simp [Value.ownBlock] at hb; subst hb; simp; omega) fun hbF => by simp [Value.ownBlock] at hb; subst hb; exact (HFE.out _ hbF).2 rfl
        · exact O9.out
        · rw [G9.out.block b (by have := HF.out b hb; simp; omega) h2, setCell_block _ _ _ b h1]
      case measure => simp [intOf]; omega
    · obtain rfl : j = ds.length := by omega
      rw [List.take_length]
      rw [mkAt_all] at hown
      have HOW : Hid (OMS lo hi (.slice A ds.length cap) (mkL cM mM k ds) wr) := Lib.hid (OwnL.of_f hown HNF.out HF.out)
      have HT := Lib.hid ht
      clear hown ht
      go_wp2
      go_ret
      exact ⟨rfl, ⟨HOW.out, HLOC.out _, by omega⟩, HT.out.tr HF.out⟩
set_option maxHeartbeats 1000000 in
theorem heldMorphismS_ob (v : Value) (ds : List MoD) (k : Int) (lo hi : Nat) (w : World) (h : Ob (OMS lo hi v (mkL cM mM k ds)) lo hi w)
    (hl : cntL cM ds ≤ 1073741824) (hk0 : 0 ≤ k) (hk : k ≤ 1125880000000000) :
    Calls Try.prog 11 #[v, .int .i64 k] w fun e w' => e = .returned (.int .i64 (k + cntL cM ds)) ∧ Tr 0 0 w w' := by
  have hml := mkL_length (c := cM) (m := mM) k ds
  have hle := h.le
  obtain ⟨A, cap, rfl, hcap, hm, _⟩ := h.holds.len
  rw [hml] at hcap ⊢
  unfold maxLen at hm
  have H := Lib.hid h.holds
  have HML := Lib.hid hml
  clear h hml
  go_enter Try.func11, Try.ntmps11
  go_wp2
  go_loopw [1, 5] (fun kk i wr => ∃ j : Nat, j ≤ ds.length ∧ i = .int .i64 j ∧ kk = .int .i64 (k + (cntL cM (ds.take j) : Nat)) ∧ Tr 0 0 w wr)
    (fun _ i _ => ds.length - (intOf i).toNat)
  case atStart => exact ⟨0, Nat.zero_le _, rfl, by simp [cntL], Tr.refl _⟩
  case round =>
    obtain ⟨j, hj, rfl, rfl, ht⟩ := hrel
    by_cases hlt : j < ds.length
    · have hcnt := cntL_at (c := cM) ds j hlt
      have hjm : j < (mkL cM mM k ds).length := by rw [HML.out]; exact hlt
      have hget := mkL_get (c := cM) (m := mM) k ds j hlt hjm
      have hh := H.out
      rw [HML.out] at hh
      obtain ⟨g, cs, Fe, rfl, hg1, hg2, hE, hcw, hFe, hnd, hc, _⟩ := (hh.keep EM.stable (w' := wr) fun b _ hb => ht.bel.block b (by omega)).focus EM.stable (k := j) hjm
      rw [hget] at hE
      obtain ⟨s, rfl, hi1, ho⟩ := hE
      have c0 := hc 0 (by simp)
      have c1 := hc 1 (by simp)
      simp only [List.getElem_cons_zero, List.getElem_cons_succ, Nat.add_zero] at c0 c1
      have HSUC := Lib.hid (cntL_succ (c := cM) ds j hlt)
      have hcd : cM ds[j] = cntL cI ds[j].2 + 1 := rfl
      have HCD := Lib.hid hcd
      have hts := ht.size
      have HT := Lib.hid ht
      have HO : Hid (Ob (OIIs 0 wr.heap.size s (mkL cI mI (k + (cntL cM (ds.take j) : Nat) + 1) ds[j].2)) 0 wr.heap.size wr) := Lib.hid (OIIs.ob (OwnL.of_f ho hnd fun b hb => ⟨Nat.zero_le _, by have := hFe b hb; omega⟩))
      have c0' : wr.cell? ⟨g, j * 2, none⟩ = some (.int .i64 (k + (cntL cM (ds.take j) : Nat))) := c0
      have hdl : cntL cI ds[j].2 ≤ 1073741824 := by omega
      have hc2 : cntL cM (ds.take j) ≤ 1073741824 := by omega
      have hw1 : IntKind.i64.wrap (k + (cntL cM (ds.take j) : Nat) + 1) = k + (cntL cM (ds.take j) : Nat) + 1 := by rw [IntKind.wrap_i64]; omega
      clear hc hFe hnd ho hget hh c0 hi1 hcd ht
      go_wp2_with fail
      refine (heldIntSS_ob s ds[j].2 (k + (cntL cM (ds.take j) : Nat) + 1) 0 wr.heap.size wr HO.out hdl (by omega) (by omega)).mono ?_
      rintro e w9 ⟨rfl, t9⟩
      have T9 := Lib.hid t9
      clear t9
      go_wp2
      go_roundw
      case rel => exact ⟨j + 1, by omega, by go_num, by rw [HSUC.out, HCD.out]; go_num, HT.out.then0 T9.out⟩
      case measure => simp [intOf]; omega
    · obtain rfl : j = ds.length := by omega
      rw [List.take_length]
      have HT := Lib.hid ht
      clear ht
      go_wp2
      go_ret
      exact ⟨rfl, HT.out⟩
end Go.Proofs.Ytnmkbkpegkchpaa
