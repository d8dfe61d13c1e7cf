/- Marking a list of Whitehead automorphisms whose blocks lie under a predicate. -/
import Derived.Test.YthdgcikdekkjkaaRedS
namespace Go.Proofs.Ythdgcikdekkjkaa
set_option maxRecDepth 20000
set_option linter.unusedVariables false
set_option linter.unusedSimpArgs false
open Go.RowKit

/-- Only blocks under P change. -/
structure TrP (P : Nat → Prop) (w w' : World) : Prop where
  os : w'.os = w.os
  tape : w'.tape = w.tape
  output : w'.output = w.output
  size : w.heap.size ≤ w'.heap.size
  block : ∀ b, b < w.heap.size → ¬ P b → w'.heap[b]? = w.heap[b]?
theorem TrP.refl (P : Nat → Prop) (w : World) : TrP P w w := ⟨rfl, rfl, rfl, Nat.le_refl _, fun _ _ _ => rfl⟩
theorem TrP.trans {P : Nat → Prop} {w w1 w2 : World} (h : TrP P w w1) (t : TrP P w1 w2) : TrP P w w2 :=
  ⟨t.os.trans h.os, t.tape.trans h.tape, t.output.trans h.output, Nat.le_trans h.size t.size, fun k hk hn => (t.block k (Nat.lt_of_lt_of_le hk h.size) hn).trans (h.block k hk hn)⟩
theorem TrP.grown {P : Nat → Prop} {w w' : World} {o : Option Nat} (h : w.grownBy w' o) (hP : ∀ b, o = some b → P b) : TrP P w w' :=
  ⟨h.os, h.tape, h.output, h.size, fun b hb hn => h.block b hb fun e => hn (hP b e.symm)⟩
set_option maxHeartbeats 1000000 in
theorem markWhiteheadS_P (v : Value) (ds : List WhD) (k : Int) {P : Nat → Prop} (w : World) (h : OwnP EWh 64 2 P w v ds) (hP : ∀ b, P b → b < w.heap.size)
    (hl : cntL cW ds ≤ 1073741824) (hk0 : 0 ≤ k) (hk : k ≤ 1125890000000000) :
    Calls Try.prog 20 #[v, .int .i64 k] w fun e w' => e = .returned (.int .i64 (k + cntL cW ds)) ∧ OwnP EWh 64 2 P w' v (mkL cW mW k ds) ∧ TrP P w w' := by
  obtain ⟨A, cap, rfl, hcap, hm⟩ := h.len
  unfold maxLen at hm
  have HP := Lib.hid hP
  have H := Lib.hid h
  clear h hP
  go_enter Try.func20, Try.ntmps20
  go_wp2
  go_loopw [1, 5] (fun kk i wr => ∃ j : Nat, j ≤ ds.length ∧ i = .int .i64 j ∧ kk = .int .i64 (k + (cntL cW (ds.take j) : Nat)) ∧ OwnP EWh 64 2 P wr (.slice A ds.length cap) (mkAt cW mW k ds j) ∧ TrP P w wr)
    (fun _ i _ => ds.length - (intOf i).toNat)
  case atStart => exact ⟨0, Nat.zero_le _, rfl, by simp [cntL], by rw [mkAt_zero]; exact H.out, TrP.refl _ _⟩
  case round =>
    obtain ⟨j, hj, rfl, rfl, hown, ht⟩ := hrel
    have hsz := ht.size
    by_cases hlt : j < ds.length
    · have hml := mkAt_length (c := cW) (m := mW) k ds j
      obtain ⟨g, cs, Fe, rfl, hg1, hE, hcw, hFe, hnd, hc, hfz, hgs, hfin⟩ := hown.focus EWh.stable (k := j) (by rw [hml]; exact hlt)
      rw [mkAt_get k ds j hlt] at hE
      obtain ⟨s, rfl, hi1, ho, rfl⟩ := hE
      have c0 := hc 0 (by simp)
      have c1 := hc 1 (by simp)
      simp only [List.getElem_cons_zero, List.getElem_cons_succ, Nat.add_zero] at c0 c1
      have hf0 := hfz (j * 2)
      have hcnt := cntL_at (c := cW) ds j hlt
      have HSUC := Lib.hid (cntL_succ (c := cW) ds j hlt)
      have HSET := Lib.hid (mkAt_succ (c := cW) (m := mW) k ds j hlt)
      have HT := Lib.hid ht
      have HO := Lib.hid ho
      have HFE := Lib.hid hFe
      have HFIN := Lib.hid hfin
      have HG1 := Lib.hid hg1
      have hcd : cW ds[j] = ds[j].2.length + 1 := rfl
      clear hc hfz hfin hFe hnd ht hown ho hml hg1
      go_wp2_with fail
      refine (markIntS_any s ds[j].2 _ 0 _ ?_ (by omega) (by omega) (by omega)).mono ?_
      · refine ⟨ownsRow_keep HO.out.1 fun b hb => ?_, HO.out.2⟩
        have h1 := HFE.out b (by simp [hb])
        exact setCell_block wr ⟨g, j * 2, none⟩ _ b h1.2
      rintro e w9 ⟨rfl, o9, g9⟩
      have O9 := Lib.hid o9
      have G9 := Lib.hid g9
      clear o9 g9
      go_wp2
      go_roundw
      case rel =>
        have hgr : wr.grownBy (wr.setCell ⟨g, j * 2, none⟩ (.int .i64 (k + (cntL cW (ds.take j) : Nat)))) (some g) := setCell_grown wr g (j * 2) _
        have hne : s.ownBlock ≠ some g := fun e => (HFE.out g (by simp [e])).2 rfl
        refine ⟨j + 1, by omega, by go_num, by rw [HSUC.out]; go_num, ?_, HT.out.trans ((TrP.grown hgr fun b hb => by cases hb; exact HG1.out).trans (TrP.grown G9.out fun b hb => (HFE.out b (by simp [hb])).1))⟩
        rw [← HSET.out]
        refine HFIN.out _ [.int .i64 (k + (cntL cW (ds.take j) : Nat)), s] _ (fun pre post hp hrow => ?_) rfl ⟨s, rfl, (show I64 (k + (cntL cW (ds.take j) : Nat)) from ⟨by omega, by omega⟩), ?_, rfl⟩ fun b hb h1 h2 => ?_
        · have := row_store (j := 0) (u := .int .i64 (k + (cntL cW (ds.take j) : Nat))) hrow hp (by simp)
          exact ownsRow_keep this fun b hb => G9.out.block b (by simp [Value.ownBlock] at hb; subst hb; simpa using hgs) (by rw [← hb]; exact fun e => hne e.symm)
        · have := O9.out
          rw [show k + (cntL cW (ds.take j) : Nat) + 1 = k + (cntL cW (ds.take j) : Nat) + 1 from rfl] at this
          exact this
        · have hbw := HP.out b hb
          rw [G9.out.block b (by simp; omega) (fun e => h2 (by simp [← e])), hgr.block b (by omega) (by simpa using h1)]
      case measure => simp [intOf]; omega
    · obtain rfl : j = ds.length := by omega
      rw [List.take_length]
      rw [mkAt_all] at hown
      go_wp2
      go_ret
      exact ⟨rfl, hown, ht⟩
end Go.Proofs.Ythdgcikdekkjkaa
