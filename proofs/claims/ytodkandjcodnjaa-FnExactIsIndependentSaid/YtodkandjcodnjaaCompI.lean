/- The program's ComponentRanks . -/
import Derived.Test.YtodkandjcodnjaaPcs
namespace Go.Proofs.Ytodkandjcodnjaa
set_option maxRecDepth 20000
set_option linter.unusedVariables false
set_option linter.unusedSimpArgs false
open Go.RowKit

theorem pcs_bd {a b : GrD} {A B : Nat} (h : Two a b A B) {r : Nat} (hr : r ≤ 3) : ∀ k, k ≤ A * B → ∀ d ∈ (pcs a b A B r k).2, (0 ≤ d.2.2.1 ∧ d.2.2.1 ≤ 1600) ∧ 0 ≤ d.2.2.2.1 ∧ d.2.2.2.1 ≤ 4800 := by
  intro k
  induction k with
  | zero => intro _ d hd; exact absurd hd (by simp [pcs])
  | succ k ih =>
    intro hk d hd
    rw [pcs_succ] at hd
    unfold pst2 at hd
    split at hd
    · exact ih (by omega) d hd
    · rcases List.mem_append.1 hd with hd | hd
      · exact ih (by omega) d hd
      · rw [List.mem_singleton.1 hd]
        have := prk_range h hr (p := k) (by omega)
        unfold pcD
        simp only
        omega
set_option maxHeartbeats 600000 in
theorem implComponentRanks_any (va vb : Value) (a b : GrD) (w : World) (ha : ArgG w va a) (hb : ArgG w vb b) :
    Calls Try.prog 32 #[va, vb] w fun e w' => ∃ s, e = .returned s ∧ OwI w' w.heap.size s (compR a b) ∧ Below w.heap.size w w' := by
  have HGA := Lib.hid ha
  have HGB := Lib.hid hb
  have HR0 : Hid ((coreB a && coreB b && decide (a.1 = b.1)) = false → compR a b = []) := Lib.hid fun h => by unfold compR; rw [h]; rfl
  have HR1 : Hid (coreB a = true → coreB b = true → a.1 = b.1 → compR a b = (compS a b a.2.1.toNat b.2.1.toNat a.1.toNat (a.2.1.toNat * b.2.1.toNat)).2) := Lib.hid fun h1 h2 h3 => by unfold compR; rw [h1, h2, if_pos (by simp [h3])]
  generalize compR a b = CR at *
  obtain ⟨Aa, capa, rfl⟩ : ∃ A' cap, va = .agg #[.int .i64 a.1, .int .i64 a.2.1, .slice A' a.2.2.length cap] := by
    obtain ⟨s, hv, _, _, ha⟩ := HGA.out
    obtain ⟨A', cap, rfl⟩ := ha.form
    exact ⟨A', cap, hv⟩
  obtain ⟨Ab, capb, rfl⟩ : ∃ A' cap, vb = .agg #[.int .i64 b.1, .int .i64 b.2.1, .slice A' b.2.2.length cap] := by
    obtain ⟨s, hv, _, _, ha⟩ := HGB.out
    obtain ⟨A', cap, rfl⟩ := ha.form
    exact ⟨A', cap, hv⟩
  clear ha hb
  go_enter Try.func32, Try.ntmps32
  go_wp2_with fail
  have bx : Below w.heap.size w (((w.alloc (Obj.cells #[Value.int IntKind.i64 a.1, Value.int IntKind.i64 a.2.1, .slice Aa a.2.2.length capa] 36)).alloc (Obj.cells #[Value.int IntKind.i64 b.1, Value.int IntKind.i64 b.2.1, .slice Ab b.2.2.length capb] 36)).alloc (Obj.cells #[] 3)) := (by repeat (first | exact Below.refl _ _ | (refine Below.setCell ?_ (by first | omega | (simp <;> omega)) _) | (refine bel_drewN ?_ _) | (refine Below.drew ?_) | (refine Below.alloc ?_ (by first | omega | (simp <;> omega)) _)))
  obtain ⟨W0, hW0⟩ : ∃ W, W = ((w.alloc (Obj.cells #[Value.int IntKind.i64 a.1, Value.int IntKind.i64 a.2.1, .slice Aa a.2.2.length capa] 36)).alloc (Obj.cells #[Value.int IntKind.i64 b.1, Value.int IntKind.i64 b.2.1, .slice Ab b.2.2.length capb] 36)).alloc (Obj.cells #[] 3) := ⟨_, rfl⟩
  have oE : OwI W0 (w.heap.size + 1 + 1) (.slice (some ⟨w.heap.size + 1 + 1, 0, none⟩) 0 0) [] := by
    rw [hW0]
    exact OwI_litN _ [] (w.heap.size + 1 + 1) (by simp) (fun _ h => by cases h) (by simp) (Nat.le_refl _)
  rw [← hW0] at bx ⊢
  have hsW : W0.heap.size = w.heap.size + 1 + 1 + 1 := by rw [hW0]; simp
  have A0 : Hid (W0.cell? ⟨w.heap.size, 0, none⟩ = some (.int .i64 a.1)) := Lib.hid (by rw [hW0]; simp [go_sem])
  have A1 : Hid (W0.cell? ⟨w.heap.size, 1, none⟩ = some (.int .i64 a.2.1)) := Lib.hid (by rw [hW0]; simp [go_sem])
  have A2 : Hid (W0.cell? ⟨w.heap.size, 2, none⟩ = some (.slice Aa a.2.2.length capa)) := Lib.hid (by rw [hW0]; simp [go_sem])
  have B0 : Hid (W0.cell? ⟨w.heap.size + 1, 0, none⟩ = some (.int .i64 b.1)) := Lib.hid (by rw [hW0]; simp [go_sem])
  have B1 : Hid (W0.cell? ⟨w.heap.size + 1, 1, none⟩ = some (.int .i64 b.2.1)) := Lib.hid (by rw [hW0]; simp [go_sem])
  have B2 : Hid (W0.cell? ⟨w.heap.size + 1, 2, none⟩ = some (.slice Ab b.2.2.length capb)) := Lib.hid (by rw [hW0]; simp [go_sem])
  clear hW0
  have hl0 : w.heap.size < W0.heap.size := by omega
  have hl1 : w.heap.size + 1 < W0.heap.size := by omega
  have BX := Lib.hid bx
  have HSW := Lib.hid hsW
  have OE := Lib.hid oE
  have HAA : Hid (∀ W, Below W0.heap.size W0 W → ArgG W (.agg #[.int .i64 a.1, .int .i64 a.2.1, .slice Aa a.2.2.length capa]) a) := Lib.hid fun W hb => HGA.out.below (BX.out.trans (hb.mono (by omega)))
  have HAB : Hid (∀ W, Below W0.heap.size W0 W → ArgG W (.agg #[.int .i64 b.1, .int .i64 b.2.1, .slice Ab b.2.2.length capb]) b) := Lib.hid fun W hb => HGB.out.below (BX.out.trans (hb.mono (by omega)))
  clear bx oE hsW
  refine (implIsCore_any _ a W0 (HAA.out _ (Below.refl _ _))).mono ?_
  rintro e w1 ⟨rfl, b1⟩
  have HB1 := Lib.hid b1
  have q3 := (b1.cell (p := ⟨w.heap.size + 1, 0, none⟩) hl1).trans B0.out
  have q4 := (b1.cell (p := ⟨w.heap.size + 1, 1, none⟩) hl1).trans B1.out
  have q5 := (b1.cell (p := ⟨w.heap.size + 1, 2, none⟩) hl1).trans B2.out
  have q0 := (b1.cell (p := ⟨w.heap.size, 0, none⟩) hl0).trans A0.out
  clear b1
  rcases e1 : coreB a with _ | _
  · have HR : Hid (CR = []) := Lib.hid (HR0.out (by rw [e1]; rfl))
    clear e1
    go_wp2
    exact bodyPost_ret (v := .slice (some ⟨w.heap.size + 1 + 1, 0, none⟩) 0 0) (by simp [results, Try.results32]) rfl ⟨_, rfl, by rw [HR.out]; exact (OE.out.below HB1.out).mono (by omega), BX.out.trans (HB1.out.mono (by omega))⟩
  go_wp2_with fail
  refine (implIsCore_any _ b w1 (HAB.out _ HB1.out)).mono ?_
  rintro e w2 ⟨rfl, b2⟩
  have HB2 := Lib.hid (HB1.out.trans (b2.mono HB1.out.size))
  clear b2 q0 q3 q4 q5
  have q0 := (HB2.out.cell (p := ⟨w.heap.size, 0, none⟩) hl0).trans A0.out
  have q1 := (HB2.out.cell (p := ⟨w.heap.size, 1, none⟩) hl0).trans A1.out
  have q3 := (HB2.out.cell (p := ⟨w.heap.size + 1, 0, none⟩) hl1).trans B0.out
  have q4 := (HB2.out.cell (p := ⟨w.heap.size + 1, 1, none⟩) hl1).trans B1.out
  rcases e2 : coreB b with _ | _
  · have HR : Hid (CR = []) := Lib.hid (HR0.out (by rw [e1, e2]; rfl))
    clear e1 e2
    go_wp2
    exact bodyPost_ret (v := .slice (some ⟨w.heap.size + 1 + 1, 0, none⟩) 0 0) (by simp [results, Try.results32]) rfl ⟨_, rfl, by rw [HR.out]; exact (OE.out.below HB2.out).mono (by omega), BX.out.trans (HB2.out.mono (by omega))⟩
  rcases e3 : (a.1 != b.1) with _ | _
  rotate_left
  · have HR : Hid (CR = []) := Lib.hid (HR0.out (by simp at e3; simp [e3]))
    clear e1 e2
    go_wp2
    exact bodyPost_ret (v := .slice (some ⟨w.heap.size + 1 + 1, 0, none⟩) 0 0) (by simp [results, Try.results32]) rfl ⟨_, rfl, by rw [HR.out]; exact (OE.out.below HB2.out).mono (by omega), BX.out.trans (HB2.out.mono (by omega))⟩
  have hab : a.1 = b.1 := by simpa using e3
  have h2 := two_of e1 e2
  have HR := Lib.hid (HR1.out e1 e2 hab)
  have hr13 := (grB_parts h2.ga).1
  obtain ⟨A, hA⟩ : ∃ A, A = a.2.1.toNat := ⟨_, rfl⟩
  obtain ⟨B, hB⟩ : ∃ B, B = b.2.1.toNat := ⟨_, rfl⟩
  obtain ⟨r, hr⟩ : ∃ r, r = a.1.toNat := ⟨_, rfl⟩
  rw [← hA, ← hB, ← hr] at HR
  rw [← hA, ← hB] at h2
  have hra : a.1 = (r : Int) := by omega
  have hrb : b.1 = (r : Int) := by omega
  have hr3 : r ≤ 3 := by omega
  have HPI := Lib.hid (fun W h h' => pieces_any (.agg #[.int .i64 a.1, .int .i64 a.2.1, .slice Aa a.2.2.length capa]) (.agg #[.int .i64 b.1, .int .i64 b.2.1, .slice Ab b.2.2.length capb]) a b A B r W h h' h2 hra hrb)
  have HBD := Lib.hid (pcs_bd h2 hr3 (A * B) (Nat.le_refl _))
  have HLEN := Lib.hid (pcs_len a b A B r (A * B))
  have hn1 : A * B ≤ 1600 := by
    obtain ⟨⟨_, x1⟩, _, x2⟩ := h2.bd
    exact Nat.mul_le_mul x1 x2
  rw [← (pcs_comp a b A B r (A * B)).2] at HR
  generalize (pcs a b A B r (A * B)).2 = L at *
  have hll : L.length ≤ 1600 := by have := HLEN.out; omega
  have q2 := (HB2.out.cell (p := ⟨w.heap.size, 2, none⟩) hl0).trans A2.out
  have q5 := (HB2.out.cell (p := ⟨w.heap.size + 1, 2, none⟩) hl1).trans B2.out
  clear e1 e2 h2 hA hB hr hra hrb hab hr13 hn1
  go_wp2_with fail
  refine (HPI.out w2 (HAA.out _ HB2.out) (HAB.out _ HB2.out)).mono ?_
  rintro e w3 ⟨s3, m3, rfl, o3, b3⟩
  have s2 := HB2.out.size
  have HB3 := Lib.hid (HB2.out.trans (b3.mono s2))
  have OE3 := Lib.hid ((OE.out.below HB2.out).below b3)
  obtain ⟨Ap, capp, rfl, hcp, hmp, _, hfp⟩ := owns_form o3
  unfold maxLen at hmp
  have O3 := Lib.hid o3
  have hwp : w.heap.size + 1 + 1 < w2.heap.size := by have := HSW.out; omega
  have hs3 := b3.size
  clear b3 o3 q0 q1 q2 q3 q4 q5
  go_wp2
  go_loopw [5, 35] (fun out i wr => ∃ k : Nat, k ≤ L.length ∧ i = .int .i64 k ∧ OwI wr (w.heap.size + 1 + 1) out ((L.take k).map pcR) ∧ OwPc wr w2.heap.size (.slice Ap L.length capp) L ∧ (∀ b, (Value.slice Ap L.length capp).ownBlock = some b → out.ownBlock ≠ some b) ∧ Below (w.heap.size + 1 + 1) W0 wr ∧ w2.heap.size ≤ wr.heap.size) (fun _ i _ => L.length - (intOf i).toNat)
  case atStart => exact ⟨0, Nat.zero_le _, rfl, OE3.out, O3.out, fun b hb e => by have := (O3.out.lt b hb).1; simp [Value.ownBlock] at e; omega, HB3.out.mono (by have := HSW.out; omega), hs3⟩
  case round =>
    obtain ⟨k, hk, rfl, hown, hop, hne, hbel, hww⟩ := hrel
    have HO := Lib.hid hown
    have HOP := Lib.hid hop
    have HNE := Lib.hid hne
    have HB4 := Lib.hid hbel
    have hol : ((L.take k).map pcR).length ≤ 1600 := by rw [List.length_map, List.length_take]; omega
    by_cases hlt : k < L.length
    · obtain ⟨gp, rfl, hgp1, hgp2⟩ := hfp (by omega)
      have hlt' := (hop.lt gp rfl).2
      have cc : ∀ j, j < 5 → wr.cell? ⟨gp, k * 5 + j, none⟩ = (pcC L[k])[j]? := fun j hj => by
        rw [World.ownsRow.cellAt hop (k * 5 + j) (by omega), pcCs_get L k j hlt hj]
      have c0 := cc 0 (by omega)
      have c1 := cc 1 (by omega)
      have c2 := cc 2 (by omega)
      have c3 := cc 3 (by omega)
      have c4 := cc 4 (by omega)
      have hbd := HBD.out L[k] (by simp)
      have HTK : Hid ((L.take (k + 1)).map pcR = (L.take k).map pcR ++ [pcR L[k]]) := Lib.hid (by rw [List.take_succ_eq_append_getElem hlt, List.map_append]; rfl)
      generalize L[k] = d at *
      obtain ⟨d0, d1, d2, d3, d4⟩ := d
      simp only [pcC, List.getElem?_cons_zero, List.getElem?_cons_succ, Nat.add_zero] at c0 c1 c2 c3 c4
      simp only at hbd
      have HTK2 : Hid ((L.take (k + 1)).map pcR = (L.take k).map pcR ++ [d3 - d2 + 1]) := HTK
      have hw1 : IntKind.i64.wrap (d3 - d2) = d3 - d2 := by rw [IntKind.wrap_i64]; omega
      have hw2 : IntKind.i64.wrap (d3 - d2 + 1) = d3 - d2 + 1 := by rw [IntKind.wrap_i64]; omega
      have HY : Hid (I64 (d3 - d2 + 1)) := Lib.hid ⟨by omega, by omega⟩
      clear cc hown hop hne hbel HTK
      go_wp2_with (at_builtin; refine push_int rfl (.tmp 39) (.tmp 46) rfl _ _ _ (OwI.alloc (HO.out.alloc _) _) rfl _ _ rfl (by simp [go_sem]) HY.out (by first | omega | (simp <;> omega)) (by first | omega | (simp <;> omega)) ?_; intro v9 wv9 o9 g9 p9)
      have hz9 := g9.size
      simp at hz9
      go_roundw
      case rel =>
        refine ⟨k + 1, by omega, by go_num, by rw [HTK2.out]; exact o9, (ownsRow_below (ownsRow_below HOP.out ((Below.refl _ _).alloc (Nat.le_refl _) _)) ((Below.refl _ _).alloc (Nat.le_refl _) _)).kept g9 (.inr fun e => HNE.out gp rfl e.symm), fun b' hb' e => ?_, ((HB4.out.alloc (by omega) _).alloc (by simp; omega) _).grown g9 (by simp; omega) (fun x hx => (HO.out.1.lt x hx).1), by omega⟩
        simp only [Value.ownBlock, Option.some.injEq] at hb'
        subst hb'
        rcases p9 with p9 | p9
        · rw [p9] at e; exact HNE.out gp rfl e
        · rw [p9] at e; simp at e; omega
      case measure => simp [intOf]; omega
    · obtain rfl : k = L.length := by omega
      rw [List.take_length, ← HR.out] at hown
      have HO2 := Lib.hid hown
      have HBW : Hid (Below w.heap.size w wr) := Lib.hid (BX.out.trans (HB4.out.mono (by omega)))
      obtain ⟨Ao, capo, rfl, _⟩ := OwI.form hown
      clear hown hop hne hbel HO
      go_wp2
      exact bodyPost_ret (v := .slice Ao CR.length capo) (by simp [results, Try.results32]) rfl ⟨_, rfl, HO2.out.mono (by omega), HBW.out⟩
end Go.Proofs.Ytodkandjcodnjaa
