/- The law FnLattices. -/
import Derived.Test.YtjmjhhdjlompfaaLatE
import Derived.Test.YtjmjhhdjlompfaaLatB
import Derived.Test.YtjmjhhdjlompfaaHerL
import Derived.Test.YtjmjhhdjlompfaaHerI
import Derived.Test.YtjmjhhdjlompfaaFrameB
import Derived.Test.YtjmjhhdjlompfaaRows
import Derived.Test.YtjmjhhdjlompfaaCloFnLattices
namespace Go.Proofs.Ytjmjhhdjlompfaa.fnLattices
set_option maxRecDepth 20000
set_option linter.unusedVariables false
set_option linter.unusedSimpArgs false
open Go.ChangeShapes Go.WideShapes Go.ChangeAt Go.RowKit
open Go.ChangeMaps (open_string shut_string)

theorem herm_len {n : Int} (hn : 1 ≤ n ∧ n ≤ 3) (L : List (List Int)) : (hermF n L).1.length ≤ 3 ∧ ∀ d ∈ (hermF n L).1, d.length ≤ 3 := by
  rcases hb : (hermF n L).2 with _ | _
  · have : (hermF n L).1 = [] := by
      unfold hermF at hb ⊢
      split
      · rfl
      · rename_i h1
        rw [if_neg h1] at hb
        split
        · rename_i h2; rw [if_pos h2] at hb; cases hb
        · rename_i h2
          rw [if_neg h2] at hb
          split
          · rfl
          · rename_i h3; rw [if_neg h3] at hb; cases hb
    rw [this]
    exact ⟨by simp, fun d hd => by cases hd⟩
  · have he := hermF_ech hb
    exact ⟨by have := he.length; omega, fun d hd => by have := he.len d hd; omega⟩
/-- What the law's own test tells of drawn rows. -/
theorem fine_small {n : Int} {L : List (List Int)} (hL : DrL n L) (hf : ∀ r ∈ L, (r.length : Int) = n ∧ ∀ y ∈ r, y ≤ 1000000) : lenOk n L = true ∧ numOk 6 L = true := by
  rcases hL.2.2 with h | h
  · constructor
    · unfold lenOk
      rw [List.all_eq_true]
      exact fun r hr => decide_eq_true (h r hr).1
    · unfold numOk
      rw [List.all_eq_true]
      intro r hr
      rw [List.all_eq_true]
      intro y hy
      exact inB_iff.2 (by have := (h r hr).2 y hy; omega)
  · have := (hf _ h).2 1000001 (by simp)
    omega
theorem take_all {α : Type} {P : α → Prop} {L : List α} {k : Nat} (hk : k < L.length) (h : ∀ r ∈ L.take k, P r) (hp : P L[k]) : ∀ r ∈ L.take (k + 1), P r := by
  intro r hr
  rw [List.take_succ_eq_append_getElem hk] at hr
  rcases List.mem_append.1 hr with hr | hr
  · exact h r hr
  · rw [List.mem_singleton.1 hr]; exact hp
set_option maxHeartbeats 8000000 in
theorem walk (v0 : Value) (x0 : List Int) (w : World) (h0 : ArgC w v0 x0) :
    Calls Try.prog 3 #[v0] w fun e w' => e = .returned (.bool true) ∧ Below w.heap.size w w' := by
  have HBIG := Lib.hid (big_any v0 x0 w h0)
  have V := Lib.hid h0
  obtain ⟨A0, c0, rfl, _⟩ := h0
  by_cases hl : (1048576 : Int) < x0.length
  · have hd : decide ((1048576 : Int) < x0.length) = true := decide_eq_true hl
    rw [hd] at HBIG
    clear hd hl
    go_enter Try.func3, Try.ntmps3
    go_wp2_with fail
    refine HBIG.out.mono ?_
    rintro e w1 ⟨rfl, rfl⟩
    go_wp2
    go_ret
    exact ⟨rfl, Below.refl _ _⟩
  have hd : decide ((1048576 : Int) < x0.length) = false := decide_eq_false hl
  rw [hd] at HBIG
  have hl' : x0.length ≤ 1048576 := by omega
  clear hd hl
  go_enter Try.func3, Try.ntmps3
  go_wp2_with fail
  refine HBIG.out.mono ?_
  rintro e w1 ⟨rfl, rfl⟩
  go_wp2_with fail
  refine (drawHerm_any _ x0 _ V.out hl').mono ?_
  rintro e w1 ⟨n, rv, L, rfl, hn, hL, oo, b⟩
  have BZ := Lib.hid b
  replace V := Lib.hid (V.out.below b)
  have M : Hid (LsW w1 rv L) := Lib.hid ⟨_, _, oo, Nat.le_refl _⟩
  obtain ⟨Am, cm, rfl⟩ := M.out.form
  have hLb := hL.1
  have HR : Hid (∀ r ∈ L, r.length ≤ 1073741824) := Lib.hid fun r hr => by have := hL.2.1 r hr; omega
  have HR3 : Hid (∀ r ∈ L, r.length ≤ 3) := Lib.hid hL.2.1
  have HH := herm_len hn L
  have hHb := HH.1
  have HHR3 : Hid (∀ r ∈ (hermF n L).1, r.length ≤ 3) := Lib.hid HH.2
  have HHR : Hid (∀ r ∈ (hermF n L).1, r.length ≤ 1073741824) := Lib.hid fun r hr => by have := HH.2 r hr; omega
  have FF : Hid ((∀ r ∈ L, (r.length : Int) = n ∧ ∀ y ∈ r, y ≤ 1000000) → (hermF n (hermF n L).1).1 = (hermF n L).1 ∧ (∀ r ∈ L, latF (hermF n L).1 r = true ∧ latF L r = true) ∧ ∀ d ∈ (hermF n L).1, latF L d = true) := Lib.hid fun hf => by
    have hs := fine_small hL hf
    have := lat_main (inB_iff.2 hn) hs.1 hs.2 (by omega)
    exact ⟨by rw [this.1], this.2.1, this.2.2⟩
  clear oo b hL hn HH
  go_wp2_with fail
  refine (implHermiteForm_any _ L n _ M.out.rd (by omega) HR.out).mono ?_
  rintro e w2 ⟨o2, rfl, oo, b⟩
  replace V := Lib.hid (V.out.below b)
  replace M := Lib.hid (M.out.below b)
  replace BZ := Lib.hid (BZ.out.trans (b.mono BZ.out.size))
  clear b
  have G : Hid (LsW w2 o2 (hermF n L).1) := Lib.hid ⟨_, _, oo, Nat.le_refl _⟩
  clear oo
  obtain ⟨Ag, cg, rfl⟩ := G.out.form
  go_wp2_with fail
  refine (specHermiteForm_any _ L n _ M.out.rd (by omega) HR.out).mono ?_
  rintro e w3 ⟨o3, rfl, oo, b⟩
  replace V := Lib.hid (V.out.below b)
  replace M := Lib.hid (M.out.below b)
  replace G := Lib.hid (G.out.below b)
  replace BZ := Lib.hid (BZ.out.trans (b.mono BZ.out.size))
  clear b
  have G2 : Hid (LsW w3 o3 (hermF n L).1) := Lib.hid ⟨_, _, oo, Nat.le_refl _⟩
  clear oo
  obtain ⟨Ag2, cg2, rfl⟩ := G2.out.form
  generalize hK : (hermF n L).1 = K at *
  have HKK := Lib.hid hK
  clear hK
  go_wp2_with fail
  refine (sameL _ _ K K _ G.out G2.out).mono ?_
  rintro e w4 ⟨rfl, b⟩
  replace V := Lib.hid (V.out.below b)
  replace M := Lib.hid (M.out.below b)
  replace G := Lib.hid (G.out.below b)
  replace G2 := Lib.hid (G2.out.below b)
  replace BZ := Lib.hid (BZ.out.trans (b.mono BZ.out.size))
  clear b
  simp only [decide_true]
  clear G2
  go_wp2_with fail
  refine (implLatticeIndex_any _ L n _ M.out.rd (by omega) HR.out).mono ?_
  rintro e w5 ⟨rfl, b⟩
  replace V := Lib.hid (V.out.below b)
  replace M := Lib.hid (M.out.below b)
  replace G := Lib.hid (G.out.below b)
  replace BZ := Lib.hid (BZ.out.trans (b.mono BZ.out.size))
  clear b
  go_wp2_with fail
  refine (specLatticeIndex_any _ L n _ M.out.rd (by omega) HR.out).mono ?_
  rintro e w6 ⟨rfl, b⟩
  replace V := Lib.hid (V.out.below b)
  replace M := Lib.hid (M.out.below b)
  replace G := Lib.hid (G.out.below b)
  replace BZ := Lib.hid (BZ.out.trans (b.mono BZ.out.size))
  clear b
  generalize latN L n = ln at *
  go_wp2_with fail
  go_loopw [6, 7, 8] (fun fv iv _ wr => ∃ (k : Nat) (fb : Bool), k ≤ L.length ∧ iv = .int .i64 k ∧ fv = .bool fb ∧ (fb = true → ∀ r ∈ L.take k, (r.length : Int) = n ∧ ∀ y ∈ r, y ≤ 1000000) ∧ wr = w6) (fun _ iv _ _ => L.length - (intOf iv).toNat)
  case atStart => exact ⟨0, true, Nat.zero_le _, rfl, rfl, (fun _ r hr => by simp at hr), rfl⟩
  case round =>
    obtain ⟨k, fb, hk, rfl, rfl, hfb, rfl⟩ := hrel
    have HFB := Lib.hid hfb
    clear hfb
    by_cases hlt : k < L.length
    · obtain ⟨g, A2, c2, rfl, hg, hc, hx⟩ := M.out.row hlt
      have X := Lib.hid hx
      have hx3 := HR3.out _ (List.getElem_mem hlt)
      have hI : (k : Int) < (L.length : Int) := by omega
      have HTK : Hid (∀ fb : Bool, (fb = true → (∀ r ∈ L.take k, (r.length : Int) = n ∧ ∀ y ∈ r, y ≤ 1000000) ∧ (L[k].length : Int) = n ∧ ∀ y ∈ L[k], y ≤ 1000000) → fb = true → ∀ r ∈ L.take (k + 1), (r.length : Int) = n ∧ ∀ y ∈ r, y ≤ 1000000) := Lib.hid fun fb h hb => take_all (P := fun r => (r.length : Int) = n ∧ ∀ y ∈ r, y ≤ 1000000) hlt (h hb).1 (h hb).2
      clear hx
      generalize L[k] = x at *
      obtain ⟨f2, hf2, HF2⟩ : ∃ f2 : Bool, f2 = (fb && ((x.length : Int) == n)) ∧ Hid (f2 = true → (∀ r ∈ L.take k, (r.length : Int) = n ∧ ∀ y ∈ r, y ≤ 1000000) ∧ (x.length : Int) = n) := ⟨_, rfl, Lib.hid fun h => by
        rw [Bool.and_eq_true, beq_iff_eq] at h
        exact ⟨HFB.out h.1, h.2⟩⟩
      have INNER : ∀ (f : Bool), f = f2 → True := fun _ _ => trivial
      clear INNER
      rcases fb with _ | _
      all_goals (
        (try simp only [Bool.false_and, Bool.true_and] at hf2)
        go_wp2_with fail
        go_loopw [6, 8] (fun fv jv wq => ∃ (j : Nat) (fb : Bool), j ≤ x.length ∧ jv = .int .i64 j ∧ fv = .bool fb ∧ (fb = true → f2 = true ∧ ∀ y ∈ x.take j, y ≤ 1000000) ∧ wq = wr) (fun _ jv _ => x.length - (intOf jv).toNat)
        case atStart => exact ⟨0, f2, Nat.zero_le _, rfl, by rw [hf2], (fun h => ⟨h, fun y hy => by simp at hy⟩), rfl⟩
        case round =>
          obtain ⟨j, fj, hj, rfl, rfl, hfj, rfl⟩ := hrel
          have HFJ := Lib.hid hfj
          clear hfj
          by_cases hjl : j < x.length
          · have hJ : (j : Int) < (x.length : Int) := by omega
            rcases fj with _ | _
            · go_wp2
              go_roundw
              case rel => exact ⟨j + 1, false, by omega, by go_num, rfl, (fun h => by cases h), (by first | rfl | trivial)⟩
              case measure => (simp [intOf]; omega)
            · obtain ⟨b, off, rfl, hbl, hcc⟩ := X.out.at (by omega)
              have hcell := hcc j hjl
              have HT : Hid ((x[j] ≤ 1000000) → ∀ y ∈ x.take (j + 1), y ≤ 1000000) := Lib.hid fun h => take_all (P := fun y => y ≤ 1000000) hjl (HFJ.out rfl).2 h
              have HF22 := Lib.hid (HFJ.out rfl).1
              clear hcc
              generalize x[j] = y at *
              rcases e1 : decide (y ≤ 1000000) with _ | _
              · have e1' : ¬ y ≤ 1000000 := of_decide_eq_false e1
                go_wp2
                go_roundw
                case rel => exact ⟨j + 1, false, by omega, by go_num, rfl, (fun h => by cases h), (by first | rfl | trivial)⟩
                case measure => (simp [intOf]; omega)
              · have e1' : y ≤ 1000000 := of_decide_eq_true e1
                have HT2 := Lib.hid (HT.out e1')
                go_wp2
                go_roundw
                case rel => exact ⟨j + 1, true, by omega, by go_num, rfl, (fun _ => ⟨HF22.out, HT2.out⟩), (by first | rfl | trivial)⟩
                case measure => (simp [intOf]; omega)
          · obtain rfl : j = x.length := by omega
            have HN : Hid (fj = true → ∀ r ∈ L.take (k + 1), (r.length : Int) = n ∧ ∀ y ∈ r, y ≤ 1000000) := Lib.hid (HTK.out fj fun h => by
              have h1 := HFJ.out h
              have h2 := HF2.out h1.1
              rw [List.take_length] at h1
              exact ⟨h2.1, h2.2, h1.2⟩)
            go_wp2
            go_roundw
            case rel => exact ⟨k + 1, fj, by omega, by go_num, rfl, HN.out, (by first | rfl | trivial)⟩
            case measure => (simp [intOf]; omega))
    obtain rfl : k = L.length := by omega
    have HFIN : Hid (fb = true → ∀ r ∈ L, (r.length : Int) = n ∧ ∀ y ∈ r, y ≤ 1000000) := Lib.hid (by have h := HFB.out; rwa [List.take_length] at h)
    clear HFB
    rcases fb with _ | _
    · by_cases hL0 : (0 : Int) < (L.length : Int) <;> by_cases hK0 : (0 : Int) < (K.length : Int)
      all_goals (
        go_wp2_with fail
        refine wp_loop_rounds 1 ?_
        rw [rounds_succ]
        go_wp2_with fail
        refine wp_loop_rounds 1 ?_
        rw [rounds_succ]
        go_wp2_with fail
        refine (drawInL_any _ x0 _ V.out hl').mono ?_
        rintro e wt ⟨rv2, xv2, L2, x2, rfl, hL2, hR2, hx2, ls, rx, b⟩
        replace V := Lib.hid (V.out.below b)
        replace M := Lib.hid (M.out.below b)
        replace G := Lib.hid (G.out.below b)
        replace BZ := Lib.hid (BZ.out.trans (b.mono BZ.out.size))
        clear b
        have Q := Lib.hid ls
        have QX := Lib.hid rx
        obtain ⟨Aq, cq, rfl⟩ := ls.form
        obtain ⟨Ax2, cx2, rfl, _⟩ := rx.arg
        have HR2 : Hid (∀ r ∈ L2, r.length ≤ 1073741824) := Lib.hid fun r hr => by have := hR2 r hr; omega
        clear ls rx hR2
        go_wp2_with fail
        refine (drawLatI_any _ x0 _ V.out hl').mono ?_
        rintro e wu ⟨n5, rv5, L5, rfl, hn5, hL5, oo, b⟩
        replace V := Lib.hid (V.out.below b)
        replace M := Lib.hid (M.out.below b)
        replace G := Lib.hid (G.out.below b)
        replace Q := Lib.hid (Q.out.below b)
        replace QX := Lib.hid (QX.out.below b)
        replace BZ := Lib.hid (BZ.out.trans (b.mono BZ.out.size))
        clear b
        have P : Hid (LsW wu rv5 L5) := Lib.hid ⟨_, _, oo, Nat.le_refl _⟩
        obtain ⟨Ap, cp, rfl⟩ := P.out.form
        have hl5 := hL5.1
        have HR5 : Hid (∀ r ∈ L5, r.length ≤ 1073741824) := Lib.hid fun r hr => by have := hL5.2.1 r hr; omega
        clear oo hL5
        go_wp2_with fail
        refine (implInLattice_any _ _ L2 x2 _ Q.out.rd QX.out (by omega) HR2.out (by omega)).mono ?_
        rintro e wv ⟨rfl, b⟩
        replace V := Lib.hid (V.out.below b)
        replace M := Lib.hid (M.out.below b)
        replace G := Lib.hid (G.out.below b)
        replace Q := Lib.hid (Q.out.below b)
        replace QX := Lib.hid (QX.out.below b)
        replace P := Lib.hid (P.out.below b)
        replace BZ := Lib.hid (BZ.out.trans (b.mono BZ.out.size))
        clear b
        go_wp2_with fail
        refine (specInLattice_any _ _ L2 x2 _ Q.out.rd QX.out (by omega) HR2.out (by omega)).mono ?_
        rintro e ww ⟨rfl, b⟩
        replace V := Lib.hid (V.out.below b)
        replace M := Lib.hid (M.out.below b)
        replace G := Lib.hid (G.out.below b)
        replace Q := Lib.hid (Q.out.below b)
        replace QX := Lib.hid (QX.out.below b)
        replace P := Lib.hid (P.out.below b)
        replace BZ := Lib.hid (BZ.out.trans (b.mono BZ.out.size))
        clear b
        generalize latF L2 x2 = bl at *
        go_wp2_with fail
        refine (implLatticeIndex_any _ L5 n5 _ P.out.rd (by omega) HR5.out).mono ?_
        rintro e wx ⟨rfl, b⟩
        replace V := Lib.hid (V.out.below b)
        replace M := Lib.hid (M.out.below b)
        replace G := Lib.hid (G.out.below b)
        replace Q := Lib.hid (Q.out.below b)
        replace QX := Lib.hid (QX.out.below b)
        replace P := Lib.hid (P.out.below b)
        replace BZ := Lib.hid (BZ.out.trans (b.mono BZ.out.size))
        clear b
        go_wp2_with fail
        refine (specLatticeIndex_any _ L5 n5 _ P.out.rd (by omega) HR5.out).mono ?_
        rintro e wy ⟨rfl, b⟩
        replace V := Lib.hid (V.out.below b)
        replace M := Lib.hid (M.out.below b)
        replace G := Lib.hid (G.out.below b)
        replace Q := Lib.hid (Q.out.below b)
        replace QX := Lib.hid (QX.out.below b)
        replace P := Lib.hid (P.out.below b)
        replace BZ := Lib.hid (BZ.out.trans (b.mono BZ.out.size))
        clear b
        go_wp2
        go_ret
        exact ⟨by simp, BZ.out⟩)
    · have F0 := FF.out (HFIN.out (by first | rfl | trivial))
      have F1 := Lib.hid F0.1
      have F2 := Lib.hid F0.2.1
      have F3 := Lib.hid F0.2.2
      clear F0 FF HFIN
      go_wp2_with fail
      go_loopw [9] (fun iv wq => ∃ k : Nat, k ≤ L.length ∧ iv = .int .i64 k ∧ Below wr.heap.size wr wq) (fun iv _ => L.length - (intOf iv).toNat)
      case atStart => exact ⟨0, Nat.zero_le _, rfl, Below.refl _ _⟩
      case round =>
        rename World => wq
        obtain ⟨k, hk, rfl, b⟩ := hrel
        have hsb := b.size
        replace V := Lib.hid (V.out.below b)
        replace M := Lib.hid (M.out.below b)
        replace G := Lib.hid (G.out.below b)
        replace BZ := Lib.hid (BZ.out.trans (b.mono BZ.out.size))
        have BL := Lib.hid b
        clear b
        by_cases hlt : k < L.length
        · obtain ⟨g, A2, c2, rfl, hg, hc, hx⟩ := M.out.row hlt
          have hx3 := HR3.out _ (List.getElem_mem hlt)
          have X := Lib.hid hx
          have hI : (k : Int) < (L.length : Int) := by omega
          have f := F2.out _ (List.getElem_mem hlt)
          have HA := Lib.hid f.1
          have HB := Lib.hid f.2
          clear hx f
          generalize L[k] = x at *
          have C1 := implInLattice_any _ _ K x _ G.out.rd X.out (by omega) HHR.out (by omega)
          rw [HA.out] at C1
          have C1 := Lib.hid C1
          go_wp2_with fail
          refine C1.out.mono ?_
          rintro e wb ⟨rfl, b⟩
          have hc2 := (b.cell (p := ⟨g, k, none⟩) hg).trans hc
          replace X := Lib.hid (X.out.below b)
          replace M := Lib.hid (M.out.below b)
          replace BL := Lib.hid (BL.out.trans (b.mono hsb))
          have hsb2 := Nat.le_trans hsb b.size
          clear b C1
          have C2 := implInLattice_any _ _ L x _ M.out.rd X.out (by omega) HR.out (by omega)
          rw [HB.out] at C2
          have C2 := Lib.hid C2
          go_wp2_with fail
          refine C2.out.mono ?_
          rintro e wc ⟨rfl, b⟩
          replace BL := Lib.hid (BL.out.trans (b.mono hsb2))
          clear b C2
          go_wp2
          go_roundw
          case rel => exact ⟨k + 1, by omega, by go_num, BL.out⟩
          case measure => (simp [intOf]; omega)
        obtain rfl : k = L.length := by omega
        clear BL hsb
        clear F2
        go_wp2_with fail
        obtain ⟨wr, hwr⟩ : ∃ wr, wr = wq := ⟨_, rfl⟩
        subst hwr
        go_loopw [10] (fun iv wq => ∃ k : Nat, k ≤ K.length ∧ iv = .int .i64 k ∧ Below wr.heap.size wr wq) (fun iv _ => K.length - (intOf iv).toNat)
        case atStart => exact ⟨0, Nat.zero_le _, rfl, Below.refl _ _⟩
        case round =>
          rename World => wq
          obtain ⟨k, hk, rfl, b⟩ := hrel
          have hsb := b.size
          replace V := Lib.hid (V.out.below b)
          replace M := Lib.hid (M.out.below b)
          replace G := Lib.hid (G.out.below b)
          replace BZ := Lib.hid (BZ.out.trans (b.mono BZ.out.size))
          have BL := Lib.hid b
          clear b
          by_cases hlt : k < K.length
          · obtain ⟨g, A2, c2, rfl, hg, hc, hx⟩ := G.out.row hlt
            have hx3 := HHR3.out _ (List.getElem_mem hlt)
            have X := Lib.hid hx
            have hI : (k : Int) < (K.length : Int) := by omega
            have HA := Lib.hid (F3.out _ (List.getElem_mem hlt))
            clear hx
            generalize K[k] = x at *
            have C1 := implInLattice_any _ _ L x _ M.out.rd X.out (by omega) HR.out (by omega)
            rw [HA.out] at C1
            have C1 := Lib.hid C1
            go_wp2_with fail
            refine C1.out.mono ?_
            rintro e wb ⟨rfl, b⟩
            replace BL := Lib.hid (BL.out.trans (b.mono hsb))
            clear b C1
            go_wp2
            go_roundw
            case rel => exact ⟨k + 1, by omega, by go_num, BL.out⟩
            case measure => (simp [intOf]; omega)
          obtain rfl : k = K.length := by omega
          clear BL hsb
          go_wp2_with fail
          refine (implHermiteForm_any _ K n _ G.out.rd (by omega) HHR.out).mono ?_
          rintro e wd ⟨o7, rfl, oo, b⟩
          replace V := Lib.hid (V.out.below b)
          replace M := Lib.hid (M.out.below b)
          replace G := Lib.hid (G.out.below b)
          replace BZ := Lib.hid (BZ.out.trans (b.mono BZ.out.size))
          clear b
          rw [F1.out] at oo
          have G7 : Hid (LsW wd o7 K) := Lib.hid ⟨_, _, oo, Nat.le_refl _⟩
          clear oo
          obtain ⟨Ag7, cg7, rfl⟩ := G7.out.form
          go_wp2_with fail
          refine (sameL _ _ K K _ G7.out G.out).mono ?_
          rintro e we ⟨rfl, b⟩
          replace V := Lib.hid (V.out.below b)
          replace M := Lib.hid (M.out.below b)
          replace G := Lib.hid (G.out.below b)
          replace G7 := Lib.hid (G7.out.below b)
          replace BZ := Lib.hid (BZ.out.trans (b.mono BZ.out.size))
          clear b
          simp only [decide_true]
          clear G7
          go_wp2_with fail
          refine (drawInL_any _ x0 _ V.out hl').mono ?_
          rintro e wt ⟨rv2, xv2, L2, x2, rfl, hL2, hR2, hx2, ls, rx, b⟩
          replace V := Lib.hid (V.out.below b)
          replace M := Lib.hid (M.out.below b)
          replace G := Lib.hid (G.out.below b)
          replace BZ := Lib.hid (BZ.out.trans (b.mono BZ.out.size))
          clear b
          have Q := Lib.hid ls
          have QX := Lib.hid rx
          obtain ⟨Aq, cq, rfl⟩ := ls.form
          obtain ⟨Ax2, cx2, rfl, _⟩ := rx.arg
          have HR2 : Hid (∀ r ∈ L2, r.length ≤ 1073741824) := Lib.hid fun r hr => by have := hR2 r hr; omega
          clear ls rx hR2
          go_wp2_with fail
          refine (drawLatI_any _ x0 _ V.out hl').mono ?_
          rintro e wu ⟨n5, rv5, L5, rfl, hn5, hL5, oo, b⟩
          replace V := Lib.hid (V.out.below b)
          replace M := Lib.hid (M.out.below b)
          replace G := Lib.hid (G.out.below b)
          replace Q := Lib.hid (Q.out.below b)
          replace QX := Lib.hid (QX.out.below b)
          replace BZ := Lib.hid (BZ.out.trans (b.mono BZ.out.size))
          clear b
          have P : Hid (LsW wu rv5 L5) := Lib.hid ⟨_, _, oo, Nat.le_refl _⟩
          obtain ⟨Ap, cp, rfl⟩ := P.out.form
          have hl5 := hL5.1
          have HR5 : Hid (∀ r ∈ L5, r.length ≤ 1073741824) := Lib.hid fun r hr => by have := hL5.2.1 r hr; omega
          clear oo hL5
          go_wp2_with fail
          refine (implInLattice_any _ _ L2 x2 _ Q.out.rd QX.out (by omega) HR2.out (by omega)).mono ?_
          rintro e wv ⟨rfl, b⟩
          replace V := Lib.hid (V.out.below b)
          replace M := Lib.hid (M.out.below b)
          replace G := Lib.hid (G.out.below b)
          replace Q := Lib.hid (Q.out.below b)
          replace QX := Lib.hid (QX.out.below b)
          replace P := Lib.hid (P.out.below b)
          replace BZ := Lib.hid (BZ.out.trans (b.mono BZ.out.size))
          clear b
          go_wp2_with fail
          refine (specInLattice_any _ _ L2 x2 _ Q.out.rd QX.out (by omega) HR2.out (by omega)).mono ?_
          rintro e ww ⟨rfl, b⟩
          replace V := Lib.hid (V.out.below b)
          replace M := Lib.hid (M.out.below b)
          replace G := Lib.hid (G.out.below b)
          replace Q := Lib.hid (Q.out.below b)
          replace QX := Lib.hid (QX.out.below b)
          replace P := Lib.hid (P.out.below b)
          replace BZ := Lib.hid (BZ.out.trans (b.mono BZ.out.size))
          clear b
          generalize latF L2 x2 = bl at *
          go_wp2_with fail
          refine (implLatticeIndex_any _ L5 n5 _ P.out.rd (by omega) HR5.out).mono ?_
          rintro e wx ⟨rfl, b⟩
          replace V := Lib.hid (V.out.below b)
          replace M := Lib.hid (M.out.below b)
          replace G := Lib.hid (G.out.below b)
          replace Q := Lib.hid (Q.out.below b)
          replace QX := Lib.hid (QX.out.below b)
          replace P := Lib.hid (P.out.below b)
          replace BZ := Lib.hid (BZ.out.trans (b.mono BZ.out.size))
          clear b
          go_wp2_with fail
          refine (specLatticeIndex_any _ L5 n5 _ P.out.rd (by omega) HR5.out).mono ?_
          rintro e wy ⟨rfl, b⟩
          replace V := Lib.hid (V.out.below b)
          replace M := Lib.hid (M.out.below b)
          replace G := Lib.hid (G.out.below b)
          replace Q := Lib.hid (Q.out.below b)
          replace QX := Lib.hid (QX.out.below b)
          replace P := Lib.hid (P.out.below b)
          replace BZ := Lib.hid (BZ.out.trans (b.mono BZ.out.size))
          clear b
          go_wp2
          go_ret
          exact ⟨by simp, BZ.out⟩

set_option maxRecDepth 100000 in
theorem lifted (os : Os) (started : os.Started) (H : Type) (enc : TypeId × Value → H) :
    ReturnsInHanded {} Try.checked os 3 .any (Rows.fnLatticesSpec.pre6 enc Try.prog Try.f3 Rows.fnLatticesRow.domain false) (Rows.fnLatticesSpec.post enc Try.prog Try.f3 false true false false) := by
  refine returnsInHanded_of_change (C := Try.checked) own started (by kernel_rfl) Try.func3
    (ChangeSpec.witness6 (enc := enc) (C := Try.checked) false ⟨#[], #[.slice none 0 0], []⟩ 8 (by kernel_rfl) (by kernel_rfl) (by kernel_rfl) (by kernel_rfl)) ?_
  intro W base args ds gs before hval0 hW hcnd _
  have hval : ∀ (j : Nat) t v, Try.f3.params[j]? = some t → args[j]? = some v → Value.okWide Try.prog W .any base t v := hval0
  have hW' := hW
  obtain ⟨p, q, hA0, hV, rfl, hfz, hnd⟩ := hW
  have hA : DataW.TrodAll enc Try.prog W 0 (fun _ => true) true Try.f3.params.toList args.toList ds p := hA0
  rw [Try.params3] at hA hval
  obtain ⟨v0, vs0, d0, ds0, p0, q0, hargs, rfl, rfl, h0, r0⟩ := trodAll_cons hA
  obtain ⟨rfl, rfl, rfl⟩ := trodAll_nil r0
  obtain rfl : args = #[v0] := by cases args; simp_all
  obtain ⟨rfl, rfl⟩ := trodVars_none hV
  have k0 := h0
  have lt0 : ∀ x ∈ p0, x.block < W.heap.size := by obtain ⟨m, hm⟩ := k0; exact DataW.trod_lt m _ _ _ hm
  obtain ⟨x0, a0⟩ := open_argB (hval 0 22 v0 rfl rfl) h0
  clear hA0 hval0
  refine (walk v0 x0 W a0).mono fun e W' ⟨he, bel⟩ => ?_
  subst he
  exact ⟨_, rfl, _, _, _, [], _, [], hW', trodAll_mk1 (shut_bool Try.underlying4 _), (trodAll_cons_mk (Below.trod laidOut (by kernel_rfl) (of_decide_eq_true (by kernel_rfl)) k0 bel lt0) trodAll_mk0), rfl, bel.frame _, fun h => by cases h⟩

/-- The given statement. -/
theorem proved : Rows.FnLatticesSaid :=
  OpenClaim.holds_of_wide 3 Try.f3 rfl rfl rfl rfl rfl rfl rfl ⟨rfl, rfl, rfl, rfl, rfl⟩ rfl rfl rfl rfl rfl (by as_aux_lemma => kernel_rfl) Try.func3 closed
    (of_decide_eq_true (by as_aux_lemma => kernel_rfl)) (by unfold Func.isWrapper; first | (rw [if_pos (by decide +kernel)]; kernel_rfl) | (rw [if_neg (by decide +kernel)]; exact ⟨rfl, rfl⟩))
    (fun os started H enc _ => lifted os started H enc)
#print axioms proved
end Go.Proofs.Ytjmjhhdjlompfaa.fnLattices
