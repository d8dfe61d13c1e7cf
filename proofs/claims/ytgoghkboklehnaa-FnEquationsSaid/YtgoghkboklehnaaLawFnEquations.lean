/- The law FnEquations. -/
import Derived.Test.YtgoghkboklehnaaDrawP
import Derived.Test.YtgoghkboklehnaaLawE
import Derived.Test.YtgoghkboklehnaaSolM
import Derived.Test.YtgoghkboklehnaaEq
import Derived.Test.YtgoghkboklehnaaSing
import Derived.Test.YtgoghkboklehnaaParS
import Derived.Test.YtgoghkboklehnaaFrameB
import Derived.Test.YtgoghkboklehnaaRows
import Derived.Test.YtgoghkboklehnaaCloFnEquations
import Derived.Deep.DeepCutAuto
namespace Go.Proofs.Ytgoghkboklehnaa.fnEquations
set_option maxRecDepth 20000
set_option linter.unusedVariables false
set_option linter.unusedSimpArgs false
open Go.ChangeShapes Go.WideShapes Go.ChangeAt Go.RowKit
open Go.ChangeMaps (open_string shut_string)

/-- A list of lists of ints that is read. -/
def LsW (w : World) (v : Value) (L : List (List Int)) : Prop := ∃ lo hi, OwII lo hi v L w ∧ hi ≤ w.heap.size
theorem LsW.below {w w' : World} {v : Value} {L : List (List Int)} (h : LsW w v L) (hb : Below w.heap.size w w') : LsW w' v L := by
  obtain ⟨lo, hi, h, hh⟩ := h
  exact ⟨lo, hi, h.keep EI.stable fun b _ hb' => hb.block b (by omega), Nat.le_trans hh hb.size⟩
theorem LsW.form {w : World} {v : Value} {L : List (List Int)} (h : LsW w v L) : ∃ A c, v = .slice A L.length c := by
  obtain ⟨lo, hi, h, hh⟩ := h
  obtain ⟨A, c, hv, _⟩ := h.len
  exact ⟨A, c, hv⟩
theorem LsW.row {w : World} {A : Option Addr} {c : Nat} {L : List (List Int)} (h : LsW w (.slice A L.length c) L) {k : Nat} (hk : k < L.length) :
    ∃ g A2 c2, A = some ⟨g, 0, none⟩ ∧ g < w.heap.size ∧ w.cell? ⟨g, k, none⟩ = some (.slice A2 L[k].length c2) ∧ RdI w (.slice A2 L[k].length c2) L[k] := by
  obtain ⟨lo, hi, h, hh⟩ := h
  obtain ⟨g, cs, Fe, hA, _, hg, hE, hcw, _, _, hc, _⟩ := h.focus EI.stable hk
  obtain ⟨s, rfl, ho, _⟩ := hE
  have c0 := hc 0 (by simp)
  simp only [List.getElem_cons_zero, Nat.add_zero, Nat.mul_one] at c0
  obtain ⟨A2, c2, rfl, _⟩ := OwI.form ho
  refine ⟨g, A2, c2, hA, by omega, c0, ho.rd⟩
theorem RdI.below' {w w' : World} {v : Value} {xs : List Int} (h : RdI w v xs) (hb : Below w.heap.size w w') : RdI w' v xs := h.below hb
theorem sameI (v u : Value) (xs ys : List Int) (w : World) (h : RdI w v xs) (h' : RdI w u ys) :
    Calls Try.prog 16 #[v, u] w fun e w' => e = .returned (.bool (decide (xs = ys))) ∧ Below w.heap.size w w' :=
  (sameInts_any v u xs ys w h.arg h'.arg).mono fun _ _ ⟨he, n, hn⟩ => ⟨he, by rw [hn]; exact bel_drewN (Below.refl _ _) _⟩
theorem sameL (v u : Value) (L L' : List (List Int)) (w : World) (h : LsW w v L) (h' : LsW w u L') :
    Calls Try.prog 8 #[v, u] w fun e w' => e = .returned (.bool (decide (L = L'))) ∧ Below w.heap.size w w' := by
  obtain ⟨_, _, h, hh⟩ := h
  obtain ⟨_, _, h', hh'⟩ := h'
  exact sameWords_any v u L L' w h h' hh hh'
theorem big_any (v : Value) (cs : List Int) (w : World) (h : ArgC w v cs) :
    Calls Try.prog 4 #[v] w fun e w' => e = .returned (.bool (decide ((1048576 : Int) < cs.length))) ∧ w = w' := by
  obtain ⟨A, cap, rfl, _⟩ := h
  go_enter Try.func4, Try.ntmps4
  go_wp2
  exact bodyPost_ret (v := .bool (decide ((1048576 : Int) < cs.length))) (by simp [results, Try.results4, go_sem]) rfl ⟨rfl, rfl⟩

theorem mem_take_dec {L : List (List Int)} {ys : List Int} {k : Nat} (h : k < L.length) : decide (ys ∈ L.take (k + 1)) = (decide (ys ∈ L.take k) || decide (L[k] = ys)) := by
  rw [List.take_succ_eq_append_getElem h, Bool.eq_iff_iff, Bool.or_eq_true, decide_eq_true_eq, decide_eq_true_eq, decide_eq_true_eq, List.mem_append, List.mem_singleton]
  exact ⟨fun h => h.imp id Eq.symm, fun h => h.imp id Eq.symm⟩
set_option maxHeartbeats 8000000 in
theorem walk (v0 : Value) (x0 : List Int) (w : World) (h0 : ArgC w v0 x0) :
    Calls Try.prog 3 #[v0] w fun e w' => e = .returned (.bool true) ∧ Below w.heap.size w w' := by
  have HBIG := Lib.hid (big_any v0 x0 w h0)
  have V := Lib.hid h0
  obtain ⟨A0, c0, rfl, _⟩ := h0
  by_cases hl : (1048576 : Int) < x0.length
  · have hd : decide ((1048576 : Int) < x0.length) = true := decide_eq_true hl
    rw [hd] at HBIG
    clear hd hl
    go_enter Try.func3, Try.ntmps3
    go_wp2_with fail
    refine HBIG.out.mono ?_
    rintro e w1 ⟨rfl, rfl⟩
    go_wp2
    go_ret
    exact ⟨rfl, Below.refl _ _⟩
  have hd : decide ((1048576 : Int) < x0.length) = false := decide_eq_false hl
  rw [hd] at HBIG
  have hl' : x0.length ≤ 1048576 := by omega
  clear hd hl
  go_enter Try.func3, Try.ntmps3
  go_wp2_with fail
  refine HBIG.out.mono ?_
  rintro e w1 ⟨rfl, rfl⟩
  go_wp2_with fail
  refine (drawSols_any _ x0 _ V.out hl').mono ?_
  rintro e w1 ⟨r, ev, m, es, rfl, ⟨r1, r3⟩, ⟨m0, m3⟩, hel, oe, b⟩
  have BZ := Lib.hid b
  have E := Lib.hid oe.rd
  replace V := Lib.hid (V.out.below b)
  obtain ⟨Ae, ce, rfl, _⟩ := OwI.form oe
  have hel2 : es.length ≤ 1048576 := by omega
  clear oe b
  have FM : Hid (∀ x ∈ (solsF r es m).1, substF es x = [] ∧ (x.length : Int) ≤ m ∧ x.length ≤ 4) := Lib.hid fun x hx => ⟨(sols_mem hx).1, (sols_mem hx).2.1, (sols_mem hx).2.2.2.2⟩
  have FI : Hid ((solsF r es m).2 = true → ∀ x : List Int, (x.length : Int) ≤ m → letR r x → redP x → solB r es x = decide (x ∈ (solsF r es m).1)) := Lib.hid fun h x h1 h2 h3 => sols_in h h1 h2 h3
  have FO : Hid ((solsF r es m).2 = true → (solveF r es).2 = true → (solsF r es m).1.length ≤ 1) := Lib.hid fun h h' => sols_one h h'
  have FU : Hid ((solveF r es).2 = true → ∀ x ∈ (solsF r es m).1, x = (solveF r es).1) := Lib.hid fun h x hx => by
    obtain ⟨g1, _, g3, g4, _⟩ := sols_mem hx
    exact solve_uniq h g3 g4 g1
  have FS : Hid ((solveF r es).2 = true → substF es (solveF r es).1 = []) := Lib.hid fun h => solve_is h
  have FP : Hid (parF r (fmtEq es) = if eqB r es = true then (es, true) else ([], false)) := Lib.hid (parF_fmt r es)
  have HF : Hid ((fmtEq es).length ≤ 1048576) := Lib.hid (by have := fmt_len es; omega)
  have HSL : Hid ((solveF r es).1.length ≤ 1048576) := Lib.hid (by have := solveF_len r es; omega)
  go_wp2_with fail
  refine (implSolutionsUpTo_any r m _ es _ E.out hel2).mono ?_
  rintro e w2 ⟨o2, rfl, oo, b⟩
  replace V := Lib.hid (V.out.below b)
  replace E := Lib.hid (E.out.below b)
  replace BZ := Lib.hid (BZ.out.trans (b.mono BZ.out.size))
  clear b
  have LI : Hid (LsW w2 o2 (solsF r es m).1) := Lib.hid ⟨_, _, oo, Nat.le_refl _⟩
  clear oo
  obtain ⟨Ai, ci, rfl⟩ := LI.out.form
  go_wp2_with fail
  refine (specSolutionsUpTo_any r m _ es _ E.out hel2).mono ?_
  rintro e w3 ⟨o3, rfl, oo, b⟩
  replace V := Lib.hid (V.out.below b)
  replace E := Lib.hid (E.out.below b)
  replace LI := Lib.hid (LI.out.below b)
  replace BZ := Lib.hid (BZ.out.trans (b.mono BZ.out.size))
  clear b
  have M : Hid (LsW w3 o3 (solsF r es m).1) := Lib.hid ⟨_, _, oo, Nat.le_refl _⟩
  clear oo
  obtain ⟨Am, cm, rfl⟩ := M.out.form
  have hLb := sols_len r es m
  generalize (solsF r es m).1 = L at *
  generalize (solsF r es m).2 = is at *
  go_wp2_with fail
  refine (sameL _ _ L L _ LI.out M.out).mono ?_
  rintro e w4 ⟨rfl, b⟩
  replace V := Lib.hid (V.out.below b)
  replace E := Lib.hid (E.out.below b)
  replace LI := Lib.hid (LI.out.below b)
  replace M := Lib.hid (M.out.below b)
  replace BZ := Lib.hid (BZ.out.trans (b.mono BZ.out.size))
  clear b
  simp only [decide_true]
  clear LI
  go_wp2_with fail
  refine (implIsEquation_any r _ es _ E.out.arg (by omega)).mono ?_
  rintro e w5 ⟨rfl, rfl⟩
  go_wp2_with fail
  refine (specIsEquation_any r _ es _ E.out.arg (by omega)).mono ?_
  rintro e w5 ⟨rfl, rfl⟩
  go_wp2_with fail
  refine (implUnknownSum_any _ es _ E.out.arg hel2).mono ?_
  rintro e w5 ⟨rfl, rfl⟩
  go_wp2_with fail
  refine (specUnknownSum_any _ es _ E.out.arg hel2).mono ?_
  rintro e w5 ⟨rfl, rfl⟩
  go_wp2_with fail
  go_loopw [10] (fun i wr => ∃ k : Nat, k ≤ L.length ∧ i = .int .i64 k ∧ Below w4.heap.size w4 wr) (fun i _ => L.length - (intOf i).toNat)
  case atStart => exact ⟨0, Nat.zero_le _, rfl, Below.refl _ _⟩
  case round =>
    obtain ⟨k, hk, rfl, b⟩ := hrel
    have hsb := b.size
    replace V := Lib.hid (V.out.below b)
    replace E := Lib.hid (E.out.below b)
    replace M := Lib.hid (M.out.below b)
    replace BZ := Lib.hid (BZ.out.trans (b.mono BZ.out.size))
    have BL := Lib.hid b
    clear b
    by_cases hlt : k < L.length
    · obtain ⟨g, A2, c2, rfl, hg, hc, hx⟩ := M.out.row hlt
      obtain ⟨f1, f2, f3⟩ := FM.out _ (List.getElem_mem hlt)
      have X := Lib.hid hx
      clear hx
      generalize L[k] = x at *
      have hm : ¬ m < (x.length : Int) := by omega
      have HS := implSubstituteIn_any _ _ es x _ E.out X.out hel2 (by omega)
      rw [f1] at HS
      have HS := Lib.hid HS
      have hI : (k : Int) < (L.length : Int) := by omega
      clear f1 f2
      go_wp2_with fail
      refine HS.out.mono ?_
      rintro e w6 ⟨u, rfl, ou, b⟩
      obtain ⟨Au, cu, rfl, _⟩ := OwI.form ou
      have hc' := (b.cell (p := ⟨g, k, none⟩) hg).trans hc
      replace BL := Lib.hid (BL.out.trans (b.mono hsb))
      clear b ou hc HS
      go_wp2
      go_roundw
      case rel => exact ⟨k + 1, by omega, by go_num, BL.out⟩
      case measure => (simp [intOf]; omega)
    obtain rfl : k = L.length := by omega
    rename World => w5
    clear BL hsb
    go_wp2_with fail
    refine (implSolveSingle_any r _ es _ E.out hel2).mono ?_
    rintro e w6 ⟨u, rfl, ou, b⟩
    replace V := Lib.hid (V.out.below b)
    replace E := Lib.hid (E.out.below b)
    replace M := Lib.hid (M.out.below b)
    replace BZ := Lib.hid (BZ.out.trans (b.mono BZ.out.size))
    clear b
    have X := Lib.hid ou.rd
    obtain ⟨Ax, cx, rfl, _⟩ := OwI.form ou
    clear ou
    go_wp2_with fail
    refine (specSolveSingle_any r _ es _ E.out hel2).mono ?_
    rintro e w7 ⟨u, rfl, ou, b⟩
    replace V := Lib.hid (V.out.below b)
    replace E := Lib.hid (E.out.below b)
    replace M := Lib.hid (M.out.below b)
    replace X := Lib.hid (X.out.below b)
    replace BZ := Lib.hid (BZ.out.trans (b.mono BZ.out.size))
    clear b
    have Y := Lib.hid ou.rd
    obtain ⟨Ay, cy, rfl, _⟩ := OwI.form ou
    clear ou
    generalize (solveF r es).1 = xs at *
    generalize (solveF r es).2 = one at *
    go_upto_region 15 with fail
    have BC := Lib.hid (Below.refl w7.heap.size w7)
    go_cut [156] (fun s wx => s = .bool false ∧ Below w7.heap.size w7 wx)
    case first => as_aux_lemma =>
      go_wp2_with fail
      refine (sameI _ _ xs xs _ X.out Y.out).mono ?_
      rintro e w8 ⟨rfl, b⟩
      replace V := Lib.hid (V.out.below b)
      replace E := Lib.hid (E.out.below b)
      replace M := Lib.hid (M.out.below b)
      replace X := Lib.hid (X.out.below b)
      replace Y := Lib.hid (Y.out.below b)
      replace BZ := Lib.hid (BZ.out.trans (b.mono BZ.out.size))
      replace BC := Lib.hid (BC.out.trans (b.mono BC.out.size))
      clear b
      simp only [decide_true]
      clear Y
      cases one
      · cases is
        all_goals (
          go_wp2_with fail
          go_meet
          exact ⟨rfl, BC.out⟩)
      · have HS := specSubstituteIn_any _ _ es xs _ E.out X.out hel2 HSL.out
        rw [FS.out (by first | rfl | trivial)] at HS
        have HS := Lib.hid HS
        go_wp2_with fail
        refine (HS.out).mono ?_
        rintro e w9 ⟨u, rfl, ou, b⟩
        replace V := Lib.hid (V.out.below b)
        replace E := Lib.hid (E.out.below b)
        replace M := Lib.hid (M.out.below b)
        replace X := Lib.hid (X.out.below b)
        replace BZ := Lib.hid (BZ.out.trans (b.mono BZ.out.size))
        replace BC := Lib.hid (BC.out.trans (b.mono BC.out.size))
        clear b
        obtain ⟨Au, cu, rfl, _⟩ := OwI.form ou
        clear ou HS
        cases is
        · go_wp2_with fail
          go_meet
          exact ⟨rfl, BC.out⟩
        · have h10 := FO.out (by first | rfl | trivial) (by first | rfl | trivial)
          have h1 : ¬ ((1 : Int) < (L.length : Int)) := by omega
          have h1b : decide ((1 : Int) < (L.length : Int)) = false := decide_eq_false h1
          by_cases h2 : L.length = 1
          · obtain ⟨g, A2, c2, rfl, hg, hc, hx⟩ := M.out.row (k := 0) (by omega)
            have hxx := FU.out (by first | rfl | trivial) _ (List.getElem_mem (show 0 < L.length by omega))
            have X2 := Lib.hid hx
            have HXX := Lib.hid hxx
            clear hx hxx
            generalize L[0] = x at *
            have h3 : ((L.length : Int) == 1) = true := by rw [beq_iff_eq]; omega
            have h4 : (0 : Int) < (L.length : Int) := by omega
            clear h2
            go_wp2_with fail
            refine (sameI _ _ x xs _ X2.out X.out).mono ?_
            rintro e wd ⟨rfl, b⟩
            replace V := Lib.hid (V.out.below b)
            replace E := Lib.hid (E.out.below b)
            replace M := Lib.hid (M.out.below b)
            replace X := Lib.hid (X.out.below b)
            replace X2 := Lib.hid (X2.out.below b)
            replace BZ := Lib.hid (BZ.out.trans (b.mono BZ.out.size))
            replace BC := Lib.hid (BC.out.trans (b.mono BC.out.size))
            clear b
            rw [decide_eq_true HXX.out]
            go_wp2_with fail
            go_meet
            exact ⟨rfl, BC.out⟩
          · have h3 : ((L.length : Int) == 1) = false := by rw [beq_eq_false_iff_ne]; omega
            go_wp2_with fail
            go_meet
            exact ⟨rfl, BC.out⟩
    case rest => as_aux_lemma =>
      obtain ⟨rfl, b⟩ := hcut
      clear BC Y FU FO FS
      replace V := Lib.hid (V.out.below b)
      replace E := Lib.hid (E.out.below b)
      replace M := Lib.hid (M.out.below b)
      replace X := Lib.hid (X.out.below b)
      replace BZ := Lib.hid (BZ.out.trans (b.mono BZ.out.size))
      clear b
      clear X
      rename World => wd
      go_upto_if 157 with fail
      have BC := Lib.hid (Below.refl wd.heap.size wd)
      go_cut [15, 16, 17] (fun _ _ _ wx => Below wd.heap.size wd wx)
      case first => as_aux_lemma =>
        cases is
        · go_wp2_with fail
          go_meet
          exact BC.out
        · skip
          go_wp2_with fail
          refine (lawWord_any _ x0 r _ V.out hl' r1 r3).mono ?_
          rintro e wa ⟨u, ys, rfl, ou, ⟨hyl, hyr, hyp⟩, b⟩
          replace V := Lib.hid (V.out.below b)
          replace E := Lib.hid (E.out.below b)
          replace M := Lib.hid (M.out.below b)
          replace BZ := Lib.hid (BZ.out.trans (b.mono BZ.out.size))
          replace BC := Lib.hid (BC.out.trans (b.mono BC.out.size))
          clear b
          have Z := Lib.hid ou.rd
          obtain ⟨Az, cz, rfl, _⟩ := OwI.form ou
          have HQ : Hid ((ys.length : Int) ≤ m → solB r es ys = decide (ys ∈ L)) := Lib.hid fun h => FI.out (by first | rfl | trivial) ys h hyr hyp
          clear ou hyr hyp
          go_wp2_with fail
          go_loopw [16, 17] (fun bv iv wr => ∃ k : Nat, k ≤ L.length ∧ iv = .int .i64 k ∧ bv = .bool (decide (ys ∈ L.take k)) ∧ Below wa.heap.size wa wr) (fun _ iv _ => L.length - (intOf iv).toNat)
          case atStart => exact ⟨0, Nat.zero_le _, rfl, by simp, Below.refl _ _⟩
          case round =>
            obtain ⟨k, hk, rfl, rfl, b⟩ := hrel
            have hsb := b.size
            replace V := Lib.hid (V.out.below b)
            replace E := Lib.hid (E.out.below b)
            replace M := Lib.hid (M.out.below b)
            replace Z := Lib.hid (Z.out.below b)
            replace BZ := Lib.hid (BZ.out.trans (b.mono BZ.out.size))
            replace BC := Lib.hid (BC.out.trans (b.mono BC.out.size))
            have BL := Lib.hid b
            clear b
            by_cases hlt : k < L.length
            · obtain ⟨g, A2, c2, rfl, hg, hc, hx⟩ := M.out.row hlt
              have HT : Hid (decide (ys ∈ L.take (k + 1)) = (decide (ys ∈ L.take k) || decide (L[k] = ys))) := Lib.hid (mem_take_dec hlt)
              have X2 := Lib.hid hx
              have hI : (k : Int) < (L.length : Int) := by omega
              clear hx
              generalize L[k] = x at *
              generalize decide (ys ∈ L.take k) = bb at *
              cases bb
              · go_wp2_with fail
                refine (sameI _ _ x ys _ X2.out Z.out).mono ?_
                rintro e w9 ⟨rfl, b⟩
                replace BL := Lib.hid (BL.out.trans (b.mono hsb))
                clear b
                rw [Bool.false_or] at HT
                generalize decide (x = ys) = b3 at *
                go_wp2
                go_roundw
                case rel => exact ⟨k + 1, by omega, by go_num, by rw [HT.out], BL.out⟩
                case measure => (simp [intOf]; omega)
              · go_wp2
                go_roundw
                case rel => exact ⟨k + 1, by omega, by go_num, by rw [HT.out, Bool.true_or], BL.out⟩
                case measure => (simp [intOf]; omega)
            obtain rfl : k = L.length := by omega
            rw [List.take_length]
            clear BL hsb
            by_cases hym : (ys.length : Int) ≤ m
            · have HI := implIsSolution_any r _ _ es ys _ E.out Z.out hel2 (by omega)
              rw [HQ.out hym] at HI
              have HI := Lib.hid HI
              generalize decide (ys ∈ L) = bb at *
              go_wp2_with fail
              refine (HI.out).mono ?_
              rintro e wz ⟨rfl, b⟩
              replace V := Lib.hid (V.out.below b)
              replace E := Lib.hid (E.out.below b)
              replace M := Lib.hid (M.out.below b)
              replace Z := Lib.hid (Z.out.below b)
              replace BZ := Lib.hid (BZ.out.trans (b.mono BZ.out.size))
              replace BC := Lib.hid (BC.out.trans (b.mono BC.out.size))
              clear b
              clear HI
              go_wp2_with fail
              go_meet
              exact BC.out
            · generalize decide (ys ∈ L) = bb at *
              go_wp2_with fail
              go_meet
              exact BC.out
      case rest => as_aux_lemma =>
        have b := hcut
        clear hcut BC FI FM
        replace V := Lib.hid (V.out.below b)
        replace E := Lib.hid (E.out.below b)
        replace M := Lib.hid (M.out.below b)
        replace BZ := Lib.hid (BZ.out.trans (b.mono BZ.out.size))
        clear b
        clear M
        rename World => wd2
        go_wp2_with fail
        refine (implFormatEquation_any _ es _ E.out.arg (by omega)).mono ?_
        rintro e we ⟨rfl, rfl⟩
        have HP := implParseEquation_any r (fmtEq es) wd2 HF.out
        rw [FP.out] at HP
        have HP := Lib.hid HP
        have HSP := Lib.hid (fun W h => specFormatEquation_any (.slice Ae es.length ce) es W h (by omega))
        unfold str at HSP
        unfold str
        clear FP
        generalize fmtEq es = t at *
        have HEQ := Lib.hid (fun W h => specIsEquation_any r (.slice Ae es.length ce) es W h (by omega))
        generalize eqB r es = eb at *
        have HPP : Hid (∃ zs : List Int, (eb = true → zs = es) ∧ Calls Try.prog 21 #[.int .i64 r, .string ⟨t.toArray⟩] wd2 fun o w' => ∃ u, o = .returned (.tuple #[u, .bool eb]) ∧ OwI w' wd2.heap.size u zs ∧ Below wd2.heap.size wd2 w') := by
          have HP := HP.out
          cases eb
          · exact Lib.hid ⟨[], (fun h => by cases h), by simpa using HP⟩
          · exact Lib.hid ⟨es, (fun _ => rfl), by simpa using HP⟩
        obtain ⟨zs, hzs, HPP2⟩ := HPP.out
        have HZS := Lib.hid hzs
        have HPQ := Lib.hid HPP2
        clear HP HPP hzs HPP2 HF
        go_wp2_with fail
        refine (HPQ.out).mono ?_
        rintro e wf ⟨u, rfl, ou, b⟩
        replace V := Lib.hid (V.out.below b)
        replace E := Lib.hid (E.out.below b)
        replace BZ := Lib.hid (BZ.out.trans (b.mono BZ.out.size))
        clear b
        have P := Lib.hid ou.rd
        obtain ⟨Ap, cp, rfl, _⟩ := OwI.form ou
        clear ou HPQ
        go_wp2_with fail
        refine (drawPar_any _ x0 _ V.out hl').mono ?_
        rintro e wg ⟨n2, t2, rfl, ht2, b⟩
        replace V := Lib.hid (V.out.below b)
        replace E := Lib.hid (E.out.below b)
        replace P := Lib.hid (P.out.below b)
        replace BZ := Lib.hid (BZ.out.trans (b.mono BZ.out.size))
        clear b
        go_wp2_with fail
        refine (implParseEquation_any n2 t2 _ ht2).mono ?_
        rintro e wh ⟨u, rfl, ou, b⟩
        replace V := Lib.hid (V.out.below b)
        replace E := Lib.hid (E.out.below b)
        replace P := Lib.hid (P.out.below b)
        replace BZ := Lib.hid (BZ.out.trans (b.mono BZ.out.size))
        clear b
        obtain ⟨Ap2, cp2, rfl, _⟩ := OwI.form ou
        clear ou
        go_wp2_with fail
        refine (specParseEquation_any n2 t2 _ ht2).mono ?_
        rintro e wi ⟨u, rfl, ou, b⟩
        replace V := Lib.hid (V.out.below b)
        replace E := Lib.hid (E.out.below b)
        replace P := Lib.hid (P.out.below b)
        replace BZ := Lib.hid (BZ.out.trans (b.mono BZ.out.size))
        clear b
        obtain ⟨Ap3, cp3, rfl, _⟩ := OwI.form ou
        clear ou
        generalize (parF n2 t2).2 = b34 at *
        go_wp2_with fail
        refine (drawSubst_any _ x0 _ V.out hl').mono ?_
        rintro e wj ⟨uv, vv, us, vs, rfl, hul, hvl, ou, ov, b⟩
        replace V := Lib.hid (V.out.below b)
        replace E := Lib.hid (E.out.below b)
        replace P := Lib.hid (P.out.below b)
        replace BZ := Lib.hid (BZ.out.trans (b.mono BZ.out.size))
        clear b
        have U1 := Lib.hid ou.rd
        have U2 := Lib.hid ov.rd
        obtain ⟨Au1, cu1, rfl, _⟩ := OwI.form ou
        obtain ⟨Au2, cu2, rfl, _⟩ := OwI.form ov
        clear ou ov
        go_wp2_with fail
        refine (drawIs_any _ x0 _ V.out hl').mono ?_
        rintro e wk ⟨r5, ev, xv, es5, xs5, rfl, hel5, hxl5, oe, ox, b⟩
        replace V := Lib.hid (V.out.below b)
        replace E := Lib.hid (E.out.below b)
        replace P := Lib.hid (P.out.below b)
        replace U1 := Lib.hid (U1.out.below b)
        replace U2 := Lib.hid (U2.out.below b)
        replace BZ := Lib.hid (BZ.out.trans (b.mono BZ.out.size))
        clear b
        have D1 := Lib.hid oe
        have D2 := Lib.hid ox
        obtain ⟨Ad1, cd1, rfl, _⟩ := oe.arg
        obtain ⟨Ad2, cd2, rfl, _⟩ := ox.arg
        clear oe ox
        go_wp2_with fail
        refine (HSP.out _ E.out).mono ?_
        rintro e wl ⟨rfl, b⟩
        replace V := Lib.hid (V.out.below b)
        replace E := Lib.hid (E.out.below b)
        replace P := Lib.hid (P.out.below b)
        replace U1 := Lib.hid (U1.out.below b)
        replace U2 := Lib.hid (U2.out.below b)
        replace D1 := Lib.hid (D1.out.below b)
        replace D2 := Lib.hid (D2.out.below b)
        replace BZ := Lib.hid (BZ.out.trans (b.mono BZ.out.size))
        clear b
        cases eb
        · skip
          go_wp2_with fail
          refine (HEQ.out _ E.out.arg).mono ?_
          rintro e wm ⟨rfl, rfl⟩
          go_wp2_with fail
          refine (implSubstituteIn_any _ _ us vs _ U1.out U2.out (by omega) (by omega)).mono ?_
          rintro e wo ⟨u, rfl, ou, b⟩
          replace V := Lib.hid (V.out.below b)
          replace E := Lib.hid (E.out.below b)
          replace P := Lib.hid (P.out.below b)
          replace U1 := Lib.hid (U1.out.below b)
          replace U2 := Lib.hid (U2.out.below b)
          replace D1 := Lib.hid (D1.out.below b)
          replace D2 := Lib.hid (D2.out.below b)
          replace BZ := Lib.hid (BZ.out.trans (b.mono BZ.out.size))
          clear b
          have Q1 := Lib.hid ou.rd
          obtain ⟨Aq1, cq1, rfl, _⟩ := OwI.form ou
          clear ou
          go_wp2_with fail
          refine (specSubstituteIn_any _ _ us vs _ U1.out U2.out (by omega) (by omega)).mono ?_
          rintro e wp ⟨u, rfl, ou, b⟩
          replace V := Lib.hid (V.out.below b)
          replace E := Lib.hid (E.out.below b)
          replace P := Lib.hid (P.out.below b)
          replace U1 := Lib.hid (U1.out.below b)
          replace U2 := Lib.hid (U2.out.below b)
          replace D1 := Lib.hid (D1.out.below b)
          replace D2 := Lib.hid (D2.out.below b)
          replace Q1 := Lib.hid (Q1.out.below b)
          replace BZ := Lib.hid (BZ.out.trans (b.mono BZ.out.size))
          clear b
          have Q2 := Lib.hid ou.rd
          obtain ⟨Aq2, cq2, rfl, _⟩ := OwI.form ou
          clear ou
          generalize substF us vs = qs at *
          go_wp2_with fail
          refine (sameI _ _ qs qs _ Q1.out Q2.out).mono ?_
          rintro e wq ⟨rfl, b⟩
          replace V := Lib.hid (V.out.below b)
          replace E := Lib.hid (E.out.below b)
          replace P := Lib.hid (P.out.below b)
          replace U1 := Lib.hid (U1.out.below b)
          replace U2 := Lib.hid (U2.out.below b)
          replace D1 := Lib.hid (D1.out.below b)
          replace D2 := Lib.hid (D2.out.below b)
          replace Q1 := Lib.hid (Q1.out.below b)
          replace Q2 := Lib.hid (Q2.out.below b)
          replace BZ := Lib.hid (BZ.out.trans (b.mono BZ.out.size))
          clear b
          simp only [decide_true]
          go_wp2_with fail
          refine (implIsSolution_any r5 _ _ es5 xs5 _ D1.out D2.out (by omega) (by omega)).mono ?_
          rintro e wr ⟨rfl, b⟩
          replace V := Lib.hid (V.out.below b)
          replace E := Lib.hid (E.out.below b)
          replace P := Lib.hid (P.out.below b)
          replace U1 := Lib.hid (U1.out.below b)
          replace U2 := Lib.hid (U2.out.below b)
          replace D1 := Lib.hid (D1.out.below b)
          replace D2 := Lib.hid (D2.out.below b)
          replace Q1 := Lib.hid (Q1.out.below b)
          replace Q2 := Lib.hid (Q2.out.below b)
          replace BZ := Lib.hid (BZ.out.trans (b.mono BZ.out.size))
          clear b
          go_wp2_with fail
          refine (specIsSolution_any r5 _ _ es5 xs5 _ D1.out D2.out (by omega) (by omega)).mono ?_
          rintro e ws ⟨rfl, b⟩
          replace V := Lib.hid (V.out.below b)
          replace E := Lib.hid (E.out.below b)
          replace P := Lib.hid (P.out.below b)
          replace U1 := Lib.hid (U1.out.below b)
          replace U2 := Lib.hid (U2.out.below b)
          replace D1 := Lib.hid (D1.out.below b)
          replace D2 := Lib.hid (D2.out.below b)
          replace Q1 := Lib.hid (Q1.out.below b)
          replace Q2 := Lib.hid (Q2.out.below b)
          replace BZ := Lib.hid (BZ.out.trans (b.mono BZ.out.size))
          clear b
          go_wp2
          go_ret
          exact ⟨by simp, BZ.out⟩
        · skip
          go_wp2_with fail
          refine (HEQ.out _ E.out.arg).mono ?_
          rintro e wm ⟨rfl, rfl⟩
          go_wp2_with fail
          refine (sameI _ _ zs es _ P.out E.out).mono ?_
          rintro e wn ⟨rfl, b⟩
          replace V := Lib.hid (V.out.below b)
          replace E := Lib.hid (E.out.below b)
          replace P := Lib.hid (P.out.below b)
          replace U1 := Lib.hid (U1.out.below b)
          replace U2 := Lib.hid (U2.out.below b)
          replace D1 := Lib.hid (D1.out.below b)
          replace D2 := Lib.hid (D2.out.below b)
          replace BZ := Lib.hid (BZ.out.trans (b.mono BZ.out.size))
          clear b
          rw [decide_eq_true (HZS.out (by first | rfl | trivial))]
          go_wp2_with fail
          refine (implSubstituteIn_any _ _ us vs _ U1.out U2.out (by omega) (by omega)).mono ?_
          rintro e wo ⟨u, rfl, ou, b⟩
          replace V := Lib.hid (V.out.below b)
          replace E := Lib.hid (E.out.below b)
          replace P := Lib.hid (P.out.below b)
          replace U1 := Lib.hid (U1.out.below b)
          replace U2 := Lib.hid (U2.out.below b)
          replace D1 := Lib.hid (D1.out.below b)
          replace D2 := Lib.hid (D2.out.below b)
          replace BZ := Lib.hid (BZ.out.trans (b.mono BZ.out.size))
          clear b
          have Q1 := Lib.hid ou.rd
          obtain ⟨Aq1, cq1, rfl, _⟩ := OwI.form ou
          clear ou
          go_wp2_with fail
          refine (specSubstituteIn_any _ _ us vs _ U1.out U2.out (by omega) (by omega)).mono ?_
          rintro e wp ⟨u, rfl, ou, b⟩
          replace V := Lib.hid (V.out.below b)
          replace E := Lib.hid (E.out.below b)
          replace P := Lib.hid (P.out.below b)
          replace U1 := Lib.hid (U1.out.below b)
          replace U2 := Lib.hid (U2.out.below b)
          replace D1 := Lib.hid (D1.out.below b)
          replace D2 := Lib.hid (D2.out.below b)
          replace Q1 := Lib.hid (Q1.out.below b)
          replace BZ := Lib.hid (BZ.out.trans (b.mono BZ.out.size))
          clear b
          have Q2 := Lib.hid ou.rd
          obtain ⟨Aq2, cq2, rfl, _⟩ := OwI.form ou
          clear ou
          generalize substF us vs = qs at *
          go_wp2_with fail
          refine (sameI _ _ qs qs _ Q1.out Q2.out).mono ?_
          rintro e wq ⟨rfl, b⟩
          replace V := Lib.hid (V.out.below b)
          replace E := Lib.hid (E.out.below b)
          replace P := Lib.hid (P.out.below b)
          replace U1 := Lib.hid (U1.out.below b)
          replace U2 := Lib.hid (U2.out.below b)
          replace D1 := Lib.hid (D1.out.below b)
          replace D2 := Lib.hid (D2.out.below b)
          replace Q1 := Lib.hid (Q1.out.below b)
          replace Q2 := Lib.hid (Q2.out.below b)
          replace BZ := Lib.hid (BZ.out.trans (b.mono BZ.out.size))
          clear b
          simp only [decide_true]
          go_wp2_with fail
          refine (implIsSolution_any r5 _ _ es5 xs5 _ D1.out D2.out (by omega) (by omega)).mono ?_
          rintro e wr ⟨rfl, b⟩
          replace V := Lib.hid (V.out.below b)
          replace E := Lib.hid (E.out.below b)
          replace P := Lib.hid (P.out.below b)
          replace U1 := Lib.hid (U1.out.below b)
          replace U2 := Lib.hid (U2.out.below b)
          replace D1 := Lib.hid (D1.out.below b)
          replace D2 := Lib.hid (D2.out.below b)
          replace Q1 := Lib.hid (Q1.out.below b)
          replace Q2 := Lib.hid (Q2.out.below b)
          replace BZ := Lib.hid (BZ.out.trans (b.mono BZ.out.size))
          clear b
          go_wp2_with fail
          refine (specIsSolution_any r5 _ _ es5 xs5 _ D1.out D2.out (by omega) (by omega)).mono ?_
          rintro e ws ⟨rfl, b⟩
          replace V := Lib.hid (V.out.below b)
          replace E := Lib.hid (E.out.below b)
          replace P := Lib.hid (P.out.below b)
          replace U1 := Lib.hid (U1.out.below b)
          replace U2 := Lib.hid (U2.out.below b)
          replace D1 := Lib.hid (D1.out.below b)
          replace D2 := Lib.hid (D2.out.below b)
          replace Q1 := Lib.hid (Q1.out.below b)
          replace Q2 := Lib.hid (Q2.out.below b)
          replace BZ := Lib.hid (BZ.out.trans (b.mono BZ.out.size))
          clear b
          go_wp2
          go_ret
          exact ⟨by simp, BZ.out⟩

set_option maxRecDepth 100000 in
theorem lifted (os : Os) (started : os.Started) (H : Type) (enc : TypeId × Value → H) :
    ReturnsInHanded {} Try.checked os 3 .any (Rows.fnEquationsSpec.pre6 enc Try.prog Try.f3 Rows.fnEquationsRow.domain false) (Rows.fnEquationsSpec.post enc Try.prog Try.f3 false true false false) := by
  refine returnsInHanded_of_change (C := Try.checked) own started (by kernel_rfl) Try.func3
    (ChangeSpec.witness6 (enc := enc) (C := Try.checked) false ⟨#[], #[.slice none 0 0], []⟩ 8 (by kernel_rfl) (by kernel_rfl) (by kernel_rfl) (by kernel_rfl)) ?_
  intro W base args ds gs before hval0 hW hcnd _
  have hval : ∀ (j : Nat) t v, Try.f3.params[j]? = some t → args[j]? = some v → Value.okWide Try.prog W .any base t v := hval0
  have hW' := hW
  obtain ⟨p, q, hA0, hV, rfl, hfz, hnd⟩ := hW
  have hA : DataW.TrodAll enc Try.prog W 0 (fun _ => true) true Try.f3.params.toList args.toList ds p := hA0
  rw [Try.params3] at hA hval
  obtain ⟨v0, vs0, d0, ds0, p0, q0, hargs, rfl, rfl, h0, r0⟩ := trodAll_cons hA
  obtain ⟨rfl, rfl, rfl⟩ := trodAll_nil r0
  obtain rfl : args = #[v0] := by cases args; simp_all
  obtain ⟨rfl, rfl⟩ := trodVars_none hV
  have k0 := h0
  have lt0 : ∀ x ∈ p0, x.block < W.heap.size := by obtain ⟨m, hm⟩ := k0; exact DataW.trod_lt m _ _ _ hm
  obtain ⟨x0, a0⟩ := open_argB (hval 0 22 v0 rfl rfl) h0
  clear hA0 hval0
  refine (walk v0 x0 W a0).mono fun e W' ⟨he, bel⟩ => ?_
  subst he
  exact ⟨_, rfl, _, _, _, [], _, [], hW', trodAll_mk1 (shut_bool Try.underlying4 _), (trodAll_cons_mk (Below.trod laidOut (by kernel_rfl) (of_decide_eq_true (by kernel_rfl)) k0 bel lt0) trodAll_mk0), rfl, bel.frame _, fun h => by cases h⟩

/-- The given statement. -/
theorem proved : Rows.FnEquationsSaid :=
  OpenClaim.holds_of_wide 3 Try.f3 rfl rfl rfl rfl rfl rfl rfl ⟨rfl, rfl, rfl, rfl, rfl⟩ rfl rfl rfl rfl rfl (by as_aux_lemma => kernel_rfl) Try.func3 closed
    (of_decide_eq_true (by as_aux_lemma => kernel_rfl)) (by unfold Func.isWrapper; first | (rw [if_pos (by decide +kernel)]; kernel_rfl) | (rw [if_neg (by decide +kernel)]; exact ⟨rfl, rfl⟩))
    (fun os started H enc _ => lifted os started H enc)
#print axioms proved
end Go.Proofs.Ytgoghkboklehnaa.fnEquations
