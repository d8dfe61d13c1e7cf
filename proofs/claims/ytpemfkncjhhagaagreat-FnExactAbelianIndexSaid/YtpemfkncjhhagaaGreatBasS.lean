/- BasisOf of the reference. The loop of an edge beside the tree, by the reference. The words of the tree by the reference: PathWord from vertex 0, TreeWord. The reference's search from vertex 0: what is seen, and the words. The edges beside the tree, found by the reference. The reference's tree: the edges through which its search finds the vertices. -/
import Derived.Test.YtpemfkncjhhagaaGreatInsI
import Derived.Deep.RegionHeld3
import Derived.Test.YtpemfkncjhhagaaGreatProd
namespace Go.Proofs.YtpemfkncjhhagaaGreat
set_option maxRecDepth 20000
set_option linter.unusedVariables false
set_option linter.unusedSimpArgs false
open Go.RowKit

set_option maxHeartbeats 2000000 in
theorem l10Tree_any (v : Value) (g : GrD) (w : World) (h : ArgG w v g) (hf : foldB g = true) :
    Calls Tryz.prog 112 #[v] w fun e w' => ∃ r T, e = .returned r ∧ OwE w' w.heap.size r T ∧ TrE g (canO g) T ∧ T.length ≤ 40 ∧ Below w.heap.size w w' := by
  have HG := Lib.hid h
  obtain ⟨hg, hfol⟩ := foldB_parts hf
  have HF := Lib.hid hf
  have ONE := Lib.hid (steps_one hfol)
  obtain ⟨hr13, hsz40, hl120, _⟩ := grB_parts hg
  obtain ⟨A, cap, hv⟩ : ∃ A cap, v = .agg #[.int .i64 g.1, .int .i64 g.2.1, .slice A g.2.2.length cap] := by
    obtain ⟨s, hv, _, _, ha⟩ := h
    obtain ⟨A, cap, rfl⟩ := ha.form
    exact ⟨A, cap, hv⟩
  subst hv
  obtain ⟨rn, hrn⟩ : ∃ rn : Nat, g.1 = (rn : Int) := ⟨g.1.toNat, by omega⟩
  have hrn1 : 1 ≤ rn := by omega
  have hrn3 : rn ≤ 3 := by omega
  have hrt : g.1.toNat = rn := by omega
  have HCO : Hid (canO g = canF g.2.2 (lettersL rn) 41 0 [0]) := Lib.hid (by unfold canO; rw [hrn]; rfl)
  have OK0 := Lib.hid (OrdOk.one (n := g.2.1) (by omega))
  have OKS : Hid (∀ (u : Int) (o : List Int) (k : Nat), OrdOk g.2.1 o → OrdOk g.2.1 (((lettersL rn).take k).foldl (cstep g.2.2 u) o)) := Lib.hid fun u o k h => cfold_take_ok hg _ k h
  have OKL : Hid (∀ o : List Int, OrdOk g.2.1 o → o.length ≤ 40) := Lib.hid fun o h => h.len (by omega) (by omega)
  have NV : Hid (∀ u x, nextV g.2.2 u x = -1 ∨ (0 ≤ nextV g.2.2 u x ∧ nextV g.2.2 u x < 41)) := Lib.hid fun u x => by
    rcases nextV_range hg u x with e | e
    · exact .inl e
    · exact .inr ⟨e.1, by omega⟩
  have HUR : Hid (∀ (o : List Int) (k : Nat) (u : Int), OrdOk g.2.1 o → o[k]? = some u → 0 ≤ u ∧ u < 41) := Lib.hid fun o k u h hk => by
    have := h.2.1 u (List.mem_of_getElem? hk)
    omega
  have HXR : Hid (∀ (m : Nat) (hm : m < (lettersL rn).length), -3 ≤ (lettersL rn)[m] ∧ (lettersL rn)[m] ≤ 3) := Lib.hid fun m hm => let3 hg (by rw [hrt]; exact List.getElem_mem hm)
  have HTW0 : Hid (TwS g (lettersL rn) 0 [0]) := Lib.hid (by rw [← hrt]; exact TwS.zero g)
  have HTWS : Hid (∀ (k : Nat) (o : List Int) (u : Int), TwS g (lettersL rn) k o → o[k]? = some u → k < 41 → TwS g (lettersL rn) (k + 1) ((lettersL rn).foldl (cstep g.2.2 u) o)) := Lib.hid fun k o u h1 h2 h3 => h1.step h2 h3
  have HTR0 : Hid (TrE g [0] []) := Lib.hid fun e => ⟨fun h => (by cases h), fun ⟨y, hy, h0, _⟩ => absurd (List.mem_singleton.1 hy) h0⟩
  have HNEW : Hid (∀ (k : Nat) (o : List Int) (u : Int) (m : Nat) (hm : m < (lettersL rn).length) (T : List EdD), TwS g (lettersL rn) k o → o[k]? = some u → k < 41 → OrdOk g.2.1 (((lettersL rn).take m).foldl (cstep g.2.2 u) o) → TrE g (((lettersL rn).take m).foldl (cstep g.2.2 u) o) T → 0 ≤ nextV g.2.2 u (lettersL rn)[m] → hasB (((lettersL rn).take m).foldl (cstep g.2.2 u) o) (nextV g.2.2 u (lettersL rn)[m]) = false →
      TrE g (((lettersL rn).take m).foldl (cstep g.2.2 u) o ++ [nextV g.2.2 u (lettersL rn)[m]]) (insF cmpE T (if 0 < (lettersL rn)[m] then (u, (lettersL rn)[m], nextV g.2.2 u (lettersL rn)[m]) else (nextV g.2.2 u (lettersL rn)[m], -(lettersL rn)[m], u)))) := Lib.hid fun k o u m hm T h1 h2 h3 h4 h5 h6 h7 => by
    refine h5.add ?_ fun e => ?_
    · intro e0
      rw [e0] at h7
      exact hasB_not h7 (List.mem_of_getElem? h4.2.2)
    · rw [insF_eq, insR_mem _ _ cmpE_ord, tE_new hg hfol (by rw [hrt]; exact List.getElem_mem hm) h6 rfl (h1.new hg h2 h3 hm h6 h7)]
  have HRN := Lib.hid hrn
  clear hg hf hfol h hrn hrt
  have hr1 : 1 ≤ g.1 ∧ g.1 ≤ 3 := hr13
  clear hsz40 hl120 hr13
  go_enter Tryz.func112, Tryz.ntmps112
  go_wp2_with fail
  obtain ⟨W1, hW1⟩ : ∃ W, W = w.alloc (Obj.cells #[Value.int IntKind.i64 g.1, Value.int IntKind.i64 g.2.1, .slice A g.2.2.length cap] 45) := ⟨_, rfl⟩
  obtain ⟨hs1, b1, hc1⟩ := gboxE hW1
  obtain ⟨W, hW⟩ : ∃ W, W = W1.alloc (Obj.cells #[] 78) := ⟨_, rfl⟩
  have b2 : Below W1.heap.size W1 W := by rw [hW]; exact (Below.refl _ _).alloc (Nat.le_refl _) _
  have hsW : W.heap.size = w.heap.size + 2 := by rw [hW]; simp; omega
  have o0 : OwE W (w.heap.size + 1) (.slice (some ⟨w.heap.size + 1, 0, none⟩) 0 0) [] := by rw [hW]; exact OwE_litN W1 (w.heap.size + 1) hs1 (Nat.le_refl _)
  rw [← hW1, ← hW]
  have BX : Hid (Below w.heap.size w W) := Lib.hid (b1.trans (b2.mono (by omega)))
  have B12 := Lib.hid (b2.mono (show w.heap.size + 1 ≤ W1.heap.size by omega))
  have HC1 := Lib.hid hc1
  have HCL : Hid (∀ w', Below (w.heap.size + 1) W w' → w'.cell? ⟨w.heap.size, 0, none⟩ = some (.int .i64 g.1) ∧ w'.cell? ⟨w.heap.size, 1, none⟩ = some (.int .i64 g.2.1) ∧ w'.cell? ⟨w.heap.size, 2, none⟩ = some (.slice A g.2.2.length cap)) := Lib.hid fun w' hb => HC1.out w' (B12.out.trans hb)
  have HA : Hid (∀ w', Below (w.heap.size + 1) W w' → ArgG w' (.agg #[.int .i64 g.1, .int .i64 g.2.1, .slice A g.2.2.length cap]) g) := Lib.hid fun w' hb => HG.out.below (BX.out.trans (hb.mono (by omega)))
  have HBW : Hid (∀ w', Below (w.heap.size + 1) W w' → Below w.heap.size w w') := Lib.hid fun w' hb => BX.out.trans (hb.mono (by omega))
  have O0 := Lib.hid o0
  clear hW1 hW hc1 b1 b2 HC1 o0
  have hfo := specIsFolded_any _ g W (HA.out W ((Below.refl W.heap.size W).mono (by omega)))
  rw [HF.out] at hfo
  refine hfo.mono ?_
  clear hfo
  rintro e w2 ⟨rfl, b2⟩
  have hs2 := b2.size
  have B2 : Hid (Below (w.heap.size + 1) W w2) := Lib.hid (b2.mono (by omega))
  have OE2 := Lib.hid (O0.out.below b2)
  clear b2
  obtain ⟨q0, q1, q2⟩ := HCL.out w2 B2.out
  have hq0 : w.heap.size < w2.heap.size := by omega
  go_wp2_with fail
  obtain ⟨w3, hw3⟩ : ∃ w3, w3 = w2.alloc (Obj.cells #[Value.int IntKind.i64 0] 3) := ⟨_, rfl⟩
  have b23 : Below w2.heap.size w2 w3 := by rw [hw3]; exact (Below.refl _ _).alloc (Nat.le_refl _) _
  have o3 : OwI w3 w2.heap.size (.slice (some ⟨w2.heap.size, 0, none⟩) 1 1) [0] := by rw [hw3]; exact OwI_lit w2 [0] (fun x hx => by simp at hx; subst hx; exact ⟨by decide, by decide⟩) (by simp) (Nat.le_refl _)
  have hs3 : w3.heap.size = w2.heap.size + 1 := by rw [hw3]; simp
  have HW3 := Lib.hid hw3
  clear hw3
  try rw [← HW3.out]
  have hle := l5Letters_any rn w3 (by omega)
  rw [← HRN.out] at hle
  have HLE := Lib.hid hle
  clear hle
  refine HLE.out.mono ?_
  rintro e w4 ⟨rl, rfl, ol, b4⟩
  have hs4 := b4.size
  have b24 := b23.trans (b4.mono (by omega))
  have B4 : Hid (Below (w.heap.size + 1) W w4) := Lib.hid (B2.out.trans (b24.mono (by omega)))
  have O4 := Lib.hid ((o3.below b4).mono (base' := w.heap.size + 1) (by omega))
  have OE4 := Lib.hid (OE2.out.below b24)
  have hll := lettersL_len rn
  generalize lettersL rn = ls at *
  obtain ⟨Al, capl, rfl, hcl, hml, _, hfl⟩ := ol.form
  obtain ⟨bl, rfl, hbl1, hbl2⟩ := hfl (by omega)
  unfold maxLen at hml
  have OL := Lib.hid ol.rd
  have hblw : bl ≠ w2.heap.size := by omega
  clear ol b4 b23 b24 o3 q0 q1 q2 hfl HLE hq0
  have hs24 : w2.heap.size < w4.heap.size := by omega
  clear hs3
  go_wp2
  go_loopw [3, 4, 6] (fun vt out i wo => ∃ (k : Nat) (o : List Int) (T : List EdD), k ≤ o.length ∧ i = .int .i64 k ∧ OrdOk g.2.1 o ∧ canO g = canF g.2.2 ls (41 - k) k o ∧ TwS g ls k o ∧ TrE g o T ∧ T.length ≤ o.length ∧ OwE wo (w.heap.size + 1) vt T ∧ (∀ b, vt.ownBlock = some b → out.ownBlock ≠ some b) ∧ OwI wo (w.heap.size + 1) out o ∧ RdI wo (.slice (some ⟨bl, 0, none⟩) ls.length capl) ls ∧ out.ownBlock ≠ some bl ∧ bl < wo.heap.size ∧ Below (w.heap.size + 1) W wo) (fun _ _ i _ => 41 - (intOf i).toNat)
  case atStart => exact ⟨0, [0], [], by simp, rfl, OK0.out, HCO.out, HTW0.out, HTR0.out, by simp, OE4.out, fun b hb => by simp [Value.ownBlock] at hb ⊢; omega, O4.out, OL.out, by simp [Value.ownBlock]; omega, hbl2, B4.out⟩
  case round =>
    obtain ⟨k, o, T, hk, rfl, hok, hco, htw, htr, htl, hte, htb, hown, hrd, hne, hblt, hbel⟩ := hrel
    obtain ⟨wo, rfl⟩ : ∃ wo : World, wo = wr := ⟨_, rfl⟩
    have hol := OKL.out o hok
    have HOK := Lib.hid hok
    have HC := Lib.hid hco
    have HTW := Lib.hid htw
    have HTR := Lib.hid htr
    have HTE := Lib.hid hte
    have HTB := Lib.hid htb
    have HO := Lib.hid hown
    have HRD := Lib.hid hrd
    have HNE := Lib.hid hne
    have HB := Lib.hid hbel
    have hsz := hbel.size
    obtain ⟨A1, cap1, rfl, _⟩ := hown.form
    obtain ⟨At, capt, rfl, _⟩ := hte.form
    clear hok hco htw htr hte htb hown hrd hne hbel
    by_cases hlt : k < o.length
    · obtain ⟨u, hu⟩ : ∃ u, o[k]? = some u := ⟨o[k], by simp⟩
      have hku : o[k] = u := by rw [List.getElem?_eq_getElem hlt] at hu; injection hu
      have hur := HUR.out o k u HOK.out hu
      have HCF : Hid (canO g = canF g.2.2 ls (41 - (k + 1)) (k + 1) (ls.foldl (cstep g.2.2 u) o)) := Lib.hid (by
        rw [HC.out, show 41 - k = (41 - (k + 1)) + 1 by omega, canF_step _ _ _ _ _ hlt, hku])
      have HPU : Hid (∀ m : Nat, (((ls.take m).foldl (cstep g.2.2 u) o))[k]? = some u) := Lib.hid fun m => cfold_prefix _ _ _ _ _ _ hu
      have HSU : Hid (∀ (m : Nat) (hm : m < ls.length), (ls.take (m + 1)).foldl (cstep g.2.2 u) o = cstep g.2.2 u ((ls.take m).foldl (cstep g.2.2 u) o) ls[m]) := Lib.hid fun m hm => cfold_succ _ _ _ _ _ hm
      have HOKm : Hid (∀ m : Nat, OrdOk g.2.1 ((ls.take m).foldl (cstep g.2.2 u) o)) := Lib.hid fun m => OKS.out u o m HOK.out
      have HNM : Hid (∀ (m : Nat) (hm : m < ls.length) (T : List EdD), TrE g ((ls.take m).foldl (cstep g.2.2 u) o) T → 0 ≤ nextV g.2.2 u ls[m] → hasB ((ls.take m).foldl (cstep g.2.2 u) o) (nextV g.2.2 u ls[m]) = false → TrE g ((ls.take m).foldl (cstep g.2.2 u) o ++ [nextV g.2.2 u ls[m]]) (insF cmpE T (if 0 < ls[m] then (u, ls[m], nextV g.2.2 u ls[m]) else (nextV g.2.2 u ls[m], -ls[m], u)))) := Lib.hid fun m hm T h5 h6 h7 => HNEW.out k o u m hm T HTW.out hu (by omega) (HOKm.out m) h5 h6 h7
      have HTWN := Lib.hid (HTWS.out k o u HTW.out hu (by omega))
      clear hu hku
      go_wp2
      go_loopw [3, 4, 7] (fun vt out j wr => ∃ (m : Nat) (T : List EdD), m ≤ ls.length ∧ j = .int .i64 m ∧ TrE g ((ls.take m).foldl (cstep g.2.2 u) o) T ∧ T.length ≤ ((ls.take m).foldl (cstep g.2.2 u) o).length ∧ OwE wr (w.heap.size + 1) vt T ∧ (∀ b, vt.ownBlock = some b → out.ownBlock ≠ some b) ∧ OwI wr (w.heap.size + 1) out ((ls.take m).foldl (cstep g.2.2 u) o) ∧ RdI wr (.slice (some ⟨bl, 0, none⟩) ls.length capl) ls ∧ out.ownBlock ≠ some bl ∧ bl < wr.heap.size ∧ Below (w.heap.size + 1) W wr) (fun _ _ j _ => ls.length - (intOf j).toNat)
      case atStart => exact ⟨0, T, Nat.zero_le _, rfl, HTR.out, htl, HTE.out, HTB.out, HO.out, HRD.out, HNE.out, hblt, HB.out⟩
      case round =>
        obtain ⟨m, T1, hm1, rfl, htr, htl1, hte, htb, hown, hrd, hne, hblr, hbi⟩ := hrel
        obtain ⟨wj, rfl⟩ : ∃ wj : World, wj = wr := ⟨_, rfl⟩
        have hsi := hbi.size
        have HBI := Lib.hid hbi
        have HTR1 := Lib.hid htr
        have HTE1 := Lib.hid hte
        have HTB1 := Lib.hid htb
        have HRR := Lib.hid hrd
        have HNR := Lib.hid hne
        obtain ⟨A3, cap3, rfl, _⟩ := hte.form
        clear hbi htr hte htb
        by_cases hlt2 : m < ls.length
        · have hokm := HOKm.out m
          have hlm := OKL.out _ hokm
          have hpu := HPU.out m
          have HS := Lib.hid (HSU.out m hlt2)
          have HNT := Lib.hid (HNM.out m hlt2 T1 HTR1.out)
          have hxr := HXR.out m hlt2
          obtain ⟨_, _, hAl, _, hcl⟩ := hrd.at (by omega)
          obtain ⟨rfl, rfl⟩ : bl = _ ∧ 0 = _ := by simpa using hAl
          have c0 := hcl m hlt2
          rw [Nat.zero_add] at c0
          have HXL : Hid (∀ w', RdI w' (.slice (some ⟨bl, 0, none⟩) ls.length capl) ls → w'.cell? ⟨bl, m, none⟩ = some (.int .i64 ls[m])) := Lib.hid fun w' h => by
            obtain ⟨_, _, hAl, _, hcl⟩ := h.at (by omega)
            obtain ⟨rfl, rfl⟩ : bl = _ ∧ 0 = _ := by simpa using hAl
            have := hcl m hlt2
            rwa [Nat.zero_add] at this
          generalize ls[m] = x at *
          generalize (ls.take m).foldl (cstep g.2.2 u) o = om at *
          have hkm : k < om.length := (List.getElem?_eq_some_iff.1 hpu).1
          have hkg : om[k] = u := by rw [List.getElem?_eq_getElem hkm] at hpu; injection hpu
          have HOM := Lib.hid hown
          obtain ⟨A2, cap2, rfl, _, _, _, hf2⟩ := hown.form
          obtain ⟨b2, rfl, hb21, hb22⟩ := hf2 (by omega)
          have d0 := hown.cellAt k hkm
          rw [hkg] at d0
          have NX := Lib.hid (NV.out u x)
          have N0 := Lib.hid (cstep_no (es := g.2.2) (u := u) (x := x) (o := om))
          have N1 := Lib.hid (cstep_in (es := g.2.2) (u := u) (x := x) (o := om))
          have N2 := Lib.hid (cstep_new (es := g.2.2) (u := u) (x := x) (o := om))
          have HNX := Lib.hid (fun W (h : ArgG W (.agg #[.int .i64 g.1, .int .i64 g.2.1, .slice A g.2.2.length cap]) g) => specNextVertex_any _ g u x W h (ONE.out u x))
          obtain ⟨p0, p1, p2⟩ := HCL.out wj HBI.out
          have hws : w.heap.size < wj.heap.size := by omega
          have HPO : Hid (om ++ [nextV g.2.2 u x] ≠ [] ∧ (om ++ [nextV g.2.2 u x])[k]? = some u ∧ (om ++ [nextV g.2.2 u x]).length = om.length + 1) := Lib.hid ⟨by simp, by rw [List.getElem?_append_left hkm]; exact hpu, by simp⟩
          clear hcl hAl hown hrd hf2 hpu hkg hokm
          go_wp2_with fail
          have f0 := BelW.cell p0 hws
          have f1 := BelW.cell p1 hws
          have f2 := BelW.cell p2 hws
          have f3 := BelW.cell c0 hblr
          have f4 := BelW.cell d0 hb22
          (refine wp_region_quiet_bel (by kernel_rfl) (by kernel_rfl) ?_; (repeat (go_big_quiet_step (first | (go_at_call 62; exact Calls.bel_of (HNX.out _ (HA.out _ (HBI.out.trans ((BelW.h _).mono (by omega))))))))); refine wpQuiet_nil ?_; intro wq hw'; obtain ⟨pq, hw''⟩ := hw'; have bq := pq.h; rw [← hw''] at bq; clear hw'' pq)
          clear f0 f1 f2 f3 f4 p0 p1 p2 c0 d0
          have sq := bq.size
          have HQ := Lib.hid (HBI.out.trans (bq.mono (by omega)))
          have HOQ := Lib.hid (HOM.out.below bq)
          have HRQ := Lib.hid (HRR.out.below bq)
          have HTQ := Lib.hid (HTE1.out.below bq)
          clear bq
          generalize nextV g.2.2 u x = y at *
          rcases NX.out with hy | hy
          · subst hy
            have F := Lib.hid (N0.out (by omega))
            go_wp2
            go_roundw
            case rel => exact ⟨m + 1, T1, by omega, by go_num, by rw [HS.out, F.out]; exact HTR1.out, by rw [HS.out, F.out]; exact htl1, HTQ.out, HTB1.out, by rw [HS.out, F.out]; exact HOQ.out, HRQ.out, HNR.out, by omega, HQ.out⟩
            case measure => simp [intOf]; omega
          · have hy0 : (0 : Int) ≤ y := hy.1
            have hy41 : y < 41 := hy.2
            go_wp2_with fail
            refine (l4Has_any _ om y _ HOQ.out.rd.arg (by omega)).mono ?_
            rintro e' w' ⟨rfl, rfl⟩
            rcases h1 : hasB om y with _ | _
            · have F := Lib.hid (N2.out hy0 h1)
              have HT2 := Lib.hid (HNT.out hy0 h1)
              have HY : Hid (I64 y) := Lib.hid ⟨by omega, by omega⟩
              have htl2 := fun e => insF_len (c := cmpE) T1 e
              have HTL2 := Lib.hid htl2
              clear htl2
              obtain ⟨OY, hOY⟩ : ∃ OY, OY = om ++ [y] := ⟨_, rfl⟩
              rw [← hOY] at HPO F HT2
              have HEQ := Lib.hid hOY.symm
              have hoyl := HPO.out.2.2
              have hoyl1 : om.length + 1 ≤ OY.length := by omega
              have hoyl2 : OY.length ≤ om.length + 1 := by omega
              have hkI : (k : Int) < (OY.length : Int) := by omega
              clear hoyl
              have HKO : Hid (∀ (h : k < OY.length), OY[k] = u) := Lib.hid fun h => by
                have := HPO.out.2.1
                rw [List.getElem?_eq_getElem h] at this
                injection this
              have HCE : Hid (∀ (w' : World) (base : Nat) (b : Nat) (c : Nat) (n : Nat) (h : OwI w' base (.slice (some ⟨b, 0, none⟩) n c) OY), w'.cell? ⟨b, k, none⟩ = some (.int .i64 u)) := Lib.hid fun w' base b c n h => by
                obtain ⟨A0, c0, e0, _⟩ := OwI.form h
                injection e0 with e1 e2 e3
                subst e1 e2 e3
                have h1 := OwI.cellAt h k (by omega)
                rw [HKO.out] at h1
                exact h1
              clear hOY
              have hwx : IntKind.i64.wrap (-x) = -x := by rw [IntKind.wrap_i64]; omega
              rcases Int.lt_or_le 0 x with hx0 | hx0
              · have HPT := Lib.hid (fun (W' : World) (h' : ArgE W' (.slice A3 T1.length cap3) T1) => l4Put_any _ T1 (u, x, y) W' h' ⟨⟨by simp only; omega, by simp only; omega⟩, ⟨by simp only; omega, by simp only; omega⟩, ⟨by simp only; omega, by simp only; omega⟩⟩ (by omega))
                unfold edV at HPT
                have HTF : Hid (TrE g OY (insF cmpE T1 (u, x, y))) := Lib.hid (by have h := HT2.out; rwa [if_pos hx0] at h)
                go_wp2_with (at_builtin; refine push_int rfl (.tmp 47) (.tmp 49) rfl _ _ _ (OwI.alloc HOQ.out _) rfl _ _ rfl (cell_new1 _ _ _) HY.out (by first | omega | (simp <;> omega)) (by first | omega | (simp <;> omega)) ?_; intro v9 wv9 o9 g9 p9; rw [HEQ.out] at o9; have hz9 := g9.size; simp at hz9; have HR9 := Lib.hid ((HRQ.out.alloc (.cells #[.int .i64 y] 3)).grown g9 (fun b hb hb' => by first | exact HNR.out (hb'.trans hb.symm) | exact HNR.out (hb.trans hb'.symm) | (simp [Value.ownBlock] at hb hb'; done) | (simp [Value.ownBlock] at hb hb'; have := HNR.out; simp [Value.ownBlock] at this; omega))); have x9 := HXL.out wv9 HR9.out; have HB9 := Lib.hid (bel_push HQ.out (by omega) HOQ.out.1 (Nat.le_refl _) g9); have HN9 : Hid (v9.ownBlock ≠ some bl) := Lib.hid (fun e => p9.elim (fun h => HNR.out (h.symm.trans e)) (fun h => by have h3 := Option.some.inj (h.symm.trans e); first | omega | (simp at h3; done) | (simp at h3; omega))); have HT9 := Lib.hid ((HTQ.out.alloc (.cells #[.int .i64 y] 3)).keep (fun b hb => g9.block b (by have := (HTQ.out.1.lt b hb).2; first | omega | (simp <;> omega)) (fun e => HTB1.out b hb e.symm))); have O9 := Lib.hid o9; obtain ⟨A9, c9, rfl, _, _, _, hf9⟩ := OwI.form o9; obtain ⟨b9, rfl, hb91, hb92⟩ := hf9 (by omega); have d9 : wv9.cell? ⟨b9, k, none⟩ = some (.int .i64 u) := HCE.out wv9 _ _ _ _ o9; have hbl9 : bl < wv9.heap.size := (by omega); clear o9 g9 p9 hf9)
                go_region_held3 (fun w' => w'.cell? ⟨b9, k, none⟩ = some (.int .i64 u) ∧ w'.cell? ⟨bl, m, none⟩ = some (.int .i64 x))
                  (first | go_keep | exact ⟨s0, s1⟩)
                  (first | (go_at_call 130; (with_reducible refine (HPT.out _ HT9.out.drew.arg).mono ?_); rintro e w10 ⟨r10, rfl, o10, b10⟩; have O10 := Lib.hid o10; have B10 : Hid (Below wv9.heap.size wv9 w10) := Lib.hid ((Below.refl wv9.heap.size wv9).drew.trans (b10.mono (Nat.le_refl _))); have s0 := (B10.out.cell (p := ⟨b9, k, none⟩) hb92).trans d9; have s1 := (B10.out.cell (p := ⟨bl, m, none⟩) hbl9).trans x9; clear o10 b10))
                have hs10 := B10.out.size
                have hTL := HTL2.out (u, x, y)
                go_wp2
                go_roundw
                case rel => exact ⟨m + 1, _, by omega, by go_num, by rw [HS.out, F.out]; exact HTF.out, by rw [HS.out, F.out]; omega, O10.out.mono (show w.heap.size + 1 ≤ wv9.heap.size by omega), fun b hb e => by
                  have h1 := (O10.out.1.lt b hb).1
                  simp [Value.ownBlock] at e
                  have h2 : wv9.heap.size ≤ b := h1
                  omega, by rw [HS.out, F.out]; exact O9.out.below B10.out, HR9.out.below B10.out, HN9.out, by omega, HB9.out.trans (B10.out.mono (by omega))⟩
                case measure => simp [intOf]; omega
              · have HPT := Lib.hid (fun (W' : World) (h' : ArgE W' (.slice A3 T1.length cap3) T1) => l4Put_any _ T1 (y, -x, u) W' h' ⟨⟨by simp only; omega, by simp only; omega⟩, ⟨by simp only; omega, by simp only; omega⟩, ⟨by simp only; omega, by simp only; omega⟩⟩ (by omega))
                unfold edV at HPT
                have HTF : Hid (TrE g OY (insF cmpE T1 (y, -x, u))) := Lib.hid (by have h := HT2.out; rwa [if_neg (by omega)] at h)
                go_wp2_with (at_builtin; refine push_int rfl (.tmp 47) (.tmp 49) rfl _ _ _ (OwI.alloc HOQ.out _) rfl _ _ rfl (cell_new1 _ _ _) HY.out (by first | omega | (simp <;> omega)) (by first | omega | (simp <;> omega)) ?_; intro v9 wv9 o9 g9 p9; rw [HEQ.out] at o9; have hz9 := g9.size; simp at hz9; have HR9 := Lib.hid ((HRQ.out.alloc (.cells #[.int .i64 y] 3)).grown g9 (fun b hb hb' => by first | exact HNR.out (hb'.trans hb.symm) | exact HNR.out (hb.trans hb'.symm) | (simp [Value.ownBlock] at hb hb'; done) | (simp [Value.ownBlock] at hb hb'; have := HNR.out; simp [Value.ownBlock] at this; omega))); have x9 := HXL.out wv9 HR9.out; have HB9 := Lib.hid (bel_push HQ.out (by omega) HOQ.out.1 (Nat.le_refl _) g9); have HN9 : Hid (v9.ownBlock ≠ some bl) := Lib.hid (fun e => p9.elim (fun h => HNR.out (h.symm.trans e)) (fun h => by have h3 := Option.some.inj (h.symm.trans e); first | omega | (simp at h3; done) | (simp at h3; omega))); have HT9 := Lib.hid ((HTQ.out.alloc (.cells #[.int .i64 y] 3)).keep (fun b hb => g9.block b (by have := (HTQ.out.1.lt b hb).2; first | omega | (simp <;> omega)) (fun e => HTB1.out b hb e.symm))); have O9 := Lib.hid o9; obtain ⟨A9, c9, rfl, _, _, _, hf9⟩ := OwI.form o9; obtain ⟨b9, rfl, hb91, hb92⟩ := hf9 (by omega); have d9 : wv9.cell? ⟨b9, k, none⟩ = some (.int .i64 u) := HCE.out wv9 _ _ _ _ o9; have hbl9 : bl < wv9.heap.size := (by omega); clear o9 g9 p9 hf9)
                go_region_held3 (fun w' => w'.cell? ⟨b9, k, none⟩ = some (.int .i64 u) ∧ w'.cell? ⟨bl, m, none⟩ = some (.int .i64 x))
                  (first | go_keep | exact ⟨s0, s1⟩)
                  (first | (go_at_call 130; (with_reducible refine (HPT.out _ HT9.out.drew.arg).mono ?_); rintro e w10 ⟨r10, rfl, o10, b10⟩; have O10 := Lib.hid o10; have B10 : Hid (Below wv9.heap.size wv9 w10) := Lib.hid ((Below.refl wv9.heap.size wv9).drew.trans (b10.mono (Nat.le_refl _))); have s0 := (B10.out.cell (p := ⟨b9, k, none⟩) hb92).trans d9; have s1 := (B10.out.cell (p := ⟨bl, m, none⟩) hbl9).trans x9; clear o10 b10))
                have hs10 := B10.out.size
                have hTL := HTL2.out (y, -x, u)
                go_wp2
                go_roundw
                case rel => exact ⟨m + 1, _, by omega, by go_num, by rw [HS.out, F.out]; exact HTF.out, by rw [HS.out, F.out]; omega, O10.out.mono (show w.heap.size + 1 ≤ wv9.heap.size by omega), fun b hb e => by
                  have h1 := (O10.out.1.lt b hb).1
                  simp [Value.ownBlock] at e
                  have h2 : wv9.heap.size ≤ b := h1
                  omega, by rw [HS.out, F.out]; exact O9.out.below B10.out, HR9.out.below B10.out, HN9.out, by omega, HB9.out.trans (B10.out.mono (by omega))⟩
                case measure => simp [intOf]; omega
            · have F := Lib.hid (N1.out hy0 h1)
              go_wp2
              go_roundw
              case rel => exact ⟨m + 1, T1, by omega, by go_num, by rw [HS.out, F.out]; exact HTR1.out, by rw [HS.out, F.out]; exact htl1, HTQ.out, HTB1.out, by rw [HS.out, F.out]; exact HOQ.out, HRQ.out, HNR.out, by omega, HQ.out⟩
              case measure => simp [intOf]; omega
        · obtain rfl : m = ls.length := by omega
          have HTT : Hid (ls.take ls.length = ls) := Lib.hid List.take_length
          rw [List.take_length] at hown htl1 HTR1
          have hokm := HOKm.out ls.length
          rw [List.take_length] at hokm
          have HOKF := Lib.hid hokm
          have HOM := Lib.hid hown
          have hlen : k + 1 ≤ (ls.foldl (cstep g.2.2 u) o).length := by
            have := HPU.out ls.length
            rw [List.take_length] at this
            have := (List.getElem?_eq_some_iff.1 this).1
            omega
          obtain ⟨A2, cap2, rfl, _⟩ := hown.form
          clear hown hrd hne hokm
          go_wp2
          go_roundw
          case rel => exact ⟨k + 1, _, T1, hlen, by go_num, HOKF.out, HCF.out, HTWN.out, HTR1.out, htl1, HTE1.out, HTB1.out, HOM.out, HRR.out, HNR.out, hblr, HBI.out⟩
          case measure => simp [intOf]; omega
    · obtain rfl : k = o.length := by omega
      have F : Hid (canO g = o) := Lib.hid (by rw [HC.out, canF_end])
      go_wp2
      go_ret
      exact ⟨_, T, rfl, HTE.out.mono (by omega), by rw [F.out]; exact HTR.out, by omega, HBW.out _ HB.out⟩
set_option maxHeartbeats 2000000 in
theorem specExtraEdges_any (v : Value) (g : GrD) (w : World) (h : ArgG w v g) (hf : foldB g = true) :
    Calls Tryz.prog 76 #[v] w fun e w' => ∃ r, e = .returned r ∧ OwE w' w.heap.size r (extL g) ∧ Below w.heap.size w w' := by
  have HG := Lib.hid h
  have HF := Lib.hid hf
  obtain ⟨hg, hfol⟩ := foldB_parts hf
  obtain ⟨hr13, hsz40, hl120, _⟩ := grB_parts hg
  have HEX : Hid (∀ T, TrE g (canO g) T → ∀ e ∈ g.2.2, exB g e = !decide (e ∈ T)) := Lib.hid fun T hT e he => by
    have h1 := hT.ext hf he
    rcases ex : exB g e with _ | _
    · rw [decide_eq_true (h1.2 ex)]; rfl
    · rw [decide_eq_false (fun hm => by rw [h1.1 hm] at ex; cases ex)]; rfl
  have HXL : Hid (extL g = g.2.2.filter (exB g)) := Lib.hid rfl
  obtain ⟨s, rfl, hi1, hi2, ha⟩ := h
  obtain ⟨A, cap, rfl⟩ := ha.form
  have HTREE := Lib.hid (fun W' (h : ArgG W' (.agg #[.int .i64 g.1, .int .i64 g.2.1, .slice A g.2.2.length cap]) g) => l10Tree_any _ g W' h hf)
  obtain ⟨g1, n, es⟩ := g
  simp only at *
  clear ha hf hg hfol
  obtain ⟨XB, hXB⟩ : ∃ X, X = exB (g1, n, es) := ⟨_, rfl⟩
  rw [← hXB] at HEX HXL
  clear hXB
  go_enter Tryz.func76, Tryz.ntmps76
  go_wp2_with fail
  obtain ⟨W, hW⟩ : ∃ W, W = w.alloc (Obj.cells #[Value.int IntKind.i64 g1, Value.int IntKind.i64 n, .slice A es.length cap] 45) := ⟨_, rfl⟩
  obtain ⟨hsW, b1, hc1⟩ := gboxE hW
  rw [← hW]
  have BX := Lib.hid b1
  have HCL := Lib.hid hc1
  have HA : Hid (∀ w', Below (w.heap.size + 1) W w' → ArgG w' (.agg #[.int .i64 g1, .int .i64 n, .slice A es.length cap]) (g1, n, es)) := Lib.hid fun w' hb => HG.out.below (BX.out.trans (hb.mono (by omega)))
  have HBW : Hid (∀ w', Below (w.heap.size + 1) W w' → Below w.heap.size w w') := Lib.hid fun w' hb => BX.out.trans (hb.mono (by omega))
  have HFO := Lib.hid (fun W' (h : ArgG W' (.agg #[.int .i64 g1, .int .i64 n, .slice A es.length cap]) (g1, n, es)) => specIsFolded_any _ (g1, n, es) W' h)
  rw [HF.out] at HFO
  clear hW hc1 b1
  refine (HTREE.out W (HA.out W ((Below.refl W.heap.size W).mono (by omega)))).mono ?_
  rintro e w3 ⟨r3, T, rfl, o3, htr, hT40, b3⟩
  have hs3 := b3.size
  have hsw3 : w.heap.size < w3.heap.size := by omega
  have B3 : Hid (Below (w.heap.size + 1) W w3) := Lib.hid (b3.mono (by omega))
  have OT3 := Lib.hid o3
  have HEXT := Lib.hid (HEX.out T htr)
  obtain ⟨At, ct, rfl, hct, hmt, _⟩ := o3.form
  unfold maxLen at hmt
  clear o3 htr b3
  go_wp2
  go_loopw [4, 5] (fun vo i wr => ∃ k : Nat, k ≤ es.length ∧ i = .int .i64 k ∧ OwE wr w3.heap.size vo ((es.take k).filter XB) ∧ Below w3.heap.size w3 wr) (fun _ i _ => es.length - (intOf i).toNat)
  case atStart => exact ⟨0, Nat.zero_le _, rfl, by simpa using OwE_litN w3 w3.heap.size rfl (Nat.le_refl _), (Below.refl _ _).alloc (Nat.le_refl _) _⟩
  case round =>
    obtain ⟨k, hk, rfl, ho, hb⟩ := hrel
    have HO := Lib.hid ho
    have HB := Lib.hid hb
    have HBI : Hid (Below (w.heap.size + 1) W wr) := Lib.hid (B3.out.trans (hb.mono (by omega)))
    obtain ⟨wi, rfl⟩ : ∃ wi : World, wi = wr := ⟨_, rfl⟩
    have hwi := hb.size
    clear ho hb
    have hfl : ((es.take k).filter XB).length ≤ 120 := by
      have h1 := List.length_filter_le XB (es.take k)
      rw [List.length_take] at h1
      omega
    obtain ⟨Ao, co, rfl, _⟩ := OwE.form HO.out
    obtain ⟨q0, q1, q2⟩ := HCL.out wi HBI.out
    by_cases hlt : k < es.length
    · have HTK := Lib.hid (take_filterE XB es k hlt)
      have HXE := Lib.hid (HEXT.out es[k] (List.getElem_mem hlt))
      have hkI : (k : Int) < (es.length : Int) := by omega
      generalize (es.take k).filter XB = LO at *
      go_wp2_with fail
      refine (HFO.out wi (HA.out wi HBI.out)).mono ?_
      rintro e w5 ⟨rfl, b5⟩
      have hs5 := b5.size
      have HO5 := Lib.hid (HO.out.below b5)
      have HB5 : Hid (Below w3.heap.size w3 w5) := Lib.hid (HB.out.trans (b5.mono (by omega)))
      have HBI5 : Hid (Below (w.heap.size + 1) W w5) := Lib.hid (B3.out.trans (HB5.out.mono (by omega)))
      clear b5 q0 q1 q2
      obtain ⟨q0, q1, q2⟩ := HCL.out w5 HBI5.out
      obtain ⟨_, _, hIN, hAE, _, _⟩ := (HA.out w5 HBI5.out).inner
      injection hIN with e1 e2 e3
      subst e1 e3
      clear e2
      obtain ⟨b, off, rfl, hbl, c0, c1, c2, he64⟩ := hAE.at hlt
      have HE64 := Lib.hid he64
      generalize es[k] = E at *
      obtain ⟨e1, e2, e3⟩ := E
      simp only at *
      clear hAE he64
      have HEQ : Hid (∀ (y : EdD) (w : World), (binOp .eql 78 (edV y) (edV (e1, e2, e3))).run Tryz.prog w = .ok (.bool (decide (y = (e1, e2, e3)))) w) := Lib.hid fun y w => edge_eql y (e1, e2, e3) w
      have hgd := edge_guard
      have HMT : Hid (∀ m (hm : m < T.length), decide ((e1, e2, e3) ∈ T.take (m + 1)) = (decide ((e1, e2, e3) ∈ T.take m) || decide (T[m] = (e1, e2, e3)))) := Lib.hid fun m hm => by
        rw [List.take_succ_eq_append_getElem hm, Bool.eq_iff_iff]
        simp only [List.mem_append, List.mem_singleton, decide_eq_true_eq, Bool.or_eq_true]
        exact ⟨fun h => h.imp_right Eq.symm, fun h => h.imp_right Eq.symm⟩
      have HOT5 := Lib.hid (OT3.out.below HB5.out)
      go_wp2
      go_loopw [6, 7] (fun f j wr => ∃ m : Nat, m ≤ T.length ∧ j = .int .i64 m ∧ f = .bool (decide ((e1, e2, e3) ∈ T.take m)) ∧ ∃ q, wr = w5.drewN q) (fun _ j _ => T.length - (intOf j).toNat)
      case atStart => exact ⟨0, Nat.zero_le _, rfl, by simp, 0, rfl⟩
      case round =>
        obtain ⟨m, hm, rfl, rfl, q, rfl⟩ := hrel
        by_cases hlt2 : m < T.length
        · have HMm := Lib.hid (HMT.out m hlt2)
          have hmI : (m : Int) < (T.length : Int) := by omega
          rcases ef : decide ((e1, e2, e3) ∈ T.take m) with _ | _
          rotate_left
          · have F : Hid (decide ((e1, e2, e3) ∈ T.take (m + 1)) = true) := Lib.hid (by rw [HMm.out, ef]; rfl)
            clear ef
            go_wp2
            go_quiet (fail)
            go_wp2
            go_roundw
            case rel => exact ⟨m + 1, by omega, by go_num, by rw [F.out], _, rfl⟩
            case measure => simp [intOf]; omega
          · obtain ⟨bt, offt, rfl, hbt, d0, d1, d2, _⟩ := HOT5.out.arg.at hlt2
            have heql := fun w => HEQ.out T[m] w
            unfold edV at heql
            obtain ⟨be, hbe⟩ : ∃ be, be = decide (T[m] = (e1, e2, e3)) := ⟨_, rfl⟩
            rw [← hbe] at heql
            have F : Hid (decide ((e1, e2, e3) ∈ T.take (m + 1)) = be) := Lib.hid (by rw [HMm.out, ef, ← hbe]; rfl)
            clear hbe ef
            generalize T[m] = y at *
            obtain ⟨y1, y2, y3⟩ := y
            simp only at *
            go_wp2
            go_quiet (fail)
            go_wp2
            go_roundw
            case rel => exact ⟨m + 1, by omega, by go_num, by rw [F.out], _, rfl⟩
            case measure => simp [intOf]; omega
        · obtain rfl : m = T.length := by omega
          have B6 : Below w5.heap.size w5 (w5.drewN q) := bel_drewN (Below.refl _ _) q
          generalize w5.drewN q = w6 at *
          have hs6 := B6.size
          have HO6 := Lib.hid (HO5.out.below B6)
          have HB6 : Hid (Below w3.heap.size w3 w6) := Lib.hid (HB5.out.trans (B6.mono (by omega)))
          have HBI6 : Hid (Below (w.heap.size + 1) W w6) := Lib.hid (B3.out.trans (HB6.out.mono (by omega)))
          have c0 := (B6.cell (p := ⟨b, off + k * 3, none⟩) hbl).trans c0
          have c1 := (B6.cell (p := ⟨b, off + k * 3 + 1, none⟩) hbl).trans c1
          have c2 := (B6.cell (p := ⟨b, off + k * 3 + 2, none⟩) hbl).trans c2
          clear q0 q1 q2 B6
          obtain ⟨q0, q1, q2⟩ := HCL.out w6 HBI6.out
          have HTT : Hid (decide ((e1, e2, e3) ∈ T.take T.length) = decide ((e1, e2, e3) ∈ T)) := Lib.hid (by rw [List.take_length])
          have hw36 : w3.heap.size ≤ w6.heap.size := by omega
          rcases ed : decide ((e1, e2, e3) ∈ T.take T.length) with _ | _
          · have HT2 : Hid ((es.take (k + 1)).filter XB = LO ++ [(e1, e2, e3)]) := Lib.hid (by rw [HTK.out, HXE.out, ← HTT.out, ed]; rfl)
            clear ed
            go_wp2_with (at_builtin; refine push_edge rfl (.tmp 43) (.tmp 49) rfl w3.heap.size _ _ (HO6.out.alloc _) rfl _ (e1, e2, e3) rfl (edC_new _ _ _) HE64.out (by omega) (by first | omega | (simp <;> omega)) ?_; intro v7 wv7 o7 g7 p7; have O7 := Lib.hid o7; have B7 := Lib.hid (bel_pushE HB6.out hw36 HO6.out (Nat.le_refl _) g7); clear o7 g7 p7)
            go_roundw
            case rel => exact ⟨k + 1, by omega, by go_num, by rw [HT2.out]; exact O7.out, B7.out⟩
            case measure => simp [intOf]; omega
          · have HT2 : Hid ((es.take (k + 1)).filter XB = LO) := Lib.hid (by rw [HTK.out, HXE.out, ← HTT.out, ed]; rfl)
            clear ed
            go_wp2
            go_roundw
            case rel => exact ⟨k + 1, by omega, by go_num, by rw [HT2.out]; exact HO6.out, HB6.out⟩
            case measure => simp [intOf]; omega
    · obtain rfl : k = es.length := by omega
      rw [List.take_length] at HO hfl
      have HBF := Lib.hid (HBW.out wi HBI.out)
      go_wp2
      go_ret
      exact ⟨_, rfl, by rw [HXL.out]; rw [List.take_length]; exact HO.out.mono (by omega), HBF.out⟩
def snL (n : Nat) (o : List Int) : List Bool := (List.range n).map fun q : Nat => decide ((q : Int) ∈ o)
theorem snL_len (n : Nat) (o : List Int) : (snL n o).length = n := by simp [snL]
theorem snL_get (n : Nat) (o : List Int) (q : Nat) (h : q < n) : (snL n o)[q]'(by rw [snL_len]; exact h) = decide ((q : Int) ∈ o) := by simp [snL]
theorem snL_nil (n : Nat) : snL n [] = List.replicate n false := by
  refine List.ext_getElem (by simp [snL]) fun i h1 h2 => ?_
  simp [snL]
theorem snL_set (n : Nat) (o : List Int) (y : Nat) : (snL n o).set y true = snL n (o ++ [(y : Int)]) := by
  refine List.ext_getElem (by simp [snL]) fun i h1 h2 => ?_
  rw [List.getElem_set]
  simp only [snL, List.getElem_map, List.getElem_range, List.mem_append, List.mem_singleton]
  by_cases h : y = i
  · subst h; simp
  · rw [if_neg h]
    have : ¬ (i : Int) = (y : Int) := by omega
    simp [this]
theorem TreeX.other {f : Int → List Int} {bb P N : Nat} {w w9 : World} {ord : Value} {o : List Int} (h : TreeX f bb P N w ord o) {S : Nat} (hg : w.grownBy w9 (some S)) (hS : S < P) : TreeX f bb P N w9 ord o := by
  obtain ⟨vs, h1, h2, h3⟩ := h.ex
  have hs9 := hg.size
  refine ⟨⟨vs, h1, h2.kept hg (.inr fun e => by simp [Value.ownBlock] at e; omega), fun j hj => ?_⟩, h.ne⟩
  rcases h3 j hj with h4 | ⟨h4, b, cap, e1, e2, e3, e4, e5, e6⟩
  · exact .inl h4
  · refine .inr ⟨h4, b, cap, e1, e2, e3.grown hg fun x hx hx' => ?_, e4, e5, by omega⟩
    rw [e1] at hx
    simp [Value.ownBlock] at hx hx'
    omega
theorem TreeX.base {f : Int → List Int} {bb bb' P N : Nat} {w : World} {ord : Value} {o : List Int} (h : TreeX f bb P N w ord o) (hb : bb' ≤ bb) : TreeX f bb' P N w ord o := by
  obtain ⟨vs, h1, h2, h3⟩ := h.ex
  refine ⟨⟨vs, h1, ⟨h2.1, ?_⟩, h3⟩, h.ne⟩
  rcases h2.2 with h0 | ⟨g, cap, cur, hv, hg, r⟩
  · exact .inl h0
  · exact .inr ⟨g, cap, cur, hv, Nat.le_trans hb hg, r⟩
set_option maxHeartbeats 4000000 in
theorem l5Search_any (v : Value) (g : GrD) (w : World) (h : ArgG w v g) (hf : foldB g = true) :
    Calls Tryz.prog 156 #[v, .int .i64 0] w fun e w' => ∃ S P ord, e = .returned (.tuple #[.slice (some ⟨S, 0, none⟩) g.2.1.toNat g.2.1.toNat, .slice (some ⟨P, 0, none⟩) g.2.1.toNat g.2.1.toNat]) ∧ OwB w' w.heap.size (.slice (some ⟨S, 0, none⟩) g.2.1.toNat g.2.1.toNat) (snL g.2.1.toNat (canO g)) ∧ TreeX (wdO g) w.heap.size P g.2.1.toNat w' ord (canO g) ∧ Below w.heap.size w w' := by
  have HG := Lib.hid h
  obtain ⟨hg, hfol⟩ := foldB_parts hf
  have ONE := Lib.hid (steps_one hfol)
  obtain ⟨hr13, hsz40, hl120, _⟩ := grB_parts hg
  obtain ⟨A, cap, hv⟩ : ∃ A cap, v = .agg #[.int .i64 g.1, .int .i64 g.2.1, .slice A g.2.2.length cap] := by
    obtain ⟨s, hv, _, _, ha⟩ := h
    obtain ⟨A, cap, rfl⟩ := ha.form
    exact ⟨A, cap, hv⟩
  subst hv
  obtain ⟨N, hN⟩ : ∃ N : Nat, g.2.1 = (N : Int) := ⟨g.2.1.toNat, by omega⟩
  obtain ⟨rn, hrn⟩ : ∃ rn : Nat, g.1 = (rn : Int) := ⟨g.1.toNat, by omega⟩
  have hrn1 : 1 ≤ rn := by omega
  have hrn3 : rn ≤ 3 := by omega
  have hN1 : 1 ≤ N := by omega
  have hN2 : N ≤ 40 := by omega
  have HCO : Hid (canO g = canF g.2.2 (lettersL rn) 41 0 [0]) := Lib.hid (by unfold canO; rw [hrn]; rfl)
  have HZ : Hid (wdO g 0 = []) := Lib.hid (wd_zero hg)
  have HS0 : Hid (TwS g (lettersL rn) 0 [0]) := Lib.hid (by have h := TwS.zero g; rwa [hrn] at h)
  have HNW : Hid (∀ (k : Nat) (o : List Int) (u : Int), TwS g (lettersL rn) k o → o[k]? = some u → k < 41 → ∀ (m : Nat) (hm : m < (lettersL rn).length), 0 ≤ nextV g.2.2 u (lettersL rn)[m] → hasB (((lettersL rn).take m).foldl (cstep g.2.2 u) o) (nextV g.2.2 u (lettersL rn)[m]) = false → wdO g (nextV g.2.2 u (lettersL rn)[m]) = wdO g u ++ [(lettersL rn)[m]]) := Lib.hid fun k o u h1 h2 h3 m hm h4 h5 => h1.new hg h2 h3 hm h4 h5
  have OK0 := Lib.hid (OrdOk.one (n := g.2.1) (by omega))
  have OKS : Hid (∀ (u : Int) (o : List Int) (k : Nat), OrdOk g.2.1 o → OrdOk g.2.1 (((lettersL rn).take k).foldl (cstep g.2.2 u) o)) := Lib.hid fun u o k h => cfold_take_ok hg _ k h
  have OKL : Hid (∀ o : List Int, OrdOk g.2.1 o → o.length ≤ 40) := Lib.hid fun o h => h.len (by omega) (by omega)
  have OKR : Hid (∀ o : List Int, OrdOk g.2.1 o → ∀ y ∈ o, 0 ≤ y ∧ y < N) := Lib.hid fun o h y hy => by have := h.2.1 y hy; omega
  have NV : Hid (∀ u x, nextV g.2.2 u x = -1 ∨ (0 ≤ nextV g.2.2 u x ∧ nextV g.2.2 u x < N)) := Lib.hid fun u x => by
    rcases nextV_range hg u x with e | e
    · exact .inl e
    · exact .inr ⟨e.1, by omega⟩
  have hll := lettersL_len rn
  have HLE : Hid (∀ W : World, Calls Tryz.prog 61 #[.int .i64 g.1] W fun e w' => ∃ r, e = .returned r ∧ OwI w' W.heap.size r (lettersL rn) ∧ Below W.heap.size W w') := Lib.hid fun W => by
    rw [hrn]
    exact l5Letters_any rn W (by omega)
  generalize lettersL rn = ls at *
  obtain ⟨F, hF⟩ : ∃ F, F = wdO g := ⟨_, rfl⟩
  rw [← hF] at HZ HNW ⊢
  replace hF := Lib.hid hF
  rw [hN] at HG
  clear hg hf hfol h hrn
  have hr1 : 1 ≤ g.1 ∧ g.1 ≤ 3 := hr13
  clear hsz40 hl120 hr13
  rw [hN]
  simp only [Int.toNat_natCast]
  obtain ⟨W1, hW1⟩ : ∃ W, W = w.alloc (Obj.cells #[Value.int IntKind.i64 g.1, Value.int IntKind.i64 (N : Int), .slice A g.2.2.length cap] 45) := ⟨_, rfl⟩
  obtain ⟨hs1, b1, hc1⟩ := gboxE hW1
  have BX := Lib.hid b1
  have HCL := Lib.hid hc1
  have HA : Hid (∀ w', Below (w.heap.size + 1) W1 w' → ArgG w' (.agg #[.int .i64 g.1, .int .i64 (N : Int), .slice A g.2.2.length cap]) g) := Lib.hid fun w' hb => HG.out.below (BX.out.trans (hb.mono (by omega)))
  obtain ⟨i0, hi0, hz0, hz1, hz2⟩ := info_parts bool_info
  have HS1 := Lib.hid hs1
  have HW1 := Lib.hid hW1
  clear hW1 hc1 b1 hs1
  go_enter Tryz.func156, Tryz.ntmps156
  go_wp2_with (at_make; refine wpList_make_full _ rfl _ _ 55 rfl (w.heap.size + 1) 4 i0 (.bool false) 1 Tryz.underlying55 hi0 hz0 hz1 _ _ _ _ N rfl rfl rfl rfl (by rw [hz2]; omega) (by unfold maxLen; omega) (by simp) ?_)
  rw [← HW1.out]
  rw [← HS1.out]
  have hs1a : w.heap.size + 1 ≤ W1.heap.size := by rw [HS1.out]; exact Nat.le_refl _
  have hs1b : W1.heap.size ≤ w.heap.size + 1 := by rw [HS1.out]; exact Nat.le_refl _
  intro w2 hownS hgS0
  have sownS : OwB w2 W1.heap.size (.slice (some ⟨W1.heap.size, 0, none⟩) N N) (snL N []) := by
    unfold OwB
    rw [snL_len, snL_nil]
    have : bools (List.replicate N false) = List.replicate N (Value.bool false) := by simp [bools]
    rw [this]
    simpa [toList_madeCells_one] using hownS
  have hS2 : W1.heap.size < w2.heap.size := (sownS.lt W1.heap.size rfl).2
  have B12 : Below W1.heap.size W1 w2 := (Below.refl W1.heap.size W1).grown hgS0 (Nat.le_refl _) (fun k h => by cases h)
  have BW2 : Below (w.heap.size + 1) W1 w2 := B12.mono (by omega)
  clear hownS hgS0 hi0 hz0 hz1 hz2
  obtain ⟨q0, q1, q2⟩ := HCL.out w2 BW2
  obtain ⟨i1, hi0, hz0, hz1, hz2⟩ := info_parts ints_info'
  have hPS : W1.heap.size < w2.heap.size := hS2
  have SO2 := Lib.hid sownS
  have HB2 := Lib.hid BW2
  clear sownS BW2 B12
  go_wp2_with (at_make; refine wpList_make_full _ rfl _ _ 41 rfl w2.heap.size 33 i1 (.slice none 0 0) 1 Tryz.underlying41 hi0 hz0 hz1 _ _ _ _ N rfl rfl rfl rfl (by rw [hz2]; omega) (by unfold maxLen; omega) (Nat.le_refl _) ?_)
  intro w3 hownP hgP0
  have hP3 : w2.heap.size < w3.heap.size := (hownP.lt w2.heap.size rfl).2
  have B23 : Below w2.heap.size w2 w3 := (Below.refl w2.heap.size w2).grown hgP0 (Nat.le_refl _) (fun k h => by cases h)
  have TW0 : TreeX F w2.heap.size w2.heap.size N w3 (.slice none 0 0) [] := ⟨⟨List.replicate N (.slice none 0 0), by simp, by simpa [toList_madeCells_one] using hownP, fun j hj => .inl ⟨by simp, by simp⟩⟩, by simp [Value.ownBlock]⟩
  have SO3 := SO2.out.below B23
  have HB3 : Below (w.heap.size + 1) W1 w3 := HB2.out.trans (B23.mono (by omega))
  obtain ⟨P, hP⟩ : ∃ P, P = w2.heap.size := ⟨_, rfl⟩
  obtain ⟨S, hS⟩ : ∃ S, S = W1.heap.size := ⟨_, rfl⟩
  rw [← hP] at TW0 hP3 hPS
  rw [← hS] at SO3 hPS
  rw [← hP, ← hS]
  have hSw : w.heap.size < S := by omega
  have cs0 := SO3.cellAt 0 (by rw [snL_len]; omega)
  rw [snL_get N [] 0 (by omega)] at cs0
  have fs0 := SO3.free 0
  have gS := SO3.set 0 true
  rw [snL_set] at gS
  have jN : (0 : Int) < (N : Int) := by omega
  have GS := Lib.hid gS
  have HB3' := Lib.hid HB3
  have TW0' := Lib.hid TW0
  clear gS hP hS SO2 SO3 HB2 HB3 TW0 B23 hownP hgP0 q0 q1 q2 hi0 hz0 hz1 hz2
  have gS1 := GS.out.2
  have TWS := TW0'.out.other gS1 hPS
  obtain ⟨w4, hw4⟩ : ∃ w4, w4 = w3.setCell ⟨S, 0, none⟩ (.bool true) := ⟨_, rfl⟩
  rw [← hw4] at TWS gS1
  have hs4 : w4.heap.size = w3.heap.size := by rw [hw4]; simp
  have SO4 : OwB w4 S (.slice (some ⟨S, 0, none⟩) N N) (snL N ([] ++ [((0 : Nat) : Int)])) := by rw [hw4]; exact GS.out.1
  have HB4 : Below (w.heap.size + 1) W1 w4 := HB3'.out.grown gS1 (by have := HB3'.out.size; omega) (fun c hc => by injection hc with hc; omega)
  have HW4 := Lib.hid hw4
  have TW1 : TreeX F P P N (w4.alloc (.cells #[] 3)) (.slice none 0 0) [] := TWS.below ((Below.refl _ _).alloc (Nat.le_refl _) _)
  have oE : OwI (w4.alloc (.cells #[] 3)) w4.heap.size (.slice (some ⟨w4.heap.size, 0, none⟩) 0 0) [] := OwI_lit w4 [] (fun _ h => by cases h) (by simp) (Nat.le_refl _)
  have TW2 := TW1.set (y := 0) (by omega) HZ.out (b := w4.heap.size) (cap := 0) (ws := []) oE.rd (by simp) (by omega) (by simp [Value.ownBlock]) (by simp)
  have hc0 := TW1.at_new (y := 0) (by omega) (by simp)
  have hf0 := TW1.free 0
  rw [HW4.out] at hc0 hf0
  have TW2' := Lib.hid TW2
  have SO4' := Lib.hid SO4
  have HB4' := Lib.hid HB4
  have hHB5 := HB4.setCell (p := ⟨P, 0, none⟩) (by show w.heap.size + 1 ≤ P; omega) (.slice (some ⟨w3.heap.size, 0, none⟩) 0 0)
  have hHB6 := ((hHB5.alloc (by have := hHB5.size; omega) (.cells #[] 3)).alloc (by have := hHB5.size; simp; omega) (.cells #[.int .i64 0] 3))
  have qx := (HCL.out _ hHB6).1
  have qy := (HCL.out _ hHB5).1
  rw [HW4.out] at qx qy
  have HB6 := Lib.hid hHB6
  have HB5 := Lib.hid hHB5
  clear gS1 TWS hw4 SO4 HB4 TW1 oE TW2 hHB5 hHB6
  go_wp2_with fail
  obtain ⟨w5, hw5⟩ : ∃ w5, w5 = ((((w3.setCell ⟨S, 0, none⟩ (.bool true)).setCell ⟨P, 0, none⟩ (.slice (some ⟨w3.heap.size, 0, none⟩) 0 0)).alloc (.cells #[] 3)).alloc (.cells #[Value.int IntKind.i64 0] 3)) := ⟨_, rfl⟩
  rw [← hw5]
  have B5 : Below (w.heap.size + 1) W1 w5 := by rw [hw5, ← HW4.out]; exact HB6.out
  have hs34 : w4.heap.size = w3.heap.size := hs4
  have e5 : w5 = ((w4.alloc (.cells #[] 3)).setCell ⟨P, 0, none⟩ (.slice (some ⟨w4.heap.size, 0, none⟩) 0 0)).alloc (.cells #[Value.int IntKind.i64 0] 3) := by
    rw [hw5, ← HW4.out, hs34, World.setCell_alloc_past _ _ _ _ (show P < w4.heap.size by omega)]
  have e3 : ((w4.alloc (.cells #[] 3)).setCell ⟨P, 0, none⟩ (.slice (some ⟨w4.heap.size, 0, none⟩) 0 0)).heap.size = w3.heap.size + 1 := by simp [hs34]
  have TW5 : TreeX F P P N w5 (.slice (some ⟨w3.heap.size + 1, 0, none⟩) 1 1) [0] := by
    have h := TW2'.out.lit (.cells #[Value.int IntKind.i64 0] 3) 1 1
    simp only [List.length_nil, List.nil_append] at h
    rw [e3] at h
    rw [e5]
    simpa using h
  have O5 : OwI w5 (P + 1) (.slice (some ⟨w3.heap.size + 1, 0, none⟩) 1 1) [0] := by
    rw [e5]
    exact OwI_litN _ [0] (w3.heap.size + 1) e3 (fun x hx => by simp at hx; subst hx; exact ⟨by decide, by decide⟩) (by simp) (by omega)
  have SN5 : OwB w5 S (.slice (some ⟨S, 0, none⟩) N N) (snL N [0]) := by
    rw [hw5, ← HW4.out]
    have h : OwB (w4.setCell ⟨P, 0, none⟩ (.slice (some ⟨w3.heap.size, 0, none⟩) 0 0)) S (.slice (some ⟨S, 0, none⟩) N N) (snL N ([] ++ [((0 : Nat) : Int)])) := World.ownsRow.kept SO4'.out (set_grown _ P 0 _) (.inr fun e => by simp [Value.ownBlock] at e; omega)
    simp only [List.nil_append, Int.ofNat_zero, Int.natCast_zero] at h
    exact (h.alloc _).alloc _
  have hs5 : w3.heap.size + 2 ≤ w5.heap.size := by rw [e5]; simp [hs34]
  have HB5' := Lib.hid B5
  have HO5 := Lib.hid O5
  have HT5 := Lib.hid TW5
  have HSN5 := Lib.hid SN5
  clear hw5 e5 e3 TW5 O5 SN5 B5 HB6 HB5 hs34 hc0 hf0 qx qy cs0 fs0 TW2' SO4' HB4' GS
  refine (HLE.out w5).mono ?_
  rintro e wl ⟨rl, rfl, ol, bl⟩
  have sl := bl.size
  obtain ⟨Al, capl, rfl, hcl, hml, _, hfl⟩ := ol.form
  obtain ⟨gl, rfl, hgl1, hgl2⟩ := hfl (by omega)
  unfold maxLen at hml
  have OL := Lib.hid ol.rd
  have HBL : Hid (Below (w.heap.size + 1) W1 wl) := Lib.hid (HB5'.out.trans (bl.mono (by have := HB5'.out.size; omega)))
  have HOL := Lib.hid (HO5.out.below bl)
  have HTL := Lib.hid (HT5.out.below bl)
  have HSNL := Lib.hid (HSN5.out.below bl)
  have hne0 : w3.heap.size + 1 ≠ gl := by omega
  have hPg : P < gl := by omega
  clear hfl ol bl HLE
  go_wp2
  go_loopw [8, 10] (fun out i wo => ∃ (k : Nat) (o : List Int), k ≤ o.length ∧ i = .int .i64 k ∧ OrdOk g.2.1 o ∧ TwS g ls k o ∧ canO g = canF g.2.2 ls (41 - k) k o ∧ OwI wo (P + 1) out o ∧ TreeX F P P N wo out o ∧ OwB wo S (.slice (some ⟨S, 0, none⟩) N N) (snL N o) ∧ RdI wo (.slice (some ⟨gl, 0, none⟩) ls.length capl) ls ∧ out.ownBlock ≠ some gl ∧ gl < wo.heap.size ∧ Below (w.heap.size + 1) W1 wo) (fun _ i _ => 41 - (intOf i).toNat)
  case atStart => exact ⟨0, [0], by simp, rfl, OK0.out, HS0.out, HCO.out, HOL.out, HTL.out, HSNL.out, OL.out, by simp [Value.ownBlock]; omega, hgl2, HBL.out⟩
  case round =>
    obtain ⟨k, o, hk, rfl, hok, hts0, hco, hown, htw, hsn, hrd, hne, hglt, hbel⟩ := hrel
    have HTS0 := Lib.hid hts0
    clear hts0
    obtain ⟨wo, rfl⟩ : ∃ wo : World, wo = wr := ⟨_, rfl⟩
    have hol := OKL.out o hok
    have HOK := Lib.hid hok
    have HC := Lib.hid hco
    have HO := Lib.hid hown
    have HTW := Lib.hid htw
    have HSN := Lib.hid hsn
    have HRD := Lib.hid hrd
    have HNE := Lib.hid hne
    have HB2 := Lib.hid hbel
    have hsz := hbel.size
    obtain ⟨A1, cap1, rfl, _, _, _, hf2⟩ := hown.form
    clear hok hco htw hbel hsn hrd hne
    by_cases hlt : k < o.length
    · obtain ⟨u, hu⟩ : ∃ u, o[k]? = some u := ⟨o[k], by simp⟩
      have hku : o[k] = u := by rw [List.getElem?_eq_getElem hlt] at hu; injection hu
      have HCF : Hid (canO g = canF g.2.2 ls (41 - (k + 1)) (k + 1) (ls.foldl (cstep g.2.2 u) o)) := Lib.hid (by
        rw [HC.out, show 41 - k = (41 - (k + 1)) + 1 by omega, canF_step _ _ _ _ _ hlt, hku])
      have HTS1 := Lib.hid (HTS0.out.step hu (by omega))
      have HNW1 := Lib.hid (HNW.out k o u HTS0.out hu (by omega))
      have HPU : Hid (∀ m : Nat, (((ls.take m).foldl (cstep g.2.2 u) o))[k]? = some u) := Lib.hid fun m => cfold_prefix _ _ _ _ _ _ hu
      have HSU : Hid (∀ (m : Nat) (hm : m < ls.length), (ls.take (m + 1)).foldl (cstep g.2.2 u) o = cstep g.2.2 u ((ls.take m).foldl (cstep g.2.2 u) o) ls[m]) := Lib.hid fun m hm => cfold_succ _ _ _ _ _ hm
      have HOKm : Hid (∀ m : Nat, OrdOk g.2.1 ((ls.take m).foldl (cstep g.2.2 u) o)) := Lib.hid fun m => OKS.out u o m HOK.out
      obtain ⟨un, hun, hunN⟩ : ∃ un : Nat, u = (un : Int) ∧ un < N := by
        have h1 := HOK.out.2.1 u (by rw [← hku]; simp)
        exact ⟨u.toNat, by omega, by omega⟩
      have HUN := Lib.hid hun
      clear hf2 hu hku hown hun
      go_wp2
      go_loopw [8, 11] (fun out j wr => ∃ m : Nat, m ≤ ls.length ∧ j = .int .i64 m ∧ OwI wr (P + 1) out ((ls.take m).foldl (cstep g.2.2 u) o) ∧ TreeX F P P N wr out ((ls.take m).foldl (cstep g.2.2 u) o) ∧ OwB wr S (.slice (some ⟨S, 0, none⟩) N N) (snL N ((ls.take m).foldl (cstep g.2.2 u) o)) ∧ RdI wr (.slice (some ⟨gl, 0, none⟩) ls.length capl) ls ∧ out.ownBlock ≠ some gl ∧ gl < wr.heap.size ∧ Below (w.heap.size + 1) W1 wr) (fun _ j _ => ls.length - (intOf j).toNat)
      case atStart => exact ⟨0, Nat.zero_le _, rfl, HO.out, HTW.out, HSN.out, HRD.out, HNE.out, hglt, HB2.out⟩
      case round =>
        obtain ⟨m, hm1, rfl, hown, htw, hsn, hrd, hne, hblr, hbi⟩ := hrel
        obtain ⟨wj, rfl⟩ : ∃ wj : World, wj = wr := ⟨_, rfl⟩
        have hsi := hbi.size
        have HBI := Lib.hid hbi
        have HRR := Lib.hid hrd
        have HNR := Lib.hid hne
        have HTW2 := Lib.hid htw
        have HSN2 := Lib.hid hsn
        clear hbi htw hsn
        by_cases hlt2 : m < ls.length
        · have hokm := HOKm.out m
          have hlm := OKL.out _ hokm
          have hpu := HPU.out m
          have HS := Lib.hid (HSU.out m hlt2)
          have HORm := Lib.hid (OKR.out _ hokm)
          obtain ⟨_, _, hAl, _, hcl⟩ := hrd.at (by omega)
          obtain ⟨rfl, rfl⟩ : gl = _ ∧ 0 = _ := by simpa using hAl
          have c0 := hcl m hlt2
          rw [Nat.zero_add] at c0
          have hx64 : I64 ls[m] := hrd.2 _ (by simp)
          have HNW2 := Lib.hid (HNW1.out m hlt2)
          have HXL : Hid (∀ w', RdI w' (.slice (some ⟨gl, 0, none⟩) ls.length capl) ls → w'.cell? ⟨gl, m, none⟩ = some (.int .i64 ls[m])) := Lib.hid fun w' h => by
            obtain ⟨_, _, hAl, _, hcl⟩ := h.at (by omega)
            obtain ⟨rfl, rfl⟩ : gl = _ ∧ 0 = _ := by simpa using hAl
            have := hcl m hlt2
            rwa [Nat.zero_add] at this
          generalize ls[m] = x at c0 HS hx64 HNW2 HXL
          have HX64 := Lib.hid hx64
          generalize (ls.take m).foldl (cstep g.2.2 u) o = om at *
          have hum : u ∈ om := List.mem_of_getElem? hpu
          have HUM := Lib.hid hum
          have hkm : k < om.length := (List.getElem?_eq_some_iff.1 hpu).1
          have hkg : om[k] = u := by rw [List.getElem?_eq_getElem hkm] at hpu; injection hpu
          have HOM := Lib.hid hown
          obtain ⟨A2, cap2, rfl, _, _, _, hf2⟩ := hown.form
          obtain ⟨b2, rfl, hb21, hb22⟩ := hf2 (by omega)
          have d0 := hown.cellAt k hkm
          rw [hkg] at d0
          have HKG : Hid (∀ w', OwI w' (P + 1) (.slice (some ⟨b2, 0, none⟩) om.length cap2) om → w'.cell? ⟨b2, k, none⟩ = some (.int .i64 u)) := Lib.hid fun w' h => by
            have := h.cellAt k hkm
            rwa [hkg] at this
          have NX := Lib.hid (NV.out u x)
          have N0 := Lib.hid (cstep_no (es := g.2.2) (u := u) (x := x) (o := om))
          have N1 := Lib.hid (cstep_in (es := g.2.2) (u := u) (x := x) (o := om))
          have N2 := Lib.hid (cstep_new (es := g.2.2) (u := u) (x := x) (o := om))
          have HNX := Lib.hid (fun W (h : ArgG W (.agg #[.int .i64 g.1, .int .i64 (N : Int), .slice A g.2.2.length cap]) g) => specNextVertex_any _ g u x W h (ONE.out u x))
          obtain ⟨p0, p1, p2⟩ := HCL.out wj HBI.out
          have hws : w.heap.size < wj.heap.size := by omega
          clear hcl hAl hown hrd hf2 hpu hkg hokm hx64 hum hne
          go_wp2_with fail
          have f0 := BelW.cell p0 hws
          have f1 := BelW.cell p1 hws
          have f2 := BelW.cell p2 hws
          have f3 := BelW.cell c0 hblr
          have f4 := BelW.cell d0 hb22
          (refine wp_region_quiet_bel (by kernel_rfl) (by kernel_rfl) ?_; (repeat (go_big_quiet_step (first | (go_at_call 62; exact Calls.bel_of (HNX.out _ (HA.out _ (HBI.out.trans ((BelW.h _).mono (by omega))))))))); refine wpQuiet_nil ?_; intro wq hw'; obtain ⟨pq, hw''⟩ := hw'; have bq := pq.h; rw [← hw''] at bq; clear hw'' pq)
          clear f0 f1 f2 f3 f4 p0 p1 p2 c0 d0
          have sq := bq.size
          have HQ := Lib.hid (HBI.out.trans (bq.mono (by omega)))
          have HOQ := Lib.hid (HOM.out.below bq)
          have HRQ := Lib.hid (HRR.out.below bq)
          have HTQ := Lib.hid (HTW2.out.below bq)
          have HSQ := Lib.hid (HSN2.out.below bq)
          clear bq
          generalize nextV g.2.2 u x = y at *
          rcases NX.out with hy | hy
          · subst hy
            have F0 := Lib.hid (N0.out (by omega))
            go_wp2
            go_roundw
            case rel => exact ⟨m + 1, by omega, by go_num, by rw [HS.out, F0.out]; exact HOQ.out, by rw [HS.out, F0.out]; exact HTQ.out, by rw [HS.out, F0.out]; exact HSQ.out, HRQ.out, HNR.out, by omega, HQ.out⟩
            case measure => simp [intOf]; omega
          · obtain ⟨yn, rfl⟩ : ∃ yn : Nat, y = (yn : Int) := ⟨y.toNat, by omega⟩
            have hy0 : (0 : Int) ≤ (yn : Int) := hy.1
            have hyN : (yn : Int) < (N : Int) := hy.2
            have hynN : yn < N := by omega
            have cS := HSQ.out.cellAt yn (by rw [snL_len]; exact hynN)
            rw [snL_get N om yn hynN] at cS
            rcases h1 : hasB om (yn : Int) with _ | _
            · have hnotin : (yn : Int) ∉ om := hasB_not h1
              rw [decide_eq_false hnotin] at cS
              have F0 := Lib.hid (N2.out hy0 h1)
              have HY : Hid (I64 (yn : Int)) := Lib.hid ⟨by omega, by omega⟩
              have HWY := Lib.hid (HNW2.out hy0 h1)
              obtain ⟨bu, capu, cu, hwul, hru, hbu1, hbu2⟩ := HTQ.out.at_old hunN (by rw [← HUN.out]; exact HUM.out)
              have HWU : Hid (F u = F (un : Int)) := Lib.hid (by rw [HUN.out])
              have HWY2 : Hid (F (yn : Int) = F (un : Int) ++ [x]) := Lib.hid (by rw [HWY.out, HWU.out])
              have fS := HSQ.out.free yn
              have HSET := Lib.hid (HSQ.out.set yn true)
              rw [snL_set] at HSET
              have ctQ := HTQ.out.at_new hynN hnotin
              generalize F (un : Int) = wu at *
              have huN' : u < (N : Int) := by rw [HUN.out]; omega
              have hu0' : (0 : Int) ≤ u := by rw [HUN.out]; omega
              have hkI : (k : Int) < (om.length : Int) := by omega
              have hmI : (m : Int) < (ls.length : Int) := by omega
              obtain ⟨wz, hwz⟩ : ∃ wz, wz = wq.setCell ⟨S, yn, none⟩ (.bool true) := ⟨_, rfl⟩
              have gz : wq.grownBy wz (some S) := by rw [hwz]; exact HSET.out.2
              have hsz1 : wz.heap.size = wq.heap.size := by rw [hwz]; simp
              have HSZ : Hid (OwB wz S (.slice (some ⟨S, 0, none⟩) N N) (snL N (om ++ [(yn : Int)]))) := Lib.hid (by rw [hwz]; exact HSET.out.1)
              have HTZ := Lib.hid (HTQ.out.other gz hPS)
              have HOZ : Hid (OwI wz (P + 1) (.slice (some ⟨b2, 0, none⟩) om.length cap2) om) := Lib.hid (by rw [hwz]; exact HOQ.out.far (p := ⟨S, yn, none⟩) (by show S < P + 1; omega) _)
              have HRZ := Lib.hid (HRQ.out.grown gz fun b hb hb' => by simp [Value.ownBlock] at hb hb'; omega)
              have HRU := Lib.hid (hru.grown gz fun b hb hb' => by simp [Value.ownBlock] at hb hb'; omega)
              have HBZ : Hid (Below (w.heap.size + 1) W1 wz) := Lib.hid (HQ.out.grown gz (by have := HQ.out.size; omega) (fun c hc => by injection hc with hc; omega))
              have HWZ := Lib.hid hwz
              have hb2z : b2 < wz.heap.size := by rw [hsz1]; omega
              have hglz : gl < wz.heap.size := by rw [hsz1]; omega
              have hbuz : bu < wz.heap.size := by rw [hsz1]; omega
              have hPz : P < wz.heap.size := by omega
              have hSPz : P ≤ wz.heap.size := by omega
              have GZ : Hid (wz.heap[P]? = wq.heap[P]?) := Lib.hid (gz.block P (by omega) (fun e => by injection e with e; omega))
              have huy : (yn : Int) ≠ u := fun e => hnotin (by rw [e]; exact HUM.out)
              have hn0 : (⟨P, yn, none⟩ : Addr) ≠ ⟨b2, k, none⟩ := fun e => by injection e with e1; omega
              have hn1 : (⟨P, yn, none⟩ : Addr) ≠ ⟨P, u.toNat, none⟩ := fun e => by injection e with e1 e2; omega
              have hn2 : (⟨P, yn, none⟩ : Addr) ≠ ⟨gl, m, none⟩ := fun e => by injection e with e1; omega
              clear hwz gz hru hnotin hsz1 huy
              have HN0 : Hid (∀ (W' : World) (z : Value), W'.cell? ⟨b2, k, none⟩ = some (.int .i64 u) → (W'.setCell ⟨P, yn, none⟩ z).cell? ⟨b2, k, none⟩ = some (.int .i64 u)) := Lib.hid fun W' z h => ((by first | exact World.cell?_setCell_other _ hn0 | exact World.cell?_setCell_other _ _ hn0 | exact World.cell?_setCell_other _ _ _ _ hn0 | exact World.cell?_setCell_other _ _ _ _ _ hn0) : (W'.setCell _ z).cell? _ = W'.cell? _).trans h
              have HN1 : Hid (∀ (W' : World) (z y : Value), W'.cell? ⟨P, u.toNat, none⟩ = some y → (W'.setCell ⟨P, yn, none⟩ z).cell? ⟨P, u.toNat, none⟩ = some y) := Lib.hid fun W' z y h => ((by first | exact World.cell?_setCell_other _ hn1 | exact World.cell?_setCell_other _ _ hn1 | exact World.cell?_setCell_other _ _ _ _ hn1 | exact World.cell?_setCell_other _ _ _ _ _ hn1) : (W'.setCell _ z).cell? _ = W'.cell? _).trans h
              have HN2 : Hid (∀ (W' : World) (z : Value), W'.cell? ⟨gl, m, none⟩ = some (.int .i64 x) → (W'.setCell ⟨P, yn, none⟩ z).cell? ⟨gl, m, none⟩ = some (.int .i64 x)) := Lib.hid fun W' z h => ((by first | exact World.cell?_setCell_other _ hn2 | exact World.cell?_setCell_other _ _ hn2 | exact World.cell?_setCell_other _ _ _ _ hn2 | exact World.cell?_setCell_other _ _ _ _ _ hn2) : (W'.setCell _ z).cell? _ = W'.cell? _).trans h
              clear hn0 hn1 hn2
              go_wp2_with fail
              rw [← HWZ.out]
              have k0 := HKG.out wz HOZ.out
              have k1 : wz.cell? ⟨P, u.toNat, none⟩ = some (.slice (some ⟨bu, 0, none⟩) wu.length capu) := by
                rw [HUN.out, Int.toNat_natCast]
                exact (World.cell?_of_block GZ.out).trans cu
              have k2 := HXL.out wz HRZ.out
              have k3 : wz.cell? ⟨P, yn, none⟩ = some (.slice none 0 0) := (World.cell?_of_block GZ.out).trans ctQ
              have k4 := HTZ.out.free yn
              clear cS fS cu ctQ HWZ
              have hRR : Hid (RdI (wz.drew.alloc (.cells #[] 3)) (.slice (some ⟨bu, 0, none⟩) wu.length capu) wu) := Lib.hid (HRU.out.drew.alloc _)
              have HRB : Hid (RdI ((wz.alloc (.cells #[] 3)).alloc (.cells #[.int .i64 x] 3)).drew (.slice (some ⟨bu, 0, none⟩) wu.length capu) wu) := Lib.hid (((HRU.out.alloc (.cells #[] 3)).alloc (.cells #[.int .i64 x] 3)).drew)
              have HRC : Hid (RdI ((wz.alloc (.cells #[.int .i64 x] 3)).alloc (.cells #[] 3)).drew (.slice (some ⟨bu, 0, none⟩) wu.length capu) wu) := Lib.hid (((HRU.out.alloc (.cells #[.int .i64 x] 3)).alloc (.cells #[] 3)).drew)
              have HOB := Lib.hid (((OwI_lit wz [] I64s_nil (by simp) (Nat.le_refl _)).alloc (.cells #[.int .i64 x] 3)).drew)
              have HOC : Hid (OwI ((wz.alloc (.cells #[.int .i64 x] 3)).alloc (.cells #[] 3)).drew wz.heap.size (.slice (some ⟨wz.heap.size + 1, 0, none⟩) 0 0) []) := Lib.hid (OwI_litN (wz.alloc (.cells #[.int .i64 x] 3)) [] (wz.heap.size + 1) (by simp) I64s_nil (by simp) (by omega))
              have HXB : Hid (RdI ((wz.alloc (.cells #[] 3)).alloc (.cells #[.int .i64 x] 3)).drew (.slice (some ⟨wz.heap.size + 1, 0, none⟩) 1 1) [x]) := Lib.hid (by have := RdI_new1 (wz.alloc (.cells #[] 3)) x HX64.out; simpa using this.drew)
              have HXC : Hid (RdI ((wz.alloc (.cells #[.int .i64 x] 3)).alloc (.cells #[] 3)).drew (.slice (some ⟨wz.heap.size, 0, none⟩) 1 1) [x]) := Lib.hid (((RdI_new1 wz x HX64.out).alloc (.cells #[] 3)).drew)
              have HBB : Hid (Below wz.heap.size wz ((wz.alloc (.cells #[] 3)).alloc (.cells #[.int .i64 x] 3)).drew) := Lib.hid ((((Below.refl wz.heap.size wz).alloc (Nat.le_refl _) _).alloc (by simp) _).drew)
              have HBC : Hid (Below wz.heap.size wz ((wz.alloc (.cells #[.int .i64 x] 3)).alloc (.cells #[] 3)).drew) := Lib.hid ((((Below.refl wz.heap.size wz).alloc (Nat.le_refl _) _).alloc (by simp) _).drew)
              go_region_held3 (fun w' => w'.cell? ⟨b2, k, none⟩ = some (.int .i64 u) ∧ w'.cell? ⟨P, u.toNat, none⟩ = some (.slice (some ⟨bu, 0, none⟩) wu.length capu) ∧ w'.cell? ⟨gl, m, none⟩ = some (.int .i64 x))
                (first | go_keep | (exact ⟨(hc1 _ _ hb2z).trans k0, (hc1 _ _ hPz).trans k1, (hc1 _ _ hglz).trans k2⟩) | (exact ⟨HN0.out _ _ ((hc1 _ _ hb2z).trans k0), HN1.out _ _ _ ((hc1 _ _ hPz).trans k1), HN2.out _ _ ((hc1 _ _ hglz).trans k2)⟩) | (exact ⟨(hc0 _ _ hb2z).trans k0, (hc0 _ _ hPz).trans k1, (hc0 _ _ hglz).trans k2⟩))
                (first
                  | (refine step_append_ints rfl (.tmp 67) (.tmp 74) rfl wz.heap.size _ [] (OwI_litN _ [] wz.heap.size (by simp [World.drew, World.drewN]) I64s_nil (by simp) (Nat.le_refl _)) (by rfl) _ wu ?_ (by rfl) (by simp; omega) (by simp) ?_; (exact hRR.out); intro v1 w1 o1 g1 p1; rw [List.nil_append] at o1; have hb0 := (((Below.refl wz.heap.size wz).drew).alloc (Nat.le_refl _) (.cells #[] 3)); have hb1 := hb0.grown g1 hb0.size (fun k hk => by simp [Value.ownBlock] at hk; omega); have O1 := Lib.hid o1; have B1 := Lib.hid hb1; obtain ⟨hc0, hf0⟩ := bcellN hb1; have hz1 := hb1.size; clear o1 hb0 hb1 g1 p1 hRR HRB HRC HOB HOC HXB HXC HBB HBC)
                  | (refine step_append_ints rfl (.tmp 67) (.tmp 74) rfl wz.heap.size _ [] HOB.out (by rfl) _ wu HRB.out (by rfl) (by simp; omega) HBB.out.size ?_; intro v1 w1 o1 g1 p1; rw [List.nil_append] at o1; have hb1 := HBB.out.grown g1 HBB.out.size (fun k hk => by simp [Value.ownBlock] at hk; omega); have HX := Lib.hid (HXB.out.grown g1 (fun b e1 e2 => by simp [Value.ownBlock] at e1 e2; omega)); have O1 := Lib.hid o1; have B1 := Lib.hid hb1; obtain ⟨hc0, hf0⟩ := bcellN hb1; have hz1 := hb1.size; clear o1 hb1 g1 p1 hRR HRB HRC HOB HOC HXB HXC HBB HBC)
                  | (refine step_append_ints rfl (.tmp 67) (.tmp 74) rfl wz.heap.size _ [] HOC.out (by rfl) _ wu HRC.out (by rfl) (by simp; omega) HBC.out.size ?_; intro v1 w1 o1 g1 p1; rw [List.nil_append] at o1; have hb1 := HBC.out.grown g1 HBC.out.size (fun k hk => by simp [Value.ownBlock] at hk; omega); have HX := Lib.hid (HXC.out.grown g1 (fun b e1 e2 => by simp [Value.ownBlock] at e1 e2; omega)); have O1 := Lib.hid o1; have B1 := Lib.hid hb1; obtain ⟨hc0, hf0⟩ := bcellN hb1; have hz1 := hb1.size; clear o1 hb1 g1 p1 hRR HRB HRC HOB HOC HXB HXC HBB HBC)
                  | (refine step_append_ints rfl (.tmp 75) (.tmp 80) rfl wz.heap.size _ wu (O1.out.alloc _) (by rfl) _ [x] (RdI_new1 _ x HX64.out) (by rfl) (by simp; omega) (by simp; omega) ?_; intro v2 w2 o2 g2 p2; have hb2 := ((B1.out.alloc hz1 (.cells #[.int .i64 x] 3)).grown g2 (by simp; omega) (fun k hk => (O1.out.1.lt k hk).1)); have B2 := Lib.hid hb2; obtain ⟨hc1, hf1⟩ := bcellN hb2; have k5 := (hf1 _ _ hPz).trans k4; have k6 := (hc1 _ _ hPz).trans k3; have hz2 := hb2.size; obtain ⟨A8, c8, hv2, _, _, _, hf8⟩ := OwI.form o2; obtain ⟨b8, hA8, hb81, hb82⟩ := hf8 (by simp); rw [List.length_append, List.length_singleton, hA8] at hv2; subst hv2; have O2 := Lib.hid o2; clear o2 hb2 g2 p2 hz1 B1 hf8)
                  | (refine step_append_ints rfl (.tmp 75) (.tmp 80) rfl wz.heap.size _ wu O1.out (by rfl) _ [x] HX.out (by rfl) (by simp; omega) hz1 ?_; intro v2 w2 o2 g2 p2; have hb2 := (B1.out.grown g2 hz1 (fun k hk => (O1.out.1.lt k hk).1)); have B2 := Lib.hid hb2; obtain ⟨hc1, hf1⟩ := bcellN hb2; have k5 := (hf1 _ _ hPz).trans k4; have k6 := (hc1 _ _ hPz).trans k3; have hz2 := hb2.size; obtain ⟨A8, c8, hv2, _, _, _, hf8⟩ := OwI.form o2; obtain ⟨b8, hA8, hb81, hb82⟩ := hf8 (by simp); rw [List.length_append, List.length_singleton, hA8] at hv2; subst hv2; have O2 := Lib.hid o2; clear o2 hb2 g2 p2 hz1 B1 HX hf8))
              all_goals (
  have hgS : w2.grownBy (w2.setCell ⟨P, yn, none⟩ (.slice (some ⟨b8, 0, none⟩) (wu.length + 1) c8)) (some P) := set_grown _ _ _ _
  have hPw2 : P < w2.heap.size := by omega
  have TWS := (HTZ.out.below B2.out).set (b := b8) (cap := c8) hynN HWY2.out (by have h := O2.out.rd; rw [List.length_append, List.length_singleton]; exact h) (by simp; omega) (by omega) (fun e => by simp [Value.ownBlock] at e; omega) hb82
  simp only [List.length_append, List.length_cons, List.length_nil, Nat.zero_add] at TWS
  have HTS := Lib.hid TWS
  have HOS : Hid (OwI (w2.setCell ⟨P, yn, none⟩ (.slice (some ⟨b8, 0, none⟩) (wu.length + 1) c8)) (P + 1) (.slice (some ⟨b2, 0, none⟩) om.length cap2) om) := Lib.hid ((HOZ.out.below B2.out).far (p := ⟨P, yn, none⟩) (by show P < P + 1; omega) _)
  have HSS : Hid (OwB (w2.setCell ⟨P, yn, none⟩ (.slice (some ⟨b8, 0, none⟩) (wu.length + 1) c8)) S (.slice (some ⟨S, 0, none⟩) N N) (snL N (om ++ [(yn : Int)]))) := Lib.hid (World.ownsRow.kept (HSZ.out.below B2.out) hgS (.inr fun e => by simp [Value.ownBlock] at e; omega))
  have HRS : Hid (RdI (w2.setCell ⟨P, yn, none⟩ (.slice (some ⟨b8, 0, none⟩) (wu.length + 1) c8)) (.slice (some ⟨gl, 0, none⟩) ls.length capl) ls) := Lib.hid ((HRZ.out.below B2.out).grown hgS fun b hb hb' => by simp [Value.ownBlock] at hb hb'; omega)
  have HBS : Hid (Below (w.heap.size + 1) W1 (w2.setCell ⟨P, yn, none⟩ (.slice (some ⟨b8, 0, none⟩) (wu.length + 1) c8))) := Lib.hid ((HBZ.out.trans (B2.out.mono (by omega))).setCell (by show w.heap.size + 1 ≤ P; omega) _)
  have hsS : (w2.setCell ⟨P, yn, none⟩ (.slice (some ⟨b8, 0, none⟩) (wu.length + 1) c8)).heap.size = w2.heap.size := by simp
  generalize w2.setCell ⟨P, yn, none⟩ (.slice (some ⟨b8, 0, none⟩) (wu.length + 1) c8) = wT at *
  clear k0 k1 k2 k3 k4 k5 k6 TWS hgS hc1 hf1
  have hwT1 : w2.heap.size ≤ wT.heap.size := by omega
  have hwT2 : wT.heap.size ≤ w2.heap.size := by omega
  clear hsS
  go_wp2_with (at_builtin; refine push_int rfl (.tmp 83) (.tmp 85) rfl _ _ _ (OwI.alloc HOS.out _) rfl _ _ rfl (cell_new1 _ _ _) HY.out (by first | omega | (simp <;> omega)) (by first | omega | (simp <;> omega)) ?_; intro v9 wv9 o9 g9 p9)
  have hz9 := g9.size
  simp at hz9
  go_roundw
  case rel =>
    refine ⟨m + 1, by omega, by go_num, by rw [HS.out, F0.out]; exact o9, by rw [HS.out, F0.out]; exact HTS.out.push g9 p9, by rw [HS.out, F0.out]; exact World.ownsRow.kept (HSS.out.alloc _) g9 (.inr fun e => by simp [Value.ownBlock] at e; omega), (HRS.out.alloc _).grown g9 (fun b hb hb' => ?_), fun e => ?_, by omega, bel_push HBS.out (by omega) HOS.out.1 (by omega) g9⟩
    · simp only [Value.ownBlock, Option.some.injEq] at hb
      subst hb
      exact HNR.out hb'
    · rcases p9 with p9 | p9
      · rw [p9] at e; exact HNR.out e
      · rw [p9] at e; simp at e; omega
  case measure => simp [intOf]; omega)
            · have F0 := Lib.hid (N1.out hy0 h1)
              rw [decide_eq_true (hasB_iff.1 h1)] at cS
              go_wp2
              go_roundw
              case rel => exact ⟨m + 1, by omega, by go_num, by rw [HS.out, F0.out]; exact HOQ.out, by rw [HS.out, F0.out]; exact HTQ.out, by rw [HS.out, F0.out]; exact HSQ.out, HRQ.out, HNR.out, by omega, HQ.out⟩
              case measure => simp [intOf]; omega
        · obtain rfl : m = ls.length := by omega
          rw [List.take_length] at hown HTW2 HSN2
          have hokm := HOKm.out ls.length
          rw [List.take_length] at hokm
          have HOKF := Lib.hid hokm
          have HOM := Lib.hid hown
          have hlen : k + 1 ≤ (ls.foldl (cstep g.2.2 u) o).length := by
            have := HPU.out ls.length
            rw [List.take_length] at this
            have := (List.getElem?_eq_some_iff.1 this).1
            omega
          obtain ⟨A2, cap2, rfl, _⟩ := hown.form
          clear hown hrd hne hokm
          go_wp2
          go_roundw
          case rel => exact ⟨k + 1, _, hlen, by go_num, HOKF.out, HTS1.out, HCF.out, HOM.out, HTW2.out, HSN2.out, HRR.out, HNR.out, hblr, HBI.out⟩
          case measure => simp [intOf]; omega
    · obtain rfl : k = o.length := by omega
      have F' : Hid (canO g = o) := Lib.hid (by rw [HC.out, canF_end])
      have HBW : Hid (Below w.heap.size w wo) := Lib.hid (BX.out.trans (HB2.out.mono (by omega)))
      have HTF : Hid (TreeX F w.heap.size P N wo (.slice A1 o.length cap1) o) := Lib.hid (HTW.out.base (by omega))
      clear hown hf2
      go_wp2
      exact bodyPost_ret (v := .tuple #[.slice (some ⟨S, 0, none⟩) N N, .slice (some ⟨P, 0, none⟩) N N]) (by simp [results, Tryz.results156]) rfl ⟨S, P, _, rfl, by rw [F'.out]; exact OwB.mono HSN.out (by omega), by rw [F'.out]; exact HTF.out, HBW.out⟩
set_option maxHeartbeats 2000000 in
theorem specPathWord_any (v : Value) (g : GrD) (y : Int) (w : World) (h : ArgG w v g) (hf : foldB g = true) (hy : y ∈ canO g) :
    Calls Tryz.prog 143 #[v, .int .i64 0, .int .i64 y] w fun e w' => ∃ r, e = .returned (.tuple #[r, .bool true]) ∧ OwI w' w.heap.size r (wdO g y) ∧ Below w.heap.size w w' := by
  have HG := Lib.hid h
  have HF := Lib.hid hf
  obtain ⟨hg, hfol⟩ := foldB_parts hf
  obtain ⟨hr13, hsz40, hl120, _⟩ := grB_parts hg
  have hyr := (canO_ok hg).2.1 y hy
  have hwl := wd_len hg hy
  have HYM := Lib.hid hy
  obtain ⟨s, rfl, hi1, hi2, ha⟩ := h
  obtain ⟨A, cap, rfl⟩ := ha.form
  have HSE := Lib.hid (fun W' (h : ArgG W' (.agg #[.int .i64 g.1, .int .i64 g.2.1, .slice A g.2.2.length cap]) g) => l5Search_any _ g W' h hf)
  have HFO := Lib.hid (fun W' (h : ArgG W' (.agg #[.int .i64 g.1, .int .i64 g.2.1, .slice A g.2.2.length cap]) g) => specIsFolded_any _ g W' h)
  rw [HF.out] at HFO
  obtain ⟨O, hO⟩ : ∃ O, O = canO g := ⟨_, rfl⟩
  obtain ⟨F, hFF⟩ : ∃ F, F = wdO g := ⟨_, rfl⟩
  rw [← hO] at HYM HSE
  rw [← hFF] at HSE hwl ⊢
  obtain ⟨g1, n, es⟩ := g
  simp only at *
  clear hO hFF hy hg hfol ha hf
  obtain ⟨N, rfl⟩ : ∃ N : Nat, n = (N : Int) := ⟨n.toNat, by omega⟩
  simp only [Int.toNat_natCast] at HSE
  obtain ⟨yn, rfl⟩ : ∃ yn : Nat, y = (yn : Int) := ⟨y.toNat, by omega⟩
  have hwn : IntKind.i64.wrap ((N : Int) - 1) = (N : Int) - 1 := by rw [IntKind.wrap_i64]; omega
  have hin0 : inB 0 0 ((N : Int) - 1) = true := by unfold inB; simp; omega
  have hiny : inB (yn : Int) 0 ((N : Int) - 1) = true := by unfold inB; simp; omega
  have hy0 : (0 : Int) ≤ (yn : Int) := by omega
  have hyN : (yn : Int) < (N : Int) := hyr.2
  have hynN : yn < N := by omega
  obtain ⟨wu, hwu⟩ : ∃ wu, wu = F (yn : Int) := ⟨_, rfl⟩
  rw [← hwu] at hwl ⊢
  have HWU := Lib.hid hwu
  clear hwu
  go_enter Tryz.func143, Tryz.ntmps143
  go_wp2_with fail
  obtain ⟨W, hW⟩ : ∃ W, W = w.alloc (Obj.cells #[Value.int IntKind.i64 g1, Value.int IntKind.i64 (N : Int), .slice A es.length cap] 45) := ⟨_, rfl⟩
  obtain ⟨hsW, b1, hc1⟩ := gboxE hW
  rw [← hW]
  have BX := Lib.hid b1
  have HCL := Lib.hid hc1
  have HA : Hid (∀ w', Below (w.heap.size + 1) W w' → ArgG w' (.agg #[.int .i64 g1, .int .i64 (N : Int), .slice A es.length cap]) (g1, (N : Int), es)) := Lib.hid fun w' hb => HG.out.below (BX.out.trans (hb.mono (by omega)))
  have hW1 : w.heap.size + 1 ≤ W.heap.size := by omega
  clear hW hc1 b1 hsW
  refine (HFO.out W (HA.out W ((Below.refl W.heap.size W).mono (by omega)))).mono ?_
  rintro e w2 ⟨rfl, b2⟩
  have hs2 := b2.size
  have B2 : Hid (Below (w.heap.size + 1) W w2) := Lib.hid (b2.mono hW1)
  clear b2
  obtain ⟨q0, q1, q2⟩ := HCL.out w2 B2.out
  go_wp2_with (go_at_call 78; refine (l1In_any _ _ _ _).mono ?_; rintro e w' ⟨rfl, rfl⟩)
  refine (HSE.out w2 (HA.out w2 B2.out)).mono ?_
  rintro e w3 ⟨S, P, ord, rfl, sn, tx, b3⟩
  have hs3 := b3.size
  have B3 : Hid (Below (w.heap.size + 1) W w3) := Lib.hid (B2.out.trans (b3.mono (by omega)))
  have cS := OwB.cellAt sn yn (by rw [snL_len]; exact hynN)
  rw [snL_get N O yn hynN, decide_eq_true HYM.out] at cS
  obtain ⟨bu, capu, cu, _, hru, hbu, hPb0⟩ := tx.at_old hynN HYM.out
  rw [← HWU.out] at cu hru
  have hPb : P < w3.heap.size := by omega
  have cu2 := ((((Below.refl w3.heap.size w3).alloc (Nat.le_refl _) (.cells #[] 3))).cell (p := ⟨P, yn, none⟩) hPb).trans cu
  have HRU := Lib.hid hru
  have HBF := Lib.hid (BX.out.trans (B3.out.mono (by omega)))
  clear sn tx b3 hru q0 q1 q2
  go_wp2_with (at_builtin; refine append_ints rfl (.tmp 42) (.tmp 46) rfl w3.heap.size _ [] (OwI_lit w3 [] I64s_nil (by simp) (Nat.le_refl _)) rfl _ wu (HRU.out.alloc _) rfl (by simp; omega) (by simp) ?_; intro v6 w6 o6 g6 p6; rw [List.nil_append] at o6; have O6 := Lib.hid o6; have B6 : Hid (Below w3.heap.size w3 w6) := Lib.hid (((Below.refl w3.heap.size w3).alloc (Nat.le_refl _) (.cells #[] 3)).grown g6 (by simp) (fun k hk => by simp [Value.ownBlock] at hk; omega)); clear o6 g6 p6)
  have HB := Lib.hid (HBF.out.trans (B6.out.mono (by omega)))
  exact bodyPost_ret (v := .tuple #[v6, .bool true]) (by simp [results, Tryz.results143]) rfl ⟨_, rfl, O6.out.mono (by omega), HB.out⟩
set_option maxHeartbeats 1000000 in
theorem specTreeWord_any (v : Value) (g : GrD) (y : Int) (w : World) (h : ArgG w v g) (hf : foldB g = true) (hy : y ∈ canO g) :
    Calls Tryz.prog 114 #[v, .int .i64 y] w fun e w' => ∃ r, e = .returned r ∧ OwI w' w.heap.size r (wdO g y) ∧ Below w.heap.size w w' := by
  have HG := Lib.hid h
  obtain ⟨s, rfl, hi1, hi2, ha⟩ := h
  obtain ⟨A, cap, rfl⟩ := ha.form
  have HPW := Lib.hid (fun W' (h : ArgG W' (.agg #[.int .i64 g.1, .int .i64 g.2.1, .slice A g.2.2.length cap]) g) => specPathWord_any _ g y W' h hf hy)
  obtain ⟨g1, n, es⟩ := g
  simp only at *
  generalize wdO (g1, n, es) y = wu at *
  clear ha hf hy
  go_enter Tryz.func114, Tryz.ntmps114
  go_wp2_with fail
  obtain ⟨W, hW⟩ : ∃ W, W = w.alloc (Obj.cells #[Value.int IntKind.i64 g1, Value.int IntKind.i64 n, .slice A es.length cap] 45) := ⟨_, rfl⟩
  obtain ⟨hsW, b1, hc1⟩ := gboxE hW
  rw [← hW]
  have BX := Lib.hid b1
  have hW1 : w.heap.size + 1 ≤ W.heap.size := by omega
  clear hW hc1 b1 hsW
  refine (HPW.out W (HG.out.below BX.out)).mono ?_
  rintro e w3 ⟨r3, rfl, o3, b3⟩
  have O3 := Lib.hid o3
  have HB := Lib.hid (BX.out.trans (b3.mono (by omega)))
  clear o3 b3
  go_wp2
  go_ret
  exact ⟨_, rfl, O3.out.mono (by omega), HB.out⟩
set_option maxHeartbeats 2000000 in
theorem specLoopOf_any (v : Value) (g : GrD) (e : EdD) (w : World) (h : ArgG w v g) (hf : foldB g = true) (he : e ∈ g.2.2) (h1 : e.1 ∈ canO g) (h3 : e.2.2 ∈ canO g) :
    Calls Tryz.prog 77 #[v, edV e] w fun x w' => ∃ r, x = .returned r ∧ OwI w' w.heap.size r (redL [] ((wdO g e.1 ++ [e.2.1]) ++ invL (wdO g e.2.2))) ∧ Below w.heap.size w w' := by
  have HG := Lib.hid h
  have HF := Lib.hid hf
  have HE := Lib.hid he
  obtain ⟨hg, hfol⟩ := foldB_parts hf
  obtain ⟨hr13, hsz40, hl120, _⟩ := grB_parts hg
  have hl1 := wd_len hg h1
  have hl3 := wd_len hg h3
  have hxr := (edge_of_gr hg he).2.1
  obtain ⟨s, rfl, hi1, hi2, ha⟩ := h
  obtain ⟨A, cap, rfl⟩ := ha.form
  have HT1 := Lib.hid (fun W' (h : ArgG W' (.agg #[.int .i64 g.1, .int .i64 g.2.1, .slice A g.2.2.length cap]) g) => specTreeWord_any _ g e.1 W' h hf h1)
  have HT3 := Lib.hid (fun W' (h : ArgG W' (.agg #[.int .i64 g.1, .int .i64 g.2.1, .slice A g.2.2.length cap]) g) => specTreeWord_any _ g e.2.2 W' h hf h3)
  have HFO := Lib.hid (fun W' (h : ArgG W' (.agg #[.int .i64 g.1, .int .i64 g.2.1, .slice A g.2.2.length cap]) g) => specIsFolded_any _ g W' h)
  rw [HF.out] at HFO
  obtain ⟨u1, hu1⟩ : ∃ u, u = wdO g e.1 := ⟨_, rfl⟩
  obtain ⟨u3, hu3⟩ : ∃ u, u = wdO g e.2.2 := ⟨_, rfl⟩
  rw [← hu1] at HT1 hl1 ⊢
  rw [← hu3] at HT3 hl3 ⊢
  obtain ⟨g1, n, es⟩ := g
  obtain ⟨e1, x, e3⟩ := e
  simp only at *
  have HX64 : Hid (I64 x) := Lib.hid ⟨by omega, by omega⟩
  clear hu1 hu3 hg hfol ha hf he h1 h3 hxr hr13
  unfold edV
  simp only
  have HEQ : Hid (∀ (y : EdD) (w : World), (binOp .eql 78 (edV y) (edV (e1, x, e3))).run Tryz.prog w = .ok (.bool (decide (y = (e1, x, e3)))) w) := Lib.hid fun y w => edge_eql y (e1, x, e3) w
  have hgd := edge_guard
  have HMT : Hid (∀ m (hm : m < es.length), decide ((e1, x, e3) ∈ es.take (m + 1)) = (decide ((e1, x, e3) ∈ es.take m) || decide (es[m] = (e1, x, e3)))) := Lib.hid fun m hm => by
    rw [List.take_succ_eq_append_getElem hm, Bool.eq_iff_iff]
    simp only [List.mem_append, List.mem_singleton, decide_eq_true_eq, Bool.or_eq_true]
    exact ⟨fun h => h.imp_right Eq.symm, fun h => h.imp_right Eq.symm⟩
  obtain ⟨W1, hW1⟩ : ∃ W, W = w.alloc (Obj.cells #[Value.int IntKind.i64 g1, Value.int IntKind.i64 n, .slice A es.length cap] 45) := ⟨_, rfl⟩
  obtain ⟨hs1, b1, hc1⟩ := gboxE hW1
  obtain ⟨W, hW⟩ : ∃ W, W = W1.alloc (Obj.cells #[Value.int IntKind.i64 e1, Value.int IntKind.i64 x, Value.int IntKind.i64 e3] 78) := ⟨_, rfl⟩
  obtain ⟨hs2, b2, hc2⟩ := gboxE hW
  rw [hs1] at hc2
  have HC1 := Lib.hid hc1
  have HC2 := Lib.hid hc2
  have BX : Hid (Below w.heap.size w W) := Lib.hid (b1.trans (b2.mono (by omega)))
  have B12 : Hid (Below (w.heap.size + 1) W1 W) := Lib.hid (b2.mono (by omega))
  have HCL : Hid (∀ w', Below (w.heap.size + 2) W w' → w'.cell? ⟨w.heap.size, 0, none⟩ = some (.int .i64 g1) ∧ w'.cell? ⟨w.heap.size, 1, none⟩ = some (.int .i64 n) ∧ w'.cell? ⟨w.heap.size, 2, none⟩ = some (.slice A es.length cap)) := Lib.hid fun w' hb => HC1.out w' (B12.out.trans (hb.mono (by omega)))
  have HCE : Hid (∀ w', Below (w.heap.size + 2) W w' → w'.cell? ⟨w.heap.size + 1, 0, none⟩ = some (.int .i64 e1) ∧ w'.cell? ⟨w.heap.size + 1, 1, none⟩ = some (.int .i64 x) ∧ w'.cell? ⟨w.heap.size + 1, 2, none⟩ = some (.int .i64 e3)) := Lib.hid fun w' hb => HC2.out w' hb
  have HA : Hid (∀ w', Below (w.heap.size + 2) W w' → ArgG w' (.agg #[.int .i64 g1, .int .i64 n, .slice A es.length cap]) (g1, n, es)) := Lib.hid fun w' hb => HG.out.below (BX.out.trans (hb.mono (by omega)))
  have HW1 := Lib.hid hW1
  have HW := Lib.hid hW
  have hWs : w.heap.size + 2 ≤ W.heap.size := by omega
  clear hW1 hW hc1 hc2 b1 b2 hs1 hs2 HC1 HC2
  go_enter Tryz.func77, Tryz.ntmps77
  go_wp2_with fail
  rw [← HW1.out, ← HW.out]
  go_loopw [5, 6] (fun f j wr => ∃ m : Nat, m ≤ es.length ∧ j = .int .i64 m ∧ f = .bool (decide ((e1, x, e3) ∈ es.take m)) ∧ ∃ q, wr = W.drewN q) (fun _ j _ => es.length - (intOf j).toNat)
  case atStart => exact ⟨0, Nat.zero_le _, rfl, by simp, 0, rfl⟩
  case round =>
    obtain ⟨m, hm, rfl, rfl, q, rfl⟩ := hrel
    obtain ⟨q0, q1, q2⟩ := HCL.out W ((Below.refl W.heap.size W).mono hWs)
    obtain ⟨z0, z1, z2⟩ := HCE.out W ((Below.refl W.heap.size W).mono hWs)
    by_cases hlt2 : m < es.length
    · have HMm := Lib.hid (HMT.out m hlt2)
      have hmI : (m : Int) < (es.length : Int) := by omega
      rcases ef : decide ((e1, x, e3) ∈ es.take m) with _ | _
      rotate_left
      · have F : Hid (decide ((e1, x, e3) ∈ es.take (m + 1)) = true) := Lib.hid (by rw [HMm.out, ef]; rfl)
        clear ef
        go_wp2
        go_quiet (fail)
        go_wp2
        go_roundw
        case rel => exact ⟨m + 1, by omega, by go_num, by rw [F.out], _, rfl⟩
        case measure => simp [intOf]; omega
      · obtain ⟨_, _, hIN, hAE, _, _⟩ := (HA.out W ((Below.refl W.heap.size W).mono hWs)).inner
        injection hIN with i1 i2 i3
        subst i1 i3
        clear i2
        obtain ⟨bt, offt, rfl, hbt, d0, d1, d2, _⟩ := hAE.at hlt2
        have heql := fun w => HEQ.out es[m] w
        unfold edV at heql
        obtain ⟨be, hbe⟩ : ∃ be, be = decide (es[m] = (e1, x, e3)) := ⟨_, rfl⟩
        rw [← hbe] at heql
        have F : Hid (decide ((e1, x, e3) ∈ es.take (m + 1)) = be) := Lib.hid (by rw [HMm.out, ef, ← hbe]; rfl)
        clear hbe ef hAE
        generalize es[m] = y at *
        obtain ⟨y1, y2, y3⟩ := y
        simp only at *
        go_wp2
        go_quiet (fail)
        go_wp2
        go_roundw
        case rel => exact ⟨m + 1, by omega, by go_num, by rw [F.out], _, rfl⟩
        case measure => simp [intOf]; omega
    · obtain rfl : m = es.length := by omega
      have B6 : Below W.heap.size W (W.drewN q) := bel_drewN (Below.refl _ _) q
      have hfin : decide ((e1, x, e3) ∈ es.take es.length) = true := by rw [List.take_length]; exact decide_eq_true HE.out
      generalize W.drewN q = w3 at *
      have HB3 : Hid (Below (w.heap.size + 2) W w3) := Lib.hid (B6.mono hWs)
      clear q0 q1 q2 z0 z1 z2 B6
      obtain ⟨q0, q1, q2⟩ := HCL.out w3 HB3.out
      rw [hfin]
      clear hfin
      go_wp2_with fail
      refine (HFO.out w3 (HA.out w3 HB3.out)).mono ?_
      rintro e w4 ⟨rfl, b4⟩
      have HB4 : Hid (Below (w.heap.size + 2) W w4) := Lib.hid (HB3.out.trans (b4.mono (by have := HB3.out.size; omega)))
      clear b4 q0 q1 q2
      obtain ⟨q0, q1, q2⟩ := HCL.out w4 HB4.out
      obtain ⟨z0, z1, z2⟩ := HCE.out w4 HB4.out
      have hw4 := HB4.out.size
      go_wp2_with fail
      have HDd : Hid (Below w4.heap.size w4 w4.drew) := Lib.hid (Below.refl w4.heap.size w4).drew
      have HDa : Hid (Below w4.heap.size w4 (w4.alloc (.cells #[.int .i64 x] 3)).drew) := Lib.hid (((Below.refl w4.heap.size w4).alloc (Nat.le_refl _) _).drew)
      have HRX : Hid (RdI (w4.alloc (.cells #[.int .i64 x] 3)).drew (.slice (some ⟨w4.heap.size, 0, none⟩) 1 1) [x]) := Lib.hid (RdI_new1 w4 x HX64.out).drew
      have HUP : Hid (∀ w', Below w4.heap.size w4 w' → Below (w.heap.size + 2) W w') := Lib.hid fun w' hb => HB4.out.trans (hb.mono (by omega))
      have hgb : w.heap.size < w4.heap.size := by omega
      have heb : w.heap.size + 1 < w4.heap.size := by omega
      go_region_held3 (fun w' => w'.cell? ⟨w.heap.size, 0, none⟩ = some (.int .i64 g1) ∧ w'.cell? ⟨w.heap.size, 1, none⟩ = some (.int .i64 n) ∧ w'.cell? ⟨w.heap.size, 2, none⟩ = some (.slice A es.length cap) ∧ w'.cell? ⟨w.heap.size + 1, 0, none⟩ = some (.int .i64 e1) ∧ w'.cell? ⟨w.heap.size + 1, 1, none⟩ = some (.int .i64 x) ∧ w'.cell? ⟨w.heap.size + 1, 2, none⟩ = some (.int .i64 e3))
        (first | go_keep | exact ⟨s0, s1, s2, t0, t1, t2⟩)
        (first
          | (go_at_call 114; (with_reducible refine (HT1.out _ (HA.out _ (HUP.out _ HDd.out))).mono ?_); rintro e w5 ⟨r5, rfl, o5, b5⟩; have HB5 : Hid (Below w4.heap.size w4 w5) := Lib.hid (HDd.out.trans (b5.mono HDd.out.size)); have HR5 := Lib.hid (o5.mono HDd.out.size); have hs5 := HB5.out.size; obtain ⟨s0, s1, s2⟩ := HCL.out w5 (HUP.out w5 HB5.out); obtain ⟨t0, t1, t2⟩ := HCE.out w5 (HUP.out w5 HB5.out); clear o5 b5 HDd HDa HRX)
          | (go_at_call 114; (with_reducible refine (HT1.out _ (HA.out _ (HUP.out _ HDa.out))).mono ?_); rintro e w5 ⟨r5, rfl, o5, b5⟩; have HB5 : Hid (Below w4.heap.size w4 w5) := Lib.hid (HDa.out.trans (b5.mono HDa.out.size)); have HR5 := Lib.hid (o5.mono HDa.out.size); have HX5 := Lib.hid (HRX.out.below b5); have hs5 := HB5.out.size; obtain ⟨s0, s1, s2⟩ := HCL.out w5 (HUP.out w5 HB5.out); obtain ⟨t0, t1, t2⟩ := HCE.out w5 (HUP.out w5 HB5.out); clear o5 b5 HDd HDa HRX)
          | (refine step_append_ints rfl (.tmp 35) (.tmp 38) rfl w4.heap.size _ u1 HR5.out (by rfl) _ [x] HX5.out (by rfl) (by simp; omega) hs5 ?_; intro v6 w6 o6 g6 p6; have HB6 : Hid (Below w4.heap.size w4 w6) := Lib.hid (HB5.out.grown g6 hs5 (fun c hc => (HR5.out.1.lt c hc).1)); have HR6 := Lib.hid o6; have hs6 := HB6.out.size; obtain ⟨s0, s1, s2⟩ := HCL.out w6 (HUP.out w6 HB6.out); obtain ⟨t0, t1, t2⟩ := HCE.out w6 (HUP.out w6 HB6.out); clear o6 g6 p6 HR5 HX5)
          | (refine step_append_ints rfl (.tmp 35) (.tmp 38) rfl w4.heap.size _ u1 (HR5.out.alloc _) (by rfl) _ [x] (RdI_new1 _ x HX64.out) (by rfl) (by simp; omega) (by simp; omega) ?_; intro v6 w6 o6 g6 p6; have HB6 : Hid (Below w4.heap.size w4 w6) := Lib.hid ((HB5.out.alloc hs5 _).grown g6 (by simp; omega) (fun c hc => (HR5.out.1.lt c hc).1)); have HR6 := Lib.hid o6; have hs6 := HB6.out.size; obtain ⟨s0, s1, s2⟩ := HCL.out w6 (HUP.out w6 HB6.out); obtain ⟨t0, t1, t2⟩ := HCE.out w6 (HUP.out w6 HB6.out); clear o6 g6 p6 HR5)
          | (go_at_call 114; (with_reducible refine (HT3.out _ (HA.out _ (HUP.out _ HB6.out))).mono ?_); rintro e w7 ⟨r7, rfl, o7, b7⟩; have HB7 : Hid (Below w4.heap.size w4 w7) := Lib.hid (HB6.out.trans (b7.mono hs6)); have HR7 := Lib.hid o7.rd; have HM7 := Lib.hid (HR6.out.below b7); have hs7 := HB7.out.size; obtain ⟨s0, s1, s2⟩ := HCL.out w7 (HUP.out w7 HB7.out); obtain ⟨t0, t1, t2⟩ := HCE.out w7 (HUP.out w7 HB7.out); clear o7 b7 HR6 HB6)
          | (go_at_call 115; (with_reducible refine (specInvertWord_any _ u3 _ HR7.out (by omega)).mono ?_); rintro e w8 ⟨r8, rfl, o8, b8⟩; have HB8 : Hid (Below w4.heap.size w4 w8) := Lib.hid (HB7.out.trans (b8.mono hs7)); have HR8 := Lib.hid o8.rd; have HM8 := Lib.hid (HM7.out.below b8); have hs8 := HB8.out.size; obtain ⟨s0, s1, s2⟩ := HCL.out w8 (HUP.out w8 HB8.out); obtain ⟨t0, t1, t2⟩ := HCE.out w8 (HUP.out w8 HB8.out); clear o8 b8 HR7 HM7 HB7)
          | (go_at_call 113; (with_reducible refine (specMultiplyWords_any _ _ (u1 ++ [x]) (invL u3) _ HM8.out.rd HR8.out (by simp; omega) (by rw [invL_length]; omega)).mono ?_); rintro e w9 ⟨r9, rfl, o9, b9⟩; have HB9 : Hid (Below w4.heap.size w4 w9) := Lib.hid (HB8.out.trans (b9.mono hs8)); have HR9 := Lib.hid (o9.mono hs8); have hs9 := HB9.out.size; obtain ⟨s0, s1, s2⟩ := HCL.out w9 (HUP.out w9 HB9.out); obtain ⟨t0, t1, t2⟩ := HCE.out w9 (HUP.out w9 HB9.out); clear o9 b9 HR8 HM8 HB8))
      all_goals (
        have HBF := Lib.hid (BX.out.trans ((HUP.out _ HB9.out).mono (by omega)))
        go_wp2
        go_ret
        exact ⟨_, rfl, HR9.out.mono (by omega), HBF.out⟩)
theorem push_intsF {w0 w : World} {v : Value} {L : List (List Int)} {F : List Nat} {ops : Array Oper} {rest : List Oper} {o : Oper} {a : Act} {Q : Exit → Act → World → Prop} (hgd : o.guard = none) (s x : Operand)
    (ho : o.op = .call { callee := .builtin .append, args := #[s, x], argTypes := #[41, 41] })
    (hown : OwLf EI 33 1 w0 v L F) (hnF : F.Nodup) (hF : ∀ b ∈ F, b < w0.heap.size) (hbel : Below w0.heap.size w0 w) (hs : a.eval s = v) (b : Nat) (z : Value) (d : List Int) {base : Nat} (hx : a.eval x = .slice (some ⟨b, 0, none⟩) 1 1)
    (hel : OwI w base z d) (hbase : w0.heap.size ≤ base) (hc : w.cell? ⟨b, 0, none⟩ = some z) (hz : z.oneCell' = true) (hl : L.length ≤ 1073741824)
    (h : ∀ v' w' F', OwLf EI 33 1 w' v' (L ++ [d]) F' → F'.Nodup → (∀ b ∈ F', (b ∈ F ∨ w0.heap.size ≤ b) ∧ b < w'.heap.size) → w.grownBy w' v.ownBlock → wpList Tryz.prog ops Q rest (a.put o.dst v') w') :
    wpList Tryz.prog ops Q (o :: rest) a w := by
  obtain ⟨i0, hi0, hz0, hz1, hz2⟩ := info_parts ints_info
  refine push_ownF EI.stable hgd s x ho Tryz.underlying41 hi0 hz0 hz1 hz2 rfl (by decide) (by decide) hown hnF hF hbel hs b [z] d _ hx (EI.of hel) rfl ?_ ?_ ?_ ?_ hl h
  · cases z.ownBlock <;> simp
  · intro k hk
    have := hel.1.lt k (by simpa using hk)
    omega
  · intro j u hj
    match j, hj with
    | 0, hj => simp at hj; subst hj; exact hc
  · intro u hu; simp at hu; subst hu; exact hz
set_option maxHeartbeats 2000000 in
theorem specBasisOf_any (v : Value) (g : GrD) (w : World) (h : ArgG w v g) :
    Calls Tryz.prog 48 #[v] w fun e w' => ∃ r, e = .returned r ∧ OwII w.heap.size w'.heap.size r (basF g) w' ∧ Below w.heap.size w w' := by
  have HG := Lib.hid h
  obtain ⟨s, rfl, hi1, hi2, ha⟩ := h
  obtain ⟨A, cap, rfl⟩ := ha.form
  clear ha
  have HLO := Lib.hid (fun W' (h : ArgG W' (.agg #[.int .i64 g.1, .int .i64 g.2.1, .slice A g.2.2.length cap]) g) hf e he h1 h3 => specLoopOf_any _ g e W' h hf he h1 h3)
  have HEXE := Lib.hid (fun W' (h : ArgG W' (.agg #[.int .i64 g.1, .int .i64 g.2.1, .slice A g.2.2.length cap]) g) hf => specExtraEdges_any _ g W' h hf)
  obtain ⟨g1, n, es⟩ := g
  simp only at *
  go_enter Tryz.func48, Tryz.ntmps48
  go_wp2_with fail
  obtain ⟨W1, hW1⟩ : ∃ W, W = w.alloc (Obj.cells #[Value.int IntKind.i64 g1, Value.int IntKind.i64 n, .slice A es.length cap] 45) := ⟨_, rfl⟩
  obtain ⟨hs1, b1, hc1⟩ := gboxE hW1
  obtain ⟨W, hW⟩ : ∃ W, W = W1.alloc (Obj.cells #[] 33) := ⟨_, rfl⟩
  have b2 : Below W1.heap.size W1 W := by rw [hW]; exact (Below.refl _ _).alloc (Nat.le_refl _) _
  have hsW : W.heap.size = w.heap.size + 2 := by rw [hW]; simp; omega
  have o0 : OwII (w.heap.size + 1) W.heap.size (.slice (some ⟨w.heap.size + 1, 0, none⟩) 0 0) [] W := by
    have h := OwII_lit W1 (lo := w.heap.size + 1) (by omega)
    rw [← hW, hs1] at h
    exact h.widen (Nat.le_refl _) (by omega)
  rw [← hW1, ← hW]
  have BX : Hid (Below w.heap.size w W) := Lib.hid (b1.trans (b2.mono (by omega)))
  have B12 := Lib.hid (b2.mono (show w.heap.size + 1 ≤ W1.heap.size by omega))
  have HC1 := Lib.hid hc1
  have HCL : Hid (∀ w', Below (w.heap.size + 1) W w' → w'.cell? ⟨w.heap.size, 0, none⟩ = some (.int .i64 g1) ∧ w'.cell? ⟨w.heap.size, 1, none⟩ = some (.int .i64 n) ∧ w'.cell? ⟨w.heap.size, 2, none⟩ = some (.slice A es.length cap)) := Lib.hid fun w' hb => HC1.out w' (B12.out.trans hb)
  have HA : Hid (∀ w', Below (w.heap.size + 1) W w' → ArgG w' (.agg #[.int .i64 g1, .int .i64 n, .slice A es.length cap]) (g1, n, es)) := Lib.hid fun w' hb => HG.out.below (BX.out.trans (hb.mono (by omega)))
  have HBW : Hid (∀ w', Below (w.heap.size + 1) W w' → Below w.heap.size w w') := Lib.hid fun w' hb => BX.out.trans (hb.mono (by omega))
  have O0 := Lib.hid o0
  clear hW1 hW hc1 b1 b2 HC1 o0
  refine (specIsSubgroup_any _ (g1, n, es) W (HA.out W ((Below.refl W.heap.size W).mono (by omega)))).mono ?_
  rintro e w1 ⟨rfl, b1⟩
  have hs1' := b1.size
  have B1 : Hid (Below (w.heap.size + 1) W w1) := Lib.hid (b1.mono (by omega))
  have O1 := Lib.hid ((OwnL.keep O0.out EI.stable fun b _ hlt => b1.block b hlt).widen (Nat.le_refl _) b1.size)
  clear b1
  rcases ec : coreB (g1, n, es) with _ | _
  · have F : Hid (basF (g1, n, es) = []) := Lib.hid (by unfold basF; rw [ec]; rfl)
    have HOF := Lib.hid (OwnL.widen O1.out (show w.heap.size ≤ w.heap.size + 1 by omega) (Nat.le_refl _))
    have HBF := Lib.hid (HBW.out w1 B1.out)
    clear ec
    go_wp2
    go_ret
    rw [F.out]
    exact ⟨_, rfl, HOF.out, HBF.out⟩
  have hfold := core_foldB ec
  have HFD := Lib.hid hfold
  have hg := coreB_grB ec
  obtain ⟨h13, h40, h120, _⟩ := grB_parts hg
  simp only at h13 h40 h120
  have HBF : Hid (basF (g1, n, es) = (extL (g1, n, es)).map (basW (g1, n, es))) := Lib.hid (by unfold basF; rw [if_pos ec])
  have HRED : Hid (∀ e ∈ extL (g1, n, es), redL [] ((wdO (g1, n, es) e.1 ++ [e.2.1]) ++ invL (wdO (g1, n, es) e.2.2)) = basW (g1, n, es) e) := Lib.hid fun e he => by
    have h := bas_red ec he
    unfold redLL at h
    simpa using h
  have HVX : Hid (∀ e ∈ extL (g1, n, es), e ∈ es ∧ e.1 ∈ canO (g1, n, es) ∧ e.2.2 ∈ canO (g1, n, es)) := Lib.hid fun e he => by
    have hm := (List.mem_filter.1 he).1
    have h := edge_of_gr hg hm
    exact ⟨hm, core_all ec h.1, core_all ec h.2.2⟩
  have hxl : (extL (g1, n, es)).length ≤ 120 := Nat.le_trans (List.length_filter_le _ _) h120
  clear ec hfold hg
  obtain ⟨q0, q1, q2⟩ := HCL.out w1 B1.out
  go_wp2_with fail
  refine (HEXE.out w1 (HA.out w1 B1.out) HFD.out).mono ?_
  rintro e w3 ⟨r3, rfl, o3, b3⟩
  have hs3 := b3.size
  have B3 : Hid (Below (w.heap.size + 1) W w3) := Lib.hid (B1.out.trans (b3.mono (by omega)))
  have O3 := Lib.hid ((OwnL.keep O1.out EI.stable fun b _ hlt => b3.block b hlt).widen (Nat.le_refl _) b3.size)
  have OX3 := Lib.hid o3
  obtain ⟨Ax, cx, rfl, _⟩ := o3.form
  obtain ⟨BW, hBW⟩ : ∃ B, B = basW (g1, n, es) := ⟨_, rfl⟩
  rw [← hBW] at HRED HBF
  have HLE : Hid (∀ (e : EdD) (W' : World), e ∈ extL (g1, n, es) → ArgG W' (.agg #[.int .i64 g1, .int .i64 n, .slice A es.length cap]) (g1, n, es) → Calls Tryz.prog 77 #[.agg #[.int .i64 g1, .int .i64 n, .slice A es.length cap], edV e] W' fun x w' => ∃ r, x = .returned r ∧ OwI w' W'.heap.size r (BW e) ∧ Below W'.heap.size W' w') := Lib.hid fun e W' he h => by
    obtain ⟨h1, h2, h3⟩ := HVX.out e he
    rw [← HRED.out e he]
    exact HLO.out W' h HFD.out e h1 h2 h3
  generalize extL (g1, n, es) = X at *
  clear o3 b3 q0 q1 q2 hBW HVX HRED HLO
  have HXB : Hid (∀ b, (Value.slice Ax X.length cx).ownBlock = some b → w1.heap.size ≤ b ∧ b < w3.heap.size) := Lib.hid fun b hb => OX3.out.1.lt b hb
  obtain ⟨F0, hl0, hn0, hF0⟩ := O3.out
  have HL0 := Lib.hid hl0
  have HF0 : Hid (∀ b ∈ F0, (w.heap.size + 1 ≤ b ∧ b < w3.heap.size) ∧ (b < W.heap.size ∨ w3.heap.size ≤ b)) := Lib.hid fun b hb => by
    obtain ⟨ess, h1, h2, h3, rfl⟩ := hl0
    have h4 : ess = [] := by simpa using h1
    subst h4
    simp [Value.ownBlock] at hb
    omega
  clear hl0 hF0
  have HN0 := Lib.hid hn0
  clear hn0
  go_wp2
  go_loopw [3, 5] (fun vo i wr => ∃ (k : Nat) (Fp : List Nat), k ≤ X.length ∧ i = .int .i64 k ∧ OwLf EI 33 1 wr vo ((X.take k).map BW) Fp ∧ Fp.Nodup ∧ (∀ b ∈ Fp, (w.heap.size + 1 ≤ b ∧ b < wr.heap.size) ∧ (b < W.heap.size ∨ w3.heap.size ≤ b)) ∧ (∀ b, W.heap.size ≤ b → b < w3.heap.size → wr.heap[b]? = w3.heap[b]?) ∧ w3.heap.size ≤ wr.heap.size ∧ Below (w.heap.size + 1) W wr) (fun _ i _ => X.length - (intOf i).toNat)
  case atStart => exact ⟨0, F0, Nat.zero_le _, rfl, by simpa using HL0.out, HN0.out, HF0.out, fun _ _ _ => rfl, Nat.le_refl _, B3.out⟩
  case round =>
    obtain ⟨k, Fp, hk, rfl, ho, hnd, hFp, hkp, hsr, hb⟩ := hrel
    have HO := Lib.hid ho
    have HND := Lib.hid hnd
    have HFP := Lib.hid hFp
    have HKP := Lib.hid hkp
    have HB := Lib.hid hb
    obtain ⟨wi, rfl⟩ : ∃ wi : World, wi = wr := ⟨_, rfl⟩
    clear ho hnd hFp hkp hb
    obtain ⟨Ao, co, rfl⟩ := OwLf.form HO.out
    by_cases hlt : k < X.length
    · have HTK : Hid ((X.take (k + 1)).map BW = (X.take k).map BW ++ [BW X[k]]) := Lib.hid (by rw [List.take_succ_eq_append_getElem hlt, List.map_append]; rfl)
      have HLK := Lib.hid (fun W' => HLE.out X[k] W' (List.getElem_mem hlt))
      have hAX := (OX3.out.keep fun b hb => HKP.out b (by have := HXB.out b hb; omega) (HXB.out b hb).2).arg
      obtain ⟨b, off, rfl, hbl, c0, c1, c2, he64⟩ := hAX.at hlt
      have hkI : (k : Int) < (X.length : Int) := by omega
      have hLk : ((X.take k).map BW).length ≤ 120 := by rw [List.length_map, List.length_take]; omega
      generalize X[k] = E at *
      obtain ⟨e1, x, e3⟩ := E
      unfold edV at HLK
      simp only at *
      generalize BW (e1, x, e3) = BV at *
      generalize (X.take k).map BW = LO at *
      obtain ⟨q0, q1, q2⟩ := HCL.out wi HB.out
      have hgb : w.heap.size < wi.heap.size := by omega
      have HBd : Hid (Below (w.heap.size + 1) W wi.drew) := Lib.hid HB.out.drew
      have HDD : Hid (Below wi.heap.size wi wi.drew) := Lib.hid (Below.refl wi.heap.size wi).drew
      clear he64 hAX
      go_wp2_with fail
      go_region_held3 (fun w' => w'.cell? ⟨w.heap.size, 0, none⟩ = some (.int .i64 g1) ∧ w'.cell? ⟨w.heap.size, 1, none⟩ = some (.int .i64 n) ∧ w'.cell? ⟨w.heap.size, 2, none⟩ = some (.slice A es.length cap) ∧ w'.cell? ⟨b, off + k * 3, none⟩ = some (.int .i64 e1) ∧ w'.cell? ⟨b, off + k * 3 + 1, none⟩ = some (.int .i64 x) ∧ w'.cell? ⟨b, off + k * 3 + 2, none⟩ = some (.int .i64 e3))
        (first | go_keep | exact ⟨s0, s1, s2, t0, t1, t2⟩)
        (first
          | (go_at_call 77; (with_reducible refine (HLK.out _ (HA.out _ HBd.out)).mono ?_); rintro e w5 ⟨r5, rfl, o5, b5⟩; have HB5 : Hid (Below wi.heap.size wi w5) := Lib.hid (HDD.out.trans (b5.mono (Nat.le_refl _))); have HR5 : Hid (OwI w5 wi.heap.size r5 BV) := Lib.hid o5; have s0 := (HB5.out.cell (p := ⟨w.heap.size, 0, none⟩) hgb).trans q0; have s1 := (HB5.out.cell (p := ⟨w.heap.size, 1, none⟩) hgb).trans q1; have s2 := (HB5.out.cell (p := ⟨w.heap.size, 2, none⟩) hgb).trans q2; have t0 := (HB5.out.cell (p := ⟨b, off + k * 3, none⟩) hbl).trans c0; have t1 := (HB5.out.cell (p := ⟨b, off + k * 3 + 1, none⟩) hbl).trans c1; have t2 := (HB5.out.cell (p := ⟨b, off + k * 3 + 2, none⟩) hbl).trans c2; clear o5 b5))
      obtain ⟨A5, c5, rfl, _⟩ := OwI.form HR5.out
      have hs5 := HB5.out.size
      clear s0 s1 s2 t0 t1 t2 q0 q1 q2 c0 c1 c2
      go_wp2_with (at_builtin; refine push_intsF rfl (.tmp 26) (.tmp 28) rfl HO.out HND.out (fun b hb => (HFP.out b hb).1.2) (HB5.out.alloc hs5 _) rfl _ _ BV rfl (HR5.out.alloc _) (Nat.le_refl _) (cell_new1 _ _ _) rfl (by omega) ?_; intro v11 w11 F11 l11 n11 f11 g11; have L11 := Lib.hid l11; have N11 := Lib.hid n11; have FF11 := Lib.hid f11; have hs11 := g11.size; have B11 : Hid (Below (w.heap.size + 1) W w11) := Lib.hid ((HB.out.trans ((HB5.out.alloc hs5 _).mono (by omega))).grown g11 (by simp; omega) (fun c hc => (HFP.out c (HO.out.mem hc)).1.1)); have KP11 : Hid (∀ b, W.heap.size ≤ b → b < w3.heap.size → w11.heap[b]? = w3.heap[b]?) := Lib.hid fun b h1 h2 => ((g11.block b (by simp; omega) (fun e => by have := (HFP.out b (HO.out.mem e.symm)).2; omega)).trans ((HB5.out.alloc hs5 _).block b (by omega))).trans (HKP.out b h1 h2); clear l11 n11 f11 g11)
      have hs11' : w5.heap.size + 1 ≤ w11.heap.size := by simpa using hs11
      go_roundw
      case rel => exact ⟨k + 1, F11, by omega, by go_num, by rw [HTK.out]; exact L11.out, N11.out, fun b hb => by
        have h1 := FF11.out b hb
        rcases h1.1 with h | h
        · have := HFP.out b h; omega
        · omega, KP11.out, by omega, B11.out⟩
      case measure => simp [intOf]; omega
    · obtain rfl : k = X.length := by omega
      have HOF : Hid (OwII w.heap.size wi.heap.size (.slice Ao ((X.take X.length).map BW).length co) (basF (g1, n, es)) wi) := Lib.hid ⟨Fp, by rw [HBF.out]; have h := HO.out; rwa [List.take_length] at h ⊢, HND.out, fun b hb => by have := HFP.out b hb; omega⟩
      have HBD := Lib.hid (HBW.out wi HB.out)
      go_wp2
      go_ret
      exact ⟨_, rfl, by have h := HOF.out; simpa using h, HBD.out⟩
end Go.Proofs.YtpemfkncjhhagaaGreat
