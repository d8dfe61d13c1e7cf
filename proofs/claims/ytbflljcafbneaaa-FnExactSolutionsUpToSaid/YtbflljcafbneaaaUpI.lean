/- The program's wordsUpTo: the reduced words with up to so many letters. -/
import Derived.Test.YtbflljcafbneaaaLoW
import Derived.Test.YtbflljcafbneaaaSeg
import Derived.Test.YtbflljcafbneaaaCpy
namespace Go.Proofs.Ytbflljcafbneaaa
set_option maxRecDepth 20000
set_option linter.unusedVariables false
set_option linter.unusedSimpArgs false
open Go.RowKit

theorem layW_ne {r : Nat} (h1 : 1 ≤ r) (hr : r ≤ 3) : ∀ n, layW (lettersL r) n ≠ []
  | 0 => by simp [layW]
  | n + 1 => by
    intro h
    unfold layW at h
    rw [List.flatMap_eq_nil_iff] at h
    obtain ⟨w, hw⟩ := List.exists_mem_of_ne_nil _ (layW_ne h1 hr n)
    have h2 := h w hw
    unfold nxtW at h2
    rw [List.map_eq_nil_iff, List.filter_eq_nil_iff] at h2
    have m1 : (1 : Int) ∈ lettersL r := by
      have : r = 1 ∨ r = 2 ∨ r = 3 := by omega
      rcases this with rfl | rfl | rfl <;> decide +kernel
    have m2 : (-1 : Int) ∈ lettersL r := by
      have : r = 1 ∨ r = 2 ∨ r = 3 := by omega
      rcases this with rfl | rfl | rfl <;> decide +kernel
    have a1 := h2 1 m1
    have a2 := h2 (-1) m2
    unfold okW at a1 a2
    simp at a1 a2
    omega
/-- What the inner loops hold: the list that grows, and the part of its old row that is gone through. -/
structure Up2 (lo N g off : Nat) (W wr : World) (hs : List Value) (LK : List (List Int)) (v : Value) (L : List (List Int)) : Prop where
  o : OwII lo wr.heap.size v L wr
  s : SegI N g off wr hs LK
  b : Below lo W wr
  v : v.ownBlock = some g ∨ ∃ b, v.ownBlock = some b ∧ N ≤ b ∧ b ≠ g
  n : off + hs.length ≤ L.length
  hN : N ≤ wr.heap.size
  hlo : lo ≤ N
  hg : g < N
section
variable {lo N g off : Nat} {W wr w0 w' : World} {hs : List Value} {LK L : List (List Int)} {v v' : Value} {d : List Int}
theorem Up2.below (h : Up2 lo N g off W wr hs LK v L) (hb : Below wr.heap.size wr w') : Up2 lo N g off W w' hs LK v L :=
  ⟨(OwnL.keep h.o EI.stable fun b _ hlt => hb.block b hlt).widen (Nat.le_refl _) hb.size, h.s.below hb, h.b.trans (hb.mono (by have := h.hN; have := h.hlo; omega)), h.v, h.n, by have := h.hN; have := hb.size; omega, h.hlo, h.hg⟩
theorem Up2.push (h : Up2 lo N g off W wr hs LK v L) (hb : Below wr.heap.size wr w0) (ho : OwII lo w'.heap.size v' (L ++ [d]) w') (hg : w0.grownBy w' v.ownBlock)
    (hk : ∀ g j u, v.ownBlock = some g → j < L.length → w0.cell? ⟨g, j, none⟩ = some u → w'.cell? ⟨g, j, none⟩ = some u) (hat : v'.ownBlock = v.ownBlock ∨ v'.ownBlock = some w0.heap.size) : Up2 lo N g off W w' hs LK v' (L ++ [d]) := by
  have h1 := h.below hb
  refine ⟨ho, h1.s.push hg h1.v h1.n hk, h1.b.grown hg (by have := h1.hN; have := h1.hlo; omega) fun k hk => (h.o.lt hk).1, ?_, ?_, ?_, h.hlo, h.hg⟩
  · rcases hat with q | q
    · rw [q]; exact h.v
    · have := h1.hN; have := h.hg
      exact .inr ⟨_, q, h1.hN, by omega⟩
  · have := h.n; rw [List.length_append]; omega
  · have := h1.hN; have := hg.size; omega
/-- A row that is no part of the list that grows. -/
theorem row_keep {w3 : World} {gl n c : Nat} {ls : List Int} (h : RdI wr (.slice (some ⟨gl, 0, none⟩) n c) ls) (hb : Below wr.heap.size wr w0) (hg : w0.grownBy w3 v.ownBlock) (hne : ∀ b, v.ownBlock = some b → b ≠ gl) (hgl : gl < wr.heap.size) (hat : v'.ownBlock = v.ownBlock ∨ v'.ownBlock = some w0.heap.size) :
    RdI w3 (.slice (some ⟨gl, 0, none⟩) n c) ls ∧ (∀ b, v'.ownBlock = some b → b ≠ gl) ∧ gl < w3.heap.size := by
  have hs := hg.size
  have hs0 := hb.size
  refine ⟨(h.below hb).grown hg fun b e1 e2 => ?_, fun b hv => ?_, by omega⟩
  · simp [Value.ownBlock] at e1
    exact hne b e2 (by omega)
  · rcases hat with q | q
    · rw [q] at hv; exact hne b hv
    · rw [q] at hv; injection hv with hv; omega
end
set_option maxHeartbeats 1000000 in
theorem wordsUpTo_any (r m : Nat) (w : World) (hr : 1 ≤ r ∧ r ≤ 3) (hm : m ≤ 4) :
    Calls Try.prog 19 #[.int .i64 r, .int .i64 m] w fun e w' => ∃ v, e = .returned v ∧ OwII w.heap.size w'.heap.size v (uptW (lettersL r) m) w' ∧ Below w.heap.size w w' := by
  have hls := lettersL_len r
  have HLN := Lib.hid (layW_ne hr.1 hr.2)
  have HLC := Lib.hid (layW_len (lettersL r) (by rw [hls]; omega))
  have HUC := Lib.hid (uptW_len (lettersL r) (by rw [hls]; omega))
  have HLM := Lib.hid (layW_mem (lettersL r))
  have HL64 := Lib.hid (lettersL_I64 (n := r) (by omega))
  have HLP : Hid (∀ k, uptW (lettersL r) (k + 1) = uptW (lettersL r) k ++ layW (lettersL r) (k + 1)) := Lib.hid fun k => rfl
  have HLG : Hid (∀ k, layW (lettersL r) (k + 1) = (layW (lettersL r) k).flatMap (nxtW (lettersL r))) := Lib.hid fun k => rfl
  have hlm0 : ∀ x ∈ lettersL r, (1 ≤ x ∧ x ≤ (r : Int)) ∨ (1 ≤ -x ∧ -x ≤ (r : Int)) := fun x hx => lettersL_mem hx
  have HLMM := Lib.hid hlm0
  have HOI := Lib.hid (OwII_one w (lo := w.heap.size) (Nat.le_refl _))
  have bz : Below w.heap.size w ((w.alloc (.cells #[] 3)).alloc (.cells #[.slice (some ⟨w.heap.size, 0, none⟩) 0 0] 22)) := (by repeat (first | exact Below.refl _ _ | (refine Below.setCell ?_ (by first | omega | (simp <;> omega)) _) | (refine bel_drewN ?_ _) | (refine Below.drew ?_) | (refine Below.alloc ?_ (by first | omega | (simp <;> omega)) _)))
  have HBZ := Lib.hid bz
  have H0 : Hid (OwII w.heap.size (w.heap.size + 2) (.slice (some ⟨w.heap.size + 1, 0, none⟩) 1 1) (uptW (lettersL r) 0) ((w.alloc (.cells #[] 3)).alloc (.cells #[.slice (some ⟨w.heap.size, 0, none⟩) 0 0] 22))) := HOI
  have HD0 : Hid ((uptW (lettersL r) 0).drop 0 = layW (lettersL r) 0) := Lib.hid rfl
  clear bz hlm0 HOI
  go_enter Try.func19, Try.ntmps19
  go_wp2
  obtain ⟨ls, hls0⟩ : ∃ l, l = lettersL r := ⟨_, rfl⟩
  have HLS : Hid (ls.length = 2 * r) := Lib.hid (by rw [hls0]; exact hls)
  have HLSE := Lib.hid hls0
  have HLT : Hid (∀ W : World, Calls Try.prog 32 #[.int .i64 r] W fun e w' => ∃ r, e = .returned r ∧ OwI w' W.heap.size r ls ∧ Below W.heap.size W w') := Lib.hid fun W => by have := letters_any r W (by omega); rw [hls0]; exact this
  rw [← hls0] at HLN HLC HUC HLM HL64 HLP HLG HLMM H0 HD0
  clear hls0 hls
  go_loopw [5, 6, 7] (fun out from_ i wr => ∃ k f : Nat, k ≤ m ∧ i = .int .i64 k ∧ from_ = .int .i64 f ∧ (uptW ls k).drop f = layW ls k ∧ OwII w.heap.size wr.heap.size out (uptW ls k) wr ∧ Below w.heap.size w wr) (fun _ _ i _ => m - (intOf i).toNat)
  case atStart => exact ⟨0, 0, Nat.zero_le _, rfl, rfl, HD0.out, by simpa using H0.out, HBZ.out⟩
  case round =>
    obtain ⟨k, f, hk, rfl, rfl, hd, ho, hb⟩ := hrel
    have HO := Lib.hid ho
    have HB := Lib.hid hb
    have HD := Lib.hid hd
    obtain ⟨wo, rfl⟩ : ∃ wo : World, wo = wr := ⟨_, rfl⟩
    clear ho hb hd
    by_cases hlt : k < m
    · obtain ⟨A, cap, hly, hcy, hmy, _, hg⟩ := OwnL.len HO.out
      subst hly
      have hfl : f < (uptW ls k).length := by
        have h1 := HLN.out k
        rw [← HD.out] at h1
        refine Nat.lt_of_not_le fun hle => h1 (List.drop_eq_nil_iff.2 hle)
      obtain ⟨g, rfl, hg1, hg2⟩ := hg (by omega)
      obtain ⟨hs, hseg⟩ := HO.out.seg f
      rw [HD.out] at hseg
      have HS := Lib.hid hseg
      have hlen : (layW ls k).length = (uptW ls k).length - f := by rw [← HD.out, List.length_drop]
      have h64 : 6 ^ k ≤ 6 ^ 5 := Nat.pow_le_pow_right (by omega) (by omega)
      have h642 : 6 ^ (k + 1) ≤ 6 ^ 5 := Nat.pow_le_pow_right (by omega) (by omega)
      have hkc := HLC.out k
      have huc := HUC.out k
      unfold maxLen at hmy
      have HMB := Lib.hid (HLM.out k)
      have HP1 := Lib.hid (HLP.out k)
      have HG1 := Lib.hid (HLG.out k)
      obtain ⟨LN, hLN⟩ : ∃ X, X = layW ls (k + 1) := ⟨_, rfl⟩
      obtain ⟨LU, hLU⟩ : ∃ X, X = uptW ls (k + 1) := ⟨_, rfl⟩
      rw [← hLN] at HG1 HP1
      rw [← hLU] at HP1
      have HLNE := Lib.hid hLN
      have HLUE := Lib.hid hLU
      clear hLN hLU hseg
      generalize layW ls k = LK at *
      generalize uptW ls k = U at *
      have hfI : (f : Int) ≤ (U.length : Int) := by omega
      have hf0 : (0 : Int) ≤ (f : Int) := by omega
      have hfc : (U.length : Int) ≤ (cap : Int) := by omega
      have hcf : ¬ cap = f := by omega
      have hkI : (k : Int) < (m : Int) := by omega
      have HLE := Lib.hid hlen
      have hll : LK.length ≤ 7776 := by omega
      clear hlen
      go_wp2
      rw [← HLE.out]
      go_loopw [5, 27] (fun out i wr => ∃ q : Nat, q ≤ LK.length ∧ i = .int .i64 q ∧ Up2 w.heap.size wo.heap.size g f w wr hs LK out (U ++ (LK.take q).flatMap (nxtW ls))) (fun _ i _ => LK.length - (intOf i).toNat)
      case atStart => exact ⟨0, Nat.zero_le _, rfl, by simpa using HO.out, HS.out, HB.out, .inl rfl, by have := HS.out.1; have := HLE.out; simp; omega, Nat.le_refl _, HB.out.size, hg2⟩
      case round =>
        obtain ⟨q, hq, rfl, hI2⟩ := hrel
        have HI2 := Lib.hid hI2
        obtain ⟨wi, rfl⟩ : ∃ wi : World, wi = wr := ⟨_, rfl⟩
        clear hI2
        by_cases hlt2 : q < LK.length
        · have hql : q < hs.length := by have := HS.out.1; omega
          have HSE := Lib.hid (fun W' (h : SegI wo.heap.size g f W' hs LK) => h.2 q hql hlt2)
          obtain ⟨m1, m2⟩ := HMB.out LK[q] (List.getElem_mem hlt2)
          have HM2 := Lib.hid m2
          have HTM := Lib.hid (take_flat (nxtW ls) LK q hlt2)
          have HOK : Hid (∀ x, okW LK[q] x = (decide (LK[q].length = 0) || decide (x ≠ -(LK[q].getD (LK[q].length - 1) 0)))) := Lib.hid fun _ => rfl
          have HNX : Hid (nxtW ls LK[q] = (ls.filter (okW LK[q])).map fun x => LK[q] ++ [x]) := Lib.hid rfl
          have hwl : LK[q].length ≤ 4 := by omega
          clear m2 m1
          obtain ⟨hv, hhv⟩ : ∃ v, v = hs[q] := ⟨_, rfl⟩
          obtain ⟨ws, hws⟩ : ∃ v, v = LK[q] := ⟨_, rfl⟩
          rw [← hhv, ← hws] at HSE
          rw [← hws] at HM2 HTM HNX hwl
          simp only [← hws] at HOK
          clear hhv hws
          obtain ⟨hcell, hrd, _⟩ := HSE.out wi HI2.out.s
          obtain ⟨A1, c1, rfl, hc1, hm1, _⟩ := hrd.arg
          have hqI : (q : Int) < (LK.length : Int) := by omega
          have hg5 : g < wi.heap.size := by have := HI2.out.hN; have := HI2.out.hg; omega
          clear hrd
          go_wp2_with fail
          refine (HLT.out wi).mono ?_
          rintro e w5 ⟨rl, rfl, ol, b5⟩
          have hln := ol.rd.arg
          obtain ⟨Al, cl_, rfl, hcl, hml, _, hfl⟩ := OwI.form ol
          obtain ⟨gl, rfl, hgl1, hgl2⟩ := hfl (by rw [HLS.out]; omega)
          rw [HLS.out] at ol hcl ⊢
          have HL0 : Hid (RdI w5 (.slice (some ⟨gl, 0, none⟩) (2 * r) cl_) ls) := Lib.hid ol.rd
          have HI5 := Lib.hid (HI2.out.below b5)
          have HG5 : Hid (∀ b, u5.ownBlock = some b → b ≠ gl) := Lib.hid fun b hb => by have := (HI2.out.o.lt hb).2; omega
          unfold maxLen at hml hm1
          clear ol b5 hln hfl hcell
          go_wp2
          go_loopw [5, 34] (fun out i wr => ∃ q' : Nat, q' ≤ 2 * r ∧ i = .int .i64 q' ∧ Up2 w.heap.size wo.heap.size g f w wr hs LK out (U ++ (LK.take q).flatMap (nxtW ls) ++ ((ls.take q').filter (okW ws)).map fun x => ws ++ [x]) ∧ RdI wr (.slice (some ⟨gl, 0, none⟩) (2 * r) cl_) ls ∧ (∀ b, out.ownBlock = some b → b ≠ gl) ∧ gl < wr.heap.size) (fun _ i _ => 2 * r - (intOf i).toNat)
          case atStart => exact ⟨0, Nat.zero_le _, rfl, by simpa using HI5.out, HL0.out, HG5.out, hgl2⟩
          case round =>
            obtain ⟨q', hq', rfl, hI3, hl3, hg3', hg3⟩ := hrel
            have HI3 := Lib.hid hI3
            have HL3 := Lib.hid hl3
            have HG3 := Lib.hid hg3'
            obtain ⟨wj, rfl⟩ : ∃ wj : World, wj = wr := ⟨_, rfl⟩
            clear hI3 hl3 hg3'
            by_cases hlt3 : q' < 2 * r
            · have hql' : q' < ls.length := by rw [HLS.out]; exact hlt3
              have hcx : wj.cell? ⟨gl, q', none⟩ = some (.int .i64 ls[q']) := by
                    obtain ⟨b', o', hA, _, hc⟩ := HL3.out.at (show 0 < ls.length by omega)
                    injection hA with hA
                    injection hA with h1 h2
                    subst h1
                    subst h2
                    have := hc q' hql'
                    rwa [Nat.zero_add] at this
              have HTK := Lib.hid (take_filter (okW ws) ls q' hql')
              have HX64 := Lib.hid (HL64.out _ (List.getElem_mem hql'))
              have HOX := Lib.hid (HOK.out ls[q'])
              have hqI' : (q' : Int) < 2 * (r : Int) := by omega
              obtain ⟨x, hx⟩ : ∃ x, x = ls[q'] := ⟨_, rfl⟩
              rw [← hx] at hcx HTK HX64 HOX
              clear hx
              rcases e0 : ((ws.length : Int) == 0) with _ | _
              · have hl0 : ¬ ws.length = 0 := fun e => by rw [e] at e0; simp at e0
                obtain ⟨_, hrd, _⟩ := HSE.out wj HI3.out.s
                obtain ⟨gw, ow, rfl, hgw1⟩ : ∃ gw ow, A1 = some ⟨gw, ow, none⟩ ∧ wj.cell? ⟨gw, ow + (ws.length - 1), none⟩ = some (.int .i64 (ws.getD (ws.length - 1) 0)) := by
                  obtain ⟨b', o', hA, _, hc⟩ := hrd.at (show 0 < ws.length by omega)
                  refine ⟨b', o', hA, ?_⟩
                  rw [hc (ws.length - 1) (by omega)]
                  simp [List.getD, show ws.length - 1 < ws.length by omega]
                clear hrd
                have hwr1 : IntKind.i64.wrap ((ws.length : Int) - 1) = (ws.length : Int) - 1 := by rw [IntKind.wrap_i64]; omega
                have hb1 : (0 : Int) ≤ (ws.length : Int) - 1 := by omega
                have hb2 : (ws.length : Int) - 1 < (ws.length : Int) := by omega
                have htn : ((ws.length : Int) - 1).toNat = ws.length - 1 := by omega
                have hOW2 : okW ws x = decide (x ≠ -(ws.getD (ws.length - 1) 0)) := by rw [HOX.out, decide_eq_false hl0, Bool.false_or]
                have HYB := Lib.hid (HLMM.out _ (HM2.out _ (show ws.getD (ws.length - 1) 0 ∈ ws by rw [List.getD_eq_getElem?_getD, List.getElem?_eq_getElem (by omega)]; exact List.getElem_mem _)))
                obtain ⟨y, hy⟩ : ∃ y, y = ws.getD (ws.length - 1) 0 := ⟨_, rfl⟩
                rw [← hy] at hgw1 hOW2 HYB
                clear hy
                have HY64 : I64 y := by have := HYB.out; unfold I64; omega
                rcases ex : (x == -y) with _ | _
                · have hex : ¬ x = -y := by simpa using ex
                  have HOKX : Hid (okW ws x = true) := Lib.hid (by rw [hOW2]; simp [hex])
                  have HAI : Hid (∀ W : World, Calls Try.prog 33 #[.int .i64 y, .int .i64 x] W fun e w' => e = .returned (.bool false) ∧ W = w') := Lib.hid fun W => by have := areInverse_any y x W HY64; rw [show invB y x = false by unfold invB; rw [ex, Bool.and_false]] at this; exact this
                  clear hex hOW2 ex
                  go_wp2_with (go_at_call 33; refine (HAI.out _).mono ?_; rintro e w' ⟨rfl, rfl⟩)
                  have HE6 : Hid ((ls.take (q' + 1)).filter (okW ws) = (ls.take q').filter (okW ws) ++ [x]) := Lib.hid (by rw [HTK.out, if_pos HOKX.out])
                  have HE7 : Hid (U ++ (LK.take q).flatMap (nxtW ls) ++ ((ls.take (q' + 1)).filter (okW ws)).map (fun x => ws ++ [x]) = (U ++ (LK.take q).flatMap (nxtW ls) ++ ((ls.take q').filter (okW ws)).map fun x => ws ++ [x]) ++ [ws ++ [x]]) := Lib.hid (by rw [HE6.out, List.map_append, ← List.append_assoc]; rfl)
                  have HNL : Hid ((U ++ (LK.take q).flatMap (nxtW ls) ++ ((ls.take q').filter (okW ws)).map fun x => ws ++ [x]).length ≤ 1073741824) := Lib.hid (by
                    have a1 := flat_le (nxtW ls) 6 (fun w => Nat.le_trans (nxtW_len ls w) (by rw [HLS.out]; omega)) (LK.take q)
                    have a2 := List.length_filter_le (okW ws) (ls.take q')
                    rw [List.length_take] at a1 a2
                    have a3 := HLS.out
                    rw [List.length_append, List.length_append, List.length_map]
                    omega)
                  have hlo3 : w.heap.size ≤ wj.heap.size := (by have := HI3.out.hN; have := HI3.out.hlo; omega)
                  clear hcx e0
                  go_wp2_with (first
                    | (go_at_call 34; refine (copyInts_any _ ws _ (HSE.out _ HI3.out.s).2.1 (by omega)).mono ?_; rintro e w1 ⟨r1, rfl, o1, b1⟩; have O1 := Lib.hid o1; have B1 := Lib.hid b1; have hz1 := b1.size; obtain ⟨A3, c3, rfl, _⟩ := OwI.form o1; clear o1 b1)
                    | (at_builtin; refine append_ints rfl (.tmp 54) (.tmp 56) rfl wj.heap.size _ ws (O1.out.alloc _) rfl _ [x] (RdI_new1 _ x HX64.out) rfl (by simp; omega) (by simp; omega) ?_; intro v2 w2 o2 g2 p2; have hb2 := ((B1.out.alloc hz1 (.cells #[.int .i64 x] 3)).grown g2 (by simp; omega) (fun k hk => (O1.out.1.lt k hk).1)); have B2 := Lib.hid hb2; have hz2 := hb2.size; obtain ⟨A2, c2, hv2, _⟩ := OwI.form o2; rw [List.length_append, List.length_singleton] at hv2; subst hv2; have O2 := Lib.hid o2; clear o2 hb2 g2 p2 hz1 B1)
                    | (at_builtin; refine push_ints_keep rfl (.tmp 52) (.tmp 58) rfl HI3.out.o hlo3 (B2.out.alloc hz2 _) rfl _ (.slice A2 (ws.length + 1) c2) (ws ++ [x]) (base := wj.heap.size) rfl (O2.out.alloc _) (Nat.le_refl _) (cell_new1 _ _ _) rfl HNL.out ?_; intro v3 w3 o3 g3 k3 p3; have HI5 := Lib.hid (HI3.out.push (B2.out.alloc hz2 (.cells #[.slice A2 (ws.length + 1) c2] 22)) o3 g3 k3 p3); have HL5 := Lib.hid (row_keep HL3.out (B2.out.alloc hz2 (.cells #[.slice A2 (ws.length + 1) c2] 22)) g3 HG3.out hg3 p3); clear o3 g3 k3 p3))
                  go_roundw
                  case rel => exact ⟨q' + 1, by omega, by go_num, by rw [HE7.out]; exact HI5.out, HL5.out⟩
                  case measure => simp [intOf]; omega
                · have hex : x = -y := by simpa using ex
                  have HOKX : Hid (okW ws x = false) := Lib.hid (by rw [hOW2]; simp [hex])
                  have HAI : Hid (∀ W : World, Calls Try.prog 33 #[.int .i64 y, .int .i64 x] W fun e w' => e = .returned (.bool true) ∧ W = w') := Lib.hid fun W => by have := areInverse_any y x W HY64; rw [show invB y x = true by unfold invB; rw [ex, Bool.and_true]; have := HYB.out; simp; omega] at this; exact this
                  clear hex hOW2 ex
                  go_wp2_with (go_at_call 33; refine (HAI.out _).mono ?_; rintro e w' ⟨rfl, rfl⟩)
                  have HE6 : Hid ((ls.take (q' + 1)).filter (okW ws) = (ls.take q').filter (okW ws)) := Lib.hid (by rw [HTK.out, if_neg (by rw [HOKX.out]; decide)])
                  go_roundw
                  case rel => exact ⟨q' + 1, by omega, by go_num, by rw [HE6.out]; exact HI3.out, HL3.out, HG3.out, hg3⟩
                  case measure => simp [intOf]; omega
              · have hl0 : ws.length = 0 := by simpa using e0
                have HOKX : Hid (okW ws x = true) := Lib.hid (by rw [HOX.out]; simp [hl0])
                clear hl0
                have HE6 : Hid ((ls.take (q' + 1)).filter (okW ws) = (ls.take q').filter (okW ws) ++ [x]) := Lib.hid (by rw [HTK.out, if_pos HOKX.out])
                have HE7 : Hid (U ++ (LK.take q).flatMap (nxtW ls) ++ ((ls.take (q' + 1)).filter (okW ws)).map (fun x => ws ++ [x]) = (U ++ (LK.take q).flatMap (nxtW ls) ++ ((ls.take q').filter (okW ws)).map fun x => ws ++ [x]) ++ [ws ++ [x]]) := Lib.hid (by rw [HE6.out, List.map_append, ← List.append_assoc]; rfl)
                have HNL : Hid ((U ++ (LK.take q).flatMap (nxtW ls) ++ ((ls.take q').filter (okW ws)).map fun x => ws ++ [x]).length ≤ 1073741824) := Lib.hid (by
                  have a1 := flat_le (nxtW ls) 6 (fun w => Nat.le_trans (nxtW_len ls w) (by rw [HLS.out]; omega)) (LK.take q)
                  have a2 := List.length_filter_le (okW ws) (ls.take q')
                  rw [List.length_take] at a1 a2
                  have a3 := HLS.out
                  rw [List.length_append, List.length_append, List.length_map]
                  omega)
                have hlo3 : w.heap.size ≤ wj.heap.size := (by have := HI3.out.hN; have := HI3.out.hlo; omega)
                
                go_wp2_with (first
                  | (go_at_call 34; refine (copyInts_any _ ws _ (HSE.out _ HI3.out.s).2.1 (by omega)).mono ?_; rintro e w1 ⟨r1, rfl, o1, b1⟩; have O1 := Lib.hid o1; have B1 := Lib.hid b1; have hz1 := b1.size; obtain ⟨A3, c3, rfl, _⟩ := OwI.form o1; clear o1 b1)
                  | (at_builtin; refine append_ints rfl (.tmp 54) (.tmp 56) rfl wj.heap.size _ ws (O1.out.alloc _) rfl _ [x] (RdI_new1 _ x HX64.out) rfl (by simp; omega) (by simp; omega) ?_; intro v2 w2 o2 g2 p2; have hb2 := ((B1.out.alloc hz1 (.cells #[.int .i64 x] 3)).grown g2 (by simp; omega) (fun k hk => (O1.out.1.lt k hk).1)); have B2 := Lib.hid hb2; have hz2 := hb2.size; obtain ⟨A2, c2, hv2, _⟩ := OwI.form o2; rw [List.length_append, List.length_singleton] at hv2; subst hv2; have O2 := Lib.hid o2; clear o2 hb2 g2 p2 hz1 B1)
                  | (at_builtin; refine push_ints_keep rfl (.tmp 52) (.tmp 58) rfl HI3.out.o hlo3 (B2.out.alloc hz2 _) rfl _ (.slice A2 (ws.length + 1) c2) (ws ++ [x]) (base := wj.heap.size) rfl (O2.out.alloc _) (Nat.le_refl _) (cell_new1 _ _ _) rfl HNL.out ?_; intro v3 w3 o3 g3 k3 p3; have HI5 := Lib.hid (HI3.out.push (B2.out.alloc hz2 (.cells #[.slice A2 (ws.length + 1) c2] 22)) o3 g3 k3 p3); have HL5 := Lib.hid (row_keep HL3.out (B2.out.alloc hz2 (.cells #[.slice A2 (ws.length + 1) c2] 22)) g3 HG3.out hg3 p3); clear o3 g3 k3 p3))
                go_roundw
                case rel => exact ⟨q' + 1, by omega, by go_num, by rw [HE7.out]; exact HI5.out, HL5.out⟩
                case measure => simp [intOf]; omega
            · obtain rfl : q' = 2 * r := by omega
              have hex2 : ¬ (((2 * r : Nat) : Int) < 2 * (r : Int)) := by omega
              have h1 := HI3.out
              rw [← HLS.out, List.take_length, List.append_assoc, ← HNX.out, ← HTM.out] at h1
              have HI4 := Lib.hid h1
              clear h1
              go_wp2
              go_roundw
              case rel => exact ⟨q + 1, by omega, by go_num, HI4.out⟩
              case measure => simp [intOf]; omega
        · obtain rfl : q = LK.length := by omega
          have h1 := HI2.out.o
          rw [List.take_length, ← HG1.out, ← HP1.out] at h1
          have HI3 := Lib.hid h1
          have HB3 := Lib.hid HI2.out.b
          clear h1
          go_wp2
          go_roundw
          case rel => exact ⟨k + 1, U.length, by omega, by go_num, rfl, by rw [← HLUE.out, ← HLNE.out, HP1.out, List.drop_left], by rw [← HLUE.out]; exact HI3.out, HB3.out⟩
          case measure => simp [intOf]; omega
    · obtain rfl : k = m := by omega
      go_wp2
      go_ret
      exact ⟨_, rfl, by rw [← HLSE.out]; exact HO.out, HB.out⟩
end Go.Proofs.Ytbflljcafbneaaa
