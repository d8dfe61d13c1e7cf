/- The program's LevelOf. -/
import Derived.Test.YtnmkbkpegkchpaaLevG
import Derived.Test.YtnmkbkpegkchpaaLevM
namespace Go.Proofs.Ytnmkbkpegkchpaa
set_option maxRecDepth 20000
set_option linter.unusedVariables false
set_option linter.unusedSimpArgs false
open Go.RowKit
theorem bel_grown {w w' : World} (h : Below w.heap.size w w') : w.grownBy w' none := ⟨h.os, h.tape, h.output, h.size, fun b hb _ => h.block b hb⟩
/-- The world's first N blocks alone. -/
def trunc (w : World) (N : Nat) : World := { w with heap := w.heap.extract 0 N }
theorem trunc_size (w : World) (N : Nat) (h : N ≤ w.heap.size) : (trunc w N).heap.size = N := by
  show (w.heap.extract 0 N).size = N
  simp; omega
theorem trunc_at (w : World) (N b : Nat) (hb : b < N) (h : N ≤ w.heap.size) : (trunc w N).heap[b]? = w.heap[b]? := by
  show (w.heap.extract 0 N)[b]? = w.heap[b]?
  rw [Array.getElem?_extract]
  simp; omega
/-- 'out = append(out, row)', the row's blocks from N on, the list's below it. -/
theorem push_intsN {N : Nat} {w : World} {v : Value} {L : List (List Int)} {F : List Nat} {ops : Array Oper} {rest : List Oper} {o : Oper} {a : Act} {Q : Exit → Act → World → Prop} (hgd : o.guard = none) (s x : Operand)
    (ho : o.op = .call { callee := .builtin .append, args := #[s, x], argTypes := #[37, 37] })
    (hown : OwLf EI 27 1 w v L F) (hnF : F.Nodup) (hF : ∀ b ∈ F, b < N) (hN : N ≤ w.heap.size) (hs : a.eval s = v) (b : Nat) (z : Value) (d : List Int) {base : Nat} (hx : a.eval x = .slice (some ⟨b, 0, none⟩) 1 1)
    (hel : OwI w base z d) (hbase : N ≤ base) (hc : w.cell? ⟨b, 0, none⟩ = some z) (hz : z.oneCell' = true) (hl : L.length ≤ 1073741824)
    (h : ∀ v' w' F', OwLf EI 27 1 w' v' (L ++ [d]) F' → F'.Nodup → (∀ b ∈ F', (b ∈ F ∨ N ≤ b) ∧ b < w'.heap.size) → w.grownBy w' v.ownBlock → wpList Try.prog ops Q rest (a.put o.dst v') w') :
    wpList Try.prog ops Q (o :: rest) a w := by
  have hsz := trunc_size w N hN
  refine push_intsF (w0 := trunc w N) hgd s x ho (hown.stable EI.stable fun b hb => trunc_at w N b (hF b hb) hN) hnF (fun b hb => by rw [hsz]; exact hF b hb) ?_ hs b z d hx hel (by rw [hsz]; exact hbase) hc hz hl ?_
  · rw [hsz]
    exact ⟨rfl, rfl, rfl, by rw [hsz]; exact hN, fun b hb => (trunc_at w N b hb hN).symm⟩
  · rw [hsz]
    exact h
set_option maxRecDepth 100000 in
set_option maxHeartbeats 4000000 in
theorem implLevelOf_any (r : Int) (v : Value) (xs : List Int) (w : World) (hr : I64 r) (h : RdI w v xs) (hl : xs.length ≤ 1048576) :
    Calls Try.prog 21 #[.int .i64 r, v] w fun e w' => ∃ s, e = .returned (.tuple #[s, .bool (levF r xs).2]) ∧ OwII w.heap.size w'.heap.size s (levF r xs).1 w' ∧ Below w.heap.size w w' := by
  have HR := Lib.hid hr
  have HX := Lib.hid h
  obtain ⟨A, cap, rfl, hcap, hm, _⟩ := h.arg
  unfold maxLen at hm
  have HRC := Lib.hid fun W (h : RdI W (.slice A xs.length cap) xs) => implReduceCyclic_any r _ xs W HR.out h hl
  have HIW := Lib.hid fun W (h : ArgI W (.slice A xs.length cap) xs) => implIsWord_any r _ xs W h (by omega)
  clear h hr
  rcases eb : wordB r xs with _ | _
  · have F := Lib.hid (levF_bad (r := r) (w := xs) (by rw [eb]; simp))
    rw [eb] at HIW
    clear eb
    go_enter Try.func21, Try.ntmps21
    go_wp2_with (go_at_call 42; (with_reducible refine (HIW.out _ HX.out.arg).mono ?_); rintro e w2 ⟨rfl, rfl⟩)
    refine bodyPost_ret (v := .tuple #[.slice (some ⟨w.heap.size, 0, none⟩) 0 0, .bool false]) (by simp [results, Try.results21, go_sem]) rfl ⟨_, by rw [F.out], ?_, (by repeat (first | exact Below.refl _ _ | (refine Below.setCell ?_ (by first | omega | (simp <;> omega)) _) | (refine bel_drewN ?_ _) | (refine Below.drew ?_) | (refine Below.alloc ?_ (by first | omega | (simp <;> omega)) _)))⟩
    rw [F.out]
    have := OwII_lit w (lo := w.heap.size) (Nat.le_refl _)
    exact this.widen (Nat.le_refl _) (by simp)
  · by_cases h6 : (redF r xs).1.length ≤ 6
    · have F := Lib.hid (levF_ok ⟨eb, h6⟩)
      have HQ0 := Lib.hid (redF_que eb h6)
      have hrb : inB r 1 3 = true := inB_iff.2 (wordB_rank eb)
      have HRB := Lib.hid hrb
      have HMO := Lib.hid (movF_ok hrb)
      have HLW := Lib.hid (allWh_len r)
      have HLR := Lib.hid (relF_len r)
      have HNM : Hid (∀ d ∈ allWh r, d.2.length ≤ 1073741824) := Lib.hid (allWh_nums r).2
      have HLL : Hid (movF r = relF r ++ (allWh r).map (whM r)) := Lib.hid rfl
      have HAR := Lib.hid fun W => implAllRelabellings_any r W HR.out
      have HAW := Lib.hid fun W => implAllWhitehead_any r W
      rw [eb] at HIW
      clear eb hrb
      generalize (redF r xs).1 = X at *
      generalize movF r = M at *
      have h6I : ¬ (6 : Int) < (X.length : Int) := by omega
      go_enter Try.func21, Try.ntmps21
      go_wp2_with (first
        | (go_at_call 42; (with_reducible refine (HIW.out _ HX.out.arg).mono ?_); rintro e w2 ⟨rfl, rfl⟩)
        | (go_at_call 43; (with_reducible refine (HRC.out _ HX.out).mono ?_); rintro e w1 ⟨s1, t1, rfl, o1, o2, b1⟩; have B1 := Lib.hid b1; have O1 := Lib.hid o1; obtain ⟨A1, c1, rfl, _⟩ := o1.form; obtain ⟨A2, c2, rfl, _⟩ := o2.len; clear o1 o2 b1)
        | (go_at_call 8; (with_reducible refine (HAR.out _).mono ?_); rintro e wA ⟨vA, rfl, oA, bA⟩; have OA := Lib.hid oA; have BA := Lib.hid bA; obtain ⟨AA, mA, cA, rfl⟩ := oA.any; clear oA bA)
        | (go_at_call 44; (with_reducible refine (HAW.out _).mono ?_); rintro e wB ⟨vB, rfl, oB, bB⟩; have OB := Lib.hid oB; have BB := Lib.hid bB; obtain ⟨AB, capB, rfl, _⟩ := oB.len; clear oB bB))
      have hs1 := B1.out.size
      have hsA := BA.out.size
      have hsB := BB.out.size
      obtain ⟨FA, hO0, hn0, hF0⟩ := OA.out
      have H0 := Lib.hid hO0
      have HN0 := Lib.hid hn0
      have HFA := Lib.hid hF0
      clear hO0 hn0 hF0 OA
      have hLl := HLW.out
      generalize allWh r = L at *
      have hLR := HLR.out
      generalize relF r = R at *
      go_loopw [8, 39] (fun out i wr => ∃ k : Nat, k ≤ L.length ∧ i = .int .i64 k ∧ ∃ F', OwLf EM 45 2 wr out (R ++ (L.take k).map (whM r)) F' ∧ F'.Nodup ∧ (∀ b ∈ F', (b ∈ FA ∨ wB.heap.size ≤ b) ∧ b < wr.heap.size) ∧ FrN FA wB wr)
        (fun _ i _ => L.length - (intOf i).toNat)
      case atStart =>
        exact ⟨0, Nat.zero_le _, rfl, FA, by simpa using H0.out.stable EM.stable fun b hb => BB.out.block b (HFA.out b hb).2, HN0.out, fun b hb => ⟨.inl hb, Nat.lt_of_lt_of_le (HFA.out b hb).2 hsB⟩, FrN.refl _ _⟩
      case round =>
        obtain ⟨k, hk, rfl, F', x1, x2, x3, x4⟩ := hrel
        have X1 := Lib.hid x1
        have X2 := Lib.hid x2
        have X3 := Lib.hid x3
        have X4 := Lib.hid x4
        obtain ⟨Ao, mo, co, rfl⟩ := x1.form
        have hsr := x4.size
        clear x1 x2 x3 x4
        by_cases hlt : k < L.length
        · obtain ⟨g, cs, Fe, rfl, hg1, hg2, hE, hcw, hFe, hnd, hc, hfz, hgs, hfin⟩ := (OB.out.keep EWh.stable (w' := wr) fun b h1 h2 => X4.out.block b h2 fun hb => by have := HFA.out b hb; omega).focus EWh.stable hlt
          obtain ⟨s, rfl, hd, ho, _⟩ := EWh.at hE
          have c0 := hc 0 (by simp)
          have c1 := hc 1 (by simp)
          simp only [List.getElem_cons_zero, List.getElem_cons_succ, Nat.add_zero] at c0 c1
          obtain ⟨As, cs', rfl, _⟩ := ho.form
          have HA : Hid (ArgWh (wr.alloc (.cells #[.int .i64 L[k].1, .slice As L[k].2.length cs'] 57)) (.agg #[.int .i64 L[k].1, .slice As L[k].2.length cs']) L[k]) := Lib.hid ⟨_, rfl, hd, (ho.alloc _).arg⟩
          have HWM := Lib.hid (fun (W : World) (h : ArgWh W (.agg #[.int .i64 L[k].1, .slice As L[k].2.length cs']) L[k]) => implWhiteheadMorphism_any r (.agg #[.int .i64 L[k].1, .slice As L[k].2.length cs']) L[k] W HR.out h (HNM.out _ (List.getElem_mem hlt)))
          have HTK : Hid (R ++ (L.take (k + 1)).map (whM r) = (R ++ (L.take k).map (whM r)) ++ [whM r L[k]]) := Lib.hid (by rw [List.take_succ_eq_append_getElem hlt, List.map_append, ← List.append_assoc]; rfl)
          have hql : (R ++ (L.take k).map (whM r)).length ≤ 1073741824 := by rw [List.length_append, List.length_map, List.length_take]; omega
          have hkI : (k : Int) < (L.length : Int) := by omega
          have HIM := Lib.hid (whM_I64 L[k] HR.out)
          clear hc hfz hfin hFe hnd hE ho hd hcw hg1 hg2
          generalize R ++ (L.take k).map (whM r) = Q0 at *
          generalize L[k] = d at *
          obtain ⟨d1, d2⟩ := d
          simp only at c0 c1 HA HWM
          have hgw : g < wr.heap.size := hgs
          go_wp2_with fail
          refine (HWM.out _ HA.out).mono ?_
          rintro e w3 ⟨sm, rfl, o3, b3⟩
          have O3 := Lib.hid o3
          have B3 : Hid (Below wr.heap.size wr w3) := Lib.hid (((Below.refl wr.heap.size wr).alloc (Nat.le_refl _) _).trans (b3.mono (by simp)))
          obtain ⟨A3, m3, c3, rfl⟩ := o3.any
          have hs3 := B3.out.size
          clear o3 b3
          obtain ⟨M0, hM⟩ : ∃ M0 : MoD, M0 = whM r (d1, d2) := ⟨_, rfl⟩
          rw [← hM] at O3 HIM HTK
          rw [← hM]
          have hIM := HIM.out
          have HBA : Hid (Below wr.heap.size wr ((w3.alloc (.cells #[.int .i64 M0.1, .slice A3 m3 c3] 45)).alloc (.cells #[.int .i64 M0.1, .slice A3 m3 c3] 45))) := Lib.hid ((B3.out.alloc hs3 _).alloc (by simp; omega) _)
          have HCA : Hid (∀ j u, [Value.int .i64 M0.1, .slice A3 m3 c3][j]? = some u → ((w3.alloc (.cells #[.int .i64 M0.1, .slice A3 m3 c3] 45)).alloc (.cells #[.int .i64 M0.1, .slice A3 m3 c3] 45)).cell? ⟨w3.heap.size + 1, j, none⟩ = some u) := Lib.hid fun j u hj => by
            match j, hj with
            | 0, hj => simp at hj; subst hj; simp [go_sem]
            | 1, hj => simp at hj; subst hj; simp [go_sem]
          have HFX : Hid (OwII (wr.alloc (.cells #[.int .i64 d1, .slice As d2.length cs'] 57)).heap.size w3.heap.size (.slice A3 m3 c3) M0.2 ((w3.alloc (.cells #[.int .i64 M0.1, .slice A3 m3 c3] 45)).alloc (.cells #[.int .i64 M0.1, .slice A3 m3 c3] 45))) := Lib.hid (O3.out.keep EI.stable fun b _ hb => (Below.heap_alloc _ _ b (by simp; omega)).trans (Below.heap_alloc w3 _ b hb))
          have HLT : Hid (∀ b ∈ F', b < wr.heap.size) := Lib.hid fun b hb => (X3.out b hb).2
          have hlo : wr.heap.size ≤ (wr.alloc (.cells #[.int .i64 d1, .slice As d2.length cs'] 57)).heap.size := by simp
          clear hM HWM
          go_wp2_with (at_builtin; refine push_mo rfl (.tmp 49) (.tmp 51) rfl X1.out X2.out HLT.out HBA.out rfl _ _ M0 rfl HFX.out hIM hlo (by simp; omega) HCA.out rfl hql ?_; intro vz wz Fz oz1 oz2 oz3 gz; obtain ⟨Av, mv, cv, rfl⟩ := oz1.form; have OZ1 := Lib.hid oz1; have OZ2 := Lib.hid oz2; have OZ3 := Lib.hid oz3; have GZ := Lib.hid gz; clear oz1 oz2 oz3 gz)
          have hs10 := HBA.out.size
          have hgs := GZ.out.size
          go_roundw
          case rel =>
            refine ⟨k + 1, by omega, by go_num, Fz, by rw [HTK.out]; exact OZ1.out, OZ2.out, fun y hy => ⟨?_, (OZ3.out y hy).2⟩, ⟨?_, ?_, ?_, by omega, fun y h1 h2 => ?_⟩⟩
            · rcases (OZ3.out y hy).1 with h | h
              · exact (X3.out y h).1
              · exact .inr (by omega)
            · exact GZ.out.os.trans (HBA.out.os.trans X4.out.os)
            · exact GZ.out.tape.trans (HBA.out.tape.trans X4.out.tape)
            · exact GZ.out.output.trans (HBA.out.output.trans X4.out.output)
            · refine (GZ.out.block y (by omega) fun e => ?_).trans ((HBA.out.block y (by omega)).trans (X4.out.block y h1 h2))
              rcases (X3.out y (X1.out.mem e.symm)).1 with h | h
              · exact h2 h
              · omega
          case measure => (first | omega | (simp [intOf]; omega))
        · obtain rfl : k = L.length := by omega
          obtain ⟨w2, rfl⟩ : ∃ W : World, W = wr := ⟨_, rfl⟩
          have HOM : Hid (OMS w1.heap.size w2.heap.size (.slice Ao mo co) M w2) := Lib.hid (by
            have h := X1.out
            rw [List.take_length, ← HLL.out] at h
            exact OwnL.of_f h X2.out fun b hb => ⟨by
              rcases (X3.out b hb).1 with h | h
              · exact (HFA.out b h).1
              · omega, (X3.out b hb).2⟩)
          have HB2 : Hid (Below w1.heap.size w1 w2) := Lib.hid ((BA.out.trans (BB.out.mono hsA)).trans ⟨X4.out.os, X4.out.tape, X4.out.output, X4.out.size, fun b hb => X4.out.block b (by omega) fun h => by have := (HFA.out b h).1; omega⟩)
          have HML : Hid (M.length ≤ 2000) := Lib.hid (by rw [HLL.out, List.length_append, List.length_map]; omega)
          clear X1 X2 X3 X4 H0 HN0 HFA OB BB BA hLl hLR HLW HLR HNM HAR HAW HLL
          obtain ⟨Am, cm, hvm, hcm, hmm, _⟩ := HOM.out.len
          injection hvm with hv1 hv2 hv3
          subst hv1 hv2 hv3
          have hs2 := HB2.out.size
          have hML := HML.out
          clear hsr hsA hsB hlt hk
          have HXT : Hid (okT X) := Lib.hid (let_okT HRB.out (HQ0.out.el X (by simp)).2)
          have HFX := Lib.hid fun W (h : ArgI W (.slice A1 X.length c1) X) => implFormatWord_any _ X W h (by omega)
          have HKX : Hid (keyOf Try.prog 9 (.string ⟨(fmtW X).toArray⟩) = some (.string (fmtW X))) := Lib.hid (strK_key (by omega))
          have HMQ0 : Hid (MapQ ((DataW.map []).put (.string (fmtW X)) (.lit (.int .i64 1))) [X]) := Lib.hid (by have := MapQ.nil.put HXT.out (by omega); simpa using this)
          unfold str at HFX
          generalize fmtW X = tx at *
          obtain ⟨W3, hW3⟩ : ∃ W3 : World, W3 = w2.alloc (Obj.cells #[.slice A1 X.length c1] 27) := ⟨_, rfl⟩
          have hs3 : W3.heap.size = w2.heap.size + 1 := by rw [hW3]; simp
          have HB3 : Hid (Below w2.heap.size w2 W3) := Lib.hid (by rw [hW3]; exact (Below.refl _ _).alloc (Nat.le_refl _) _)
          have hone := one_f (O1.out.below HB2.out) W3 hW3
          obtain ⟨F0, hF0d⟩ : ∃ F0 : List Nat, F0 = w2.heap.size :: (Value.slice A1 X.length c1).ownBlock.toList := ⟨_, rfl⟩
          rw [← hF0d] at hone
          have HQ0W := Lib.hid hone.1
          have HQ0N := Lib.hid hone.2
          have HF0 : Hid (∀ b ∈ F0, w.heap.size ≤ b ∧ b < W3.heap.size ∧ ¬ (w1.heap.size ≤ b ∧ b < w2.heap.size)) := Lib.hid fun b hb => by
            rw [hF0d] at hb
            rcases List.mem_cons.1 hb with rfl | hb
            · omega
            · have := O1.out.1.lt b (by simpa using hb)
              omega
          have hmm := @run_makeMap Try.prog
          have HM0 : Hid ((W3.alloc (.map #[] 0)).ownsMap Try.prog 9 (plainElem (H := Unit) Try.prog 3) (w2.heap.size + 1) 0 (.map [])) := Lib.hid (by
            have h := World.ownsMap_made W3 Try.prog 9 (plainElem (H := Unit) Try.prog 3)
            rw [hs3] at h
            exact h)
          have HA4 : Hid (ArgI (W3.alloc (.map #[] 0)) (.slice A1 X.length c1) X) := Lib.hid ((((O1.out.below HB2.out).below HB3.out).alloc _).arg)
          have HW3 := Lib.hid hW3
          have HS3 := Lib.hid hs3
          clear hone hF0d hW3 hs3
          obtain ⟨RES, hRES⟩ : ∃ RES, RES = lvGo M X.length 60 0 [X] := ⟨_, rfl⟩
          rw [← hRES] at F
          have HRES := Lib.hid hRES
          clear hRES
          go_wp2_with fail
          rw [← HW3.out]
          refine (HFX.out _ HA4.out).mono ?_
          rintro e wX ⟨rfl, rfl⟩
          go_wp2_with (refine wp_insert _ rfl _ _ _ 61 rfl 9 3 strK Try.underlying61 _ (w2.heap.size + 1) 0 _ rfl HM0.out (by unfold maxLen; omega) _ _ (.string tx) rfl rfl HKX.out _ [] (plainElem_int Try.underlying3 (by decide)) ?_; intro w5 hown5 hgrow5)
          have hs5 : w2.heap.size + 1 < w5.heap.size := by
            have h1 := hgrow5.size
            have h2 := HS3.out
            have h3 : (W3.alloc (.map #[] 0)).heap.size = W3.heap.size + 1 := by simp
            omega
          have hs35 : W3.heap.size < w5.heap.size := by have := HS3.out; omega
          have HB5 : Hid (Below (w2.heap.size + 1) W3 w5) := Lib.hid (by
            have h := (((Below.refl W3.heap.size W3).alloc (Nat.le_refl _) (.map #[] 0)).mono (B' := w2.heap.size + 1) (by have := HS3.out; omega))
            exact h.grown hgrow5 (by have := HS3.out; simp; omega) (fun j hj => by cases hj; exact Nat.le_refl _))
          have HOM5 := Lib.hid hown5
          have HF5 : Hid (∀ b ∈ F0, w.heap.size ≤ b ∧ b < w2.heap.size + 1 ∧ ¬ (w1.heap.size ≤ b ∧ b < w2.heap.size)) := Lib.hid fun b hb => by have := HF0.out b hb; have := HS3.out; omega
          have HQ5 : Hid (OwLf EI 27 1 w5 (.slice (some ⟨w2.heap.size, 0, none⟩) 1 1) [X] F0) := Lib.hid (HQ0W.out.stable EI.stable fun b hb => HB5.out.block b (HF5.out b hb).2.1)
          clear hown5 hgrow5
          have HBW : Hid (∀ W, FrN ((w2.heap.size + 1) :: F0) w5 W → Below w.heap.size w W) := Lib.hid fun W hf => ((B1.out.trans (HB2.out.mono hs1)).trans ((HB3.out.mono (by omega)).trans (HB5.out.mono (by omega)))).trans ⟨hf.os, hf.tape, hf.output, hf.size, fun b hb => hf.block b (by omega) fun h => by
            rcases List.mem_cons.1 h with h | h
            · omega
            · have := (HF5.out b h).1; omega⟩
          have HMV : Hid (∀ W, FrN ((w2.heap.size + 1) :: F0) w5 W → OMS w1.heap.size w2.heap.size (.slice Ao M.length co) M W) := Lib.hid fun W hf => HOM.out.keep EM.stable fun b h1 h2 => (hf.block b (by omega) fun hb => by
            rcases List.mem_cons.1 hb with h | h
            · omega
            · exact (HF5.out b h).2.2 ⟨h1, h2⟩).trans ((HB5.out.block b (by omega)).trans (HB3.out.block b h2))
          clear HB3 HB5 HQ0W HF0 HM0 HA4 HFX HKX HOM hmm hs35
          generalize hmb : w2.heap.size + 1 = mb at *
          have HMB : Hid (w2.heap.size < mb) := Lib.hid (by omega)
          have hw5 : w.heap.size ≤ w5.heap.size := by omega
          clear hmb
          have hXI : (X.length : Int) ≤ 6 := by omega
          have HF6 : Hid (∀ b ∈ F0, b ≠ mb ∧ b < w5.heap.size) := Lib.hid fun b hb => by have := HF5.out b hb; omega
          go_loopw [13, 15] (fun qv i wr => ∃ (k : Nat) (q : List (List Int)) (G : List Nat) (D : DataW Unit), i = .int .i64 k ∧ k ≤ q.length ∧ 0 < q.length ∧ Que r X.length q ∧ RES = lvGo M X.length (60 - k) k q ∧ OwLf EI 27 1 wr qv q G ∧ G.Nodup ∧ (∀ b ∈ G, (b ∈ F0 ∨ w5.heap.size ≤ b) ∧ b < wr.heap.size) ∧ wr.ownsMap Try.prog 9 (plainElem (H := Unit) Try.prog 3) mb q.length D ∧ MapQ D q ∧ FrN (mb :: F0) w5 wr)
            (fun _ i _ => 61 - (intOf i).toNat)
          case atStart => exact ⟨0, [X], F0, _, rfl, by simp, by simp, HQ0.out, HRES.out, HQ5.out, HQ0N.out, fun b hb => ⟨.inl hb, (HF6.out b hb).2⟩, HOM5.out, HMQ0.out, FrN.refl _ _⟩
          case round =>
            obtain ⟨k, q, G, D, rfl, hk, hq0, hq, hres, x1, x2, x3, x5, x6, x4⟩ := hrel
            have HQU := Lib.hid hq
            have HRE := Lib.hid hres
            have X1 := Lib.hid x1
            have X2 := Lib.hid x2
            have X3 := Lib.hid x3
            have X4 := Lib.hid x4
            have X5 := Lib.hid x5
            have X6 := Lib.hid x6
            have hq60 := hq.len
            obtain ⟨Aq, cq, rfl, _, _, _, hgq⟩ := (OwnL.of_f (lo := 0) (hi := wr.heap.size) x1 x2 fun b hb => ⟨Nat.zero_le _, (x3 b hb).2⟩).len
            obtain ⟨gq, rfl, _, hgq2⟩ := hgq hq0
            have hsr := x4.size
            clear x1 x2 x3 x4 x5 x6 hq hres
            by_cases hlt : k < q.length
            · have HR0 : Hid (RES = lvR M X.length q[k] 0 k q) := Lib.hid (HRE.out.trans (lvR_start M X.length k q hlt hq60))
              have HUK : Hid (q[k]? = some q[k]) := Lib.hid (List.getElem?_eq_getElem hlt)
              have HUG := Lib.hid (HQU.out.el _ (List.getElem_mem hlt))
              have hkI : (k : Int) < (q.length : Int) := by omega
              generalize q[k] = u at *
              go_wp2_with fail
              go_loopw [13, 68] (fun qv j wr => ∃ (m : Nat) (q : List (List Int)) (G : List Nat) (D : DataW Unit), j = .int .i64 m ∧ m ≤ M.length ∧ Que r X.length q ∧ q[k]? = some u ∧ RES = lvR M X.length u m k q ∧ OwLf EI 27 1 wr qv q G ∧ G.Nodup ∧ (∀ b ∈ G, (b ∈ F0 ∨ w5.heap.size ≤ b) ∧ b < wr.heap.size) ∧ wr.ownsMap Try.prog 9 (plainElem (H := Unit) Try.prog 3) mb q.length D ∧ MapQ D q ∧ FrN (mb :: F0) w5 wr)
                (fun _ j _ => M.length - (intOf j).toNat)
              case atStart => exact ⟨0, q, G, D, rfl, Nat.zero_le _, HQU.out, HUK.out, HR0.out, X1.out, X2.out, X3.out, X5.out, X6.out, X4.out⟩
              case round =>
                clear HQU HRE X1 X2 X3 X4 X5 X6 HR0 HUK hq60 hkI hlt hk hsr hq0 hgq hgq2
                obtain ⟨m, q, G, D, rfl, hm, hq, huk, hres, x1, x2, x3, x5, x6, x4⟩ := hrel
                have HQU := Lib.hid hq
                have HRE := Lib.hid hres
                have HUK := Lib.hid huk
                have X1 := Lib.hid x1
                have X2 := Lib.hid x2
                have X3 := Lib.hid x3
                have X4 := Lib.hid x4
                have X5 := Lib.hid x5
                have X6 := Lib.hid x6
                have hq60 := hq.len
                obtain ⟨Aq, cq, rfl, _⟩ := (OwnL.of_f (lo := 0) (hi := wr.heap.size) x1 x2 fun b hb => ⟨Nat.zero_le _, (x3 b hb).2⟩).len
                have hsr := x4.size
                have hkq : k < q.length := (List.getElem?_eq_some_iff.1 huk).1
                have hku : q[k] = u := (List.getElem?_eq_some_iff.1 huk).2
                clear x1 x2 x3 x4 x5 x6 hq hres huk
                by_cases hlt : m < M.length
                · have hu6 : u.length ≤ 6 := by have := HUG.out.1; omega
                  obtain ⟨gm, s, rfl, hgm, c0, c1', hRD⟩ := mv_at (HMV.out _ X4.out) m hlt
                  obtain ⟨As, cs, rfl, _⟩ := hRD.form
                  obtain ⟨b, off, A1', cap1', hAq, hb, hcl, _, _, hRU⟩ := (ReadII X1.out X2.out).at hkq
                  subst hAq
                  rw [hku] at hcl hRU
                  have HOKM := Lib.hid (HMO.out M[m] (List.getElem_mem hlt))
                  have HY18 := Lib.hid (yF_len HOKM.out u hu6)
                  have HYL := Lib.hid (yF_let HRB.out HOKM.out u)
                  have HSK : Hid (¬ ((yF M[m] u).length = X.length ∧ yF M[m] u ∉ q) → RES = lvR M X.length u (m + 1) k q) := Lib.hid fun hc => HRE.out.trans (lvR_skip hlt hc)
                  have HFU : Hid ((yF M[m] u).length = X.length ∧ yF M[m] u ∉ q → 60 ≤ q.length → RES = none) := Lib.hid fun hc h60 => HRE.out.trans (lvR_full hlt hc h60)
                  have HPU : Hid ((yF M[m] u).length = X.length ∧ yF M[m] u ∉ q → ¬ 60 ≤ q.length → RES = lvR M X.length u (m + 1) k (q ++ [yF M[m] u])) := Lib.hid fun hc h60 => HRE.out.trans (lvR_push hlt hc h60)
                  have HRD := Lib.hid hRD
                  have HRU := Lib.hid hRU
                  have HEX := Lib.hid fun W (h : RdII W (.slice As M[m].2.length cs) M[m].2) (h' : RdI W (.slice A1' u.length cap1') u) => implExpandBy_any _ _ M[m].2 u W h h' (by have := HOKM.out.1; omega) (fun b hb => by have := (HOKM.out.2.2 b hb).1; omega) (by omega)
                  have HCF := Lib.hid fun W v (h : RdI W v (expL M[m].2 u)) => implCyclicForm_any v (expL M[m].2 u) W h (by have := HY18.out.1; omega)
                  have HYD : Hid (cycF (expL M[m].2 u) = yF M[m] u) := Lib.hid rfl
                  rw [HYD.out] at HCF
                  have hmI : (m : Int) < (M.length : Int) := by omega
                  have hkI : (k : Int) < (q.length : Int) := by omega
                  have HYT : Hid (okT (yF M[m] u)) := Lib.hid (let_okT HRB.out HYL.out)
                  generalize yF M[m] u = y at *
                  generalize expL M[m].2 u = E at *
                  obtain ⟨m1, hm1⟩ : ∃ m1 : Int, m1 = M[m].1 := ⟨_, rfl⟩
                  rw [← hm1] at c0
                  clear hm1
                  generalize M[m].2 = B at *
                  clear HYD hRD hRU
                  have hy18 : y.length ≤ 18 := HY18.out.2
                  have HKY : Hid (keyOf Try.prog 9 (.string ⟨(fmtW y).toArray⟩) = some (.string (fmtW y))) := Lib.hid (strK_key (by omega))
                  have HAT := Lib.hid (X6.out.at_ y HYT.out)
                  have HMP := Lib.hid (X6.out.put HYT.out (y := y) (by omega))
                  have HFY := Lib.hid fun W v (h : ArgI W v y) => implFormatWord_any v y W h (by omega)
                  unfold str at HFY
                  generalize fmtW y = ty at *
                  obtain ⟨wb, hwb⟩ : ∃ wb : World, wb = wr.alloc (Obj.cells #[.int .i64 m1, .slice As B.length cs] 45) := ⟨_, rfl⟩
                  have HWB : Hid (Below wr.heap.size wr wb) := Lib.hid (by rw [hwb]; exact (Below.refl _ _).alloc (Nat.le_refl _) _)
                  have hsb : wr.heap.size < wb.heap.size := by rw [hwb]; simp
                  have cb1 : wb.cell? ⟨wr.heap.size, 1, none⟩ = some (.slice As B.length cs) := by rw [hwb]; simp [go_sem]
                  have hclb := (HWB.out.cell (p := ⟨b, off + k, none⟩) hb).trans hcl
                  have hbb : b < wb.heap.size := by omega
                  have HDd : Hid (Below wr.heap.size wr wb.drew) := Lib.hid HWB.out.drew
                  have HDb : Hid (Below wb.heap.size wb wb.drew) := Lib.hid (Below.refl _ _).drew
                  have HWBE := Lib.hid hwb
                  clear hwb
                  go_wp2_with fail
                  rw [← HWBE.out]
                  go_region_held3 (fun w' => w'.cell? ⟨wr.heap.size, 1, none⟩ = some (.slice As B.length cs) ∧ w'.cell? ⟨b, off + k, none⟩ = some (.slice A1' u.length cap1'))
                    (first | go_keep | exact ⟨s0, s1⟩)
                    (first
                      | (go_at_call 48; (with_reducible refine (HEX.out _ (HRD.out.below HDd.out) (HRU.out.below HDd.out)).mono ?_); rintro e w5' ⟨r5, rfl, o5, b5⟩; have HC5 : Hid (Below wb.heap.size wb w5') := Lib.hid (HDb.out.trans (b5.mono HDb.out.size)); have HR5 := Lib.hid (o5.mono HDb.out.size); have hs5' := HC5.out.size; have s0 := (HC5.out.cell (p := ⟨wr.heap.size, 1, none⟩) hsb).trans cb1; have s1 := (HC5.out.cell (p := ⟨b, off + k, none⟩) hbb).trans hclb; clear o5 b5)
                      | (go_at_call 47; (with_reducible refine (HCF.out _ _ HR5.out.rd).mono ?_); rintro e w6 ⟨r6, rfl, o6, b6⟩; have HC6 : Hid (Below wb.heap.size wb w6) := Lib.hid (HC5.out.trans (b6.mono hs5')); have HB6 : Hid (Below wr.heap.size wr w6) := Lib.hid (HWB.out.trans (HC6.out.mono (Nat.le_of_lt hsb))); have HR6 := Lib.hid (o6.mono (Nat.le_trans (Nat.le_of_lt hsb) hs5')); have hs6 := HB6.out.size; have s0 := (HC6.out.cell (p := ⟨wr.heap.size, 1, none⟩) hsb).trans cb1; have s1 := (HC6.out.cell (p := ⟨b, off + k, none⟩) hbb).trans hclb; clear o6 b6))
                  obtain ⟨A6, c6, rfl, _⟩ := HR6.out.form
                  have HX46 := Lib.hid (X4.out.bel HB6.out)
                  have HXS : Hid (OwLf EI 27 1 w6 (.slice (some ⟨b, off, none⟩) q.length cq) q G) := Lib.hid (X1.out.stable EI.stable fun b hb => HB6.out.block b (X3.out b hb).2)
                  have HX3S : Hid (∀ b ∈ G, (b ∈ F0 ∨ w5.heap.size ≤ b) ∧ b < w6.heap.size) := Lib.hid fun b hb => ⟨(X3.out b hb).1, Nat.lt_of_lt_of_le (X3.out b hb).2 hs6⟩
                  have HX5S : Hid (w6.ownsMap Try.prog 9 (plainElem (H := Unit) Try.prog 3) mb q.length D) := Lib.hid (X5.out.kept (bel_grown HB6.out) (by simp))
                  clear s0 s1
                  rcases e1 : ((y.length : Int) != (X.length : Int)) with _ | _
                  · have hye : y.length = X.length := Int.ofNat_inj.1 (by simpa using e1)
                    have HYE := Lib.hid hye
                    obtain ⟨c, hrun, hat, _⟩ := HX5S.out.lookup_int strK Try.underlying61 Try.underlying3 (zeroI _) HKY.out
                    have hcq : c = if y ∈ q then 1 else 0 := by
                      have h := HAT.out
                      rw [hat] at h
                      injection h with h
                      injection h
                    clear hye hat
                    by_cases hin : y ∈ q
                    · have HRN : Hid (RES = lvR M X.length u (m + 1) k q) := Lib.hid (HSK.out fun h => h.2 hin)
                      rw [if_pos hin] at hcq
                      subst hcq
                      clear hin hku
                      go_wp2_with (go_at_call 46; (with_reducible refine (HFY.out _ _ HR6.out.arg).mono ?_); rintro e w7 ⟨rfl, rfl⟩)
                      go_roundw
                      case rel => exact ⟨m + 1, q, G, D, by go_num, by omega, HQU.out, HUK.out, HRN.out, HXS.out, X2.out, HX3S.out, HX5S.out, X6.out, HX46.out⟩
                      case measure => (simp [intOf]; omega)
                    · rw [if_neg hin] at hcq
                      subst hcq
                      have HNI := Lib.hid hin
                      clear hin
                      by_cases h60 : 60 ≤ q.length
                      · have HRN : Hid (RES = none) := Lib.hid (HFU.out ⟨HYE.out, HNI.out⟩ h60)
                        have e60 : ((q.length : Int) == 60) = true := by simp; omega
                        clear hku
                        go_wp2_with (go_at_call 46; (with_reducible refine (HFY.out _ _ HR6.out.arg).mono ?_); rintro e w7 ⟨rfl, rfl⟩)
                        refine bodyPost_ret (v := .tuple #[.slice (some ⟨w6.heap.size, 0, none⟩) 0 0, .bool false]) (by simp [results, Try.results21, go_sem]) rfl ⟨_, by rw [F.out, HRN.out], ?_, ?_⟩
                        · rw [F.out, HRN.out]
                          have := OwII_lit w6 (lo := w.heap.size) (by omega)
                          exact this.widen (Nat.le_refl _) (by simp)
                        · exact (HBW.out w6 HX46.out).alloc (by omega) _
                      · have HRN : Hid (RES = lvR M X.length u (m + 1) k (q ++ [y])) := Lib.hid (HPU.out ⟨HYE.out, HNI.out⟩ h60)
                        have e60 : ((q.length : Int) == 60) = false := by simp; omega
                        have HQP : Hid (Que r X.length (q ++ [y])) := Lib.hid (HQU.out.push HYE.out HYL.out HNI.out h60)
                        have HUP : Hid ((q ++ [y])[k]? = some u) := Lib.hid (by rw [List.getElem?_append_left hkq]; exact HUK.out)
                        have hq60' : q.length ≤ 1073741824 := by omega
                        have HGM : Hid (∀ b ∈ G, b ≠ mb) := Lib.hid fun b hb => by
                          rcases (X3.out b hb).1 with h | h
                          · exact (HF6.out b h).1
                          · omega
                        have hmr : mb < wr.heap.size := X5.out.lt
                        clear hku hrun
                        have hrun := (HX5S.out.lookup_int strK Try.underlying61 Try.underlying3 (zeroI _) HKY.out)
                        obtain ⟨c', hrun, hat, _⟩ := hrun
                        obtain rfl : c' = 0 := by
                          have h := HAT.out
                          rw [hat, if_neg HNI.out] at h
                          injection h with h
                          injection h
                        clear hat
                        go_wp2_with (first
                          | (go_at_call 46; (with_reducible refine (HFY.out _ _ HR6.out.arg).mono ?_); rintro e w7 ⟨rfl, rfl⟩)
                          | (at_mapUpdate; refine wpList_mapUpdate_own _ rfl _ _ _ 61 rfl 9 3 strK Try.underlying61 _ mb q.length D rfl HX5S.out (by unfold maxLen; omega) _ _ (.string ty) rfl rfl HKY.out _ [] (plainElem_int Try.underlying3 (by decide)) ?_; intro w8 hown8 hgrow8; have HM8 := Lib.hid hown8; have HG8 := Lib.hid hgrow8; have HXS8 : Hid (OwLf EI 27 1 w8 (.slice (some ⟨b, off, none⟩) q.length cq) q G) := Lib.hid (HXS.out.stable EI.stable fun c hc => hgrow8.block c (HX3S.out c hc).2 (fun e => HGM.out c hc (by injection e))); have hz8 := hgrow8.size; have HR8 : Hid (OwI w8 wr.heap.size (.slice A6 y.length c6) y) := Lib.hid ⟨ownsRow_keep HR6.out.1 fun c hc => hgrow8.block c (HR6.out.1.lt c hc).2 (fun e => by injection e with e; have := (HR6.out.1.lt c hc).1; omega), HR6.out.2⟩; clear hown8 hgrow8)
                          | (at_builtin; refine push_intsN (N := wr.heap.size) rfl (.tmp 99) (.tmp 101) rfl (HXS8.out.stable EI.stable fun c hc => Below.heap_alloc w8 _ c (Nat.lt_of_lt_of_le (HX3S.out c hc).2 hz8)) X2.out (fun c hc => (X3.out c hc).2) (by simp; omega) rfl _ _ y rfl (HR8.out.alloc _) (Nat.le_refl _) (cell_new1 _ _ _) rfl hq60' ?_; intro vz wz Gz oz nz fz gz; obtain ⟨Az, mz, cz, rfl⟩ := oz.form; have OZ := Lib.hid oz; have NZ := Lib.hid nz; have FZ := Lib.hid fz; have GZ := Lib.hid gz; clear oz nz fz gz))
                        have hgz := GZ.out.size
                        have hgz2 : w8.heap.size < wz.heap.size := by simp at hgz; omega
                        have HM9 : Hid (wz.ownsMap Try.prog 9 (plainElem (H := Unit) Try.prog 3) mb (q.length + 1) (D.put (.string ty) (.lit (.int .i64 1)))) := Lib.hid ((HM8.out.alloc _).kept GZ.out (fun e => HGM.out mb (HXS8.out.mem e.symm) rfl))
                        have HX8 : Hid (FrN (mb :: F0) w5 w8) := Lib.hid (HX46.out.trans (FrN.grown HG8.out fun b hb => by injection hb with hb; subst hb; simp))
                        have HX9 : Hid (FrN (mb :: F0) w5 (w8.alloc (.cells #[.slice A6 y.length c6] 27))) := Lib.hid (HX8.out.bel ((Below.refl _ _).alloc (Nat.le_refl _) _))
                        go_roundw
                        case rel =>
                          refine ⟨m + 1, q ++ [y], Gz, _, by go_num, by omega, HQP.out, HUP.out, HRN.out, OZ.out, NZ.out, fun c hc => ⟨?_, (FZ.out c hc).2⟩, by rw [List.length_append, List.length_singleton]; exact HM9.out, HMP.out, ⟨GZ.out.os.trans HX9.out.os, GZ.out.tape.trans HX9.out.tape, GZ.out.output.trans HX9.out.output, Nat.le_trans HX9.out.size hgz, fun c h1 h2 => (GZ.out.block c (Nat.lt_of_lt_of_le h1 HX9.out.size) fun e => ?_).trans (HX9.out.block c h1 h2)⟩⟩
                          · rcases (FZ.out c hc).1 with h | h
                            · exact (X3.out c h).1
                            · exact .inr (by omega)
                          · rcases (X3.out c (HXS8.out.mem e.symm)).1 with h | h
                            · exact h2 (by simp [h])
                            · omega
                        case measure => (simp [intOf]; omega)
                  · have hne : ¬ y.length = X.length := fun e => by rw [e] at e1; simp at e1
                    have HRN : Hid (RES = lvR M X.length u (m + 1) k q) := Lib.hid (HSK.out fun h => hne h.1)
                    clear hne hku
                    go_wp2
                    go_roundw
                    case rel => exact ⟨m + 1, q, G, D, by go_num, by omega, HQU.out, HUK.out, HRN.out, HXS.out, X2.out, HX3S.out, HX5S.out, X6.out, HX46.out⟩
                    case measure => (simp [intOf]; omega)
                · obtain rfl : m = M.length := by omega
                  have HRF : Hid (RES = lvGo M X.length (60 - (k + 1)) (k + 1) q) := Lib.hid (HRE.out.trans (lvR_end M X.length u k q))
                  clear hku
                  go_wp2
                  go_roundw
                  case rel => exact ⟨k + 1, q, G, D, by go_num, by omega, by omega, HQU.out, HRF.out, X1.out, X2.out, X3.out, X5.out, X6.out, X4.out⟩
                  case measure => (simp [intOf]; omega)
            · obtain rfl : k = q.length := by omega
              have HRS : Hid (RES = some q) := Lib.hid (HRE.out.trans (lvGo_end M X.length _ q))
              have HSO := Lib.hid (sortW_any gq q.length cq q G wr X1.out X2.out (fun b hb => (X3.out b hb).2) HQU.out.nd (HQU.out.small HRB.out) (by omega) (by rintro rfl; simp at hq0))
              have HXM := Lib.hid (X1.out.mem (b := gq) rfl)
              go_wp2_with (go_at_call 49; (with_reducible refine HSO.out.mono ?_); rintro e w9 ⟨rfl, G9, o9, n9, f9, g9⟩; have O9 := Lib.hid o9; have N9 := Lib.hid n9; have F9 := Lib.hid f9; have G9' := Lib.hid g9; clear o9 n9 f9 g9)
              have hgx : w.heap.size ≤ gq := by
                rcases (X3.out gq HXM.out).1 with h | h
                · exact (HF5.out gq h).1
                · omega
              have hs9 := G9'.out.size
              refine bodyPost_ret (v := .tuple #[.slice (some ⟨gq, 0, none⟩) q.length cq, .bool true]) (by simp [results, Try.results21, go_sem]) rfl ⟨_, by rw [F.out, HRS.out], ?_, (HBW.out wr X4.out).grown G9'.out (by omega) (fun j hj => by cases hj; exact hgx)⟩
              rw [F.out, HRS.out]
              exact OwnL.of_f O9.out N9.out fun b hb => ⟨by
                rcases (X3.out b (F9.out b hb)).1 with h | h
                · exact (HF5.out b h).1
                · omega, by have := (X3.out b (F9.out b hb)).2; omega⟩
    · have F := Lib.hid (levF_bad (r := r) (w := xs) (by simp [h6]))
      rw [eb] at HIW
      clear eb
      generalize (redF r xs).1 = X at *
      have h6I : (6 : Int) < (X.length : Int) := by omega
      go_enter Try.func21, Try.ntmps21
      go_wp2_with (first
        | (go_at_call 42; (with_reducible refine (HIW.out _ HX.out.arg).mono ?_); rintro e w2 ⟨rfl, rfl⟩)
        | (go_at_call 43; (with_reducible refine (HRC.out _ HX.out).mono ?_); rintro e w1 ⟨s1, t1, rfl, o1, o2, b1⟩; have B1 := Lib.hid b1; obtain ⟨A1, c1, rfl, _⟩ := o1.form; obtain ⟨A2, c2, rfl, _⟩ := o2.len; clear o1 o2 b1))
      refine bodyPost_ret (v := .tuple #[.slice (some ⟨w1.heap.size, 0, none⟩) 0 0, .bool false]) (by simp [results, Try.results21, go_sem]) rfl ⟨_, by rw [F.out], ?_, ?_⟩
      · rw [F.out]
        have := OwII_lit w1 (lo := w.heap.size) B1.out.size
        exact this.widen (Nat.le_refl _) (by simp)
      · exact B1.out.alloc (by exact B1.out.size) _
end Go.Proofs.Ytnmkbkpegkchpaa
