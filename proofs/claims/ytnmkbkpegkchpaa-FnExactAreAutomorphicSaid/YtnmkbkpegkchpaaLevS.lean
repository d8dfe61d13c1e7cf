/- The reference's part of the level search: its moves, membership, the insertion into an ascending list. -/
import Derived.Test.YtnmkbkpegkchpaaLevP
import Derived.Test.YtnmkbkpegkchpaaExpB
import Derived.Test.YtnmkbkpegkchpaaCyc
import Derived.Test.YtnmkbkpegkchpaaCmpW
namespace Go.Proofs.Ytnmkbkpegkchpaa
set_option maxRecDepth 20000
set_option linter.unusedVariables false
set_option linter.unusedSimpArgs false
open Go.RowKit

theorem ReadII {w : World} {v : Value} {q : List (List Int)} {F : List Nat} (h : OwLf EI 27 1 w v q F) (hn : F.Nodup) : RdII w v q :=
  OwII.rd (lo := 0) (hi := F.foldr (fun a b => a + b) 0 + F.length + 1 + (F.foldr Nat.max 0)) (OwnL.of_f h hn fun b hb => ⟨Nat.zero_le _, by
    have : ∀ F : List Nat, b ∈ F → b ≤ F.foldr Nat.max 0 := by
      intro F
      induction F with
      | nil => intro h; cases h
      | cons a F ih =>
        intro h
        rw [List.foldr_cons]
        rcases List.mem_cons.1 h with rfl | h
        · exact Nat.le_max_left _ _
        · exact Nat.le_trans (ih h) (Nat.le_max_right _ _)
    have := this F hb
    omega⟩)
/-- 'out = append(out, row)', row made since; where the blocks come from is told. -/
theorem push_intsF {w0 w : World} {v : Value} {L : List (List Int)} {F : List Nat} {ops : Array Oper} {rest : List Oper} {o : Oper} {a : Act} {Q : Exit → Act → World → Prop} (hgd : o.guard = none) (s x : Operand)
    (ho : o.op = .call { callee := .builtin .append, args := #[s, x], argTypes := #[37, 37] })
    (hown : OwLf EI 27 1 w0 v L F) (hnF : F.Nodup) (hF : ∀ b ∈ F, b < w0.heap.size) (hbel : Below w0.heap.size w0 w) (hs : a.eval s = v) (b : Nat) (z : Value) (d : List Int) {base : Nat} (hx : a.eval x = .slice (some ⟨b, 0, none⟩) 1 1)
    (hel : OwI w base z d) (hbase : w0.heap.size ≤ base) (hc : w.cell? ⟨b, 0, none⟩ = some z) (hz : z.oneCell' = true) (hl : L.length ≤ 1073741824)
    (h : ∀ v' w' F', OwLf EI 27 1 w' v' (L ++ [d]) F' → F'.Nodup → (∀ b ∈ F', (b ∈ F ∨ w0.heap.size ≤ b) ∧ b < w'.heap.size) → w.grownBy w' v.ownBlock → wpList Try.prog ops Q rest (a.put o.dst v') w') :
    wpList Try.prog ops Q (o :: rest) a w := by
  obtain ⟨i0, hi0, hz0, hz1, hz2⟩ := info_parts ints_info
  refine push_ownF EI.stable hgd s x ho Try.underlying37 hi0 hz0 hz1 hz2 rfl (by decide) (by decide) hown hnF hF hbel hs b [z] d _ hx (EI.of hel) rfl ?_ ?_ ?_ ?_ hl h
  · cases z.ownBlock <;> simp
  · intro k hk
    have := hel.1.lt k (by simpa using hk)
    omega
  · intro j u hj
    match j, hj with
    | 0, hj => simp at hj; subst hj; exact hc
  · intro u hu; simp at hu; subst hu; exact hz
set_option maxHeartbeats 1000000 in
theorem l22In_any (u v : Value) (q : List (List Int)) (y : List Int) (w : World) (h : RdII w u q) (h' : RdI w v y) (hl : q.length ≤ 1073741824) :
    Calls Try.prog 40 #[u, v] w fun e w' => e = .returned (.bool (decide (y ∈ q))) ∧ ∃ n, w' = w.drewN n := by
  have H := Lib.hid h
  have H' := Lib.hid h'
  obtain ⟨A, cap, rfl, hcap, hm, _⟩ := h.form
  unfold maxLen at hm
  clear h h'
  go_enter Try.func40, Try.ntmps40
  go_wp2
  go_loopw [5] (fun i wr => ∃ k : Nat, k ≤ q.length ∧ i = .int .i64 k ∧ y ∉ q.take k ∧ ∃ n, wr = w.drewN n) (fun i _ => q.length - (intOf i).toNat)
  case atStart => exact ⟨0, Nat.zero_le _, rfl, by simp, 0, rfl⟩
  case round =>
    obtain ⟨k, hk, rfl, hno, n, rfl⟩ := hrel
    have HNO := Lib.hid hno
    clear hno
    by_cases hlt : k < q.length
    · obtain ⟨b, off, A1, cap1, rfl, hb, hc, _, _, hr⟩ := H.out.at hlt
      have HT : Hid (q.take (k + 1) = q.take k ++ [q[k]]) := Lib.hid (List.take_succ_eq_append_getElem hlt)
      have HM := Lib.hid (List.getElem_mem hlt)
      have HR := Lib.hid hr
      have hkI : (k : Int) < (q.length : Int) := by omega
      clear hr
      generalize q[k] = x at *
      rcases e1 : decide (x = y) with _ | _
      · have HE := Lib.hid fun w (h : ArgI w (.slice A1 x.length cap1) x) (h' : ArgI w v y) => specEqualWords_any _ v x y w h h'
        rw [e1] at HE
        have hne : x ≠ y := of_decide_eq_false e1
        have HNE := Lib.hid hne
        clear e1 hne
        go_wp2_with (go_at_call 33; refine (HE.out _ (HR.out.drewN n).arg (H'.out.drewN n).arg).mono ?_; rintro e w1 ⟨rfl, n1, rfl⟩)
        go_roundw
        case rel => exact ⟨k + 1, by omega, by go_num, by rw [HT.out]; simp only [List.mem_append, List.mem_singleton, not_or]; exact ⟨HNO.out, fun h : y = x => HNE.out h.symm⟩, _, rfl⟩
        case measure => (first | omega | (simp [intOf]; omega))
      · have HE := Lib.hid fun w (h : ArgI w (.slice A1 x.length cap1) x) (h' : ArgI w v y) => specEqualWords_any _ v x y w h h'
        rw [e1] at HE
        have HEQ : Hid (x = y) := Lib.hid (of_decide_eq_true e1)
        clear e1
        go_wp2_with (go_at_call 33; refine (HE.out _ (HR.out.drewN n).arg (H'.out.drewN n).arg).mono ?_; rintro e w1 ⟨rfl, n1, rfl⟩)
        go_ret
        exact ⟨ret_bool (by symm; rw [decide_eq_true_eq, ← HEQ.out]; exact HM.out), _, rfl⟩
    · obtain rfl : k = q.length := by omega
      go_wp2
      go_ret
      refine ⟨ret_bool ?_, n, rfl⟩
      have h1 := HNO.out
      rw [List.take_length] at h1
      simp [h1]
set_option maxHeartbeats 1000000 in
theorem l22Moves_any (r : Int) (w : World) (hr : I64 r) :
    Calls Try.prog 37 #[.int .i64 r] w fun e w' => ∃ v, e = .returned v ∧ OMS w.heap.size w'.heap.size v (movF r) w' ∧ Below w.heap.size w w' := by
  have HR := Lib.hid hr
  have HLW := Lib.hid (allWh_len r)
  have HLR := Lib.hid (relF_len r)
  have HIW : Hid (∀ d ∈ allWh r, d.2.length ≤ 1073741824) := Lib.hid (allWh_nums r).2
  go_enter Try.func37, Try.ntmps37
  go_wp2_with (first
    | (go_at_call 7; refine (specAllRelabellings_any r _ HR.out).mono ?_; rintro e w1 ⟨v1, rfl, o1, b1⟩; have O1 := Lib.hid o1; have B1 := Lib.hid b1; obtain ⟨A1, m1, c1, rfl⟩ := o1.any; clear o1 b1)
    | (go_at_call 54; refine (specAllWhitehead_any r _).mono ?_; rintro e w2 ⟨v2, rfl, o2, b2⟩; have O2 := Lib.hid o2; have B2 := Lib.hid b2; obtain ⟨A2, cap2, rfl, _⟩ := o2.len; clear o2 b2))
  have hs1 := B1.out.size
  have hs2 := B2.out.size
  obtain ⟨F0, hO0, hn0, hF0⟩ := O1.out
  have H0 := Lib.hid hO0
  have HN0 := Lib.hid hn0
  have HF0 := Lib.hid hF0
  clear hO0 hn0 hF0 O1 hr
  have hLl := HLW.out
  generalize hL : allWh r = L at *
  have HLL : Hid (movF r = relF r ++ L.map (whM r)) := Lib.hid (by unfold movF; rw [hL])
  clear hL
  have hLR := HLR.out
  generalize relF r = R at *
  go_loopw [3, 5] (fun out i wr => ∃ k : Nat, k ≤ L.length ∧ i = .int .i64 k ∧ ∃ F', OwLf EM 45 2 wr out (R ++ (L.take k).map (whM r)) F' ∧ F'.Nodup ∧ (∀ b ∈ F', (b ∈ F0 ∨ w2.heap.size ≤ b) ∧ b < wr.heap.size) ∧ FrN F0 w2 wr)
    (fun _ i _ => L.length - (intOf i).toNat)
  case atStart =>
    exact ⟨0, Nat.zero_le _, rfl, F0, by simpa using H0.out.stable EM.stable fun b hb => B2.out.block b (HF0.out b hb).2, HN0.out, fun b hb => ⟨.inl hb, Nat.lt_of_lt_of_le (HF0.out b hb).2 hs2⟩, FrN.refl _ _⟩
  case round =>
    obtain ⟨k, hk, rfl, F', x1, x2, x3, x4⟩ := hrel
    have X1 := Lib.hid x1
    have X2 := Lib.hid x2
    have X3 := Lib.hid x3
    have X4 := Lib.hid x4
    obtain ⟨Ao, mo, co, rfl⟩ := x1.form
    have hsr := x4.size
    clear x1 x2 x3 x4
    by_cases hlt : k < L.length
    · obtain ⟨g, cs, Fe, rfl, hg1, hg2, hE, hcw, hFe, hnd, hc, hfz, hgs, hfin⟩ := (O2.out.keep EWh.stable (w' := wr) fun b h1 h2 => X4.out.block b h2 fun hb => by have := HF0.out b hb; omega).focus EWh.stable hlt
      obtain ⟨s, rfl, hd, ho, _⟩ := EWh.at hE
      have c0 := hc 0 (by simp)
      have c1 := hc 1 (by simp)
      simp only [List.getElem_cons_zero, List.getElem_cons_succ, Nat.add_zero] at c0 c1
      have HA : Hid (ArgWh wr (.agg #[.int .i64 L[k].1, s]) L[k]) := Lib.hid ⟨s, rfl, hd, ho.arg⟩
      have HWM := Lib.hid (fun (W : World) (h : ArgWh W (.agg #[.int .i64 L[k].1, s]) L[k]) => specWhiteheadMorphism_any r (.agg #[.int .i64 L[k].1, s]) L[k] W HR.out h (HIW.out _ (List.getElem_mem hlt)))
      have HTK : Hid (R ++ (L.take (k + 1)).map (whM r) = (R ++ (L.take k).map (whM r)) ++ [whM r L[k]]) := Lib.hid (by rw [List.take_succ_eq_append_getElem hlt, List.map_append, ← List.append_assoc]; rfl)
      have hql : (R ++ (L.take k).map (whM r)).length ≤ 1073741824 := by rw [List.length_append, List.length_map, List.length_take]; omega
      have hkI : (k : Int) < (L.length : Int) := by omega
      have HIM := Lib.hid (whM_I64 L[k] HR.out)
      clear hc hfz hfin hFe hnd hE ho hd hcw hg1 hg2
      generalize R ++ (L.take k).map (whM r) = Q0 at *
      generalize L[k] = d at *
      obtain ⟨d1, d2⟩ := d
      simp only at c0 c1 HA HWM
      have hgw : g < wr.heap.size := hgs
      go_wp2_with fail
      refine (HWM.out _ HA.out).mono ?_
      rintro e w3 ⟨sm, rfl, o3, b3⟩
      have O3 := Lib.hid o3
      have B3 := Lib.hid b3
      obtain ⟨A3, m3, c3, rfl⟩ := o3.any
      have hs3 := b3.size
      clear o3 b3
      obtain ⟨M, hM⟩ : ∃ M : MoD, M = whM r (d1, d2) := ⟨_, rfl⟩
      rw [← hM] at O3 HIM HTK
      rw [← hM]
      have hIM := HIM.out
      have HBA : Hid (Below wr.heap.size wr ((w3.alloc (.cells #[.int .i64 M.1, .slice A3 m3 c3] 45)).alloc (.cells #[.int .i64 M.1, .slice A3 m3 c3] 45))) := Lib.hid ((B3.out.alloc hs3 _).alloc (by simp; omega) _)
      have HCA : Hid (∀ j u, [Value.int .i64 M.1, .slice A3 m3 c3][j]? = some u → ((w3.alloc (.cells #[.int .i64 M.1, .slice A3 m3 c3] 45)).alloc (.cells #[.int .i64 M.1, .slice A3 m3 c3] 45)).cell? ⟨w3.heap.size + 1, j, none⟩ = some u) := Lib.hid fun j u hj => by
        match j, hj with
        | 0, hj => simp at hj; subst hj; simp [go_sem]
        | 1, hj => simp at hj; subst hj; simp [go_sem]
      have HFA : Hid (OwII wr.heap.size w3.heap.size (.slice A3 m3 c3) M.2 ((w3.alloc (.cells #[.int .i64 M.1, .slice A3 m3 c3] 45)).alloc (.cells #[.int .i64 M.1, .slice A3 m3 c3] 45))) := Lib.hid (O3.out.keep EI.stable fun b _ hb => (Below.heap_alloc _ _ b (by simp; omega)).trans (Below.heap_alloc w3 _ b hb))
      have HLT : Hid (∀ b ∈ F', b < wr.heap.size) := Lib.hid fun b hb => (X3.out b hb).2
      clear hM HWM
      go_wp2_with (at_builtin; refine push_mo rfl (.tmp 27) (.tmp 29) rfl X1.out X2.out HLT.out HBA.out rfl _ _ M rfl HFA.out hIM (Nat.le_refl _) (by simp; omega) HCA.out rfl hql ?_; intro vz wz Fz oz1 oz2 oz3 gz; obtain ⟨Av, mv, cv, rfl⟩ := oz1.form; have OZ1 := Lib.hid oz1; have OZ2 := Lib.hid oz2; have OZ3 := Lib.hid oz3; have GZ := Lib.hid gz; clear oz1 oz2 oz3 gz)
      have hs10 := HBA.out.size
      have hgs := GZ.out.size
      go_roundw
      case rel =>
        refine ⟨k + 1, by omega, by go_num, Fz, by rw [HTK.out]; exact OZ1.out, OZ2.out, fun y hy => ⟨?_, (OZ3.out y hy).2⟩, ⟨?_, ?_, ?_, by omega, fun y h1 h2 => ?_⟩⟩
        · rcases (OZ3.out y hy).1 with h | h
          · exact (X3.out y h).1
          · exact .inr (by omega)
        · exact GZ.out.os.trans (HBA.out.os.trans X4.out.os)
        · exact GZ.out.tape.trans (HBA.out.tape.trans X4.out.tape)
        · exact GZ.out.output.trans (HBA.out.output.trans X4.out.output)
        · refine (GZ.out.block y (by omega) fun e => ?_).trans ((HBA.out.block y (by omega)).trans (X4.out.block y h1 h2))
          rcases (X3.out y (X1.out.mem e.symm)).1 with h | h
          · exact h2 h
          · omega
      case measure => (first | omega | (simp [intOf]; omega))
    · obtain rfl : k = L.length := by omega
      have HF9 : Hid (OwLf EM 45 2 wr (.slice Ao mo co) (movF r) F') := Lib.hid (by have h := X1.out; rw [List.take_length] at h; rw [HLL.out]; exact h)
      clear X1
      go_wp2
      refine bodyPost_ret (v := .slice Ao mo co) (by simp [results, Try.results37, go_sem]) rfl ⟨_, rfl, ⟨F', HF9.out, X2.out, fun b hb => ⟨?_, (X3.out b hb).2⟩⟩, ?_⟩
      · rcases (X3.out b hb).1 with h | h
        · exact (HF0.out b h).1
        · omega
      · exact (B1.out.trans (B2.out.mono hs1)).trans ⟨X4.out.os, X4.out.tape, X4.out.output, X4.out.size, fun b hb => X4.out.block b (by omega) fun h => by have := HF0.out b h; omega⟩
end Go.Proofs.Ytnmkbkpegkchpaa
