/- The draws that make texts. -/
import Derived.Test.YtgoghkboklehnaaDrawN
import Derived.Test.YtgoghkboklehnaaFmt
import Derived.Laws.BytesArg
import Derived.Deep.RegionHeld3
namespace Go.Proofs.Ytgoghkboklehnaa
set_option maxRecDepth 20000
set_option linter.unusedVariables false
set_option linter.unusedSimpArgs false
open Go.RowKit

theorem u8_info : (Try.prog.info? 5).map (fun i => (i.zero, i.size, i.bytes)) = some (some (.int .u8 0), 1, 1) := by kernel_rfl
/-- An owned row of bytes. -/
def OwB (w : World) (base : Nat) (v : Value) (bs : List Int) : Prop := w.ownsRow base 5 1 v bs.length (bs.map (Value.int .u8))
theorem OwB_lit (w : World) {base : Nat} (hb : base ≤ w.heap.size) : OwB (w.alloc (.cells #[] 5)) base (.slice (some ⟨w.heap.size, 0, none⟩) 0 0) [] := by
  have := World.ownsRow_lit (e := 5) (size := 1) w #[] 0 hb (by unfold maxLen; omega) (by simp)
  simpa [OwB] using this
theorem push_u8 {w : World} {ops : Array Oper} {rest : List Oper} {o : Oper} {a : Act} {Q : Exit → Act → World → Prop} (hgd : o.guard = none) (s x : Operand)
    (ho : o.op = .call { callee := .builtin .append, args := #[s, x], argTypes := #[22, 22] })
    (base : Nat) (v : Value) (bs : List Int) (hown : OwB w base v bs) (hs : a.eval s = v) (b : Nat) (z : Int) (hx : a.eval x = .slice (some ⟨b, 0, none⟩) 1 1)
    (hc : w.cell? ⟨b, 0, none⟩ = some (.int .u8 z)) (hl : bs.length ≤ 1099511627776) (hbase : base ≤ w.heap.size)
    (h : ∀ v' w', OwB w' base v' (bs ++ [z]) → w.grownBy w' v.ownBlock → (v'.ownBlock = v.ownBlock ∨ v'.ownBlock = some w.heap.size) → wpList Try.prog ops Q rest (a.put o.dst v') w') :
    wpList Try.prog ops Q (o :: rest) a w := by
  obtain ⟨i0, hi0, hz0, hz1, hz2⟩ := info_parts u8_info
  unfold OwB at hown
  refine wpList_append_own_at _ hgd s x 22 ho base 5 i0 (.int .u8 0) 1 1 Try.underlying22 hi0 hz0 hz1 hz2 rfl (by decide) v bs.length (bs.map (Value.int .u8)) hs hown ⟨b, 0, none⟩ 1 1 [.int .u8 z] hx rfl ?_ ?_ (by unfold maxLen; omega) (by omega) hbase ?_
  · intro j u hj
    match j, hj with
    | 0, hj => simp at hj; subst hj; simpa [Addr.add] using hc
  · intro u hu; simp at hu; subst hu; rfl
  · intro v' w' h1 h2 h3 h5
    exact h v' w' (by unfold OwB; simpa using h1) h2 h5
theorem OwB.any2 {w : World} {base : Nat} {v : Value} {bs : List Int} (h : OwB w base v bs) : ∃ A m cap, v = .slice A m cap := by
  obtain ⟨A, cap, hv, _⟩ := owns_form h
  exact ⟨A, _, cap, hv⟩
theorem OwB.trP {p base : Nat} {w w' : World} {v : Value} {bs : List Int} (h : OwB w base v bs) (ht : Tr p (p + 1) w w') (hp : p < base) : OwB w' base v bs :=
  ownsRow_keep h fun b hb => ht.block b (h.lt b hb).2 (by have := (h.lt b hb).1; omega)
theorem OwB.alloc {w : World} {base : Nat} {v : Value} {bs : List Int} (h : OwB w base v bs) (o : Obj) : OwB (w.alloc o) base v bs := World.ownsRow.alloc h o
theorem OwB.str {w : World} {base : Nat} {v : Value} {bs : List Int} (h : OwB w base v bs) : (convert 22 9 v).run Try.prog w = .ok (.string (strOfNums bs)) w := by
  obtain ⟨A, cap, rfl, hc, hm, hn, hb⟩ := owns_form h
  rcases Nat.eq_zero_or_pos bs.length with h0 | h0
  · obtain rfl : bs = [] := List.eq_nil_of_length_eq_zero h0
    rcases A with _ | ⟨b, o, s⟩
    · exact run_convert_bytes_nil w 22 5 Try.underlying22 Try.underlying5 0 cap 9 Try.underlying9
    · rcases h.2 with ⟨hv, _⟩ | ⟨g, cap', cur, hv, _⟩
      · cases hv
      · injection hv with hA
        injection hA with hA
        injection hA with _ hA2 hA3
        subst hA2 hA3
        exact run_convert_bytes_arg w 22 5 Try.underlying22 Try.underlying5 b 0 0 cap [] rfl (fun i hi => absurd hi (Nat.not_lt_zero _)) 9 Try.underlying9
  · obtain ⟨g, rfl, _, _⟩ := hb h0
    refine run_convert_bytes_arg w 22 5 Try.underlying22 Try.underlying5 g 0 bs.length cap bs rfl (fun i hi => ?_) 9 Try.underlying9
    rcases h.2 with ⟨hv, _⟩ | ⟨g', cap', cur, hv, _, hh, _, _, hcs, htk⟩
    · cases hv
    · injection hv with hA
      injection hA with hA
      injection hA with hA1
      subst hA1
      have hcur : cur[i]? = some (.int .u8 bs[i]) := by
        have := congrArg (fun l => l[i]?) htk
        simp only [List.getElem?_take, Nat.mul_one, if_pos hi, List.getElem?_map, List.getElem?_eq_getElem hi, Option.map_some] at this
        simpa using this
      simp [World.cell?, hh, List.getD, List.getElem?_eq_getElem hi] at hcur ⊢
      exact hcur
theorem str1 (w : World) (z : Int) : (convert 22 9 (.slice (some ⟨w.heap.size, 0, none⟩) 1 1)).run Try.prog (w.alloc (.cells #[.int .u8 z] 5)) = .ok (.string ⟨#[UInt8.ofNat z.toNat]⟩) (w.alloc (.cells #[.int .u8 z] 5)) :=
  run_convert_bytes_arg _ 22 5 Try.underlying22 Try.underlying5 w.heap.size 0 1 1 [z] rfl (fun i hi => by
    obtain rfl : i = 0 := by omega
    exact cell_new1 _ _ _) 9 Try.underlying9
theorem lit_sz (c : UInt8) : (⟨#[c]⟩ : ByteArray).size = 1 := rfl
theorem Cur.drew {p : Nat} {A : Option Addr} {cap : Nat} {cs : List Int} {w : World} (h : Cur p A cap cs w) : Cur p A cap cs w.drew := ⟨h.c0, h.c1, h.c2, h.fz, h.lt, h.len, h.by_, h.at_⟩
theorem Tr.drew2 {a b : Nat} {w w1 : World} (h : Tr a b w w1) : Tr a b w w1.drew := ⟨h.os, h.tape, h.output, h.size, h.block⟩
theorem wp_region_H' {P : Program} {ops : Array Oper} {Q : Exit → Act → World → Prop} {S : World → Prop} {id m : Nat} {a : Act} {w : World} (hm : P.follows .mixedOrders = true) (hz : ops.size = m) (hS : S w.drew) (h : S w.drew → wpAnyH P .any ops Q S m (Array.replicate m false) a w.drew) : (Code.region id ops true).wp P Q a w :=
  wp_region_held_drew hm hS (by rw [hz]; exact h)
set_option maxHeartbeats 1000000 in
theorem l1Text_any (p : Nat) (A : Option Addr) (cap : Nat) (cs : List Int) (w : World) (h : Cur p A cap cs w) :
    Calls Try.prog 67 #[.pointer (some ⟨p, 0, none⟩), .int .i64 3] w fun e w' => ∃ B : ByteArray, e = .returned (.string B) ∧ B.size ≤ 3 ∧ Cur p A cap cs w' ∧ Tr p (p + 1) w w' := by
  have H := Lib.hid h
  have hp := h.lt
  clear h
  have HA : Hid (Cur p A cap cs (w.alloc (.cells #[] 5))) := Lib.hid (H.out.below ((Below.refl _ _).alloc (Nat.le_refl _) _))
  have HO : Hid (OwB (w.alloc (.cells #[] 5)) w.heap.size (.slice (some ⟨w.heap.size, 0, none⟩) 0 0) []) := Lib.hid (OwB_lit w (Nat.le_refl _))
  have HT : Hid (Tr p (p + 1) w (w.alloc (.cells #[] 5))) := Lib.hid ⟨rfl, rfl, rfl, by simp, fun k hk _ => Below.heap_alloc w _ k hk⟩
  go_enter Try.func67, Try.ntmps67
  go_wp2_with fail
  refine (l1Below_any p A cap cs 4 _ HA.out (by omega) (by omega)).mono ?_
  rintro e w1 ⟨st, rfl, ⟨st0, st4⟩, c1, t1⟩
  have C1 := Lib.hid c1
  have O1 := Lib.hid (HO.out.trP t1 hp)
  have T1 : Hid (Tr p (p + 1) w w1) := Lib.hid (HT.out.trans t1)
  clear c1 t1 HA HO HT
  go_wp2_with fail
  refine (l1Below_any p A cap cs 4 _ C1.out (by omega) (by omega)).mono ?_
  rintro e w2 ⟨n0, rfl, ⟨n1, n2⟩, c2, t2⟩
  have C2 := Lib.hid c2
  have O2 := Lib.hid (O1.out.trP t2 hp)
  have T2 : Hid (Tr p (p + 1) w w2) := Lib.hid (T1.out.trans t2)
  clear c2 t2 C1 O1 T1
  go_wp2
  go_loopw [5, 7, 8] (fun bv nv xv wr => ∃ (k : Int) (bs : List Int), nv = .int .i64 k ∧ 0 ≤ k ∧ k + bs.length ≤ 3 ∧ OwB wr w.heap.size bv bs ∧ Cur p A cap cs wr ∧ Tr p (p + 1) w wr)
    (fun _ nv _ _ => (intOf nv).toNat)
  case atStart => exact ⟨n0, [], rfl, n1, by simp; omega, O2.out, C2.out, T2.out⟩
  case round =>
    obtain ⟨k, bs, rfl, hk0, hkm, hO, hC, hT⟩ := hrel
    have HO := Lib.hid hO
    have HC := Lib.hid hC
    have HT := Lib.hid hT
    have hsz := hT.size
    obtain ⟨Aw, mw, cw, rfl⟩ := hO.any2
    clear hO hC hT
    by_cases hlt : 0 < k
    · go_wp2_with fail
      refine (l1Byte_any p A cap cs _ HC.out).mono ?_
      rintro e w3 ⟨b, rfl, ⟨b0, b1⟩, c3, t3⟩
      have C3 := Lib.hid c3
      have O3 := Lib.hid (HO.out.trP t3 hp)
      have T3 := Lib.hid (HT.out.trans t3)
      have hs3 := T3.out.size
      have hwk : IntKind.i64.wrap (k - 1) = k - 1 := by rw [IntKind.wrap_i64]; omega
      clear c3 t3
      have hcase : st = 1 ∨ st = 2 ∨ ((st == 1) = false ∧ (st == 2) = false) := by
        rcases (show st = 0 ∨ st = 1 ∨ st = 2 ∨ st = 3 by omega) with rfl | rfl | rfl | rfl
        · exact .inr (.inr ⟨rfl, rfl⟩)
        · exact .inl rfl
        · exact .inr (.inl rfl)
        · exact .inr (.inr ⟨rfl, rfl⟩)
      rcases hcase with rfl | rfl | ⟨hst1, hst2⟩
      all_goals (
        go_wp2_with (at_builtin; refine push_u8 rfl (.tmp 31) (.tmp 34) rfl _ _ _ (OwB.alloc O3.out _) rfl _ _ rfl (cell_new1 _ _ _) (by omega) (by first | omega | (simp <;> omega)) ?_; intro v4 w4 o4 g4 p4; have O4 := Lib.hid o4; have G4 := Lib.hid g4; obtain ⟨A4, m4, c4, rfl⟩ := o4.any2; clear o4 g4 p4)
        have C4 := Lib.hid ((C3.out.below ((Below.refl _ _).alloc (Nat.le_refl _) _)).new H.out G4.out (fun b hb => (O3.out.lt b hb).1))
        have T4 := Lib.hid ((T3.out.bel2 ((Below.refl _ _).alloc (Nat.le_refl _) _)).grow2 G4.out (fun b hb => (O3.out.lt b hb).1))
        go_roundw
        case rel => exact ⟨k - 1, _, by go_num, by omega, by simp; omega, O4.out, C4.out, T4.out⟩
        case measure => (simp [intOf]; omega))
    · have HS := Lib.hid HO.out.str
      go_wp2
      rw [HS.out]
      go_wp2
      exact bodyPost_ret (v := .string (strOfNums bs)) (by simp [results, Try.results67, go_sem]) rfl ⟨_, rfl, by rw [strOfNums_size]; omega, HC.out, HT.out⟩
set_option maxHeartbeats 2000000 in
theorem l1Spoil_any (p : Nat) (A : Option Addr) (cap : Nat) (cs : List Int) (t : ByteArray) (w : World) (h : Cur p A cap cs w) (ht : t.size ≤ 200) :
    Calls Try.prog 48 #[.pointer (some ⟨p, 0, none⟩), .string t] w fun e w' => ∃ B : ByteArray, e = .returned (.string B) ∧ B.size ≤ 500 ∧ Cur p A cap cs w' ∧ Tr p (p + 1) w w' := by
  have H := Lib.hid h
  have hp := h.lt
  clear h
  by_cases h0 : t.size = 0
  · have h0' : ((t.size : Int) == 0) = true := by simp [h0]
    go_enter Try.func48, Try.ntmps48
    go_wp2_with fail
    refine (l1Text_any p A cap cs _ H.out).mono ?_
    rintro e w1 ⟨B, rfl, hB, c1, t1⟩
    have C1 := Lib.hid c1
    have T1 := Lib.hid t1
    clear c1 t1
    go_wp2
    exact bodyPost_ret (v := .string B) (by simp [results, Try.results48, go_sem]) rfl ⟨_, rfl, by omega, C1.out, T1.out⟩
  · have h0' : ((t.size : Int) == 0) = false := by rw [beq_eq_false_iff_ne]; omega
    go_enter Try.func48, Try.ntmps48
    go_wp2_with fail
    refine (l1Below_any p A cap cs t.size _ H.out (by omega) (by omega)).mono ?_
    rintro e w1 ⟨ki, rfl, ⟨k0, k1⟩, c1, t1⟩
    have C1 := Lib.hid c1
    have T1 := Lib.hid t1
    clear c1 t1
    obtain ⟨k, rfl⟩ : ∃ k : Nat, ki = k := ⟨ki.toNat, by omega⟩
    have hk : k < t.size := by omega
    go_wp2_with fail
    refine (l1Below_any p A cap cs 4 _ C1.out (by omega) (by omega)).mono ?_
    rintro e w2 ⟨ch, rfl, ⟨ch0, ch4⟩, c2, t2⟩
    have C2 := Lib.hid c2
    have T2 := Lib.hid (T1.out.trans t2)
    clear c2 t2
    have hk2 : (k : Int) ≤ (t.size : Int) := by omega
    have hk3 : (k : Int) + 1 ≤ (t.size : Int) := by omega
    have hwk : IntKind.i64.wrap ((k : Int) + 1) = (k : Int) + 1 := by rw [IntKind.wrap_i64]; omega
    have hk0 : (0 : Int) ≤ (k : Int) := by omega
    have hk4 : (0 : Int) ≤ (k : Int) + 1 := by omega
    have hk1 : (k : Int) < (t.size : Int) := by omega
    have KC := str1
    have hq1 : ¬ 9223372036854775807 < min k t.size + 1 := by omega
    have hq2 : ¬ 9223372036854775807 < min k t.size + 1 + (t.size - k) := by omega
    have hq3 : ¬ 9223372036854775807 < min k t.size + 1 + (t.size - (k + 1)) := by omega
    have hcase : ch = 0 ∨ ch = 1 ∨ ch = 2 ∨ ch = 3 := by omega
    rcases hcase with rfl | rfl | rfl | rfl
    · go_wp2
      go_quiet (fail)
      go_wp2
      exact bodyPost_ret (v := .string (t.extract 0 k ++ t.extract (k + 1) t.size)) (by simp [results, Try.results48, go_sem]) rfl ⟨_, rfl, by simp [ByteArray.size_append, ByteArray.size_extract]; omega, C2.out.below (bel_drewN (Below.refl _ _) _), T2.out.bel2 (bel_drewN (Below.refl _ _) _)⟩
    · go_wp2_with fail
      have C2' := Lib.hid C2.out.drew
      have T2' := Lib.hid T2.out.drew2
      refine wp_region_H' (S := fun _ => True) (by kernel_rfl) (by rfl) trivial (fun hHeld => ?_)
      (refine wpAnyH_take (i := 0) (v := ?_) rfl (by kernel_rfl) (by kernel_rfl) (by kernel_rfl) (fun _ _ _ h => h) (Or.inl ⟨by rfl, ?_⟩) (by trivial) ?_; rotate_left; focus (intro ww hSw; (try dsimp only at hSw); go_simp; try with_reducible rfl); (try simp only [Act.put, List.setIfInBounds_toArray, List.set_cons_zero, List.set_cons_succ])); (refine wpAnyH_take (i := 1) (v := ?_) rfl (by kernel_rfl) (by kernel_rfl) (by kernel_rfl) (fun _ _ _ h => h) (Or.inl ⟨by rfl, ?_⟩) (by trivial) ?_; rotate_left; focus (intro ww hSw; (try dsimp only at hSw); go_simp; try with_reducible rfl); (try simp only [Act.put, List.setIfInBounds_toArray, List.set_cons_zero, List.set_cons_succ])); (refine wpAnyH_take (i := 2) (v := ?_) rfl (by kernel_rfl) (by kernel_rfl) (by kernel_rfl) (fun _ _ _ h => h) (Or.inl ⟨by rfl, ?_⟩) (by trivial) ?_; rotate_left; focus (intro ww hSw; (try dsimp only at hSw); go_simp; try with_reducible rfl); (try simp only [Act.put, List.setIfInBounds_toArray, List.set_cons_zero, List.set_cons_succ])); (refine wpAnyH_take (i := 3) (v := ?_) rfl (by kernel_rfl) (by kernel_rfl) (by kernel_rfl) (fun _ _ _ h => h) (Or.inl ⟨by rfl, ?_⟩) (by trivial) ?_; rotate_left; focus (intro ww hSw; (try dsimp only at hSw); go_simp; try with_reducible rfl); (try simp only [Act.put, List.setIfInBounds_toArray, List.set_cons_zero, List.set_cons_succ])); (refine wpAnyH_take (i := 9) (v := ?_) rfl (by kernel_rfl) (by kernel_rfl) (by kernel_rfl) (fun _ _ _ h => h) (Or.inl ⟨by rfl, ?_⟩) (by trivial) ?_; rotate_left; focus (intro ww hSw; (try dsimp only at hSw); go_simp; try with_reducible rfl); (try simp only [Act.put, List.setIfInBounds_toArray, List.set_cons_zero, List.set_cons_succ])); (refine wpAnyH_take (i := 10) (v := ?_) rfl (by kernel_rfl) (by kernel_rfl) (by kernel_rfl) (fun _ _ _ h => h) (Or.inl ⟨by rfl, ?_⟩) (by trivial) ?_; rotate_left; focus (intro ww hSw; (try dsimp only at hSw); go_simp; try with_reducible rfl); (try simp only [Act.put, List.setIfInBounds_toArray, List.set_cons_zero, List.set_cons_succ])); (refine wpAnyH_take (i := 11) (v := ?_) rfl (by kernel_rfl) (by kernel_rfl) (by kernel_rfl) (fun _ _ _ h => h) (Or.inl ⟨by rfl, ?_⟩) (by trivial) ?_; rotate_left; focus (intro ww hSw; (try dsimp only at hSw); go_simp; try with_reducible rfl); (try simp only [Act.put, List.setIfInBounds_toArray, List.set_cons_zero, List.set_cons_succ]))
      (refine wpAnyH_ready (rs := [4]) (by kernel_rfl) (by simp) ?_; refine AllReadyH.cons rfl (fun K' hK => ?_) AllReadyH.nil)
      go_simp
      (with_reducible refine (l1Byte_any p A cap cs _ C2'.out).mono ?_)
      rintro e w3 ⟨y, rfl, _, c3, t3⟩
      have C3 := Lib.hid c3
      have T3 := Lib.hid (T2'.out.trans t3)
      clear c3 t3
      refine hK.out _ _ trivial (fun _ => ?_)
      clear hK hHeld
      try simp only [Act.put, List.setIfInBounds_toArray, List.set_cons_zero, List.set_cons_succ]
      (refine wpAnyH_take (i := 5) (v := ?_) rfl (by kernel_rfl) (by kernel_rfl) (by kernel_rfl) (fun _ _ _ h => h) (Or.inl ⟨by rfl, ?_⟩) (by trivial) ?_; rotate_left; focus (intro ww hSw; (try dsimp only at hSw); go_simp; try with_reducible rfl); (try simp only [Act.put, List.setIfInBounds_toArray, List.set_cons_zero, List.set_cons_succ]))
      (refine wpAnyH_ready (rs := [6]) (by kernel_rfl) (by simp) ?_; refine AllReadyH.cons rfl (fun K' hK => ?_) AllReadyH.nil)
      go_simp
      refine hK.out _ _ trivial (fun _ => ?_)
      clear hK
      (refine wpAnyH_ready (rs := [7]) (by kernel_rfl) (by simp) ?_; refine AllReadyH.cons rfl (fun K' hK => ?_) AllReadyH.nil)
      go_simp
      refine hK.out _ _ trivial (fun _ => ?_)
      clear hK
      (refine wpAnyH_take (i := 8) (v := ?_) rfl (by kernel_rfl) (by kernel_rfl) (by kernel_rfl) (fun _ _ _ h => h) (Or.inl ⟨by rfl, ?_⟩) (by trivial) ?_; rotate_left; focus (intro ww hSw; (try dsimp only at hSw); go_simp; try with_reducible rfl); (try simp only [Act.put, List.setIfInBounds_toArray, List.set_cons_zero, List.set_cons_succ])); (refine wpAnyH_take (i := 12) (v := ?_) rfl (by kernel_rfl) (by kernel_rfl) (by kernel_rfl) (fun _ _ _ h => h) (Or.inl ⟨by rfl, ?_⟩) (by trivial) ?_; rotate_left; focus (intro ww hSw; (try dsimp only at hSw); go_simp; try with_reducible rfl); (try simp only [Act.put, List.setIfInBounds_toArray, List.set_cons_zero, List.set_cons_succ]))
      (refine wpAnyH_ready (rs := [13]) (by kernel_rfl) (by simp) ?_; refine AllReadyH.cons rfl (fun K' hK => ?_) AllReadyH.nil)
      go_simp
      refine hK.out _ _ trivial (fun _ => ?_)
      clear hK
      refine wpAnyH_done (by kernel_rfl) ?_ _
      all_goals (
        go_wp2
        exact bodyPost_ret (v := .string (t.extract 0 k ++ ⟨#[UInt8.ofNat (IntKind.u8.wrap y).toNat]⟩ ++ t.extract k t.size)) (by simp [results, Try.results48, go_sem]) rfl ⟨_, rfl, by simp only [ByteArray.size_append, ByteArray.size_extract, lit_sz]; omega, C3.out.below ((Below.refl _ _).alloc (Nat.le_refl _) _), T3.out.bel2 ((Below.refl _ _).alloc (Nat.le_refl _) _)⟩)
    · go_wp2
      exact bodyPost_ret (v := .string (t.extract 0 k)) (by simp [results, Try.results48, go_sem]) rfl ⟨_, rfl, by simp [ByteArray.size_append, ByteArray.size_extract]; omega, C2.out, T2.out⟩
    · go_wp2_with fail
      have C2' := Lib.hid C2.out.drew
      have T2' := Lib.hid T2.out.drew2
      refine wp_region_H' (S := fun _ => True) (by kernel_rfl) (by rfl) trivial (fun hHeld => ?_)
      (refine wpAnyH_take (i := 0) (v := ?_) rfl (by kernel_rfl) (by kernel_rfl) (by kernel_rfl) (fun _ _ _ h => h) (Or.inl ⟨by rfl, ?_⟩) (by trivial) ?_; rotate_left; focus (intro ww hSw; (try dsimp only at hSw); go_simp; try with_reducible rfl); (try simp only [Act.put, List.setIfInBounds_toArray, List.set_cons_zero, List.set_cons_succ])); (refine wpAnyH_take (i := 1) (v := ?_) rfl (by kernel_rfl) (by kernel_rfl) (by kernel_rfl) (fun _ _ _ h => h) (Or.inl ⟨by rfl, ?_⟩) (by trivial) ?_; rotate_left; focus (intro ww hSw; (try dsimp only at hSw); go_simp; try with_reducible rfl); (try simp only [Act.put, List.setIfInBounds_toArray, List.set_cons_zero, List.set_cons_succ])); (refine wpAnyH_take (i := 2) (v := ?_) rfl (by kernel_rfl) (by kernel_rfl) (by kernel_rfl) (fun _ _ _ h => h) (Or.inl ⟨by rfl, ?_⟩) (by trivial) ?_; rotate_left; focus (intro ww hSw; (try dsimp only at hSw); go_simp; try with_reducible rfl); (try simp only [Act.put, List.setIfInBounds_toArray, List.set_cons_zero, List.set_cons_succ])); (refine wpAnyH_take (i := 3) (v := ?_) rfl (by kernel_rfl) (by kernel_rfl) (by kernel_rfl) (fun _ _ _ h => h) (Or.inl ⟨by rfl, ?_⟩) (by trivial) ?_; rotate_left; focus (intro ww hSw; (try dsimp only at hSw); go_simp; try with_reducible rfl); (try simp only [Act.put, List.setIfInBounds_toArray, List.set_cons_zero, List.set_cons_succ])); (refine wpAnyH_take (i := 4) (v := ?_) rfl (by kernel_rfl) (by kernel_rfl) (by kernel_rfl) (fun _ _ _ h => h) (Or.inl ⟨by rfl, ?_⟩) (by trivial) ?_; rotate_left; focus (intro ww hSw; (try dsimp only at hSw); go_simp; try with_reducible rfl); (try simp only [Act.put, List.setIfInBounds_toArray, List.set_cons_zero, List.set_cons_succ])); (refine wpAnyH_take (i := 5) (v := ?_) rfl (by kernel_rfl) (by kernel_rfl) (by kernel_rfl) (fun _ _ _ h => h) (Or.inl ⟨by rfl, ?_⟩) (by trivial) ?_; rotate_left; focus (intro ww hSw; (try dsimp only at hSw); go_simp; try with_reducible rfl); (try simp only [Act.put, List.setIfInBounds_toArray, List.set_cons_zero, List.set_cons_succ])); (refine wpAnyH_take (i := 6) (v := ?_) rfl (by kernel_rfl) (by kernel_rfl) (by kernel_rfl) (fun _ _ _ h => h) (Or.inl ⟨by rfl, ?_⟩) (by trivial) ?_; rotate_left; focus (intro ww hSw; (try dsimp only at hSw); go_simp; try with_reducible rfl); (try simp only [Act.put, List.setIfInBounds_toArray, List.set_cons_zero, List.set_cons_succ])); (refine wpAnyH_take (i := 7) (v := ?_) rfl (by kernel_rfl) (by kernel_rfl) (by kernel_rfl) (fun _ _ _ h => h) (Or.inl ⟨by rfl, ?_⟩) (by trivial) ?_; rotate_left; focus (intro ww hSw; (try dsimp only at hSw); go_simp; try with_reducible rfl); (try simp only [Act.put, List.setIfInBounds_toArray, List.set_cons_zero, List.set_cons_succ])); (refine wpAnyH_take (i := 15) (v := ?_) rfl (by kernel_rfl) (by kernel_rfl) (by kernel_rfl) (fun _ _ _ h => h) (Or.inl ⟨by rfl, ?_⟩) (by trivial) ?_; rotate_left; focus (intro ww hSw; (try dsimp only at hSw); go_simp; try with_reducible rfl); (try simp only [Act.put, List.setIfInBounds_toArray, List.set_cons_zero, List.set_cons_succ])); (refine wpAnyH_take (i := 16) (v := ?_) rfl (by kernel_rfl) (by kernel_rfl) (by kernel_rfl) (fun _ _ _ h => h) (Or.inl ⟨by rfl, ?_⟩) (by trivial) ?_; rotate_left; focus (intro ww hSw; (try dsimp only at hSw); go_simp; try with_reducible rfl); (try simp only [Act.put, List.setIfInBounds_toArray, List.set_cons_zero, List.set_cons_succ])); (refine wpAnyH_take (i := 17) (v := ?_) rfl (by kernel_rfl) (by kernel_rfl) (by kernel_rfl) (fun _ _ _ h => h) (Or.inl ⟨by rfl, ?_⟩) (by trivial) ?_; rotate_left; focus (intro ww hSw; (try dsimp only at hSw); go_simp; try with_reducible rfl); (try simp only [Act.put, List.setIfInBounds_toArray, List.set_cons_zero, List.set_cons_succ])); (refine wpAnyH_take (i := 18) (v := ?_) rfl (by kernel_rfl) (by kernel_rfl) (by kernel_rfl) (fun _ _ _ h => h) (Or.inl ⟨by rfl, ?_⟩) (by trivial) ?_; rotate_left; focus (intro ww hSw; (try dsimp only at hSw); go_simp; try with_reducible rfl); (try simp only [Act.put, List.setIfInBounds_toArray, List.set_cons_zero, List.set_cons_succ]))
      (refine wpAnyH_ready (rs := [8]) (by kernel_rfl) (by simp) ?_; refine AllReadyH.cons rfl (fun K' hK => ?_) AllReadyH.nil)
      go_simp
      (with_reducible refine (l1Below_any p A cap cs 255 _ C2'.out (by omega) (by omega)).mono ?_)
      rintro e w3 ⟨y, rfl, ⟨y0, y1⟩, c3, t3⟩
      have C3 := Lib.hid c3
      have T3 := Lib.hid (T2'.out.trans t3)
      have hwy : IntKind.i64.wrap (1 + y) = 1 + y := by rw [IntKind.wrap_i64]; omega
      clear c3 t3
      refine hK.out _ _ trivial (fun _ => ?_)
      clear hK hHeld
      try simp only [Act.put, List.setIfInBounds_toArray, List.set_cons_zero, List.set_cons_succ]
      (refine wpAnyH_take (i := 9) (v := ?_) rfl (by kernel_rfl) (by kernel_rfl) (by kernel_rfl) (fun _ _ _ h => h) (Or.inl ⟨by rfl, ?_⟩) (by trivial) ?_; rotate_left; focus (intro ww hSw; (try dsimp only at hSw); go_simp; try with_reducible rfl); (try simp only [Act.put, List.setIfInBounds_toArray, List.set_cons_zero, List.set_cons_succ])); (refine wpAnyH_take (i := 10) (v := ?_) rfl (by kernel_rfl) (by kernel_rfl) (by kernel_rfl) (fun _ _ _ h => h) (Or.inl ⟨by rfl, ?_⟩) (by trivial) ?_; rotate_left; focus (intro ww hSw; (try dsimp only at hSw); go_simp; try with_reducible rfl); (try simp only [Act.put, List.setIfInBounds_toArray, List.set_cons_zero, List.set_cons_succ])); (refine wpAnyH_take (i := 11) (v := ?_) rfl (by kernel_rfl) (by kernel_rfl) (by kernel_rfl) (fun _ _ _ h => h) (Or.inl ⟨by rfl, ?_⟩) (by trivial) ?_; rotate_left; focus (intro ww hSw; (try dsimp only at hSw); go_simp; try with_reducible rfl); (try simp only [Act.put, List.setIfInBounds_toArray, List.set_cons_zero, List.set_cons_succ]))
      (refine wpAnyH_ready (rs := [12]) (by kernel_rfl) (by simp) ?_; refine AllReadyH.cons rfl (fun K' hK => ?_) AllReadyH.nil)
      go_simp
      refine hK.out _ _ trivial (fun _ => ?_)
      clear hK
      (refine wpAnyH_ready (rs := [13]) (by kernel_rfl) (by simp) ?_; refine AllReadyH.cons rfl (fun K' hK => ?_) AllReadyH.nil)
      go_simp
      refine hK.out _ _ trivial (fun _ => ?_)
      clear hK
      (refine wpAnyH_take (i := 14) (v := ?_) rfl (by kernel_rfl) (by kernel_rfl) (by kernel_rfl) (fun _ _ _ h => h) (Or.inl ⟨by rfl, ?_⟩) (by trivial) ?_; rotate_left; focus (intro ww hSw; (try dsimp only at hSw); go_simp; try with_reducible rfl); (try simp only [Act.put, List.setIfInBounds_toArray, List.set_cons_zero, List.set_cons_succ])); (refine wpAnyH_take (i := 19) (v := ?_) rfl (by kernel_rfl) (by kernel_rfl) (by kernel_rfl) (fun _ _ _ h => h) (Or.inl ⟨by rfl, ?_⟩) (by trivial) ?_; rotate_left; focus (intro ww hSw; (try dsimp only at hSw); go_simp; try with_reducible rfl); (try simp only [Act.put, List.setIfInBounds_toArray, List.set_cons_zero, List.set_cons_succ]))
      (refine wpAnyH_ready (rs := [20]) (by kernel_rfl) (by simp) ?_; refine AllReadyH.cons rfl (fun K' hK => ?_) AllReadyH.nil)
      go_simp
      refine hK.out _ _ trivial (fun _ => ?_)
      clear hK
      refine wpAnyH_done (by kernel_rfl) ?_ _
      all_goals (
        go_wp2
        exact bodyPost_ret (v := .string (t.extract 0 k ++ ⟨#[UInt8.ofNat (IntKind.u8.wrap (bits .xor .i64 (IntKind.i64.wrap (t[k].toNat : Int)) (1 + y))).toNat]⟩ ++ t.extract (k + 1) t.size)) (by simp [results, Try.results48, go_sem]) rfl ⟨_, rfl, by simp only [ByteArray.size_append, ByteArray.size_extract, lit_sz]; omega, C3.out.below ((Below.refl _ _).alloc (Nat.le_refl _) _), T3.out.bel2 ((Below.refl _ _).alloc (Nat.le_refl _) _)⟩)
end Go.Proofs.Ytgoghkboklehnaa
