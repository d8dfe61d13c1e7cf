/- DrawHermiteForm, DrawLatticeIndex, DrawInLattice. -/
import Derived.Test.YtjmjhhdjlompfaaLatD
import Derived.Test.YtjmjhhdjlompfaaLawE
import Derived.Test.YtjmjhhdjlompfaaHerK
import Derived.Deep.RegionHeld3
namespace Go.Proofs.Ytjmjhhdjlompfaa
set_option maxRecDepth 20000
set_option linter.unusedVariables false
set_option linter.unusedSimpArgs false
open Go.RowKit
theorem wp_region_H' {P : Program} {ops : Array Oper} {Q : Exit → Act → World → Prop} {S : World → Prop} {id m : Nat} {a : Act} {w : World} (hm : P.follows .mixedOrders = true) (hz : ops.size = m) (hS : S w.drew) (h : S w.drew → wpAnyH P .any ops Q S m (Array.replicate m false) a w.drew) : (Code.region id ops true).wp P Q a w :=
  wp_region_held_drew hm hS (by rw [hz]; exact h)
theorem Cur.drew {p : Nat} {A : Option Addr} {cap : Nat} {cs : List Int} {w : World} (h : Cur p A cap cs w) : Cur p A cap cs w.drew := ⟨h.c0, h.c1, h.c2, h.fz, h.lt, h.len, h.by_, h.at_⟩
theorem Tr.drew2 {a b : Nat} {w w1 : World} (h : Tr a b w w1) : Tr a b w w1.drew := ⟨h.os, h.tape, h.output, h.size, h.block⟩
theorem OwI.base {w : World} {lo : Nat} {s : Value} {xs : List Int} (h : OwI w 0 s xs) (hb : ∀ b, s.ownBlock = some b → lo ≤ b) : OwI w lo s xs := by
  obtain ⟨⟨h1, h2⟩, h3⟩ := h
  refine ⟨⟨h1, ?_⟩, h3⟩
  rcases h2 with h0 | ⟨g, cap, cur, hv, hg, r⟩
  · exact .inl h0
  · exact .inr ⟨g, cap, cur, hv, hb g (by rw [hv]; rfl), r⟩
theorem OwII_row {lo hi : Nat} {w : World} {A : Option Addr} {m c : Nat} {L : List (List Int)} (h : OwII lo hi (.slice A m c) L w) {k : Nat} (hk : k < L.length) :
    ∃ g A2 c2, A = some ⟨g, 0, none⟩ ∧ lo ≤ g ∧ g < w.heap.size ∧ w.cell? ⟨g, k, none⟩ = some (.slice A2 L[k].length c2) ∧ OwI w lo (.slice A2 L[k].length c2) L[k] := by
  obtain ⟨g, cs, Fe, hA, hg, _, hE, hcw, hF, _, hc, _, hgw, _⟩ := h.focus EI.stable hk
  obtain ⟨s, rfl, ho, rfl⟩ := hE
  have c0 := hc 0 (by simp)
  simp only [List.getElem_cons_zero, Nat.add_zero, Nat.mul_one] at c0
  have ho2 := ho.base (lo := lo) fun b hb => (hF b (by rw [hb]; simp)).1
  obtain ⟨A2, c2, rfl, _⟩ := OwI.form ho
  exact ⟨g, A2, c2, hA, hg, hgw, c0, ho2⟩
theorem LsW.rd {w : World} {v : Value} {L : List (List Int)} (h : LsW w v L) : RdII w v L := by
  obtain ⟨_, _, h, _⟩ := h
  exact h.rd
set_option maxHeartbeats 1000000 in
theorem drawHerm_any (v : Value) (cs : List Int) (w : World) (h : ArgC w v cs) (hl : cs.length ≤ 1048576) :
    Calls Try.prog 5 #[v] w fun e w' => ∃ (n : Int) (rv : Value) (L : List (List Int)), e = .returned (.tuple #[rv, .int .i64 n]) ∧ (1 ≤ n ∧ n ≤ 3) ∧ DrL n L ∧ OwII w.heap.size w'.heap.size rv L w' ∧ Below w.heap.size w w' := by
  have HN := Lib.hid (l1New_any v cs w h hl)
  clear h
  go_enter Try.func5, Try.ntmps5
  go_wp2_with fail
  refine HN.out.mono ?_
  rintro e w1 ⟨p, A, cap, rfl, c1, hp, b1⟩
  have B1 := Lib.hid b1
  have s1 := b1.size
  have C1 := Lib.hid c1
  clear c1 b1
  go_wp2_with fail
  refine (l27Draw_any p A cap cs _ C1.out).mono ?_
  rintro e w2 ⟨n, rv, L, rfl, hn, hL, oo, c2, t2⟩
  have T2 : Hid (Below w.heap.size w w2) := Lib.hid (B1.out.trans ⟨t2.os, t2.tape, t2.output, t2.size, fun b hb => t2.block b (by omega) (by omega)⟩)
  have O2 := Lib.hid (oo.widen s1 (Nat.le_refl _))
  have HL := Lib.hid hL
  have HNN := Lib.hid hn
  obtain ⟨Ar, mr, cr, rfl⟩ := OwII_any oo
  clear c2 t2 oo hL hn
  go_wp2
  exact bodyPost_ret (v := .tuple #[.slice Ar mr cr, .int .i64 n]) (by simp [results, Try.results5, go_sem]) rfl ⟨n, _, L, rfl, HNN.out, HL.out, O2.out, T2.out⟩
set_option maxHeartbeats 1000000 in
theorem drawLatI_any (v : Value) (cs : List Int) (w : World) (h : ArgC w v cs) (hl : cs.length ≤ 1048576) :
    Calls Try.prog 13 #[v] w fun e w' => ∃ (n : Int) (rv : Value) (L : List (List Int)), e = .returned (.tuple #[rv, .int .i64 n]) ∧ (1 ≤ n ∧ n ≤ 3) ∧ DrL n L ∧ OwII w.heap.size w'.heap.size rv L w' ∧ Below w.heap.size w w' := by
  have HN := Lib.hid (l1New_any v cs w h hl)
  clear h
  go_enter Try.func13, Try.ntmps13
  go_wp2_with fail
  refine HN.out.mono ?_
  rintro e w1 ⟨p, A, cap, rfl, c1, hp, b1⟩
  have B1 := Lib.hid b1
  have s1 := b1.size
  have C1 := Lib.hid c1
  clear c1 b1
  go_wp2_with fail
  refine (l27Draw_any p A cap cs _ C1.out).mono ?_
  rintro e w2 ⟨n, rv, L, rfl, hn, hL, oo, c2, t2⟩
  have T2 : Hid (Below w.heap.size w w2) := Lib.hid (B1.out.trans ⟨t2.os, t2.tape, t2.output, t2.size, fun b hb => t2.block b (by omega) (by omega)⟩)
  have O2 := Lib.hid (oo.widen s1 (Nat.le_refl _))
  have HL := Lib.hid hL
  have HNN := Lib.hid hn
  obtain ⟨Ar, mr, cr, rfl⟩ := OwII_any oo
  clear c2 t2 oo hL hn
  go_wp2
  exact bodyPost_ret (v := .tuple #[.slice Ar mr cr, .int .i64 n]) (by simp [results, Try.results13, go_sem]) rfl ⟨n, _, L, rfl, HNN.out, HL.out, O2.out, T2.out⟩
set_option maxHeartbeats 2000000 in
theorem drawInL_any (v : Value) (cs : List Int) (w : World) (h : ArgC w v cs) (hl : cs.length ≤ 1048576) :
    Calls Try.prog 12 #[v] w fun e w' => ∃ (rv xv : Value) (L : List (List Int)) (xs : List Int), e = .returned (.tuple #[rv, xv]) ∧ L.length ≤ 5 ∧ (∀ r ∈ L, r.length ≤ 3) ∧ xs.length ≤ 3 ∧ LsW w' rv L ∧ RdI w' xv xs ∧ Below w.heap.size w w' := by
  have HN := Lib.hid (l1New_any v cs w h hl)
  clear h
  go_enter Try.func12, Try.ntmps12
  go_wp2_with fail
  refine HN.out.mono ?_
  rintro e w1 ⟨p, A, cap, rfl, c1, hp, b1⟩
  have B1 := Lib.hid b1
  have s1 := b1.size
  have C1 := Lib.hid c1
  clear c1 b1
  go_wp2_with fail
  refine (l27Draw_any p A cap cs _ C1.out).mono ?_
  rintro e w2 ⟨n, rv, L, rfl, ⟨n1, n3⟩, hL, oo, c2, t2⟩
  have T2 : Hid (Below w.heap.size w w2) := Lib.hid (B1.out.trans ⟨t2.os, t2.tape, t2.output, t2.size, fun b hb => t2.block b (by omega) (by omega)⟩)
  have O2 := Lib.hid oo
  have HL1 := Lib.hid hL.1
  have HL2 := Lib.hid hL.2.1
  have hp1 : p < w1.heap.size := C1.out.lt
  have s2 : w1.heap.size ≤ w2.heap.size := t2.size
  have C2 : Hid (Cur p A cap cs (w2.alloc (.cells #[] 3))) := Lib.hid (c2.below ((Below.refl _ _).alloc (Nat.le_refl _) _))
  have HV : Hid (OwI (w2.alloc (.cells #[] 3)) w2.heap.size (.slice (some ⟨w2.heap.size, 0, none⟩) 0 0) []) := Lib.hid (OwI_lit w2 [] I64s_nil (by simp) (Nat.le_refl _))
  have HTA : Hid (Tr p (p + 1) w2 (w2.alloc (.cells #[] 3))) := Lib.hid ⟨rfl, rfl, rfl, by simp, fun k hk _ => Below.heap_alloc w2 _ k hk⟩
  obtain ⟨Ar, cr, rfl, _⟩ := oo.len
  have C20 := Lib.hid c2
  clear c2 t2 oo hL
  go_wp2_with fail
  go_loopw [7, 8] (fun vv iv wi => ∃ (i : Nat) (xs : List Int), iv = .int .i64 i ∧ xs.length = i ∧ (i : Int) ≤ n ∧ OwI wi w2.heap.size vv xs ∧ Cur p A cap cs wi ∧ Tr p (p + 1) w2 wi)
    (fun _ iv _ => 3 - (intOf iv).toNat)
  case atStart => exact ⟨0, [], rfl, rfl, by omega, HV.out, C2.out, HTA.out⟩
  case round =>
    rename World => wi
    obtain ⟨i, xs, rfl, hxl, hix, hV, hC, hT⟩ := hrel
    have HV := Lib.hid hV
    have HC2 := Lib.hid hC
    have HT2 := Lib.hid hT
    have hszi := hT.size
    have hpw : p < w2.heap.size := by omega
    obtain ⟨Av, mv, cv, rfl⟩ := hV.any2
    clear hV hC hT
    by_cases hlt2 : (i : Int) < n
    · go_wp2_with fail
      refine (l1Below_any p A cap cs 13 _ HC2.out (by omega) (by omega)).mono ?_
      rintro e w3 ⟨y, rfl, ⟨y0, y13⟩, c3, t3⟩
      have C3 := Lib.hid c3
      have V3 := Lib.hid (HV.out.trP t3 hpw)
      have T3 := Lib.hid (HT2.out.trans t3)
      have hs3 := T3.out.size
      have hwy : IntKind.i64.wrap (y - 6) = y - 6 := by rw [IntKind.wrap_i64]; omega
      have HY : Hid (I64 (y - 6)) := Lib.hid ⟨by omega, by omega⟩
      clear c3 t3
      go_wp2_with ((at_builtin; refine push_int rfl (.tmp 22) (.tmp 26) rfl _ _ _ (OwI.alloc V3.out _) rfl _ _ rfl (cell_new1 _ _ _) HY.out (by first | omega | (simp <;> omega)) (by first | omega | (simp <;> omega)) ?_; intro v4 wv4 o4 g4 p4); have G4 := Lib.hid g4; have O4 := Lib.hid o4; obtain ⟨A4, m4, c4, rfl⟩ := o4.any2; clear o4 g4 p4)
      have C4 := Lib.hid ((C3.out.below ((Below.refl _ _).alloc (Nat.le_refl _) _)).new C20.out G4.out (fun b hb => (V3.out.1.lt b hb).1))
      have T4 := Lib.hid ((T3.out.bel2 ((Below.refl _ _).alloc (Nat.le_refl _) _)).grow2 G4.out (fun b hb => (V3.out.1.lt b hb).1))
      go_roundw
      case rel => exact ⟨i + 1, _, by go_num, by simp [hxl], by omega, O4.out, C4.out, T4.out⟩
      case measure => (simp [intOf]; omega)
    have hx3 : xs.length ≤ 3 := by omega
    clear hxl
    have M : Hid (LsW wi (.slice Ar L.length cr) L) := Lib.hid ⟨_, _, O2.out.trP HT2.out hp1 (Nat.le_refl _), hszi⟩
    have BZ : Hid (Below w.heap.size w wi) := Lib.hid (T2.out.trans ⟨HT2.out.os, HT2.out.tape, HT2.out.output, HT2.out.size, fun b hb => HT2.out.block b (by omega) (by omega)⟩)
    by_cases h1 : (1 : Int) < (L.length : Int)
    · go_wp2_with fail
      refine (l1Once_any p A cap cs 2 _ HC2.out (by omega) (by omega)).mono ?_
      rintro e w5 ⟨on, rfl, c5, t5⟩
      have C5 := Lib.hid c5
      have V5 := Lib.hid (HV.out.trP t5 hpw)
      have M5 : Hid (LsW w5 (.slice Ar L.length cr) L) := Lib.hid ⟨_, _, (O2.out.trP HT2.out hp1 (Nat.le_refl _)).trP t5 hp1 hszi, Nat.le_trans hszi t5.size⟩
      have BZ5 : Hid (Below w.heap.size w w5) := Lib.hid (BZ.out.trans ⟨t5.os, t5.tape, t5.output, t5.size, fun b hb => t5.block b (by omega) (by omega)⟩)
      have O5 : Hid (OwII w1.heap.size w2.heap.size (.slice Ar L.length cr) L w5) := Lib.hid ((O2.out.trP HT2.out hp1 (Nat.le_refl _)).trP t5 hp1 hszi)
      have s5 := t5.size
      clear c5 t5
      cases on
      · go_wp2
        exact bodyPost_ret (v := .tuple #[.slice Ar L.length cr, .slice Av mv cv]) (by simp [results, Try.results12, go_sem]) rfl ⟨_, _, L, xs, rfl, HL1.out, HL2.out, hx3, M5.out, V5.out.rd, BZ5.out⟩
      · obtain ⟨g, A1, q1, rfl, hlo, hg, hc1, hx1⟩ := OwII_row O5.out (k := 1) (by omega)
        obtain ⟨g', A0, q0, hgg, _, hg0, hc0, hx0⟩ := OwII_row O5.out (k := 0) (by omega)
        injection hgg with hgg
        injection hgg with hgg
        subst hgg
        have R1 := Lib.hid hx1
        have R0 := Lib.hid hx0
        have hl1 := HL2.out _ (List.getElem_mem (show 1 < L.length by omega))
        have hl0 := HL2.out _ (List.getElem_mem (show 0 < L.length by omega))
        clear hx1 hx0
        generalize L[1] = r1 at *
        generalize L[0] = r0 at *
        have h1b : (0 : Int) < (L.length : Int) := by omega
        have h1c : 0 < L.length := by omega
        have h1d : 1 < L.length := by omega
        rcases e1 : ((r1.length : Int) == n) with _ | _
        · go_wp2
          exact bodyPost_ret (v := .tuple #[.slice (some ⟨g, 0, none⟩) L.length cr, .slice Av mv cv]) (by simp [results, Try.results12, go_sem]) rfl ⟨_, _, L, xs, rfl, HL1.out, HL2.out, hx3, M5.out, V5.out.rd, BZ5.out⟩
        rcases e0 : ((r0.length : Int) == n) with _ | _
        · go_wp2
          exact bodyPost_ret (v := .tuple #[.slice (some ⟨g, 0, none⟩) L.length cr, .slice Av mv cv]) (by simp [results, Try.results12, go_sem]) rfl ⟨_, _, L, xs, rfl, HL1.out, HL2.out, hx3, M5.out, V5.out.rd, BZ5.out⟩
        have hle : r0.length ≤ r1.length := by rw [beq_iff_eq] at e0 e1; omega
        have C5' := Lib.hid C5.out.drew
        go_wp2_with fail
        refine wp_region_H' (S := fun w' => w'.cell? ⟨g, 0, none⟩ = some (.slice A0 r0.length q0) ∧ w'.cell? ⟨g, 1, none⟩ = some (.slice A1 r1.length q1)) (by kernel_rfl) (by rfl) ⟨hc0, hc1⟩ (fun hHeld => ?_)
        (refine wpAnyH_take (i := 0) (v := ?_) rfl (by kernel_rfl) (by kernel_rfl) (by kernel_rfl) (fun _ _ _ h => h) (Or.inl ⟨by rfl, ?_⟩) (by assumption) ?_; rotate_left; focus (intro ww hSw; (try dsimp only at hSw); go_simp; try with_reducible rfl); (try simp only [Act.put, List.setIfInBounds_toArray, List.set_cons_zero, List.set_cons_succ])); (refine wpAnyH_take (i := 1) (v := ?_) rfl (by kernel_rfl) (by kernel_rfl) (by kernel_rfl) (fun _ _ _ h => h) (Or.inl ⟨by rfl, ?_⟩) (by assumption) ?_; rotate_left; focus (intro ww hSw; (try dsimp only at hSw); go_simp; try with_reducible rfl); (try simp only [Act.put, List.setIfInBounds_toArray, List.set_cons_zero, List.set_cons_succ])); (refine wpAnyH_take (i := 2) (v := ?_) rfl (by kernel_rfl) (by kernel_rfl) (by kernel_rfl) (fun _ _ _ h => h) (Or.inl ⟨by rfl, ?_⟩) (by assumption) ?_; rotate_left; focus (intro ww hSw; (try dsimp only at hSw); go_simp; try with_reducible rfl); (try simp only [Act.put, List.setIfInBounds_toArray, List.set_cons_zero, List.set_cons_succ])); (refine wpAnyH_take (i := 3) (v := ?_) rfl (by kernel_rfl) (by kernel_rfl) (by kernel_rfl) (fun _ _ _ h => h) (Or.inl ⟨by rfl, ?_⟩) (by assumption) ?_; rotate_left; focus (intro ww hSw; (try dsimp only at hSw); go_simp; try with_reducible rfl); (try simp only [Act.put, List.setIfInBounds_toArray, List.set_cons_zero, List.set_cons_succ])); (refine wpAnyH_take (i := 4) (v := ?_) rfl (by kernel_rfl) (by kernel_rfl) (by kernel_rfl) (fun _ _ _ h => h) (Or.inl ⟨by rfl, ?_⟩) (by assumption) ?_; rotate_left; focus (intro ww hSw; (try dsimp only at hSw); go_simp; try with_reducible rfl); (try simp only [Act.put, List.setIfInBounds_toArray, List.set_cons_zero, List.set_cons_succ])); (refine wpAnyH_take (i := 5) (v := ?_) rfl (by kernel_rfl) (by kernel_rfl) (by kernel_rfl) (fun _ _ _ h => h) (Or.inl ⟨by rfl, ?_⟩) (by assumption) ?_; rotate_left; focus (intro ww hSw; (try dsimp only at hSw); go_simp; try with_reducible rfl); (try simp only [Act.put, List.setIfInBounds_toArray, List.set_cons_zero, List.set_cons_succ])); (refine wpAnyH_take (i := 6) (v := ?_) rfl (by kernel_rfl) (by kernel_rfl) (by kernel_rfl) (fun _ _ _ h => h) (Or.inl ⟨by rfl, ?_⟩) (by assumption) ?_; rotate_left; focus (intro ww hSw; (try dsimp only at hSw); go_simp; try with_reducible rfl); (try simp only [Act.put, List.setIfInBounds_toArray, List.set_cons_zero, List.set_cons_succ]))
        (refine wpAnyH_ready (rs := [7]) (by kernel_rfl) (by simp) ?_; refine AllReadyH.cons rfl (fun K' hK => ?_) AllReadyH.nil)
        go_simp
        (with_reducible refine (l1Below_any p A cap cs 5 _ C5'.out (by omega) (by omega)).mono ?_)
        rintro e w6 ⟨y, rfl, ⟨y0, y5⟩, c6, t6⟩
        have t6' : Tr p (p + 1) w5 w6 := (Tr.drew2 ⟨rfl, rfl, rfl, Nat.le_refl _, fun _ _ _ => rfl⟩ : Tr p (p + 1) w5 w5.drew).trans t6
        have hwy : IntKind.i64.wrap (y - 2) = y - 2 := by rw [IntKind.wrap_i64]; omega
        have k0 : w6.cell? ⟨g, 0, none⟩ = some (.slice A0 r0.length q0) := (World.cell?_of_block (w := w5) (t6'.block g hg (by omega))).trans hc0
        have k1 : w6.cell? ⟨g, 1, none⟩ = some (.slice A1 r1.length q1) := (World.cell?_of_block (w := w5) (t6'.block g hg (by omega))).trans hc1
        have R06 := Lib.hid (R0.out.trP t6' hp1)
        have R16 := Lib.hid (R1.out.trP t6' hp1)
        have O6 : Hid (OwII w1.heap.size w2.heap.size (.slice (some ⟨g, 0, none⟩) L.length cr) L w6) := Lib.hid (O5.out.trP t6' hp1 (by omega))
        have BZ6 : Hid (Below w.heap.size w w6) := Lib.hid (BZ5.out.trans ⟨t6'.os, t6'.tape, t6'.output, t6'.size, fun b hb => t6'.block b (by omega) (by omega)⟩)
        have s6 := t6'.size
        clear t6 t6' c6
        refine hK.out _ _ ⟨k0, k1⟩ (fun hHeld => ?_)
        clear hK
        try simp only [Act.put, List.setIfInBounds_toArray, List.set_cons_zero, List.set_cons_succ]
        (refine wpAnyH_take (i := 8) (v := ?_) rfl (by kernel_rfl) (by kernel_rfl) (by kernel_rfl) (fun _ _ _ h => h) (Or.inl ⟨by rfl, ?_⟩) (by assumption) ?_; rotate_left; focus (intro ww hSw; (try dsimp only at hSw); go_simp; try with_reducible rfl); (try simp only [Act.put, List.setIfInBounds_toArray, List.set_cons_zero, List.set_cons_succ]))
        (refine wpAnyH_ready (rs := [9]) (by kernel_rfl) (by simp) ?_; refine AllReadyH.cons rfl (fun K' hK => ?_) AllReadyH.nil)
        go_simp
        (with_reducible refine (l27Less_any _ _ r0 r1 (y - 2) _ R06.out.rd R16.out.rd hle (by omega)).mono ?_)
        rintro e w8 ⟨u, rfl, ou, b8⟩
        have U8 := Lib.hid ou.rd
        have hul : (subR r0 (y - 2) r1).length ≤ 3 := by rw [subR_len]; exact hl0
        have M8 : Hid (LsW w8 (.slice (some ⟨g, 0, none⟩) L.length cr) L) := Lib.hid ⟨_, _, O6.out.keep EI.stable fun b _ hb => b8.block b (by omega), by have := b8.size; omega⟩
        have BZ8 : Hid (Below w.heap.size w w8) := Lib.hid (BZ6.out.trans (b8.mono BZ6.out.size))
        have k08 := (b8.cell (p := ⟨g, 0, none⟩) (by show g < _; omega)).trans k0
        have k18 := (b8.cell (p := ⟨g, 1, none⟩) (by show g < _; omega)).trans k1
        obtain ⟨Au, cu, rfl, _⟩ := OwI.form ou
        clear ou b8
        refine hK.out _ _ ⟨k08, k18⟩ (fun _ => ?_)
        clear hK
        try simp only [Act.put, List.setIfInBounds_toArray, List.set_cons_zero, List.set_cons_succ]
        (refine wpAnyH_ready (rs := [10]) (by kernel_rfl) (by simp) ?_; refine AllReadyH.cons rfl (fun K' hK => ?_) AllReadyH.nil)
        go_simp
        refine hK.out _ _ ⟨k08, k18⟩ (fun _ => ?_)
        clear hK
        refine wpAnyH_done (by kernel_rfl) ?_ _
        generalize subR r0 (y - 2) r1 = us at *
        go_wp2
        exact bodyPost_ret (v := .tuple #[.slice (some ⟨g, 0, none⟩) L.length cr, .slice Au us.length cu]) (by simp [results, Try.results12, go_sem]) rfl ⟨_, _, L, us, rfl, HL1.out, HL2.out, hul, M8.out, U8.out, BZ8.out⟩
    · go_wp2
      exact bodyPost_ret (v := .tuple #[.slice Ar L.length cr, .slice Av mv cv]) (by simp [results, Try.results12, go_sem]) rfl (by first | exact ⟨_, _, L, xs, rfl, HL1.out, HL2.out, hx3, M.out, HV.out.rd, BZ.out⟩ | exact ⟨_, _, rfl, L, HL1.out, HL2.out, xs, hx3, M.out, HV.out.rd, BZ.out⟩)
end Go.Proofs.Ytjmjhhdjlompfaa
