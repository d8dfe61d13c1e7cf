/- The draws of FnLattices. -/
import Derived.Test.YtjmjhhdjlompfaaDraw
import Derived.Test.YtjmjhhdjlompfaaIIL
namespace Go.Proofs.Ytjmjhhdjlompfaa
set_option maxRecDepth 20000
set_option linter.unusedVariables false
set_option linter.unusedSimpArgs false
open Go.RowKit
/-- The world's first N blocks alone. -/
def trunc (w : World) (N : Nat) : World := { w with heap := w.heap.extract 0 N }
theorem trunc_size (w : World) (N : Nat) (h : N ≤ w.heap.size) : (trunc w N).heap.size = N := by
  show (w.heap.extract 0 N).size = N
  simp; omega
theorem trunc_at (w : World) (N b : Nat) (hb : b < N) (h : N ≤ w.heap.size) : (trunc w N).heap[b]? = w.heap[b]? := by
  show (w.heap.extract 0 N)[b]? = w.heap[b]?
  rw [Array.getElem?_extract]
  simp; omega
/-- 'out = append(out, row)', the row's blocks from N on, the list's below it. -/
theorem push_rows {lo N : Nat} {w : World} {v : Value} {L : List (List Int)} {ops : Array Oper} {rest : List Oper} {o : Oper} {a : Act} {Q : Exit → Act → World → Prop} (hgd : o.guard = none) (s x : Operand)
    (ho : o.op = .call { callee := .builtin .append, args := #[s, x], argTypes := #[24, 24] })
    (hown : OwII lo N v L w) (hlo : lo ≤ N) (hN : N ≤ w.heap.size) (hs : a.eval s = v) (b : Nat) (z : Value) (d : List Int) {base : Nat} (hx : a.eval x = .slice (some ⟨b, 0, none⟩) 1 1)
    (hel : OwI w base z d) (hbase : N ≤ base) (hc : w.cell? ⟨b, 0, none⟩ = some z) (hz : z.oneCell' = true) (hl : L.length ≤ 1073741824)
    (h : ∀ v' w', OwII lo w'.heap.size v' (L ++ [d]) w' → w.grownBy w' v.ownBlock → wpList Try.prog ops Q rest (a.put o.dst v') w') :
    wpList Try.prog ops Q (o :: rest) a w := by
  have hsz := trunc_size w N hN
  refine push_ints (w0 := trunc w N) hgd s x ho (lo := lo) ?_ (by rw [hsz]; exact hlo) ?_ hs b z d hx hel (by rw [hsz]; exact hbase) hc hz hl h
  · rw [hsz]
    exact hown.keep EI.stable fun b _ hb => trunc_at w N b hb hN
  · rw [hsz]
    exact ⟨rfl, rfl, rfl, by rw [hsz]; exact hN, fun b hb => (trunc_at w N b hb hN).symm⟩
/-- What is drawn: small rows of one length, or a row that is not small among them. -/
def DrL (n : Int) (L : List (List Int)) : Prop := L.length ≤ 5 ∧ (∀ r ∈ L, r.length ≤ 3) ∧ ((∀ r ∈ L, (r.length : Int) = n ∧ ∀ y ∈ r, -6 ≤ y ∧ y ≤ 6) ∨ [1000001] ∈ L)
theorem Cur.tr' {p : Nat} {A : Option Addr} {cap : Nat} {cs : List Int} {w w' : World} (h : Cur p A cap cs w) (hb : Below w.heap.size w w') : Cur p A cap cs w' := h.below hb
theorem OwII.trP {p lo hi : Nat} {w w' : World} {v : Value} {L : List (List Int)} (h : OwII lo hi v L w) (ht : Tr p (p + 1) w w') (hp : p < lo) (hh : hi ≤ w.heap.size) : OwII lo hi v L w' :=
  h.keep EI.stable fun b h1 h2 => ht.block b (by omega) (by omega)
theorem OwII_any {lo hi : Nat} {v : Value} {L : List (List Int)} {w : World} (h : OwII lo hi v L w) : ∃ A m c, v = .slice A m c := by
  obtain ⟨A, c, hv, _⟩ := h.len
  exact ⟨A, _, c, hv⟩
set_option maxHeartbeats 2000000 in
theorem l27Draw_any (p : Nat) (A : Option Addr) (cap : Nat) (cs : List Int) (w : World) (h : Cur p A cap cs w) :
    Calls Try.prog 15 #[.pointer (some ⟨p, 0, none⟩)] w fun e w' => ∃ (n : Int) (rv : Value) (L : List (List Int)), e = .returned (.tuple #[rv, .int .i64 n]) ∧ (1 ≤ n ∧ n ≤ 3) ∧ DrL n L ∧ OwII w.heap.size w'.heap.size rv L w' ∧ Cur p A cap cs w' ∧ Tr p (p + 1) w w' := by
  have H := Lib.hid h
  have hp := h.lt
  clear h
  go_enter Try.func15, Try.ntmps15
  go_wp2_with fail
  refine (l1Below_any p A cap cs 3 _ H.out (by omega) (by omega)).mono ?_
  rintro e w1 ⟨x, rfl, ⟨x0, x3⟩, c1, t1⟩
  have hwn : IntKind.i64.wrap (1 + x) = 1 + x := by rw [IntKind.wrap_i64]; omega
  have s1 := t1.size
  have C1 : Hid (Cur p A cap cs (w1.alloc (.cells #[] 30))) := Lib.hid (c1.below ((Below.refl _ _).alloc (Nat.le_refl _) _))
  have O1 := Lib.hid (OwII_lit w1 (lo := w.heap.size) s1)
  have T1 : Hid (Tr p (p + 1) w (w1.alloc (.cells #[] 30))) := Lib.hid (t1.bel2 ((Below.refl _ _).alloc (Nat.le_refl _) _))
  clear c1 t1
  go_wp2_with fail
  refine (l1Below_any p A cap cs 5 _ C1.out (by omega) (by omega)).mono ?_
  rintro e w2 ⟨k0, rfl, ⟨k00, k05⟩, c2, t2⟩
  have C2 := Lib.hid c2
  have O2 := Lib.hid ((O1.out.trP t2 hp (by simp)).widen (Nat.le_refl _) (by have := t2.size; simpa using this))
  have T2 := Lib.hid (T1.out.trans t2)
  clear c2 t2 C1 O1 T1
  go_wp2
  go_loopw [5, 6, 7, 8] (fun rv nv _ _ wr => ∃ (k : Int) (L : List (List Int)), nv = .int .i64 k ∧ 0 ≤ k ∧ k + L.length ≤ 4 ∧ (∀ r ∈ L, (r.length : Int) = 1 + x ∧ ∀ y ∈ r, -6 ≤ y ∧ y ≤ 6) ∧ OwII w.heap.size wr.heap.size rv L wr ∧ Cur p A cap cs wr ∧ Tr p (p + 1) w wr)
    (fun _ nv _ _ _ => (intOf nv).toNat)
  case atStart => exact ⟨k0, [], rfl, k00, by simp; omega, fun r hr => (by cases hr), O2.out, C2.out, T2.out⟩
  case round =>
    obtain ⟨k, L, rfl, hk0, hkm, hL, hO, hC, hT⟩ := hrel
    have HL := Lib.hid hL
    have HO := Lib.hid hO
    have HC := Lib.hid hC
    have HT := Lib.hid hT
    have hsz := hT.size
    obtain ⟨Ar, cr, rfl, _⟩ := hO.len
    clear hO hC hT hL
    by_cases hlt : 0 < k
    · have HV : Hid (OwI (wr.alloc (.cells #[] 3)) wr.heap.size (.slice (some ⟨wr.heap.size, 0, none⟩) 0 0) []) := Lib.hid (OwI_lit wr [] I64s_nil (by simp) (Nat.le_refl _))
      have HTA : Hid (Tr p (p + 1) wr (wr.alloc (.cells #[] 3))) := Lib.hid ⟨rfl, rfl, rfl, by simp, fun k hk _ => Below.heap_alloc wr _ k hk⟩
      have HCA : Hid (Cur p A cap cs (wr.alloc (.cells #[] 3))) := Lib.hid (HC.out.below ((Below.refl _ _).alloc (Nat.le_refl _) _))
      go_wp2_with fail
      go_loopw [7, 8] (fun vv iv wi => ∃ (i : Nat) (xs : List Int), iv = .int .i64 i ∧ xs.length = i ∧ (i : Int) ≤ 1 + x ∧ (∀ y ∈ xs, -6 ≤ y ∧ y ≤ 6) ∧ OwI wi wr.heap.size vv xs ∧ Cur p A cap cs wi ∧ Tr p (p + 1) wr wi)
        (fun _ iv _ => 3 - (intOf iv).toNat)
      case atStart => exact ⟨0, [], rfl, rfl, by omega, fun y hy => (by cases hy), HV.out, HCA.out, HTA.out⟩
      case round =>
        rename World => wi
        obtain ⟨i, xs, rfl, hxl, hix, hxs, hV, hC, hT⟩ := hrel
        have HV := Lib.hid hV
        have HC2 := Lib.hid hC
        have HT2 := Lib.hid hT
        have HXS := Lib.hid hxs
        have hszi := hT.size
        have hpw : p < wr.heap.size := by omega
        obtain ⟨Av, mv, cv, rfl⟩ := hV.any2
        clear hV hC hT hxs
        by_cases hlt2 : (i : Int) < 1 + x
        · go_wp2_with fail
          refine (l1Below_any p A cap cs 13 _ HC2.out (by omega) (by omega)).mono ?_
          rintro e w3 ⟨y, rfl, ⟨y0, y13⟩, c3, t3⟩
          have C3 := Lib.hid c3
          have V3 := Lib.hid (HV.out.trP t3 hpw)
          have T3 := Lib.hid (HT2.out.trans t3)
          have hs3 := T3.out.size
          have hwy : IntKind.i64.wrap (y - 6) = y - 6 := by rw [IntKind.wrap_i64]; omega
          have HY : Hid (I64 (y - 6)) := Lib.hid ⟨by omega, by omega⟩
          clear c3 t3
          go_wp2_with ((at_builtin; refine push_int rfl (.tmp 25) (.tmp 29) rfl _ _ _ (OwI.alloc V3.out _) rfl _ _ rfl (cell_new1 _ _ _) HY.out (by first | omega | (simp <;> omega)) (by first | omega | (simp <;> omega)) ?_; intro v4 wv4 o4 g4 p4); have G4 := Lib.hid g4; have O4 := Lib.hid o4; obtain ⟨A4, m4, c4, rfl⟩ := o4.any2; clear o4 g4 p4)
          have C4 := Lib.hid ((C3.out.below ((Below.refl _ _).alloc (Nat.le_refl _) _)).new HC.out G4.out (fun b hb => (V3.out.1.lt b hb).1))
          have T4 := Lib.hid ((T3.out.bel2 ((Below.refl _ _).alloc (Nat.le_refl _) _)).grow2 G4.out (fun b hb => (V3.out.1.lt b hb).1))
          go_roundw
          case rel =>
            refine ⟨i + 1, _, by go_num, by simp [hxl], by omega, fun z hz => ?_, O4.out, C4.out, T4.out⟩
            rcases List.mem_append.1 hz with hz | hz
            · exact HXS.out z hz
            · rw [List.mem_singleton] at hz; subst hz; omega
          case measure => (simp [intOf]; omega)
        · have hix2 : (i : Int) = 1 + x := by omega
          have HIX := Lib.hid hix2
          clear hix2
          have O5 := Lib.hid (HO.out.trP HT2.out hp (Nat.le_refl _))
          have T5 := Lib.hid (HT.out.trans HT2.out)
          have hwk : IntKind.i64.wrap (k - 1) = k - 1 := by rw [IntKind.wrap_i64]; omega
          go_wp2_with (at_builtin; refine push_rows rfl (.tmp 31) (.tmp 33) rfl (O5.out.keep (w' := wi.alloc (.cells #[.slice Av mv cv] 30)) EI.stable fun b _ hb => Below.heap_alloc wi _ b (by omega)) hsz (by simp; omega) rfl _ _ xs rfl (HV.out.alloc _) (Nat.le_refl _) (cell_new1 _ _ _) rfl (by omega) ?_; intro v6 w6 o6 g6; have O6 := Lib.hid o6; have G6 := Lib.hid g6; obtain ⟨A6, m6, c6, rfl⟩ := OwII_any o6; clear o6 g6)
          have hrow : ∀ b, (Value.slice Ar L.length cr).ownBlock = some b → w.heap.size ≤ b := fun b hb => (HO.out.lt hb).1
          have C6 := Lib.hid ((HC2.out.below ((Below.refl _ _).alloc (Nat.le_refl _) _)).new H.out G6.out hrow)
          have T6 := Lib.hid ((T5.out.bel2 ((Below.refl _ _).alloc (Nat.le_refl _) _)).grow2 G6.out hrow)
          go_roundw
          case rel =>
            refine ⟨k - 1, _, by go_num, by omega, by simp; omega, fun r hr => ?_, O6.out, C6.out, T6.out⟩
            rcases List.mem_append.1 hr with hr | hr
            · exact HL.out r hr
            · rw [List.mem_singleton] at hr
              rw [hr]
              exact ⟨by rw [hxl]; exact HIX.out, HXS.out⟩
          case measure => (simp [intOf]; omega)
    · have HD : Hid (DrL (1 + x) L) := Lib.hid ⟨by omega, fun r hr => by have := (HL.out r hr).1; omega, .inl HL.out⟩
      have HD2 : Hid (DrL (1 + x) (L ++ [[1000001]])) := Lib.hid ⟨by simp; omega, fun r hr => by
        rcases List.mem_append.1 hr with hr | hr
        · have := (HL.out r hr).1; omega
        · rw [List.mem_singleton] at hr; rw [hr]; decide, .inr (by simp)⟩
      go_wp2_with fail
      refine (l1Once_any p A cap cs 14 _ HC.out (by omega) (by omega)).mono ?_
      rintro e w7 ⟨on, rfl, c7, t7⟩
      have C7 := Lib.hid c7
      have O7 := Lib.hid (HO.out.trP t7 hp (Nat.le_refl _))
      have T7 := Lib.hid (HT.out.trans t7)
      have hs7 := t7.size
      clear c7 t7
      cases on
      · go_wp2
        exact bodyPost_ret (v := .tuple #[.slice Ar L.length cr, .int .i64 (1 + x)]) (by simp [results, Try.results15, go_sem]) rfl ⟨1 + x, _, L, rfl, ⟨by omega, by omega⟩, HD.out, O7.out.widen (Nat.le_refl _) hs7, C7.out, T7.out⟩
      · have HR0 : Hid (OwI (w7.alloc (.cells #[.int .i64 1000001] 3)) w7.heap.size (.slice (some ⟨w7.heap.size, 0, none⟩) 1 1) [1000001]) := Lib.hid (OwI_lit w7 [1000001] (by intro y hy; simp at hy; subst hy; exact ⟨by decide, by decide⟩) (by simp) (Nat.le_refl _))
        have HCN : Hid (((w7.alloc (.cells #[.int .i64 1000001] 3)).alloc (.cells #[.slice (some ⟨w7.heap.size, 0, none⟩) 1 1] 30)).cell? ⟨w7.heap.size + 1, 0, none⟩ = some (.slice (some ⟨w7.heap.size, 0, none⟩) 1 1)) := Lib.hid (by simp [go_sem])
        have HB8 : Hid (Below w7.heap.size w7 ((w7.alloc (.cells #[.int .i64 1000001] 3)).alloc (.cells #[.slice (some ⟨w7.heap.size, 0, none⟩) 1 1] 30))) := Lib.hid (by repeat (first | exact Below.refl _ _ | (refine Below.setCell ?_ (by first | omega | (simp <;> omega)) _) | (refine bel_drewN ?_ _) | (refine Below.drew ?_) | (refine Below.alloc ?_ (by first | omega | (simp <;> omega)) _)))
        go_wp2_with (at_builtin; refine push_rows rfl (.tmp 37) (.tmp 39) rfl (O7.out.keep EI.stable fun b _ hb => HB8.out.block b (by omega)) hsz (by simp; omega) rfl _ _ [1000001] rfl (HR0.out.alloc _) hs7 HCN.out rfl (by omega) ?_; intro v9 w9 o9 g9; have O9 := Lib.hid o9; have G9 := Lib.hid g9; obtain ⟨A9, m9, c9, rfl⟩ := OwII_any o9; clear o9 g9)
        have hrow : ∀ b, (Value.slice Ar L.length cr).ownBlock = some b → w.heap.size ≤ b := fun b hb => (HO.out.lt hb).1
        have C9 := Lib.hid ((C7.out.below HB8.out).new H.out G9.out hrow)
        have T9 := Lib.hid ((T7.out.bel2 HB8.out).grow2 G9.out hrow)
        exact bodyPost_ret (v := .tuple #[.slice A9 m9 c9, .int .i64 (1 + x)]) (by simp [results, Try.results15, go_sem]) rfl ⟨1 + x, _, L ++ [[1000001]], rfl, ⟨by omega, by omega⟩, HD2.out, O9.out, C9.out, T9.out⟩
end Go.Proofs.Ytjmjhhdjlompfaa
