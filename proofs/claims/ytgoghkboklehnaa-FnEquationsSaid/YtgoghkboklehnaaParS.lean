/- ParseEquation of the reference. -/
import Derived.Test.YtgoghkboklehnaaPar
import Derived.Outline
namespace Go.Proofs.Ytgoghkboklehnaa
set_option maxRecDepth 20000
set_option linter.unusedVariables false
set_option linter.unusedSimpArgs false
open Go.RowKit

theorem RdI.form0 {w : World} {v : Value} {x : Int} (h : RdI w v [x]) : ∃ b off, (∃ c, v = .slice (some ⟨b, off, none⟩) 1 c) ∧ b < w.heap.size ∧ w.cell? ⟨b, off, none⟩ = some (.int .i64 x) := by
  obtain ⟨A, cap, hv, _⟩ := h.1.cell
  subst hv
  obtain ⟨b, off, rfl, hb, hc⟩ := h.at (by simp)
  exact ⟨b, off, ⟨cap, rfl⟩, hb, by simpa using hc 0 (by simp)⟩
theorem okP_bad {r : Int} {t : List UInt8} (h1 : t ≠ [49]) (k : Nat) (hk : k < t.length) (h : eqN t[k].toNat = 0) : okP r t = false := by
  have : eqB r (parE t) = false := by
    unfold parE
    rw [if_neg h1]
    unfold eqB
    have h2 : (t.map eqCh).all (eqAt r) = false := by
      rw [List.all_eq_false]
      refine ⟨0, List.mem_map.2 ⟨t[k], by simp, h⟩, ?_⟩
      simp [eqAt, letB]
    rw [h2]; simp
  unfold okP
  rw [this]; rfl
theorem chunk_eq {c : UInt8} (h : eqN c.toNat ≠ 0) : chunk (eqCh c) = [c] := by
  have hc : c = UInt8.ofNat c.toNat := by simp
  unfold eqCh
  have hb := c.toNat_lt
  generalize c.toNat = n at *
  rw [hc]
  unfold eqN letN at h ⊢
  have : n = 120 ∨ n = 88 ∨ n = 97 ∨ n = 98 ∨ n = 99 ∨ n = 65 ∨ n = 66 ∨ n = 67 := by
    by_cases h1 : n = 120
    · omega
    · by_cases h2 : n = 88
      · omega
      · rw [if_neg h1, if_neg h2] at h
        by_cases h3 : 97 ≤ n ∧ n ≤ 99
        · omega
        · rw [if_neg h3] at h
          by_cases h4 : 65 ≤ n ∧ n ≤ 67
          · omega
          · rw [if_neg h4] at h; exact absurd rfl h
  rcases this with rfl | rfl | rfl | rfl | rfl | rfl | rfl | rfl <;> decide
theorem fmt_par {t : List UInt8} (h0 : t ≠ []) (h : ∀ k (hk : k < t.length), eqN t[k].toNat ≠ 0) : fmtEq (t.map eqCh) = t := by
  have hc : ∀ c ∈ t, chunk (eqCh c) = [c] := fun c hc => by
    obtain ⟨k, hk, rfl⟩ := List.getElem_of_mem hc
    exact chunk_eq (h k hk)
  rw [fmtEq_ok (fun j hj => by
    have : (t.map eqCh)[j] = eqCh (t[j]'(by simpa using hj)) := by simp
    rw [this, hc _ (by simp)]; simp) (by simpa using h0)]
  have : ∀ l : List UInt8, (∀ c ∈ l, chunk (eqCh c) = [c]) → (l.map eqCh).flatMap chunk = l := by
    intro l
    induction l with
    | nil => intro _; rfl
    | cons c l ih =>
      intro hl
      simp only [List.map_cons, List.flatMap_cons]
      rw [hl c (by simp), ih fun d hd => hl d (by simp [hd])]
      rfl
  exact this t hc
theorem okP_good {r : Int} {t : List UInt8} (h1 : t ≠ [49]) (h0 : t ≠ []) (h : ∀ k (hk : k < t.length), eqN t[k].toNat ≠ 0) : okP r t = eqB r (t.map eqCh) := by
  unfold okP parE
  rw [if_neg h1, fmt_par h0 h]
  simp
theorem extr_one {t : List UInt8} {k : Nat} (hk : k < t.length) : ({ data := t.toArray } : ByteArray).extract k (k + 1) = { data := #[t[k]] } := by
  apply ByteArray.ext
  rw [ByteArray.data_extract]
  apply Array.ext
  · simp; omega
  · intro i h1 h2
    have : i = 0 := by simp at h2; omega
    subst this
    simp
set_option maxHeartbeats 2000000 in
theorem specParseEquation_any (r : Int) (t : List UInt8) (w : World) (hl : t.length ≤ 1048576) :
    Calls Try.prog 23 #[.int .i64 r, .string ⟨t.toArray⟩] w fun o w' => ∃ u, o = .returned (.tuple #[u, .bool (parF r t).2]) ∧ OwI w' w.heap.size u (parF r t).1 ∧ Below w.heap.size w w' := by
  have HZ : Hid (OwI (w.alloc (.cells #[] 3)) w.heap.size (.slice (some ⟨w.heap.size, 0, none⟩) 0 0) []) := Lib.hid (OwI_lit w [] I64s_nil (by simp) (Nat.le_refl _))
  have HBZ : Hid (Below w.heap.size w (w.alloc (.cells #[] 3))) := Lib.hid (by repeat (first | exact Below.refl _ _ | (refine Below.setCell ?_ (by first | omega | (simp <;> omega)) _) | (refine bel_drewN ?_ _) | (refine Below.drew ?_) | (refine Below.alloc ?_ (by first | omega | (simp <;> omega)) _)))
  by_cases h1 : t = [49]
  · subst h1
    rcases eb : eqB r [] with _ | _
    · have F : Hid (parF r [49] = ([], false)) := Lib.hid (by unfold parF okP parE; simp [eb])
      have C := fun W h => specIsEquation_any r (.slice (some ⟨w.heap.size, 0, none⟩) 0 0) [] W h (by simp)
      rw [eb] at C
      have CC := Lib.hid C
      clear C eb
      go_enter Try.func23, Try.ntmps23
      go_wp2_with fail
      generalize w.alloc (Obj.cells #[] 3) = w0 at HZ HBZ ⊢
      refine wp_loop_rounds 1 ?_
      rw [rounds_succ]
      go_wp2_with (go_at_call 10; refine (CC.out _ HZ.out.arg).mono ?_; rintro e w' ⟨rfl, rfl⟩)
      go_ret2
      rw [F.out]
      exact ⟨_, rfl, OwI_lit _ [] I64s_nil (by simp) HBZ.out.size, HBZ.out.alloc HBZ.out.size _⟩
    · have F : Hid (parF r [49] = ([], true)) := Lib.hid (by unfold parF okP parE; simp [eb]; rfl)
      have C := fun W h => specIsEquation_any r (.slice (some ⟨w.heap.size, 0, none⟩) 0 0) [] W h (by simp)
      rw [eb] at C
      have CC := Lib.hid C
      clear C eb
      go_enter Try.func23, Try.ntmps23
      go_wp2_with fail
      generalize w.alloc (Obj.cells #[] 3) = w0 at HZ HBZ ⊢
      refine wp_loop_rounds 1 ?_
      rw [rounds_succ]
      go_wp2_with (go_at_call 10; refine (CC.out _ HZ.out.arg).mono ?_; rintro e w' ⟨rfl, rfl⟩)
      go_ret2
      rw [F.out]
      exact ⟨_, rfl, HZ.out, HBZ.out⟩
  · have H1 := Lib.hid h1
    have ht : (t == [49]) = false := by simpa using h1
    clear h1
    go_enter Try.func23, Try.ntmps23
    go_wp2_with fail
    generalize w.alloc (Obj.cells #[] 3) = w0 at HZ HBZ ⊢
    go_loopw [6, 7] (fun out i wr => ∃ k : Nat, k ≤ t.length ∧ i = .int .i64 k ∧ OwI wr w.heap.size out ((t.take k).map eqCh) ∧ (∀ j (hj : j < t.length), j < k → eqN t[j].toNat ≠ 0) ∧ Below w.heap.size w wr)
      (fun _ i _ => t.length - (intOf i).toNat)
    case atStart => exact ⟨0, Nat.zero_le _, rfl, HZ.out, (fun j hj h => absurd h (by omega)), HBZ.out⟩
    case round =>
      obtain ⟨k, hk, rfl, hown, hno, hbel⟩ := hrel
      have hsz := hbel.size
      have HNO := Lib.hid hno
      have hal : ((t.take k).map eqCh).length ≤ 1048576 := by simp; omega
      clear hno
      by_cases hlt : k < t.length
      · have HS0 : (t.take (k + 1)).map eqCh = (t.take k).map eqCh ++ [eqN t[k].toNat] := by rw [List.take_succ_eq_append_getElem hlt, List.map_append]; rfl
        have hltb : k < ({ data := t.toArray } : ByteArray).size := by show k < t.toArray.size; simpa using hlt
        have hbn : (({ data := t.toArray } : ByteArray)[k]'hltb).toNat = t[k].toNat := rfl
        have hcb : t[k].toNat < 256 := t[k].toNat_lt
        have HS := Lib.hid HS0
        have HEX := Lib.hid (extr_one hlt)
        have HST : Hid (eqN t[k].toNat ≠ 0 → ∀ j (hj : j < t.length), j < k + 1 → eqN t[j].toNat ≠ 0) := Lib.hid fun e j hj hjk => by
          rcases Nat.lt_or_eq_of_le (Nat.le_of_lt_succ hjk) with h | rfl
          · exact HNO.out j hj h
          · exact e
        have HBAD : Hid (eqN t[k].toNat = 0 → parF r t = ([], false)) := Lib.hid fun e => by unfold parF; rw [okP_bad H1.out k hlt e]; rfl
        clear HS0
        generalize t[k] = c at hbn hcb HS HEX HST HBAD
        have HPW := Lib.hid (specParseWord1_any c)
        generalize (t.take k).map eqCh = acc at hown HS hal
        have HO := Lib.hid hown
        obtain ⟨A1, c1, rfl, _⟩ := hown.form
        clear hown
        rcases e1 : ((c.toNat : Int) == 120) with _ | _
        · rcases e2 : ((c.toNat : Int) == 88) with _ | _
          · have FE : Hid (eqN c.toNat = letN c.toNat) := Lib.hid (by simp at e1 e2; unfold eqN; rw [if_neg (by omega), if_neg (by omega)])
            go_wp2_with fail
            rw [HEX.out]
            have C := HPW.out wr
            unfold pw1 at C
            by_cases hz : letN c.toNat = 0
            · have F := Lib.hid (HBAD.out (by rw [FE.out, hz]))
              rw [if_neg (by simpa using hz)] at C
              have bad : ∀ b : Bool, (fun (W : World) => True) wr := fun _ => trivial
              by_cases hq : c.toNat = 49
              · rw [if_pos hq] at C
                (with_reducible refine C.mono ?_)
                rintro e w2 ⟨u2, rfl, o2, b2⟩
                have B2 := Lib.hid (hbel.trans (b2.mono hsz))
                obtain ⟨A2, c2, rfl, _⟩ := OwI.form o2
                have hs2 := B2.out.size
                clear C o2 b2 hz hq
                go_wp2
                go_ret2
                rw [F.out]
                exact ⟨_, rfl, OwI_lit _ [] I64s_nil (by simp) hs2, B2.out.alloc hs2 _⟩
              · rw [if_neg hq] at C
                (with_reducible refine C.mono ?_)
                rintro e w2 ⟨u2, rfl, o2, b2⟩
                have B2 := Lib.hid (hbel.trans (b2.mono hsz))
                obtain ⟨A2, c2, rfl, _⟩ := OwI.form o2
                have hs2 := B2.out.size
                clear C o2 b2 hz hq
                go_wp2
                go_ret2
                rw [F.out]
                exact ⟨_, rfl, OwI_lit _ [] I64s_nil (by simp) hs2, B2.out.alloc hs2 _⟩
            · have HLI : Hid (I64 (letN c.toNat)) := Lib.hid (by have := letN_I64 c.toNat; unfold I64; omega)
              have HNZ := Lib.hid (HST.out (by rw [FE.out]; exact hz))
              rw [if_pos hz] at C
              (with_reducible refine C.mono ?_)
              rintro e w2 ⟨u2, rfl, o2, b2⟩
              have B2 := Lib.hid (hbel.trans (b2.mono hsz))
              have HO2 := Lib.hid (HO.out.below b2)
              obtain ⟨b9, off9, ⟨c9, hA9⟩, _, hc9⟩ := o2.rd.form0
              have hs2 := B2.out.size
              clear C o2 b2 hz
              subst hA9
              generalize letN c.toNat = lx at hc9 HLI FE
              go_wp2_with (at_builtin; refine push_int rfl (.tmp 41) (.tmp 45) rfl _ _ _ (OwI.alloc HO2.out _) rfl _ _ rfl (cell_new1 _ _ _) HLI.out (by first | omega | (simp <;> omega)) (by first | omega | (simp <;> omega)) ?_; intro v1 wv1 o1 g1 p1)
              go_roundw
              case rel => exact ⟨k + 1, by omega, by go_num, by rw [HS.out, FE.out]; exact o1, HNZ.out, bel_push B2.out hs2 HO2.out.1 (Nat.le_refl _) g1⟩
              case measure => simp [intOf]; omega
          · have FE : Hid (eqN c.toNat = -9) := Lib.hid (eqN_88 e2)
            have HLI : Hid (I64 (-9)) := Lib.hid (by unfold I64; omega)
            go_wp2_with (at_builtin; refine push_int rfl (.tmp 54) (.tmp 55) rfl _ _ _ (OwI.alloc HO.out _) rfl _ _ rfl (cell_new1 _ _ _) HLI.out (by first | omega | (simp <;> omega)) (by first | omega | (simp <;> omega)) ?_; intro v1 wv1 o1 g1 p1)
            go_roundw
            case rel => exact ⟨k + 1, by omega, by go_num, by rw [HS.out, FE.out]; exact o1, HST.out (by rw [FE.out]; decide), bel_push hbel hsz HO.out.1 (Nat.le_refl _) g1⟩
            case measure => simp [intOf]; omega
        · have FE : Hid (eqN c.toNat = 9) := Lib.hid (eqN_120 e1)
          have HLI : Hid (I64 9) := Lib.hid (by unfold I64; omega)
          go_wp2_with (at_builtin; refine push_int rfl (.tmp 49) (.tmp 50) rfl _ _ _ (OwI.alloc HO.out _) rfl _ _ rfl (cell_new1 _ _ _) HLI.out (by first | omega | (simp <;> omega)) (by first | omega | (simp <;> omega)) ?_; intro v1 wv1 o1 g1 p1)
          go_roundw
          case rel => exact ⟨k + 1, by omega, by go_num, by rw [HS.out, FE.out]; exact o1, HST.out (by rw [FE.out]; decide), bel_push hbel hsz HO.out.1 (Nat.le_refl _) g1⟩
          case measure => simp [intOf]; omega
      · obtain rfl : k = t.length := by omega
        rw [List.take_length] at hown hal
        have HO := Lib.hid hown
        have HG : Hid (t ≠ [] → okP r t = eqB r (t.map eqCh)) := Lib.hid fun h0 => okP_good H1.out h0 fun j hj => HNO.out j hj hj
        have HPE : Hid (parE t = t.map eqCh) := Lib.hid (by unfold parE; rw [if_neg H1.out])
        generalize t.map eqCh = es at hown hal HO HG HPE
        obtain ⟨A1, c1, rfl, _⟩ := hown.form
        clear hown
        by_cases h0 : t = []
        · subst h0
          have F : Hid (parF r [] = ([], false)) := Lib.hid (by unfold parF okP; rw [show (fmtEq (parE [])) = [49] from rfl]; simp)
          go_wp2
          go_ret2
          rw [F.out]
          exact ⟨_, rfl, OwI_lit _ [] I64s_nil (by simp) hsz, hbel.alloc hsz _⟩
        · have HK := Lib.hid (HG.out h0)
          have te : t.isEmpty = false := by cases t with | nil => exact absurd rfl h0 | cons _ _ => rfl
          have te2 : (t == []) = false := by simpa using h0
          clear h0
          rcases eb : eqB r es with _ | _
          · have C := fun W h => specIsEquation_any r (.slice A1 es.length c1) es W h (by omega)
            rw [eb] at C
            have CC := Lib.hid C
            have F : Hid (parF r t = ([], false)) := Lib.hid (by unfold parF; rw [HK.out, eb]; rfl)
            clear C eb
            go_wp2_with (go_at_call 10; refine (CC.out _ HO.out.arg).mono ?_; rintro e w' ⟨rfl, rfl⟩)
            go_ret2
            rw [F.out]
            exact ⟨_, rfl, OwI_lit _ [] I64s_nil (by simp) hsz, hbel.alloc hsz _⟩
          · have C := fun W h => specIsEquation_any r (.slice A1 es.length c1) es W h (by omega)
            rw [eb] at C
            have CC := Lib.hid C
            have F : Hid (parF r t = (es, true)) := Lib.hid (by unfold parF; rw [HK.out, eb, HPE.out]; rfl)
            clear C eb
            go_wp2_with (go_at_call 10; refine (CC.out _ HO.out.arg).mono ?_; rintro e w' ⟨rfl, rfl⟩)
            go_ret2
            rw [F.out]
            exact ⟨_, rfl, HO.out, hbel⟩
end Go.Proofs.Ytgoghkboklehnaa
