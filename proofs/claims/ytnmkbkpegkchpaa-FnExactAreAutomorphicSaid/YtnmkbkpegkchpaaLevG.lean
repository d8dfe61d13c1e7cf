/- The reference's LevelOf. -/
import Derived.Test.YtnmkbkpegkchpaaPutW
namespace Go.Proofs.Ytnmkbkpegkchpaa
set_option maxRecDepth 20000
set_option linter.unusedVariables false
set_option linter.unusedSimpArgs false
open Go.RowKit

theorem lvGo_step (M : List MoD) (n f k : Nat) (q : List (List Int)) (h : k < q.length) : lvGo M n (f + 1) k q = match lvK n q[k] M q with | none => none | some q' => lvGo M n f (k + 1) q' := by
  rw [lvGo, dif_pos h]
  rfl
theorem lvGo_end (M : List MoD) (n f : Nat) (q : List (List Int)) : lvGo M n f q.length q = some q := by
  cases f with
  | zero => rfl
  | succ f => rw [lvGo, dif_neg (by omega)]
/-- Where the search stands within a round. -/
def lvR (M : List MoD) (n : Nat) (u : List Int) (m k : Nat) (q : List (List Int)) : Option (List (List Int)) := match lvK n u (M.drop m) q with | none => none | some q' => lvGo M n (59 - k) (k + 1) q'
theorem lvR_start (M : List MoD) (n k : Nat) (q : List (List Int)) (h : k < q.length) (hq : q.length ≤ 60) : lvGo M n (60 - k) k q = lvR M n q[k] 0 k q := by
  rw [show 60 - k = 59 - k + 1 by omega, lvGo_step M n _ k q h]
  rfl
theorem lvR_end (M : List MoD) (n : Nat) (u : List Int) (k : Nat) (q : List (List Int)) : lvR M n u M.length k q = lvGo M n (60 - (k + 1)) (k + 1) q := by
  unfold lvR
  rw [List.drop_length]
  show lvGo M n (59 - k) (k + 1) q = _
  rw [show 59 - k = 60 - (k + 1) by omega]
theorem lvR_skip {M : List MoD} {n : Nat} {u : List Int} {m k : Nat} {q : List (List Int)} (h : m < M.length) (hc : ¬ ((yF M[m] u).length = n ∧ yF M[m] u ∉ q)) : lvR M n u m k q = lvR M n u (m + 1) k q := by
  unfold lvR
  rw [List.drop_eq_getElem_cons h, lvK, if_neg hc]
theorem lvR_full {M : List MoD} {n : Nat} {u : List Int} {m k : Nat} {q : List (List Int)} (h : m < M.length) (hc : (yF M[m] u).length = n ∧ yF M[m] u ∉ q) (hq : 60 ≤ q.length) : lvR M n u m k q = none := by
  unfold lvR
  rw [List.drop_eq_getElem_cons h, lvK, if_pos hc, if_pos hq]
theorem lvR_push {M : List MoD} {n : Nat} {u : List Int} {m k : Nat} {q : List (List Int)} (h : m < M.length) (hc : (yF M[m] u).length = n ∧ yF M[m] u ∉ q) (hq : ¬ 60 ≤ q.length) : lvR M n u m k q = lvR M n u (m + 1) k (q ++ [yF M[m] u]) := by
  unfold lvR
  rw [List.drop_eq_getElem_cons h, lvK, if_pos hc, if_neg hq]
theorem levF_bad {r : Int} {w : List Int} (h : ¬ (wordB r w = true ∧ (redF r w).1.length ≤ 6)) : levF r w = ([], false) := by unfold levF; rw [if_neg h]
theorem levF_ok {r : Int} {w : List Int} (h : wordB r w = true ∧ (redF r w).1.length ≤ 6) : levF r w = match lvGo (movF r) (redF r w).1.length 60 0 [(redF r w).1] with | none => ([], false) | some q => (srt cK q, true) := by
  unfold levF
  rw [if_pos h]
  rfl
theorem FrN.bel {F : List Nat} {w w1 w2 : World} (h : FrN F w w1) (hb : Below w1.heap.size w1 w2) : FrN F w w2 :=
  ⟨hb.os.trans h.os, hb.tape.trans h.tape, hb.output.trans h.output, Nat.le_trans h.size hb.size, fun b h1 h2 => (hb.block b (Nat.lt_of_lt_of_le h1 h.size)).trans (h.block b h1 h2)⟩
theorem mv_at {w : World} {A : Option Addr} {m cap lo hi : Nat} {M : List MoD} (h : OMS lo hi (.slice A m cap) M w) (k : Nat) (hk : k < M.length) : ∃ g s, A = some ⟨g, 0, none⟩ ∧ g < w.heap.size ∧ w.cell? ⟨g, k * 2, none⟩ = some (.int .i64 M[k].1) ∧ w.cell? ⟨g, k * 2 + 1, none⟩ = some s ∧ RdII w s M[k].2 := by
  obtain ⟨g, cs, Fe, rfl, hg1, hg2, hE, hcw, hFe, hnd, hc, hfz, hgs, _⟩ := h.focus EM.stable hk
  obtain ⟨s, rfl, hd, ho⟩ := hE
  have c0 := hc 0 (by simp)
  have c1 := hc 1 (by simp)
  simp only [List.getElem_cons_zero, List.getElem_cons_succ, Nat.add_zero] at c0 c1
  exact ⟨g, s, rfl, hgs, c0, c1, ReadII ho hnd⟩
theorem Que.small {r : Int} {n : Nat} {q : List (List Int)} (h : Que r n q) (hr : inB r 1 3 = true) : ∀ w ∈ q, smallW w := fun w hw => let_small hr (h.el w hw).2
theorem srt_small {q : List (List Int)} (h : ∀ w ∈ q, smallW w) : ∀ w ∈ srt cK q, smallW w := fun w hw => h w (((srt_spec cK_ord q).2 w).1 hw)
theorem one_f {w : World} {base : Nat} {z : Value} {d : List Int} (h : OwI w base z d) (t : World) (ht : t = w.alloc (.cells #[z] 27)) : OwLf EI 27 1 t (.slice (some ⟨w.heap.size, 0, none⟩) 1 1) [d] (w.heap.size :: z.ownBlock.toList) ∧ (w.heap.size :: z.ownBlock.toList).Nodup := by
  subst ht
  refine ⟨⟨[([z], d, z.ownBlock.toList)], rfl, fun e he => ?_, ?_, by simp [Value.ownBlock]⟩, List.nodup_cons.2 ⟨fun hm => ?_, by cases z.ownBlock <;> simp⟩⟩
  · simp at he; subst he
    exact ⟨rfl, EI.of (h.alloc _)⟩
  · have := rows_lit w [z] (by simp) (Nat.zero_le _)
    simpa using this
  · have := h.1.lt w.heap.size (by simpa using hm)
    omega
set_option maxRecDepth 100000 in
set_option maxHeartbeats 4000000 in
theorem specLevelOf_any (r : Int) (v : Value) (xs : List Int) (w : World) (hr : I64 r) (h : RdI w v xs) (hl : xs.length ≤ 1048576) :
    Calls Try.prog 20 #[.int .i64 r, v] w fun e w' => ∃ s, e = .returned (.tuple #[s, .bool (levF r xs).2]) ∧ OwII w.heap.size w'.heap.size s (levF r xs).1 w' ∧ Below w.heap.size w w' := by
  have HR := Lib.hid hr
  have HX := Lib.hid h
  obtain ⟨A, cap, rfl, hcap, hm, _⟩ := h.arg
  unfold maxLen at hm
  have HRC := Lib.hid fun W (h : RdI W (.slice A xs.length cap) xs) => specReduceCyclic_any r _ xs W HR.out h hl
  have HIW := Lib.hid fun W (h : ArgI W (.slice A xs.length cap) xs) => specIsWord_any r _ xs W h (by omega)
  clear h hr
  rcases eb : wordB r xs with _ | _
  · have F := Lib.hid (levF_bad (r := r) (w := xs) (by rw [eb]; simp))
    rw [eb] at HIW
    clear eb
    go_enter Try.func20, Try.ntmps20
    go_wp2_with (first
      | (go_at_call 35; (with_reducible refine (HRC.out _ HX.out).mono ?_); rintro e w1 ⟨s1, t1, rfl, o1, o2, b1⟩; have B1 := Lib.hid b1; obtain ⟨A1, c1, rfl, _⟩ := o1.form; obtain ⟨A2, c2, rfl, _⟩ := o2.len; clear o1 o2 b1)
      | (go_at_call 36; (with_reducible refine (HIW.out _ (HX.out.below B1.out).arg).mono ?_); rintro e w2 ⟨rfl, n2, rfl⟩))
    refine bodyPost_ret (v := .tuple #[.slice (some ⟨w1.heap.size, 0, none⟩) 0 0, .bool false]) (by simp [results, Try.results20, go_sem]) rfl ⟨_, by rw [F.out], ?_, ?_⟩
    · rw [F.out]
      have := OwII_lit (w1.drewN n2) (lo := w.heap.size) (by have := B1.out.size; exact this)
      exact this.widen (Nat.le_refl _) (by simp)
    · exact (bel_drewN B1.out n2).alloc (by exact B1.out.size) _
  · by_cases h6 : (redF r xs).1.length ≤ 6
    · have F := Lib.hid (levF_ok ⟨eb, h6⟩)
      have HQ0 := Lib.hid (redF_que eb h6)
      have hrb : inB r 1 3 = true := inB_iff.2 (wordB_rank eb)
      have HRB := Lib.hid hrb
      have HMO := Lib.hid (movF_ok hrb)
      have HML : Hid ((movF r).length ≤ 2000) := Lib.hid (by have h1 := allWh_len r; have h2 := relF_len r; unfold movF; rw [List.length_append, List.length_map]; omega)
      rw [eb] at HIW
      have HLM := Lib.hid fun W => l22Moves_any r W HR.out
      clear eb hrb
      generalize (redF r xs).1 = X at *
      generalize movF r = M at *
      have hML := HML.out
      go_enter Try.func20, Try.ntmps20
      go_wp2_with (first
        | (go_at_call 35; (with_reducible refine (HRC.out _ HX.out).mono ?_); rintro e w1 ⟨s1, t1, rfl, o1, o2, b1⟩; have B1 := Lib.hid b1; have O1 := Lib.hid o1; obtain ⟨A1, c1, rfl, _⟩ := o1.form; obtain ⟨A2, c2, rfl, _⟩ := o2.len; clear o1 o2 b1)
        | (go_at_call 36; (with_reducible refine (HIW.out _ (HX.out.below B1.out).arg).mono ?_); rintro e w1b ⟨rfl, n2, hw2⟩; have HD : Hid (Below w1.heap.size w1 w1b) := Lib.hid (by rw [hw2]; exact bel_drewN (Below.refl _ _) n2); have hz2 := HD.out.size; clear hw2)
        | (go_at_call 37; (with_reducible refine (HLM.out _).mono ?_); rintro e w2 ⟨s2, rfl, o2, b2⟩; have B2 := Lib.hid b2; have O2 := Lib.hid o2; obtain ⟨Am, cm, rfl, hcm, hmm, _⟩ := o2.len; clear o2 b2))
      obtain ⟨W3, hW3⟩ : ∃ W3 : World, W3 = w2.alloc (Obj.cells #[.slice A1 X.length c1] 27) := ⟨_, rfl⟩
      have hs1 := B1.out.size
      have hs2 := B2.out.size
      have hs3 : W3.heap.size = w2.heap.size + 1 := by rw [hW3]; simp
      have hs3' : w2.heap.size < W3.heap.size := by omega
      have HB3 : Hid (Below w2.heap.size w2 W3) := Lib.hid (by rw [hW3]; exact (Below.refl _ _).alloc (Nat.le_refl _) _)
      have hone := one_f ((O1.out.below HD.out).below B2.out) W3 hW3
      obtain ⟨F0, hF0d⟩ : ∃ F0 : List Nat, F0 = w2.heap.size :: (Value.slice A1 X.length c1).ownBlock.toList := ⟨_, rfl⟩
      rw [← hF0d] at hone
      have HQ0W := Lib.hid hone.1
      have HQ0N := Lib.hid hone.2
      have HF0 : Hid (∀ b ∈ F0, w.heap.size ≤ b ∧ b < W3.heap.size ∧ ¬ (w1b.heap.size ≤ b ∧ b < w2.heap.size)) := Lib.hid fun b hb => by
        rw [hF0d] at hb
        rcases List.mem_cons.1 hb with rfl | hb
        · omega
        · have := O1.out.1.lt b (by simpa using hb)
          omega
      have HBW : Hid (∀ W, FrN F0 W3 W → Below w.heap.size w W) := Lib.hid fun W hf => ((B1.out.trans (HD.out.mono hs1)).trans ((B2.out.mono (by omega)).trans (HB3.out.mono (by omega)))).trans ⟨hf.os, hf.tape, hf.output, hf.size, fun b hb => hf.block b (by omega) fun h => by have := (HF0.out b h).1; omega⟩
      have HMV3 : Hid (∀ W, FrN F0 W3 W → OMS w1b.heap.size w2.heap.size (.slice Am M.length cm) M W) := Lib.hid fun W hf => O2.out.keep EM.stable fun b h1 h2 => (hf.block b (by omega) fun hb => (HF0.out b hb).2.2 ⟨h1, h2⟩).trans (HB3.out.block b h2)
      have HW3 := Lib.hid hW3
      clear hone hF0d hW3
      obtain ⟨RES, hRES⟩ : ∃ RES, RES = lvGo M X.length 60 0 [X] := ⟨_, rfl⟩
      rw [← hRES] at F
      have HRES := Lib.hid hRES
      clear hRES
      have hXI : (X.length : Int) ≤ 6 := by omega
      rw [← HW3.out]
      go_loopw [9, 10] (fun qv i wr => ∃ (k : Nat) (q : List (List Int)) (G : List Nat), i = .int .i64 k ∧ k ≤ q.length ∧ Que r X.length q ∧ RES = lvGo M X.length (60 - k) k q ∧ OwLf EI 27 1 wr qv q G ∧ G.Nodup ∧ (∀ b ∈ G, (b ∈ F0 ∨ W3.heap.size ≤ b) ∧ b < wr.heap.size) ∧ FrN F0 W3 wr)
        (fun _ i _ => 61 - (intOf i).toNat)
      case atStart => exact ⟨0, [X], F0, rfl, by simp, HQ0.out, HRES.out, HQ0W.out, HQ0N.out, fun b hb => ⟨.inl hb, (HF0.out b hb).2.1⟩, FrN.refl _ _⟩
      case round =>
        obtain ⟨k, q, G, rfl, hk, hq, hres, x1, x2, x3, x4⟩ := hrel
        have HQU := Lib.hid hq
        have HRE := Lib.hid hres
        have X1 := Lib.hid x1
        have X2 := Lib.hid x2
        have X3 := Lib.hid x3
        have X4 := Lib.hid x4
        have hq60 := hq.len
        obtain ⟨Aq, cq, rfl, _⟩ := (OwnL.of_f (lo := 0) (hi := wr.heap.size) x1 x2 fun b hb => ⟨Nat.zero_le _, (x3 b hb).2⟩).len
        have hsr := x4.size
        clear x1 x2 x3 x4 hq hres
        by_cases hlt : k < q.length
        · have HR0 : Hid (RES = lvR M X.length q[k] 0 k q) := Lib.hid (HRE.out.trans (lvR_start M X.length k q hlt hq60))
          have HUK : Hid (q[k]? = some q[k]) := Lib.hid (List.getElem?_eq_getElem hlt)
          have HUG := Lib.hid (HQU.out.el _ (List.getElem_mem hlt))
          have hkI : (k : Int) < (q.length : Int) := by omega
          generalize q[k] = u at *
          go_wp2_with fail
          go_loopw [9, 11] (fun qv j wr => ∃ (m : Nat) (q : List (List Int)) (G : List Nat), j = .int .i64 m ∧ m ≤ M.length ∧ Que r X.length q ∧ q[k]? = some u ∧ RES = lvR M X.length u m k q ∧ OwLf EI 27 1 wr qv q G ∧ G.Nodup ∧ (∀ b ∈ G, (b ∈ F0 ∨ W3.heap.size ≤ b) ∧ b < wr.heap.size) ∧ FrN F0 W3 wr)
            (fun _ j _ => M.length - (intOf j).toNat)
          case atStart => exact ⟨0, q, G, rfl, Nat.zero_le _, HQU.out, HUK.out, HR0.out, X1.out, X2.out, X3.out, X4.out⟩
          case round =>
            clear HQU HRE X1 X2 X3 X4 HR0 HUK hq60 hkI hlt hk hsr
            obtain ⟨m, q, G, rfl, hm, hq, huk, hres, x1, x2, x3, x4⟩ := hrel
            have HQU := Lib.hid hq
            have HRE := Lib.hid hres
            have HUK := Lib.hid huk
            have X1 := Lib.hid x1
            have X2 := Lib.hid x2
            have X3 := Lib.hid x3
            have X4 := Lib.hid x4
            have hq60 := hq.len
            obtain ⟨Aq, cq, rfl, _⟩ := (OwnL.of_f (lo := 0) (hi := wr.heap.size) x1 x2 fun b hb => ⟨Nat.zero_le _, (x3 b hb).2⟩).len
            have hsr := x4.size
            have hkq : k < q.length := (List.getElem?_eq_some_iff.1 huk).1
            have hku : q[k] = u := (List.getElem?_eq_some_iff.1 huk).2
            clear x1 x2 x3 x4 hq hres huk
            by_cases hlt : m < M.length
            · have hu6 : u.length ≤ 6 := by have := HUG.out.1; omega
              obtain ⟨gm, s, rfl, hgm, c0, c1', hRD⟩ := mv_at (HMV3.out _ X4.out) m hlt
              obtain ⟨As, cs, rfl, _⟩ := hRD.form
              obtain ⟨b, off, A1', cap1', hAq, hb, hcl, _, _, hRU⟩ := (ReadII X1.out X2.out).at hkq
              subst hAq
              rw [hku] at hcl hRU
              have HOKM := Lib.hid (HMO.out M[m] (List.getElem_mem hlt))
              have HY18 := Lib.hid (yF_len HOKM.out u hu6)
              have HYL := Lib.hid (yF_let HRB.out HOKM.out u)
              have HSK : Hid (¬ ((yF M[m] u).length = X.length ∧ yF M[m] u ∉ q) → RES = lvR M X.length u (m + 1) k q) := Lib.hid fun hc => HRE.out.trans (lvR_skip hlt hc)
              have HFU : Hid ((yF M[m] u).length = X.length ∧ yF M[m] u ∉ q → 60 ≤ q.length → RES = none) := Lib.hid fun hc h60 => HRE.out.trans (lvR_full hlt hc h60)
              have HPU : Hid ((yF M[m] u).length = X.length ∧ yF M[m] u ∉ q → ¬ 60 ≤ q.length → RES = lvR M X.length u (m + 1) k (q ++ [yF M[m] u])) := Lib.hid fun hc h60 => HRE.out.trans (lvR_push hlt hc h60)
              have HRD := Lib.hid hRD
              have HRU := Lib.hid hRU
              have HEX := Lib.hid fun W (h : RdII W (.slice As M[m].2.length cs) M[m].2) (h' : RdI W (.slice A1' u.length cap1') u) => specExpandBy_any _ _ M[m].2 u W h h' (by have := HOKM.out.1; omega) (fun b hb => by have := (HOKM.out.2.2 b hb).1; omega) (by omega)
              have HCF := Lib.hid fun W v (h : RdI W v (expL M[m].2 u)) => specCyclicForm_any v (expL M[m].2 u) W h (by have := HY18.out.1; omega)
              have HYD : Hid (cycF (expL M[m].2 u) = yF M[m] u) := Lib.hid rfl
              rw [HYD.out] at HCF
              have hmI : (m : Int) < (M.length : Int) := by omega
              have hkI : (k : Int) < (q.length : Int) := by omega
              generalize yF M[m] u = y at *
              generalize expL M[m].2 u = E at *
              generalize M[m].2 = B at *
              clear HYD c0 hRD hRU
              have HDd : Hid (Below wr.heap.size wr wr.drew) := Lib.hid (Below.refl _ _).drew
              go_wp2_with fail
              go_region_held3 (fun w' => w'.cell? ⟨gm, m * 2 + 1, none⟩ = some (.slice As B.length cs) ∧ w'.cell? ⟨b, off + k, none⟩ = some (.slice A1' u.length cap1'))
                (first | go_keep | exact ⟨s0, s1⟩)
                (first
                  | (go_at_call 39; (with_reducible refine (HEX.out _ (HRD.out.below HDd.out) (HRU.out.below HDd.out)).mono ?_); rintro e w5 ⟨r5, rfl, o5, b5⟩; have HB5 : Hid (Below wr.heap.size wr w5) := Lib.hid (HDd.out.trans (b5.mono HDd.out.size)); have HR5 := Lib.hid (o5.mono HDd.out.size); have hs5 := HB5.out.size; have s0 := (HB5.out.cell (p := ⟨gm, m * 2 + 1, none⟩) hgm).trans c1'; have s1 := (HB5.out.cell (p := ⟨b, off + k, none⟩) hb).trans hcl; clear o5 b5)
                  | (go_at_call 38; (with_reducible refine (HCF.out _ _ HR5.out.rd).mono ?_); rintro e w6 ⟨r6, rfl, o6, b6⟩; have HB6 : Hid (Below wr.heap.size wr w6) := Lib.hid (HB5.out.trans (b6.mono hs5)); have HR6 := Lib.hid (o6.mono hs5); have hs6 := HB6.out.size; have s0 := (HB6.out.cell (p := ⟨gm, m * 2 + 1, none⟩) hgm).trans c1'; have s1 := (HB6.out.cell (p := ⟨b, off + k, none⟩) hb).trans hcl; clear o6 b6))
              obtain ⟨A6, c6, rfl, _⟩ := HR6.out.form
              have HIN := Lib.hid fun W (h : RdII W (.slice (some ⟨b, off, none⟩) q.length cq) q) (h' : RdI W (.slice A6 y.length c6) y) => l22In_any _ _ q y W h h' (by omega)
              have HX46 := Lib.hid (X4.out.bel HB6.out)
              have HXS : Hid (OwLf EI 27 1 w6 (.slice (some ⟨b, off, none⟩) q.length cq) q G) := Lib.hid (X1.out.stable EI.stable fun b hb => HB6.out.block b (X3.out b hb).2)
              have HX3S : Hid (∀ b ∈ G, (b ∈ F0 ∨ W3.heap.size ≤ b) ∧ b < w6.heap.size) := Lib.hid fun b hb => ⟨(X3.out b hb).1, Nat.lt_of_lt_of_le (X3.out b hb).2 hs6⟩
              clear s0 s1
              rcases e1 : ((y.length : Int) == (X.length : Int)) with _ | _
              · have hne : ¬ y.length = X.length := fun e => by rw [e] at e1; simp at e1
                have HRN : Hid (RES = lvR M X.length u (m + 1) k q) := Lib.hid (HSK.out fun h => hne h.1)
                clear hne hku
                go_wp2
                go_roundw
                case rel => exact ⟨m + 1, q, G, by go_num, by omega, HQU.out, HUK.out, HRN.out, HXS.out, X2.out, HX3S.out, HX46.out⟩
                case measure => (simp [intOf]; omega)
              · have hye : y.length = X.length := Int.ofNat_inj.1 (by simpa using e1)
                have HYE := Lib.hid hye
                clear hye
                rcases e2 : decide (y ∈ q) with _ | _
                · have hnin : y ∉ q := of_decide_eq_false e2
                  have HNI := Lib.hid hnin
                  rw [e2] at HIN
                  clear e2 hnin
                  by_cases h60 : 60 ≤ q.length
                  · have HRN : Hid (RES = none) := Lib.hid (HFU.out ⟨HYE.out, HNI.out⟩ h60)
                    have h60I : (60 : Int) ≤ (q.length : Int) := by omega
                    clear hku
                    go_wp2_with (go_at_call 40; (with_reducible refine (HIN.out _ (ReadII HXS.out X2.out) HR6.out.rd).mono ?_); rintro e w7 ⟨rfl, n7, hw7⟩; have HD7 : Hid (Below w6.heap.size w6 w7) := Lib.hid (by rw [hw7]; exact bel_drewN (Below.refl _ _) n7); have hz7 := HD7.out.size; clear hw7)
                    refine bodyPost_ret (v := .tuple #[.slice (some ⟨w7.heap.size, 0, none⟩) 0 0, .bool false]) (by simp [results, Try.results20, go_sem]) rfl ⟨_, by rw [F.out, HRN.out], ?_, ?_⟩
                    · rw [F.out, HRN.out]
                      have := OwII_lit w7 (lo := w.heap.size) (by omega)
                      exact this.widen (Nat.le_refl _) (by simp)
                    · exact (HBW.out w7 ((X4.out.bel HB6.out).bel HD7.out)).alloc (by omega) _
                  · have HRN : Hid (RES = lvR M X.length u (m + 1) k (q ++ [y])) := Lib.hid (HPU.out ⟨HYE.out, HNI.out⟩ h60)
                    have h60I : ¬ (60 : Int) ≤ (q.length : Int) := by omega
                    have HQP : Hid (Que r X.length (q ++ [y])) := Lib.hid (HQU.out.push HYE.out HYL.out HNI.out h60)
                    have HUP : Hid ((q ++ [y])[k]? = some u) := Lib.hid (by rw [List.getElem?_append_left hkq]; exact HUK.out)
                    have hq60' : q.length ≤ 1073741824 := by omega
                    have HLT : Hid (∀ b ∈ G, b < w6.heap.size) := Lib.hid fun b hb => (HX3S.out b hb).2
                    clear hku
                    go_wp2_with (first
                      | (go_at_call 40; (with_reducible refine (HIN.out _ (ReadII HXS.out X2.out) HR6.out.rd).mono ?_); rintro e w7 ⟨rfl, n7, hw7⟩; have HD7 : Hid (Below w6.heap.size w6 w7) := Lib.hid (by rw [hw7]; exact bel_drewN (Below.refl _ _) n7); have HB7 : Hid (Below wr.heap.size wr w7) := Lib.hid (HB6.out.trans (HD7.out.mono hs6)); have hz7 := HB7.out.size; have HR7 := Lib.hid (HR6.out.below HD7.out); clear hw7)
                      | (at_builtin; refine push_intsF rfl (.tmp 73) (.tmp 75) rfl (w0 := wr) X1.out X2.out (fun b hb => (X3.out b hb).2) (HB7.out.alloc hz7 _) rfl _ _ y rfl (HR7.out.alloc _) (Nat.le_refl _) (cell_new1 _ _ _) rfl hq60' ?_; intro vz wz Gz oz nz fz gz; obtain ⟨Az, mz, cz, rfl⟩ := oz.form; have OZ := Lib.hid oz; have NZ := Lib.hid nz; have FZ := Lib.hid fz; have GZ := Lib.hid gz; clear oz nz fz gz))
                    have hgz := GZ.out.size
                    have hgz2 : wr.heap.size ≤ wz.heap.size := by simp at hgz; omega
                    have HXB := Lib.hid (X4.out.bel (HB7.out.alloc hz7 (.cells #[.slice A6 y.length c6] 27)))
                    go_roundw
                    case rel =>
                      refine ⟨m + 1, q ++ [y], Gz, by go_num, by omega, HQP.out, HUP.out, HRN.out, OZ.out, NZ.out, fun c hc => ⟨?_, (FZ.out c hc).2⟩, ⟨GZ.out.os.trans HXB.out.os, GZ.out.tape.trans HXB.out.tape, GZ.out.output.trans HXB.out.output, Nat.le_trans HXB.out.size hgz, fun c h1 h2 => (GZ.out.block c (Nat.lt_of_lt_of_le h1 HXB.out.size) fun e => ?_).trans (HXB.out.block c h1 h2)⟩⟩
                      · rcases (FZ.out c hc).1 with h | h
                        · exact (X3.out c h).1
                        · exact .inr (by omega)
                      · rcases (X3.out c (X1.out.mem e.symm)).1 with h | h
                        · exact h2 h
                        · omega
                    case measure => (simp [intOf]; omega)
                · have hin : y ∈ q := of_decide_eq_true e2
                  have HRN : Hid (RES = lvR M X.length u (m + 1) k q) := Lib.hid (HSK.out fun h => h.2 hin)
                  rw [e2] at HIN
                  clear e2 hin hku
                  go_wp2_with (go_at_call 40; (with_reducible refine (HIN.out _ (ReadII HXS.out X2.out) HR6.out.rd).mono ?_); rintro e w7 ⟨rfl, n7, hw7⟩; have HD7 : Hid (Below w6.heap.size w6 w7) := Lib.hid (by rw [hw7]; exact bel_drewN (Below.refl _ _) n7); have hz7 := HD7.out.size; clear hw7)
                  go_roundw
                  case rel => exact ⟨m + 1, q, G, by go_num, by omega, HQU.out, HUK.out, HRN.out, HXS.out.stable EI.stable fun b hb => HD7.out.block b (HX3S.out b hb).2, X2.out, fun b hb => ⟨(HX3S.out b hb).1, Nat.lt_of_lt_of_le (HX3S.out b hb).2 hz7⟩, HX46.out.bel HD7.out⟩
                  case measure => (simp [intOf]; omega)
            · obtain rfl : m = M.length := by omega
              have HRF : Hid (RES = lvGo M X.length (60 - (k + 1)) (k + 1) q) := Lib.hid (HRE.out.trans (lvR_end M X.length u k q))
              clear hku
              go_wp2
              go_roundw
              case rel => exact ⟨k + 1, q, G, by go_num, by omega, HQU.out, HRF.out, X1.out, X2.out, X3.out, X4.out⟩
              case measure => (simp [intOf]; omega)
        · obtain rfl : k = q.length := by omega
          have HRS : Hid (RES = some q) := Lib.hid (HRE.out.trans (lvGo_end M X.length _ q))
          obtain ⟨W5, rfl⟩ : ∃ W : World, W = wr := ⟨_, rfl⟩
          have HSM := Lib.hid (HQU.out.small HRB.out)
          have HX0 := Lib.hid (HQU.out.el)
          go_wp2_with fail
          go_loopw [13, 14] (fun out i wi => ∃ (j : Nat) (G2 : List Nat), i = .int .i64 j ∧ j ≤ q.length ∧ OwLf EI 27 1 wi out (srt cK (q.take j)) G2 ∧ G2.Nodup ∧ (∀ b ∈ G2, W5.heap.size ≤ b ∧ b < wi.heap.size) ∧ Below W5.heap.size W5 wi)
            (fun _ i _ => q.length - (intOf i).toNat)
          case atStart =>
            refine ⟨0, [W5.heap.size], rfl, Nat.zero_le _, ⟨[], rfl, (fun e he => by cases he), ?_, by simp [Value.ownBlock]⟩, by simp, fun b hb => ?_, (Below.refl _ _).alloc (Nat.le_refl _) _⟩
            · have := rows_lit W5 [] (by simp) (Nat.zero_le _)
              simpa [srt] using this
            · rw [List.mem_singleton] at hb; subst hb; simp
          case round =>
            obtain ⟨j, G2, rfl, hj, y1, y2, y3, y4⟩ := hrel
            have Y1 := Lib.hid y1
            have Y2 := Lib.hid y2
            have Y3 := Lib.hid y3
            have Y4 := Lib.hid y4
            obtain ⟨Ao, mo, co, rfl⟩ := y1.form
            have hsi := y4.size
            clear y1 y2 y3 y4
            by_cases hltj : j < q.length
            · obtain ⟨b, off, A1', cap1', hAq, hb, hcl, _, _, hRU⟩ := ((ReadII X1.out X2.out).below Y4.out).at hltj
              subst hAq
              have HRU := Lib.hid hRU
              have HSR := Lib.hid (srt_succ (c := cK) q j hltj)
              have HSL := Lib.hid (srt_small (q := q.take j) fun w hw => HSM.out w (List.mem_of_mem_take hw))
              have hsl : (srt cK (q.take j)).length ≤ 1000 := by have := srt_len (c := cK) (q.take j); rw [List.length_take] at this; omega
              have HSU := Lib.hid (HSM.out _ (List.getElem_mem hltj))
              have hul : q[j].length ≤ 1000 := by have := (HX0.out _ (List.getElem_mem hltj)).1; omega
              have hjI : (j : Int) < (q.length : Int) := by omega
              generalize q[j] = u at *
              clear hRU
              have HPT := Lib.hid fun v (h : RdI wr v u) => l22Put_any (.slice Ao mo co) v (srt cK (q.take j)) u G2 wr Y1.out Y2.out (fun b hb => (Y3.out b hb).2) h HSU.out HSL.out hsl hul
              rw [← HSR.out] at HPT
              go_wp2_with (go_at_call 41; (with_reducible refine (HPT.out _ HRU.out).mono ?_); rintro e w9 ⟨r9, G9, rfl, o9, n9, f9, b9⟩; obtain ⟨A9, m9, c9, rfl⟩ := o9.form; have O9 := Lib.hid o9; have N9 := Lib.hid n9; have F9 := Lib.hid f9; have B9 := Lib.hid b9; clear o9 n9 f9 b9)
              have hs9 := B9.out.size
              go_roundw
              case rel =>
                refine ⟨j + 1, G9, by go_num, by omega, O9.out, N9.out, fun c hc => ⟨?_, (F9.out c hc).2⟩, Y4.out.trans (B9.out.mono hsi)⟩
                rcases (F9.out c hc).1 with h | h
                · exact (Y3.out c h).1
                · omega
              case measure => (simp [intOf]; omega)
            · obtain rfl : j = q.length := by omega
              have HFO : Hid (OwLf EI 27 1 wr (.slice Ao mo co) (srt cK q) G2) := Lib.hid (by have h := Y1.out; rw [List.take_length] at h; exact h)
              have HBF : Hid (Below w.heap.size w wr) := Lib.hid ((HBW.out W5 X4.out).trans (Y4.out.mono (by omega)))
              clear Y1
              go_wp2
              refine bodyPost_ret (v := .tuple #[.slice Ao mo co, .bool true]) (by simp [results, Try.results20, go_sem]) rfl ⟨_, by rw [F.out, HRS.out], ?_, HBF.out⟩
              rw [F.out, HRS.out]
              exact OwnL.of_f HFO.out Y2.out fun b hb => ⟨by have := (Y3.out b hb).1; omega, (Y3.out b hb).2⟩
    · have F := Lib.hid (levF_bad (r := r) (w := xs) (by simp [h6]))
      rw [eb] at HIW
      clear eb
      generalize (redF r xs).1 = X at *
      go_enter Try.func20, Try.ntmps20
      go_wp2_with (first
        | (go_at_call 35; (with_reducible refine (HRC.out _ HX.out).mono ?_); rintro e w1 ⟨s1, t1, rfl, o1, o2, b1⟩; have B1 := Lib.hid b1; obtain ⟨A1, c1, rfl, _⟩ := o1.form; obtain ⟨A2, c2, rfl, _⟩ := o2.len; clear o1 o2 b1)
        | (go_at_call 36; (with_reducible refine (HIW.out _ (HX.out.below B1.out).arg).mono ?_); rintro e w2 ⟨rfl, n2, rfl⟩))
      refine bodyPost_ret (v := .tuple #[.slice (some ⟨w1.heap.size, 0, none⟩) 0 0, .bool false]) (by simp [results, Try.results20, go_sem]) rfl ⟨_, by rw [F.out], ?_, ?_⟩
      · rw [F.out]
        have := OwII_lit (w1.drewN n2) (lo := w.heap.size) (by have := B1.out.size; exact this)
        exact this.widen (Nat.le_refl _) (by simp)
      · exact (bel_drewN B1.out n2).alloc (by exact B1.out.size) _
end Go.Proofs.Ytnmkbkpegkchpaa
