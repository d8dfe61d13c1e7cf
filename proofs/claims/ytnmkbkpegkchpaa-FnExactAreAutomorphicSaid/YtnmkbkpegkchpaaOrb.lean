/- OrbitForm and AreAutomorphic of the reference and of the program. -/
import Derived.Test.YtnmkbkpegkchpaaLevI
namespace Go.Proofs.Ytnmkbkpegkchpaa
set_option maxRecDepth 20000
set_option linter.unusedVariables false
set_option linter.unusedSimpArgs false
open Go.RowKit

def orbF (r : Int) (w : List Int) : List Int × Bool := if (levF r w).2 then ((levF r w).1.headD [], true) else ([], false)
def autF (r : Int) (u v : List Int) : Bool × Bool := if (orbF r u).2 = true ∧ (orbF r v).2 = true then (decide ((orbF r u).1 = (orbF r v).1), true) else (false, false)
theorem lvK_grow (n : Nat) (u : List Int) : ∀ (M : List MoD) (q q' : List (List Int)), lvK n u M q = some q' → q.length ≤ q'.length ∧ ∀ w ∈ q', w ∈ q ∨ w.length = n
  | [], q, q', h => by simp [lvK] at h; subst h; exact ⟨Nat.le_refl _, fun w hw => .inl hw⟩
  | m :: M, q, q', h => by
    rw [lvK] at h
    split at h
    · rename_i hc
      split at h
      · cases h
      · obtain ⟨h1, h2⟩ := lvK_grow n u M _ q' h
        rw [List.length_append] at h1
        refine ⟨by omega, fun w hw => ?_⟩
        rcases h2 w hw with h3 | h3
        · rcases List.mem_append.1 h3 with h4 | h4
          · exact .inl h4
          · rw [List.mem_singleton] at h4; subst h4; exact .inr hc.1
        · exact .inr h3
    · exact lvK_grow n u M q q' h
theorem lvGo_grow (M : List MoD) (n : Nat) : ∀ (f i : Nat) (q q' : List (List Int)), lvGo M n f i q = some q' → q.length ≤ q'.length ∧ ∀ w ∈ q', w ∈ q ∨ w.length = n
  | 0, _, q, q', h => by simp [lvGo] at h; subst h; exact ⟨Nat.le_refl _, fun w hw => .inl hw⟩
  | f + 1, i, q, q', h => by
    by_cases hi : i < q.length
    · rw [lvGo_step M n f i q hi] at h
      split at h
      · cases h
      · rename_i q2 h2
        obtain ⟨a1, a2⟩ := lvK_grow n _ M q q2 h2
        obtain ⟨b1, b2⟩ := lvGo_grow M n f (i + 1) q2 q' h
        refine ⟨by omega, fun w hw => ?_⟩
        rcases b2 w hw with h3 | h3
        · exact a2 w h3
        · exact .inr h3
    · rw [lvGo, dif_neg hi] at h
      injection h with h
      subst h
      exact ⟨Nat.le_refl _, fun w hw => .inl hw⟩
theorem levF_some {r : Int} {w : List Int} (h : (levF r w).2 = true) : 0 < (levF r w).1.length ∧ ∀ u ∈ (levF r w).1, u.length ≤ 6 := by
  unfold levF at h ⊢
  split
  · rename_i hc
    rw [if_pos hc] at h
    split at h
    · cases h
    · rename_i q hq
      obtain ⟨h1, h2⟩ := lvGo_grow _ _ _ _ _ _ hq
      have hm := (srt_spec cK_ord q).2
      refine ⟨?_, fun u hu => ?_⟩
      · rcases Nat.eq_zero_or_pos (srt cK q).length with e | e
        · have e0 := List.eq_nil_of_length_eq_zero e
          match q, h1 with
          | x :: l, _ =>
            have := (hm x).2 (by simp)
            rw [e0] at this
            cases this
        · exact e
      · rcases h2 u ((hm u).1 hu) with h3 | h3
        · rw [List.mem_singleton] at h3; subst h3; exact hc.2
        · have := hc.2; omega
  · rename_i hc
    rw [if_neg hc] at h
    cases h
theorem levF_len (r : Int) (w : List Int) : ∀ u ∈ (levF r w).1, u.length ≤ 6 := by
  rcases e : (levF r w).2 with _ | _
  · intro u hu
    unfold levF at e hu
    split at hu
    · rename_i hc
      rw [if_pos hc] at e
      split at hu
      · cases hu
      · rename_i q hq
        rw [hq] at e
        cases e
    · cases hu
  · exact (levF_some e).2
theorem lvK_cap (n : Nat) (u : List Int) : ∀ (M : List MoD) (q q' : List (List Int)), q.length ≤ 60 → lvK n u M q = some q' → q'.length ≤ 60
  | [], q, q', hq, h => by simp [lvK] at h; subst h; exact hq
  | m :: M, q, q', hq, h => by
    rw [lvK] at h
    split at h
    · split at h
      · cases h
      · exact lvK_cap n u M _ q' (by rw [List.length_append, List.length_singleton]; omega) h
    · exact lvK_cap n u M q q' hq h
theorem lvGo_cap (M : List MoD) (n : Nat) : ∀ (f i : Nat) (q q' : List (List Int)), q.length ≤ 60 → lvGo M n f i q = some q' → q'.length ≤ 60
  | 0, _, q, q', hq, h => by simp [lvGo] at h; subst h; exact hq
  | f + 1, i, q, q', hq, h => by
    by_cases hi : i < q.length
    · rw [lvGo_step M n f i q hi] at h
      split at h
      · cases h
      · rename_i q2 h2
        exact lvGo_cap M n f (i + 1) q2 q' (lvK_cap n _ M q q2 hq h2) h
    · rw [lvGo, dif_neg hi] at h
      injection h with h
      subst h
      exact hq
theorem levF_cnt (r : Int) (w : List Int) : (levF r w).1.length ≤ 60 := by
  unfold levF
  split
  · split
    · simp
    · rename_i q hq
      have h1 := lvGo_cap _ _ _ _ _ _ (by simp) hq
      have h2 := srt_len (c := cK) q
      simp only
      omega
  · simp
theorem lev_cnt (r : Int) (w : List Int) : cntL cI (levF r w).1 ≤ 1073741824 := by
  have h1 := cnt_small (n := 6) (levF_len r w)
  have h2 := Nat.mul_le_mul_right 6 (levF_cnt r w)
  omega
theorem orbF_len (r : Int) (w : List Int) : (orbF r w).1.length ≤ 6 := by
  unfold orbF
  split
  · rename_i h
    obtain ⟨h1, h2⟩ := levF_some h
    match hl : (levF r w).1, h1 with
    | x :: l, _ => exact h2 x (by rw [hl]; simp)
  · simp
set_option maxHeartbeats 1000000 in
theorem specOrbitForm_any (r : Int) (v : Value) (xs : List Int) (w : World) (hr : I64 r) (h : RdI w v xs) (hl : xs.length ≤ 1048576) :
    Calls Try.prog 12 #[.int .i64 r, v] w fun e w' => ∃ s, e = .returned (.tuple #[s, .bool (orbF r xs).2]) ∧ OwI w' w.heap.size s (orbF r xs).1 ∧ Below w.heap.size w w' := by
  have HLV := Lib.hid (specLevelOf_any r v xs w hr h hl)
  obtain ⟨A, cap, rfl, _⟩ := h.arg
  rcases e : (levF r xs).2 with _ | _
  · have F : Hid (orbF r xs = ([], false)) := Lib.hid (by unfold orbF; rw [e]; rfl)
    rw [e] at HLV
    clear h e hr
    go_enter Try.func12, Try.ntmps12
    go_wp2_with (go_at_call 20; (with_reducible refine HLV.out.mono ?_); rintro e w1 ⟨s1, rfl, o1, b1⟩; have B1 := Lib.hid b1; obtain ⟨A1, m1, c1, rfl⟩ := o1.any; clear o1 b1)
    have hs := B1.out.size
    refine bodyPost_ret (v := .tuple #[.slice (some ⟨w1.heap.size, 0, none⟩) 0 0, .bool false]) (by simp [results, Try.results12, go_sem]) rfl ⟨_, by rw [F.out], ?_, B1.out.alloc hs _⟩
    rw [F.out]
    exact OwI_lit w1 [] I64s_nil (by simp) hs
  · have h0 := (levF_some e).1
    have h6 := (levF_some e).2
    have F : Hid (orbF r xs = ((levF r xs).1[0], true)) := Lib.hid (by
      unfold orbF; rw [e, if_pos rfl]
      match hl : (levF r xs).1, h0 with
      | x :: l, _ => simp [hl])
    rw [e] at HLV
    have HU6 := h6 _ (List.getElem_mem h0)
    generalize (levF r xs).1 = L at *
    clear h e hr h6
    go_enter Try.func12, Try.ntmps12
    go_wp2_with (first
      | (go_at_call 20; (with_reducible refine HLV.out.mono ?_); rintro e w1 ⟨s1, rfl, o1, b1⟩; have B1 := Lib.hid b1; obtain ⟨A1, c1, rfl, _⟩ := o1.len; obtain ⟨b, off, A2, c2, rfl, hb, hc, _, _, hr⟩ := o1.rd.at h0; have hcl : w1.cell? ⟨b, off, none⟩ = some (.slice A2 L[0].length c2) := hc; have HRR := Lib.hid hr; have hcl2 : (w1.alloc (Obj.cells #[] 3)).cell? ⟨b, off, none⟩ = some (.slice A2 L[0].length c2) := (World.cell?_alloc_past _ _ _ hb).trans hcl; have h0I : (0 : Int) < (L.length : Int) := (by omega); clear o1 b1 hr hc; generalize L[0] = x at *)
      | (at_builtin; refine append_ints rfl (.tmp 17) (.tmp 20) rfl w1.heap.size _ [] (OwI_lit w1 [] I64s_nil (by simp) (Nat.le_refl _)) rfl _ x (HRR.out.alloc _) rfl (by simp; omega) (by simp) ?_; intro v2 w2 o2 g2 p2; have O2 : Hid (OwI w2 w1.heap.size v2 x) := Lib.hid (by simpa using o2); have B2 : Hid (Below w1.heap.size w1 w2) := Lib.hid (((Below.refl _ _).alloc (Nat.le_refl _) _).grown g2 (by simp) (fun k hk => by simp [Value.ownBlock] at hk; omega)); obtain ⟨A3, m3, c3, rfl⟩ := o2.any; clear o2 g2 p2))
    have hs := B1.out.size
    refine bodyPost_ret (v := .tuple #[.slice A3 m3 c3, .bool true]) (by simp [results, Try.results12, go_sem]) rfl ⟨_, by rw [F.out], ?_, B1.out.trans (B2.out.mono hs)⟩
    rw [F.out]
    exact O2.out.mono hs
set_option maxHeartbeats 1000000 in
theorem implOrbitForm_any (r : Int) (v : Value) (xs : List Int) (w : World) (hr : I64 r) (h : RdI w v xs) (hl : xs.length ≤ 1048576) :
    Calls Try.prog 14 #[.int .i64 r, v] w fun e w' => ∃ s, e = .returned (.tuple #[s, .bool (orbF r xs).2]) ∧ OwI w' w.heap.size s (orbF r xs).1 ∧ Below w.heap.size w w' := by
  have HLV := Lib.hid (implLevelOf_any r v xs w hr h hl)
  obtain ⟨A, cap, rfl, _⟩ := h.arg
  rcases e : (levF r xs).2 with _ | _
  · have F : Hid (orbF r xs = ([], false)) := Lib.hid (by unfold orbF; rw [e]; rfl)
    rw [e] at HLV
    clear h e hr
    go_enter Try.func14, Try.ntmps14
    go_wp2_with (go_at_call 21; (with_reducible refine HLV.out.mono ?_); rintro e w1 ⟨s1, rfl, o1, b1⟩; have B1 := Lib.hid b1; obtain ⟨A1, m1, c1, rfl⟩ := o1.any; clear o1 b1)
    have hs := B1.out.size
    refine bodyPost_ret (v := .tuple #[.slice (some ⟨w1.heap.size, 0, none⟩) 0 0, .bool false]) (by simp [results, Try.results14, go_sem]) rfl ⟨_, by rw [F.out], ?_, B1.out.alloc hs _⟩
    rw [F.out]
    exact OwI_lit w1 [] I64s_nil (by simp) hs
  · have h0 := (levF_some e).1
    have F : Hid (orbF r xs = ((levF r xs).1[0], true)) := Lib.hid (by
      unfold orbF; rw [e, if_pos rfl]
      match hl : (levF r xs).1, h0 with
      | x :: l, _ => simp [hl])
    rw [e] at HLV
    generalize (levF r xs).1 = L at *
    clear h e hr
    go_enter Try.func14, Try.ntmps14
    go_wp2_with (go_at_call 21; (with_reducible refine HLV.out.mono ?_); rintro e w1 ⟨s1, rfl, o1, b1⟩; have B1 := Lib.hid b1; obtain ⟨A1, c1, rfl, _⟩ := o1.len; obtain ⟨g, cs, Fe, rfl, _, _, hE, _, hFe, _, hc, _, hgs, _⟩ := o1.focus EI.stable h0; obtain ⟨s, rfl, ho, rfl⟩ := hE; have hcl : w1.cell? ⟨g, 0, none⟩ = some s := (by have := hc 0 (by simp); simpa using this); have HO : Hid (OwI w1 w.heap.size s L[0]) := Lib.hid (ho.alone fun b hb => (hFe b (by rw [hb]; simp)).1); obtain ⟨A2, m2, c2, rfl⟩ := ho.any; have h0I : (0 : Int) < (L.length : Int) := (by omega); clear o1 b1 hc hFe ho; generalize L[0] = x at *)
    refine bodyPost_ret (v := .tuple #[.slice A2 m2 c2, .bool true]) (by simp [results, Try.results14, go_sem]) rfl ⟨_, by rw [F.out], ?_, B1.out⟩
    rw [F.out]
    exact HO.out
set_option maxHeartbeats 1000000 in
theorem specAreAutomorphic_any (r : Int) (u v : Value) (xs ys : List Int) (w : World) (hr : I64 r) (h : RdI w u xs) (h' : RdI w v ys) (hl : xs.length ≤ 1048576) (hl' : ys.length ≤ 1048576) :
    Calls Try.prog 18 #[.int .i64 r, u, v] w fun e w' => e = .returned (.tuple #[.bool (autF r xs ys).1, .bool (autF r xs ys).2]) ∧ Below w.heap.size w w' := by
  have H1 := Lib.hid (specOrbitForm_any r u xs w hr h hl)
  have H2 := Lib.hid fun W (h : RdI W v ys) => specOrbitForm_any r v ys W hr h hl'
  have HV := Lib.hid h'
  have hlx := orbF_len r xs
  have hly := orbF_len r ys
  have HAU : Hid (autF r xs ys = if (orbF r xs).2 = true ∧ (orbF r ys).2 = true then (decide ((orbF r xs).1 = (orbF r ys).1), true) else (false, false)) := Lib.hid rfl
  generalize orbF r xs = P1 at *
  generalize orbF r ys = P2 at *
  obtain ⟨x, p1⟩ := P1
  obtain ⟨y, p2⟩ := P2
  simp only at *
  clear h h' hr
  rcases p1 with _ | _
  · have F : Hid (autF r xs ys = (false, false)) := Lib.hid (by rw [HAU.out]; simp)
    clear HAU
    go_enter Try.func18, Try.ntmps18
    go_wp2_with (first
      | (go_at_call 12; (with_reducible refine H1.out.mono ?_); rintro e w1 ⟨s1, rfl, o1, b1⟩; have B1 := Lib.hid b1; obtain ⟨A1, c1, rfl, _⟩ := o1.form; have O1 := Lib.hid o1; clear o1 b1)
      | (go_at_call 12; (with_reducible refine (H2.out _ (HV.out.below B1.out)).mono ?_); rintro e w2 ⟨s2, rfl, o2, b2⟩; have B2 := Lib.hid b2; obtain ⟨A2, c2, rfl, _⟩ := o2.form; have O2 := Lib.hid o2; clear o2 b2))
    have hs := B1.out.size
    exact bodyPost_ret (v := .tuple #[.bool false, .bool false]) (by simp [results, Try.results18, go_sem]) rfl ⟨by rw [F.out], B1.out.trans (B2.out.mono hs)⟩
  · rcases p2 with _ | _
    · have F : Hid (autF r xs ys = (false, false)) := Lib.hid (by rw [HAU.out]; simp)
      clear HAU
      go_enter Try.func18, Try.ntmps18
      go_wp2_with (first
        | (go_at_call 12; (with_reducible refine H1.out.mono ?_); rintro e w1 ⟨s1, rfl, o1, b1⟩; have B1 := Lib.hid b1; obtain ⟨A1, c1, rfl, _⟩ := o1.form; have O1 := Lib.hid o1; clear o1 b1)
        | (go_at_call 12; (with_reducible refine (H2.out _ (HV.out.below B1.out)).mono ?_); rintro e w2 ⟨s2, rfl, o2, b2⟩; have B2 := Lib.hid b2; obtain ⟨A2, c2, rfl, _⟩ := o2.form; have O2 := Lib.hid o2; clear o2 b2))
      have hs := B1.out.size
      exact bodyPost_ret (v := .tuple #[.bool false, .bool false]) (by simp [results, Try.results18, go_sem]) rfl ⟨by rw [F.out], B1.out.trans (B2.out.mono hs)⟩
    · have F : Hid (autF r xs ys = (decide (x = y), true)) := Lib.hid (by rw [HAU.out]; simp)
      clear HAU
      go_enter Try.func18, Try.ntmps18
      go_wp2_with (first
        | (go_at_call 12; (with_reducible refine H1.out.mono ?_); rintro e w1 ⟨s1, rfl, o1, b1⟩; have B1 := Lib.hid b1; obtain ⟨A1, c1, rfl, _⟩ := o1.form; have O1 := Lib.hid o1; clear o1 b1)
        | (go_at_call 12; (with_reducible refine (H2.out _ (HV.out.below B1.out)).mono ?_); rintro e w2 ⟨s2, rfl, o2, b2⟩; have B2 := Lib.hid b2; obtain ⟨A2, c2, rfl, _⟩ := o2.form; have O2 := Lib.hid o2; clear o2 b2)
        | (go_at_call 33; (with_reducible refine (specEqualWords_any _ _ x y _ (O1.out.below B2.out).arg O2.out.arg).mono ?_); rintro e w3 ⟨rfl, n3, rfl⟩))
      have hs := B1.out.size
      exact bodyPost_ret (v := .tuple #[.bool (decide (x = y)), .bool true]) (by simp [results, Try.results18, go_sem]) rfl ⟨by rw [F.out], bel_drewN (B1.out.trans (B2.out.mono hs)) n3⟩
set_option maxHeartbeats 1000000 in
theorem implAreAutomorphic_any (r : Int) (u v : Value) (xs ys : List Int) (w : World) (hr : I64 r) (h : RdI w u xs) (h' : RdI w v ys) (hl : xs.length ≤ 1048576) (hl' : ys.length ≤ 1048576) :
    Calls Try.prog 19 #[.int .i64 r, u, v] w fun e w' => e = .returned (.tuple #[.bool (autF r xs ys).1, .bool (autF r xs ys).2]) ∧ Below w.heap.size w w' := by
  have H1 := Lib.hid (implOrbitForm_any r u xs w hr h hl)
  have H2 := Lib.hid fun W (h : RdI W v ys) => implOrbitForm_any r v ys W hr h hl'
  have HV := Lib.hid h'
  have hlx := orbF_len r xs
  have hly := orbF_len r ys
  have HAU : Hid (autF r xs ys = if (orbF r xs).2 = true ∧ (orbF r ys).2 = true then (decide ((orbF r xs).1 = (orbF r ys).1), true) else (false, false)) := Lib.hid rfl
  generalize orbF r xs = P1 at *
  generalize orbF r ys = P2 at *
  obtain ⟨x, p1⟩ := P1
  obtain ⟨y, p2⟩ := P2
  simp only at *
  clear h h' hr
  rcases p1 with _ | _
  · have F : Hid (autF r xs ys = (false, false)) := Lib.hid (by rw [HAU.out]; simp)
    clear HAU
    go_enter Try.func19, Try.ntmps19
    go_wp2_with (first
      | (go_at_call 14; (with_reducible refine H1.out.mono ?_); rintro e w1 ⟨s1, rfl, o1, b1⟩; have B1 := Lib.hid b1; obtain ⟨A1, c1, rfl, _⟩ := o1.form; have O1 := Lib.hid o1; clear o1 b1)
      | (go_at_call 14; (with_reducible refine (H2.out _ (HV.out.below B1.out)).mono ?_); rintro e w2 ⟨s2, rfl, o2, b2⟩; have B2 := Lib.hid b2; obtain ⟨A2, c2, rfl, _⟩ := o2.form; have O2 := Lib.hid o2; clear o2 b2))
    have hs := B1.out.size
    exact bodyPost_ret (v := .tuple #[.bool false, .bool false]) (by simp [results, Try.results19, go_sem]) rfl ⟨by rw [F.out], B1.out.trans (B2.out.mono hs)⟩
  · rcases p2 with _ | _
    · have F : Hid (autF r xs ys = (false, false)) := Lib.hid (by rw [HAU.out]; simp)
      clear HAU
      go_enter Try.func19, Try.ntmps19
      go_wp2_with (first
        | (go_at_call 14; (with_reducible refine H1.out.mono ?_); rintro e w1 ⟨s1, rfl, o1, b1⟩; have B1 := Lib.hid b1; obtain ⟨A1, c1, rfl, _⟩ := o1.form; have O1 := Lib.hid o1; clear o1 b1)
        | (go_at_call 14; (with_reducible refine (H2.out _ (HV.out.below B1.out)).mono ?_); rintro e w2 ⟨s2, rfl, o2, b2⟩; have B2 := Lib.hid b2; obtain ⟨A2, c2, rfl, _⟩ := o2.form; have O2 := Lib.hid o2; clear o2 b2))
      have hs := B1.out.size
      exact bodyPost_ret (v := .tuple #[.bool false, .bool false]) (by simp [results, Try.results19, go_sem]) rfl ⟨by rw [F.out], B1.out.trans (B2.out.mono hs)⟩
    · have F : Hid (autF r xs ys = (decide (x = y), true)) := Lib.hid (by rw [HAU.out]; simp)
      clear HAU
      go_enter Try.func19, Try.ntmps19
      go_wp2_with (first
        | (go_at_call 14; (with_reducible refine H1.out.mono ?_); rintro e w1 ⟨s1, rfl, o1, b1⟩; have B1 := Lib.hid b1; obtain ⟨A1, c1, rfl, _⟩ := o1.form; have O1 := Lib.hid o1; clear o1 b1)
        | (go_at_call 14; (with_reducible refine (H2.out _ (HV.out.below B1.out)).mono ?_); rintro e w2 ⟨s2, rfl, o2, b2⟩; have B2 := Lib.hid b2; obtain ⟨A2, c2, rfl, _⟩ := o2.form; have O2 := Lib.hid o2; clear o2 b2)
        | (go_at_call 34; (with_reducible refine (implEqualWords_any _ _ x y _ (O1.out.below B2.out).arg O2.out.arg).mono ?_); rintro e w3 ⟨rfl, n3, rfl⟩))
      have hs := B1.out.size
      exact bodyPost_ret (v := .tuple #[.bool (decide (x = y)), .bool true]) (by simp [results, Try.results19, go_sem]) rfl ⟨by rw [F.out], bel_drewN (B1.out.trans (B2.out.mono hs)) n3⟩
end Go.Proofs.Ytnmkbkpegkchpaa
