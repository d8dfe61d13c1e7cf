/- FnLattices in plain Lean, 2: the columns' phases keep the combinations; what comes out has the form. -/
import Derived.Test.YtjmjhhdjlompfaaLatM
namespace Go.Proofs.Ytjmjhhdjlompfaa
set_option maxRecDepth 20000
set_option linter.unusedVariables false
set_option linter.unusedSimpArgs false
open Go.RowKit

theorem col_mg {n c : Nat} (hc : c < n) {B : Nat} (hB : B ≤ 4000000000000000000) : ∀ f rows, Rect n rows → (∀ i, mg rows c i ≤ B) → ∀ i, mg (colI c f rows).2 c i ≤ B := by
  intro f
  induction f with
  | zero => intro rows _ h; exact h
  | succ f ih =>
    intro rows hr h
    have hb : ∀ i, mg rows c i ≤ 4000000000000000000 := fun i => Nat.le_trans (h i) hB
    rw [colI_succ]
    rcases pick_spec hb rows.length with ⟨h1, _⟩ | ⟨h1, h2, h3, h4⟩
    · rw [if_pos (by omega)]; exact h
    · rw [if_neg (by omega)]
      have hle : ∀ i, mg (rnd rows c (pickF rows c rows.length).toNat) c i ≤ B := fun i => by
        rw [rnd_mg hr hc hb h3]
        split
        · exact h _
        · exact Nat.le_trans (Nat.mod_le _ _) (h i)
      split
      · exact ih _ (rnd_rect hr c _) hle
      · exact hle
theorem fix_eq {c : Nat} {r : List Int} (hb : ∀ t, (cl r t).natAbs ≤ 4000000000000000000) : ∃ sg : Int, (sg = 1 ∨ sg = -1) ∧ ∀ t, cl (fixR c r) t = sg * cl r t := by
  unfold fixR
  split
  · refine ⟨-1, .inr rfl, fun t => ?_⟩
    rw [neg_cl]
    unfold negW
    have := hb t
    rw [IntWalk.wrap64_in _ ⟨by omega, by omega⟩]
    omega
  · exact ⟨1, .inl rfl, fun t => by omega⟩
theorem floor_spec {a b : Int} (hb : 0 < b) (ha : a.natAbs ≤ 1000000000000000000) : 0 ≤ a - floorW a b * b ∧ a - floorW a b * b < b ∧ (floorW a b).natAbs ≤ a.natAbs + 1 := by
  unfold floorW
  rw [quoW_abs (by omega)]
  have h1 := Int.tmod_add_mul_tdiv a b
  have h2 : (Int.tmod a b).natAbs = a.natAbs % b.natAbs := Int.natAbs_tmod a b
  have h3 : a.natAbs % b.natAbs < b.natAbs := Nat.mod_lt _ (by omega)
  have h4 : (Int.tdiv a b).natAbs ≤ a.natAbs := by rw [Int.natAbs_tdiv]; exact Nat.div_le_self _ _
  rw [Int.mul_comm] at h1
  generalize Int.tdiv a b = q at *
  generalize Int.tmod a b = m at *
  split
  · rw [IntWalk.wrap64_in _ ⟨by omega, by omega⟩, Int.sub_mul, Int.one_mul]
    generalize q * b = z at *
    omega
  · generalize q * b = z at *
    omega
theorem red_eqv {rows done : List (List Int)} {j : Nat} (hj : j < rows.length) {f : List Int} {sg : Int} (hs : sg = 1 ∨ sg = -1) (hf : ∀ t, cl f t = sg * cl (rw_ rows j) t) {g : List Int → List Int} {q : List Int → Int}
    (hg : ∀ d ∈ done, ∀ t, cl (g d) t = cl d t - q d * cl f t) : Eqv (rows ++ done) (rows.eraseIdx j ++ (done.map g ++ [f])) := by
  have hff : f ∈ rows.eraseIdx j ++ (done.map g ++ [f]) := by simp
  have hjm : rw_ rows j ∈ rows ++ done := List.mem_append_left _ (in_rw hj)
  have hfs : Sp (rows ++ done) (cl f) := ((Sp.mem hjm).mul sg).cast fun t => (hf t).symm
  constructor
  · intro r hr
    rcases List.mem_append.1 hr with hr | hr
    · obtain ⟨i, hi, rfl⟩ := List.mem_iff_getElem.1 hr
      by_cases e : i = j
      · subst e
        refine ((Sp.mem hff).mul sg).cast fun t => ?_
        rw [hf t, rw_mem hi]
        rcases hs with rfl | rfl <;> omega
      · exact .mem (List.mem_append_left _ (List.mem_eraseIdx_iff_getElem.2 ⟨i, hi, e, rfl⟩))
    · have hm : g r ∈ rows.eraseIdx j ++ (done.map g ++ [f]) := List.mem_append_right _ (List.mem_append_left _ (List.mem_map.2 ⟨r, hr, rfl⟩))
      refine ((Sp.mem hm).add (q r) hff).cast fun t => ?_
      rw [hg r hr t]; omega
  · intro r hr
    rcases List.mem_append.1 hr with hr | hr
    · exact .mem (List.mem_append_left _ ((List.eraseIdx_sublist _ _).subset hr))
    · rcases List.mem_append.1 hr with hr | hr
      · obtain ⟨d, hd, rfl⟩ := List.mem_map.1 hr
        refine ((Sp.mem (List.mem_append_right _ hd)).plus (hfs.mul (-q d))).cast fun t => ?_
        rw [hg d hd t, Int.neg_mul]; omega
      · rw [List.mem_singleton.1 hr]; exact hfs
def wB : Nat → Nat
  | 0 => 6
  | 1 => 216
  | _ => 10077696
def dB : Nat → Nat
  | 0 => 0
  | 1 => 216
  | 2 => 2186860248
  | _ => 22038514970766552
theorem dB_step {c : Nat} (hc : c < 3) : dB c + (dB c + 1) * wB (c + 1) = dB (c + 1) ∧ dB (c + 1) ≤ 1000000000000000000 ∧ dB c ≤ 1000000000000000000 := by
  rcases (show c = 0 ∨ c = 1 ∨ c = 2 by omega) with rfl | rfl | rfl <;> decide
structure LtI (rows0 : List (List Int)) (n c : Nat) (s : List (List Int) × List (List Int)) : Prop where
  eqv : Eqv rows0 (s.1 ++ s.2)
  wb : ∀ t, t < n → ∀ i, mg s.1 t i ≤ wB c
  db : ∀ d ∈ s.2, ∀ t, (cl d t).natAbs ≤ dB c
  pos : ∀ d ∈ s.2, 0 < cl d (pivF d)
  red : s.2.Pairwise fun d e => 0 ≤ cl d (pivF e) ∧ cl d (pivF e) < cl e (pivF e)
theorem mg_all {n : Nat} {rows : List (List Int)} (hr : Rect n rows) {B : Nat} (h : ∀ t, t < n → ∀ i, mg rows t i ≤ B) (i t : Nat) : (cl (rw_ rows i) t).natAbs ≤ B := by
  by_cases hi : i < rows.length
  · by_cases ht : t < n
    · exact h t ht i
    · rw [cl_out (by rw [hr i hi]; omega)]; exact Nat.zero_le _
  · have := mg_out (rows := rows) (c := t) (i := i) (by omega)
    unfold mg at this
    omega
theorem lt_step {n c : Nat} (hn : n ≤ 3) (hc : c < n) {rows0 : List (List Int)} {s : List (List Int) × List (List Int)} (hp : PhI n c s) (h : LtI rows0 n c s) : LtI rows0 n (c + 1) (phF c s) := by
  have hb0 := hp.bd c (Nat.le_refl _) hc
  have hb : ∀ i, mg s.1 c i ≤ 4000000000000000000 := fun i => by have := hb0 i; have := (bA_le c).2; omega
  have he := end200 hc hp.rect hb0
  obtain ⟨q1, q2, q3, q4⟩ := colI_spec hc 200 s.1 hp.rect hb he
  have hz : ∀ t, t < c → ∀ i, mg (colI c 200 s.1).2 t i = 0 := fun t ht => colI_zero (by omega) 200 s.1 hp.rect (hp.zero t ht)
  have hwle : wB c ≤ 10077696 := by unfold wB; split <;> omega
  have hW : ∀ t, t < n → ∀ i, mg (colI c 200 s.1).2 t i ≤ wB (c + 1) := fun t ht i => by
    by_cases hc1 : c ≤ 1
    · have e : wB c * (wB c * wB c) = wB (c + 1) := by rcases (show c = 0 ∨ c = 1 by omega) with rfl | rfl <;> rfl
      have := colI_sq hc ht (f := 200) hp.rect (a := wB c) (M := wB c) (by rcases (show c = 0 ∨ c = 1 by omega) with rfl | rfl <;> decide) (h.wb c hc) (h.wb t ht) (by rw [e]; rcases (show c = 0 ∨ c = 1 by omega) with rfl | rfl <;> decide) (by omega) i
      rwa [e] at this
    · obtain rfl : c = 2 := by omega
      by_cases e : t = 2
      · subst e
        exact col_mg hc (by decide) 200 s.1 hp.rect (h.wb 2 hc) i
      · rw [hz t (by omega) i]; exact Nat.zero_le _
  have hS : Safe n c s.1 := by
    refine ⟨fun i => by have := h.wb c hc i; omega, ?_⟩
    by_cases hc1 : c ≤ 1
    · right
      refine ⟨wB c, wB c, by rcases (show c = 0 ∨ c = 1 by omega) with rfl | rfl <;> decide, by omega, h.wb c hc, h.wb, fun _ => ?_⟩
      refine Nat.le_trans (Nat.mul_le_mul_left _ gX_le) ?_
      rcases (show c = 0 ∨ c = 1 by omega) with rfl | rfl <;> decide
    · left
      intro t ht e
      exact hp.zero t (by omega)
  have hE := col_eqv hc 200 s.1 hp.rect hS
  obtain ⟨d1, d2, d3⟩ := dB_step (c := c) (by omega)
  unfold phF
  generalize colI c 200 s.1 = R at *
  obtain ⟨P, rows⟩ := R
  simp only at *
  have hD : dB c ≤ dB (c + 1) := by omega
  rcases q4 with ⟨e1, e2⟩ | ⟨e1, e2, e3, e4⟩
  · rw [if_pos (by omega)]
    exact ⟨h.eqv.trans (hE.app s.2), hW, fun d hd t => Nat.le_trans (h.db d hd t) hD, h.pos, h.red⟩
  · rw [if_neg (by omega)]
    generalize P.toNat = j at *
    have hjl : j < rows.length := by omega
    have hR := mg_all q2 hW
    have hwl1 : wB (c + 1) ≤ 10077696 := by unfold wB; split <;> omega
    obtain ⟨sg, hsg, hsf⟩ := fix_eq (c := c) (r := rw_ rows j) fun t => by have := hR j t; omega
    have hF : ∀ t, (cl (fixR c (rw_ rows j)) t).natAbs ≤ wB (c + 1) := fun t => by
      rw [hsf t]
      have := hR j t
      rcases hsg with rfl | rfl <;> omega
    have hfz : ∀ t, t < c → cl (fixR c (rw_ rows j)) t = 0 := fun t ht => fix_zero (mg_zero.1 (hz t ht j))
    have hfp := fix_pos (c := c) (r := rw_ rows j) (fun e => e3 (mg_zero.2 e)) (q3 j)
    have hfpiv : pivF (fixR c (rw_ rows j)) = c := piv_eq hfz (by omega)
    have hfl : (fixR c (rw_ rows j)).length = n := by rw [fix_len]; exact q2 j hjl
    generalize fixR c (rw_ rows j) = f at *
    have hred : ∀ d ∈ s.2, ∀ t, cl (redR c f d) t = cl d t - floorW (cl d c) (cl f c) * cl f t := fun d hd t => by
      have h1 := (floor_spec hfp (a := cl d c) (by have := h.db d hd c; omega)).2.2
      have h2 : (floorW (cl d c) (cl f c)).natAbs ≤ dB c + 1 := by have := h.db d hd c; omega
      unfold redR
      refine subR_eq (by rw [hfl, hp.olen d hd]; exact Nat.le_refl _) (fun t => ?_) t
      have h3 := Nat.mul_le_mul h2 (hF t)
      have h4 := h.db d hd t
      omega
    have hdp : ∀ d ∈ s.2, pivF (redR c f d) = pivF d := fun d hd => redR_piv hfz (hp.o64 d hd) (hp.opiv d hd) (by rw [hp.olen d hd]; have := hp.opiv d hd; omega)
    have hsame : ∀ d ∈ s.2, ∀ t, t < c → cl (redR c f d) t = cl d t := fun d hd t ht => redR_cl (hfz t ht) (hp.o64 d hd t)
    refine ⟨h.eqv.trans ((hE.app s.2).trans (red_eqv hjl hsg hsf (q := fun d => floorW (cl d c) (cl f c)) hred)), fun t ht i => ?_, fun d hd t => ?_, fun d hd => ?_, ?_⟩
    · unfold mg
      rw [rw_erase]
      exact hR _ t
    · rcases List.mem_append.1 hd with hd | hd
      · obtain ⟨d0, hd0, rfl⟩ := List.mem_map.1 hd
        rw [hred d0 hd0 t]
        have h1 := (floor_spec hfp (a := cl d0 c) (by have := h.db d0 hd0 c; omega)).2.2
        have h2 : (floorW (cl d0 c) (cl f c)).natAbs ≤ dB c + 1 := by have := h.db d0 hd0 c; omega
        have h3 := Nat.mul_le_mul h2 (hF t)
        have h4 := h.db d0 hd0 t
        have h5 : (floorW (cl d0 c) (cl f c) * cl f t).natAbs = (floorW (cl d0 c) (cl f c)).natAbs * (cl f t).natAbs := Int.natAbs_mul _ _
        rw [← h5] at h3
        generalize floorW (cl d0 c) (cl f c) * cl f t = z at *
        omega
      · rw [List.mem_singleton.1 hd]
        have := hF t
        have h6 : wB (c + 1) ≤ (dB c + 1) * wB (c + 1) := Nat.le_mul_of_pos_left _ (by omega)
        omega
    · rcases List.mem_append.1 hd with hd | hd
      · obtain ⟨d0, hd0, rfl⟩ := List.mem_map.1 hd
        rw [hdp d0 hd0, hsame d0 hd0 _ (hp.opiv d0 hd0)]
        exact h.pos d0 hd0
      · rw [List.mem_singleton.1 hd, hfpiv]; exact hfp
    · refine List.pairwise_append.2 ⟨?_, List.pairwise_singleton _ _, fun d hd e he => ?_⟩
      · rw [List.pairwise_map]
        refine h.red.imp_of_mem fun {a b} ha hb' hab => ?_
        rw [hdp b hb', hsame a ha _ (hp.opiv b hb'), hsame b hb' _ (hp.opiv b hb')]
        exact hab
      · obtain ⟨d0, hd0, rfl⟩ := List.mem_map.1 hd
        rw [List.mem_singleton.1 he, hfpiv, hred d0 hd0 c]
        have h1 := floor_spec hfp (a := cl d0 c) (by have := h.db d0 hd0 c; omega)
        exact ⟨h1.1, h1.2.1⟩
theorem lt_inv {n : Nat} (hn : n ≤ 3) {rows : List (List Int)} (hr : Rect n rows) (hb : ∀ t, t < n → ∀ i, mg rows t i ≤ 6) : ∀ k, k ≤ n → LtI rows n k (hermS rows k) := by
  intro k
  induction k with
  | zero =>
    intro _
    refine ⟨?_, hb, fun d hd => (by cases hd), fun d hd => (by cases hd), List.Pairwise.nil⟩
    show Eqv rows (rows ++ [])
    rw [List.append_nil]
    exact Eqv.refl _
  | succ k ih =>
    intro hk
    rw [hermS_succ]
    exact lt_step hn (by omega) (hermS_inv hn hr (fun t ht i => Nat.le_trans (hb t ht i) (by decide)) k (by omega)) (ih (by omega))
/-- What comes out of small rows: the same combinations, in the form. -/
theorem good_of {n : Int} (hn : inB n 1 3 = true) {rows : List (List Int)} (hl : lenOk n rows = true) (hm : numOk 6 rows = true) (hc : rows.length ≤ 100) :
    (hermF n rows).2 = true ∧ Eqv rows (hermF n rows).1 ∧ isHerm (hermF n rows).1 = true ∧ lenOk n (hermF n rows).1 = true := by
  have hn' := inB_iff.1 hn
  have hm100 : numOk 100 rows = true := by
    unfold numOk at hm ⊢
    rw [List.all_eq_true] at hm ⊢
    intro r hr
    have := hm r hr
    rw [List.all_eq_true] at this ⊢
    intro x hx
    have := inB_iff.1 (this x hx)
    exact inB_iff.2 (by omega)
  have h27 : rows27 n rows = true := by unfold rows27; rw [hn, hl, hm100, decide_eq_true hc]; rfl
  have h2 : (hermF n rows).2 = true := by rw [← rows27_eq]; exact h27
  refine ⟨h2, ?_⟩
  rw [hermF_form h27]
  by_cases hh : (isHerm rows && numOk 1000000000 rows) = true
  · rw [if_pos hh]
    rw [Bool.and_eq_true] at hh
    exact ⟨Eqv.refl _, hh.1, hl⟩
  · rw [if_neg hh]
    have hr := rect_of hn hl
    have hb6 : ∀ t, t < n.toNat → ∀ i, mg rows t i ≤ 6 := fun t ht i => by
      by_cases hi : i < rows.length
      · unfold mg
        rw [rw_mem hi]
        have := num_cl (by decide) hm (List.getElem_mem hi) t
        omega
      · rw [mg_out (by omega)]; omega
    have hI := lt_inv (by omega) hr hb6 n.toNat (Nat.le_refl _)
    have hP := elim_inv hn hl hm100 n.toNat (Nat.le_refl _)
    generalize hermS rows n.toNat = s at *
    refine ⟨hI.eqv.trans ⟨fun r hr' => ?_, fun r hr' => .mem (List.mem_append_right _ hr')⟩, ?_, ?_⟩
    · rcases List.mem_append.1 hr' with hr' | hr'
      · obtain ⟨i, hi, rfl⟩ := rw_in hr'
        refine Sp.zero.cast fun t => ?_
        by_cases ht : t < n.toNat
        · exact (mg_zero.1 (hP.zero t ht i)).symm
        · exact (cl_out (by rw [hP.rect i hi]; omega)).symm
      · exact .mem hr'
    · unfold isHerm
      rw [List.all_eq_true]
      intro i hi
      have hi := List.mem_range.1 hi
      unfold hOk
      have hmem := List.getElem_mem hi
      have e1 := rw_mem hi
      have p1 := hP.opiv _ hmem
      have l1 := hP.olen _ hmem
      have p2 := hI.pos _ hmem
      rw [← e1] at p1 l1 p2
      rw [decide_eq_true (by omega), decide_eq_true p2, Bool.true_and, Bool.true_and, Bool.and_eq_true]
      constructor
      · rw [Bool.or_eq_true, decide_eq_true_eq, decide_eq_true_eq]
        by_cases e : i = 0
        · exact .inl e
        · right
          have := List.pairwise_iff_getElem.1 hP.ech (i - 1) i (by omega) hi (by omega)
          rw [e1, rw_mem (show i - 1 < s.2.length by omega)]
          exact this
      · rw [List.all_eq_true]
        intro k hk
        have hk := List.mem_range.1 hk
        have := List.pairwise_iff_getElem.1 hI.red k i (by omega) hi hk
        rw [e1, rw_mem (show k < s.2.length by omega)]
        exact inB_iff.2 ⟨this.1, by omega⟩
    · unfold lenOk
      rw [List.all_eq_true]
      intro d hd
      have := hP.olen d hd
      rw [decide_eq_true_eq]
      omega
end Go.Proofs.Ytjmjhhdjlompfaa
