/- FnEquations in plain Lean: an equation in which the unknown stands once has one solution; the words up to a length are all there, each once; a text that was written is read again. -/
import Derived.Test.YtgoghkboklehnaaDrawW
import Derived.Test.YtgoghkboklehnaaSolU
namespace Go.Proofs.Ytgoghkboklehnaa
set_option maxRecDepth 20000
set_option linter.unusedVariables false
set_option linter.unusedSimpArgs false
open Go.RowKit

theorem lettersL_in {n : Nat} {x : Int} (h : (1 ≤ x ∧ x ≤ n) ∨ (1 ≤ -x ∧ -x ≤ n)) : x ∈ lettersL n := by
  induction n with
  | zero => omega
  | succ n ih =>
    simp only [lettersL, List.mem_append, List.mem_cons, List.not_mem_nil, or_false]
    by_cases e : (1 ≤ x ∧ x ≤ n) ∨ (1 ≤ -x ∧ -x ≤ n)
    · exact .inl (ih e)
    · right; omega
theorem lettersL_nd {n : Nat} : (lettersL n).Nodup := by
  induction n with
  | zero => exact List.nodup_nil
  | succ n ih =>
    unfold lettersL
    rw [List.nodup_append]
    refine ⟨ih, ?_, fun a ha b hb => ?_⟩
    · rw [List.nodup_cons, List.mem_singleton]
      exact ⟨by omega, by simp⟩
    · have := lettersL_mem ha
      simp only [List.mem_cons, List.not_mem_nil, or_false] at hb
      omega
theorem layW_nd {ls : List Int} (h : ls.Nodup) : ∀ n, (layW ls n).Nodup
  | 0 => by simp [layW]
  | n + 1 => by
    unfold layW
    unfold List.Nodup
    rw [List.pairwise_flatMap]
    refine ⟨fun w _ => ?_, (layW_nd h n).imp fun {a b} hab x hx y hy e => ?_⟩
    · unfold nxtW
      rw [List.pairwise_map]
      exact ((List.Pairwise.filter _ h)).imp fun {a b} hab e => hab (by simpa using e)
    · unfold nxtW at hx hy
      obtain ⟨_, _, rfl⟩ := List.mem_map.1 hx
      obtain ⟨_, _, rfl⟩ := List.mem_map.1 hy
      exact hab (List.append_inj_left' e rfl)
theorem uptW_nd {ls : List Int} (h : ls.Nodup) : ∀ n, (uptW ls n).Nodup
  | 0 => by simp [uptW]
  | n + 1 => by
    unfold uptW
    rw [List.nodup_append]
    refine ⟨uptW_nd h n, layW_nd h (n + 1), fun a ha b hb e => ?_⟩
    obtain ⟨m, hm, ha⟩ := uptW_mem ls n a ha
    have h1 := (layW_mem ls m a ha).1
    have h2 := (layW_mem ls (n + 1) b hb).1
    rw [e] at h1
    omega
theorem layW_in {r : Nat} (hr : r ≤ 3) : ∀ (n : Nat) (w : List Int), w.length = n → letR r w → redP w → w ∈ layW (lettersL r) n
  | 0, w, hn, _, _ => by rw [List.eq_nil_of_length_eq_zero hn]; simp [layW]
  | n + 1, w, hn, hl, hp => by
    rcases snoc_cases w with rfl | ⟨p, x, rfl⟩
    · simp at hn
    · have hpn : p.length = n := by simpa using hn
      have hpl : letR r p := fun y hy => hl y (by simp [hy])
      have hx := hl x (by simp)
      have hpp : redP p := by
        have := redP_take hp p.length
        rwa [List.take_left' rfl] at this
      have hm := layW_in hr n p hpn hpl hpp
      unfold layW
      rw [List.mem_flatMap]
      refine ⟨p, hm, ?_⟩
      unfold nxtW
      rw [List.mem_map]
      refine ⟨x, List.mem_filter.2 ⟨lettersL_in (by omega), ?_⟩, rfl⟩
      unfold okW
      rw [Bool.or_eq_true, decide_eq_true_eq, decide_eq_true_eq]
      rcases snoc_cases p with rfl | ⟨q, l, rfl⟩
      · exact .inl rfl
      · right
        have h1 := hp q.length (by simp)
        have e1 : (q ++ [l] ++ [x]).getD q.length 0 = l := by simp [List.getD]
        have e2 : (q ++ [l] ++ [x]).getD (q.length + 1) 0 = x := by simp [List.getD]
        have e3 : (q ++ [l]).getD ((q ++ [l]).length - 1) 0 = l := by simp [List.getD]
        have hlg := hpl l (by simp)
        rw [e1, e2, invB_g (by omega)] at h1
        rw [e3]
        exact of_decide_eq_false h1
theorem layW_up {ls : List Int} {m : Nat} {w : List Int} (hw : w ∈ layW ls m) : ∀ n, m ≤ n → w ∈ uptW ls n
  | 0, h => by
    obtain rfl : m = 0 := by omega
    simpa [layW, uptW] using hw
  | n + 1, h => by
    unfold uptW
    rw [List.mem_append]
    rcases Nat.lt_or_ge n m with h' | h'
    · obtain rfl : m = n + 1 := by omega
      exact .inr hw
    · exact .inl (layW_up hw n h')
theorem uptW_in {r n : Nat} (hr : r ≤ 3) {w : List Int} (hl : w.length ≤ n) (h1 : letR r w) (h2 : redP w) : w ∈ uptW (lettersL r) n :=
  layW_up (layW_in hr w.length w rfl h1 h2) n hl
theorem uptW_g {r n : Nat} (h1 : 1 ≤ r) (hr : r ≤ 3) {w : List Int} (hw : w ∈ uptW (lettersL r) n) : gL w ∧ redP w := by
  obtain ⟨m, _, hw⟩ := uptW_mem _ n w hw
  refine ⟨fun x hx => ?_, fun i hi => ?_⟩
  · have := lettersL_mem ((layW_mem _ m w hw).2 x hx)
    omega
  · have := layW_ok h1 hr m w hw (i + 1) hi
    unfold okAt at this
    simp only [Bool.and_eq_true, Bool.not_eq_true', Nat.add_sub_cancel, Bool.and_eq_false_iff] at this
    rcases this.2 with h | h
    · simp at h
    · exact h

/-! ## The one solution -/
theorem scanU_spec : ∀ (e : List Int) (k : Nat) (a0 a : Int), scanU e k a0 = some a → (a = a0 ∧ ∀ x ∈ e, isU x = false) ∨ (a0 < 0 ∧ ∃ p u q, e = p ++ u :: q ∧ a = ((k + p.length : Nat) : Int) ∧ isU u = true ∧ (∀ x ∈ p, isU x = false) ∧ ∀ x ∈ q, isU x = false)
  | [], k, a0, a, h => by
    left
    exact ⟨by simpa [scanU] using h.symm, fun x hx => by cases hx⟩
  | x :: xs, k, a0, a, h => by
    unfold scanU at h
    rcases hu : isU x with _ | _
    · rw [hu] at h
      simp only [Bool.false_eq_true, if_false] at h
      rcases scanU_spec xs (k + 1) a0 a h with ⟨h1, h2⟩ | ⟨h0, p, u, q, h1, h2, h3, h4, h5⟩
      · exact .inl ⟨h1, fun y hy => by
          rcases List.mem_cons.1 hy with rfl | hy
          · exact hu
          · exact h2 y hy⟩
      · refine .inr ⟨h0, x :: p, u, q, by rw [h1]; rfl, by rw [h2]; simp; omega, h3, fun y hy => ?_, h5⟩
        rcases List.mem_cons.1 hy with rfl | hy
        · exact hu
        · exact h4 y hy
    · rw [hu] at h
      simp only [if_true] at h
      by_cases h0 : 0 ≤ a0
      · rw [if_pos h0] at h; cases h
      · rw [if_neg h0] at h
        rcases scanU_spec xs (k + 1) k a h with ⟨h1, h2⟩ | ⟨h0', _⟩
        · exact .inr ⟨by omega, [], x, xs, rfl, by simpa using h1, hu, (fun y hy => by cases hy), h2⟩
        · omega
theorem sub_plain {x p : List Int} (h : ∀ y ∈ p, isU y = false) : (p.map (sub1 x)).flatten = p := by
  induction p with
  | nil => rfl
  | cons y p ih =>
    have hy := h y (by simp)
    unfold isU at hy
    simp at hy
    rw [List.map_cons, List.flatten_cons, ih fun z hz => h z (by simp [hz])]
    unfold sub1
    rw [if_neg hy.1, if_neg hy.2]
    rfl
theorem subst_one {p q x : List Int} {u : Int} (hl : (p ++ u :: q).length ≤ 12) (hp : ∀ y ∈ p, isU y = false) (hq : ∀ y ∈ q, isU y = false) : substF (p ++ u :: q) x = redL [] (p ++ sub1 x u ++ q) := by
  unfold substF redLL subL
  rw [List.take_of_length_le (by omega), List.map_append, List.map_cons, List.flatten_append, List.flatten_cons, sub_plain hp, sub_plain hq, List.append_assoc]
theorem eqB_g {r : Int} {e p : List Int} (h : eqB r e = true) (hs : ∀ y ∈ p, y ∈ e ∧ isU y = false) : gL p := by
  intro y hy
  obtain ⟨h1, h2⟩ := hs y hy
  have hr := inB_iff.1 (eqB_rank h)
  unfold eqB at h
  simp only [Bool.and_eq_true, List.all_eq_true] at h
  have := h.2 y h1
  unfold eqAt at this
  unfold isU at h2
  rw [h2, Bool.false_or] at this
  rw [letB_iff (eqB_rank (r := r) (xs := e) (by unfold eqB; simp only [Bool.and_eq_true, List.all_eq_true]; exact h))] at this
  omega
theorem eqB_len12 {r : Int} {e : List Int} (h : eqB r e = true) : e.length ≤ 12 := by
  unfold eqB at h
  simp only [Bool.and_eq_true, decide_eq_true_eq] at h
  exact h.1.2
theorem solve_form {r : Int} {e : List Int} (h : (solveF r e).2 = true) : eqB r e = true ∧ ∃ p u q, e = p ++ u :: q ∧ isU u = true ∧ (∀ x ∈ p, isU x = false) ∧ (∀ x ∈ q, isU x = false) ∧
    (solveF r e).1 = (if u < 0 then invL (redL [] (invL p ++ invL q)) else redL [] (invL p ++ invL q)) := by
  rcases he : eqB r e with _ | _
  · unfold solveF at h; rw [he] at h; simp at h
  refine ⟨rfl, ?_⟩
  rcases hs : scanU e 0 (-1) with _ | a
  · unfold solveF at h; rw [he, hs] at h; simp at h
  rcases scanU_spec e 0 (-1) a hs with ⟨h1, _⟩ | ⟨_, p, u, q, h1, h2, h3, h4, h5⟩
  · unfold solveF at h; rw [he, hs] at h; simp [h1] at h
  · refine ⟨p, u, q, h1, h3, h4, h5, ?_⟩
    have ha : a.toNat = p.length := by omega
    have hn : ¬ a < 0 := by omega
    unfold solveF
    rw [he, hs]
    simp only [if_true, if_neg hn]
    rw [ha]
    unfold solW
    subst h1
    have e1 : (p ++ u :: q).take p.length = p := List.take_left' rfl
    have e2 : (p ++ u :: q).drop (p.length + 1) = q := by
      rw [← List.drop_drop, List.drop_left' rfl]
      rfl
    have e3 : (p ++ u :: q).getD p.length 0 = u := by simp [List.getD]
    rw [e1, e2, e3]
theorem solve_is {r : Int} {e : List Int} (h : (solveF r e).2 = true) : substF e (solveF r e).1 = [] := by
  obtain ⟨he, p, u, q, rfl, hu, hp, hq, hx⟩ := solve_form h
  have gp : gL p := eqB_g he fun y hy => ⟨by simp [hy], hp y hy⟩
  have gq : gL q := eqB_g he fun y hy => ⟨by simp [hy], hq y hy⟩
  have hg0 : gL [] := fun y hy => by cases hy
  rw [subst_one (eqB_len12 he) hp hq, hx]
  have g0 : gL (redL [] (invL p ++ invL q)) := gL_redL hg0 fun y hy => by
    rcases List.mem_append.1 hy with hy | hy
    · exact gL_inv gp y hy
    · exact gL_inv gq y hy
  have hu' : u = 9 ∨ u = -9 := by unfold isU at hu; simpa using hu
  rcases hu' with rfl | rfl
  · exact one_is gp gq rfl
  · rw [if_pos (by decide)]
    exact one_is gp gq (by unfold sub1; rw [if_neg (by decide), if_pos rfl, invL_invL g0])
theorem solve_uniq {r : Int} {e w : List Int} (h : (solveF r e).2 = true) (hg : gL w) (hr : redP w) (hs : substF e w = []) : w = (solveF r e).1 := by
  obtain ⟨he, p, u, q, rfl, hu, hp, hq, hx⟩ := solve_form h
  have gp : gL p := eqB_g he fun y hy => ⟨by simp [hy], hp y hy⟩
  have gq : gL q := eqB_g he fun y hy => ⟨by simp [hy], hq y hy⟩
  rw [subst_one (eqB_len12 he) hp hq] at hs
  rw [hx]
  have hu' : u = 9 ∨ u = -9 := by unfold isU at hu; simpa using hu
  rcases hu' with rfl | rfl
  · have h1 := one_sol gp (s := w) hg gq hs
    rw [red_self hr] at h1
    rw [if_neg (by decide)]
    exact h1
  · have e1 : sub1 w (-9) = invL w := by unfold sub1; rw [if_neg (by decide), if_pos rfl]
    rw [e1] at hs
    have h1 := one_sol gp (gL_inv hg) gq hs
    rw [red_self (redP_inv hg hr)] at h1
    rw [if_pos (by decide), ← h1, invL_invL hg]
/-! ## The list of solutions -/
theorem sols_form {r m : Int} {e : List Int} (h : (solsF r e m).2 = true) : eqB r e = true ∧ (1 ≤ r ∧ r ≤ 3) ∧ (0 ≤ m ∧ m ≤ 4) ∧ (solsF r e m).1 = (uptW (lettersL r.toNat) m.toNat).filter (solZ e) := by
  unfold solsF at h ⊢
  split at h
  · rename_i hc
    rw [if_pos hc]
    rw [Bool.and_eq_true] at hc
    exact ⟨hc.1, inB_iff.1 (eqB_rank hc.1), inB_iff.1 hc.2, rfl⟩
  · cases h
theorem sols_none {r m : Int} {e : List Int} (h : (solsF r e m).2 = false) : (solsF r e m).1 = [] := by
  unfold solsF at h ⊢
  split at h
  · cases h
  · rename_i hc; rw [if_neg hc]
theorem sols_mem {r m : Int} {e x : List Int} (h : x ∈ (solsF r e m).1) : substF e x = [] ∧ (x.length : Int) ≤ m ∧ gL x ∧ redP x ∧ x.length ≤ 4 := by
  rcases hb : (solsF r e m).2 with _ | _
  · rw [sols_none hb] at h; cases h
  · obtain ⟨_, hr, hm, hl⟩ := sols_form hb
    rw [hl] at h
    obtain ⟨h1, h2⟩ := List.mem_filter.1 h
    have hw := uptW_word (r := r.toNat) (by omega) (by omega) (n := m.toNat) (by omega) x h1
    have hg := uptW_g (r := r.toNat) (by omega) (by omega) h1
    unfold solZ at h2
    exact ⟨List.eq_nil_of_length_eq_zero (by simpa using h2), by omega, hg.1, hg.2, by omega⟩
theorem sols_two (r : Int) (e : List Int) : (solsF r e 2).1.length ≤ 256 := by
  rcases hb : (solsF r e 2).2 with _ | _
  · rw [sols_none hb]; simp
  · obtain ⟨_, hr, _, hl⟩ := sols_form hb
    rw [hl]
    have h1 := List.length_filter_le (solZ e) (uptW (lettersL r.toNat) 2)
    have h3 := uptW_len (lettersL r.toNat) (by rw [lettersL_len]; omega) 2
    have e2 : (2 : Int).toNat = 2 := rfl
    rw [e2]
    omega
theorem sols_len (r : Int) (e : List Int) (m : Int) : (solsF r e m).1.length ≤ 7776 := by
  rcases hb : (solsF r e m).2 with _ | _
  · rw [sols_none hb]; simp
  · obtain ⟨_, hr, hm, hl⟩ := sols_form hb
    rw [hl]
    have h1 := List.length_filter_le (solZ e) (uptW (lettersL r.toNat) m.toNat)
    have h3 := uptW_len (lettersL r.toNat) (by rw [lettersL_len]; omega) m.toNat
    have h4 : 6 ^ (m.toNat + 1) ≤ 6 ^ 5 := Nat.pow_le_pow_right (by omega) (by omega)
    omega
theorem nd_one {α} {l : List α} {x : α} (hn : l.Nodup) (h : ∀ y ∈ l, y = x) : l.length ≤ 1 := by
  match l, hn, h with
  | [], _, _ => simp
  | [_], _, _ => simp
  | a :: b :: t, hn, h =>
    exfalso
    have h1 := h a (by simp)
    have h2 := h b (by simp)
    rw [List.nodup_cons] at hn
    exact hn.1 (by rw [h1, h2]; simp)
theorem sols_one {r m : Int} {e : List Int} (h : (solsF r e m).2 = true) (h' : (solveF r e).2 = true) : (solsF r e m).1.length ≤ 1 := by
  have hu : ∀ y ∈ (solsF r e m).1, y = (solveF r e).1 := fun y hy => by
    obtain ⟨h1, _, h3, h4, _⟩ := sols_mem hy
    exact solve_uniq h' h3 h4 h1
  refine nd_one ?_ hu
  rw [(sols_form h).2.2.2]
  exact (uptW_nd lettersL_nd _).filter _
theorem sols_in {r m : Int} {e w : List Int} (h : (solsF r e m).2 = true) (hw : (w.length : Int) ≤ m) (h1 : letR r w) (h2 : redP w) : solB r e w = decide (w ∈ (solsF r e m).1) := by
  obtain ⟨he, hr, hm, hl⟩ := sols_form h
  have hmem : w ∈ uptW (lettersL r.toNat) m.toNat := uptW_in (by omega) (by omega) (fun x hx => by have := h1 x hx; omega) h2
  have hwd := (uptW_word (r := r.toNat) (by omega) (by omega) (n := m.toNat) (by omega) w hmem).1
  rw [show ((r.toNat : Nat) : Int) = r by omega] at hwd
  unfold solB
  rw [he, hwd, hl, Bool.true_and, Bool.true_and, Bool.eq_iff_iff, decide_eq_true_eq, decide_eq_true_eq, List.mem_filter]
  unfold solZ
  rw [decide_eq_true_eq]
  exact ⟨fun h => ⟨hmem, h⟩, fun h => h.2⟩
/-! ## Texts -/
theorem chunk_ne {x : Int} (h : chunk x ≠ []) : ∃ c : UInt8, chunk x = [c] ∧ eqCh c = x ∧ c ≠ 49 := by
  unfold chunk lt at h ⊢
  repeat' split
  all_goals first
    | (exfalso; simp_all; done)
    | (subst_vars; exact ⟨_, rfl, by decide, by decide⟩)
theorem chunks {e : List Int} (h : ∀ x ∈ e, chunk x ≠ []) : ∃ t : List UInt8, e.flatMap chunk = t ∧ t.map eqCh = e ∧ (∀ c ∈ t, c ≠ 49) := by
  induction e with
  | nil => exact ⟨[], rfl, rfl, fun c hc => by cases hc⟩
  | cons x e ih =>
    obtain ⟨t, h1, h2, h3⟩ := ih fun y hy => h y (by simp [hy])
    obtain ⟨c, g1, g2, g3⟩ := chunk_ne (h x (by simp))
    refine ⟨c :: t, by rw [List.flatMap_cons, h1, g1]; rfl, by rw [List.map_cons, h2, g2], fun d hd => ?_⟩
    rcases List.mem_cons.1 hd with rfl | hd
    · exact g3
    · exact h3 d hd
theorem parE_fmt {e : List Int} (h : ∀ x ∈ e, chunk x ≠ []) : parE (fmtEq e) = e := by
  unfold fmtEq
  rw [if_pos (by rw [List.all_eq_true]; exact fun x hx => decide_eq_true (h x hx))]
  by_cases h0 : e = []
  · rw [if_pos h0, h0]; rfl
  · rw [if_neg h0]
    obtain ⟨t, h1, h2, h3⟩ := chunks h
    rw [h1]
    unfold parE
    rw [if_neg ?_, h2]
    intro ht
    exact h3 49 (by rw [ht]; simp) rfl
theorem eqB_chunk {r : Int} {e : List Int} (h : eqB r e = true) : ∀ x ∈ e, chunk x ≠ [] := by
  intro x hx
  by_cases hu : isU x = true
  · unfold isU at hu
    simp at hu
    rcases hu with rfl | rfl <;> decide
  · have hg := eqB_g h (p := [x]) (fun y hy => by rw [List.mem_singleton] at hy; subst hy; exact ⟨hx, by simpa using hu⟩) x (by simp)
    have : x = 1 ∨ x = 2 ∨ x = 3 ∨ x = -1 ∨ x = -2 ∨ x = -3 := by omega
    rcases this with rfl | rfl | rfl | rfl | rfl | rfl <;> decide
theorem parF_fmt (r : Int) (e : List Int) : parF r (fmtEq e) = if eqB r e = true then (e, true) else ([], false) := by
  by_cases h : ∀ x ∈ e, chunk x ≠ []
  · have h1 := parE_fmt h
    unfold parF okP
    rw [h1]
    by_cases he : eqB r e = true
    · rw [he, if_pos rfl, if_pos (by simp)]
    · rw [if_neg he, if_neg (by simp [he])]
  · have he : ¬ eqB r e = true := fun he => h (eqB_chunk he)
    have h0 : fmtEq e = [] := by
      unfold fmtEq
      rw [if_neg]
      rw [List.all_eq_true]
      intro hh
      exact h fun x hx => of_decide_eq_true (hh x hx)
    rw [if_neg he, h0]
    unfold parF okP parE
    simp [fmtEq]
theorem fmt_len (e : List Int) : (fmtEq e).length ≤ e.length + 1 := by
  unfold fmtEq
  split
  · rename_i h
    split
    · simp
    · have : ∀ l : List Int, (l.flatMap chunk).length ≤ l.length := fun l => by
        induction l with
        | nil => simp
        | cons x l ih =>
          have hc : (chunk x).length ≤ 1 := by unfold chunk lt; repeat' split
                                               all_goals simp
          rw [List.flatMap_cons, List.length_append, List.length_cons]
          omega
      have := this e
      omega
  · simp
end Go.Proofs.Ytgoghkboklehnaa
