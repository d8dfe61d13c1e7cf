/- FnLattices in plain Lean, 3: the form's numbers are small; what lies in the lattice is found. -/
import Derived.Test.YtjmjhhdjlompfaaLatN
namespace Go.Proofs.Ytjmjhhdjlompfaa
set_option maxRecDepth 20000
set_option linter.unusedVariables false
set_option linter.unusedSimpArgs false
open Go.RowKit

theorem Sp.vanish {S : List (List Int)} {p : Nat} (h : ∀ r ∈ S, cl r p = 0) {v : Nat → Int} (hv : Sp S v) : v p = 0 := by
  induction hv with
  | zero => rfl
  | add q _ hr ih => dsimp only; rw [ih, h _ hr]; omega
theorem Sp.nil {v : Nat → Int} (hv : Sp [] v) (t : Nat) : v t = 0 := hv.vanish (p := t) fun r hr => by cases hr
theorem Sp.cons_inv {r : List Int} {S : List (List Int)} {v : Nat → Int} (hv : Sp (r :: S) v) : ∃ q u, Sp S u ∧ ∀ t, v t = q * cl r t + u t := by
  induction hv with
  | zero => exact ⟨0, _, .zero, fun t => by dsimp only; omega⟩
  | add c _ hr ih =>
    obtain ⟨q, u, hu, e⟩ := ih
    rcases List.mem_cons.1 hr with rfl | hr
    · exact ⟨q + c, u, hu, fun t => by dsimp only; rw [e t, Int.add_mul]; omega⟩
    · exact ⟨q, _, hu.add c hr, fun t => by dsimp only; rw [e t]; omega⟩
def D2 (u v : Nat → Int) (s t : Nat) : Int := u s * v t - u t * v s
theorem D2_add (u v r : Nat → Int) (q : Int) (s t : Nat) : D2 (fun i => u i + q * r i) v s t = D2 u v s t + q * D2 r v s t := by unfold D2; grind
theorem D2_add' (u v r : Nat → Int) (q : Int) (s t : Nat) : D2 u (fun i => v i + q * r i) s t = D2 u v s t + q * D2 u r s t := by unfold D2; grind
theorem Sp.vanish2 {S : List (List Int)} {s t : Nat} (h : ∀ r ∈ S, ∀ r' ∈ S, D2 (cl r) (cl r') s t = 0) {u v : Nat → Int} (hu : Sp S u) (hv : Sp S v) : D2 u v s t = 0 := by
  have h1 : ∀ r ∈ S, ∀ {v : Nat → Int}, Sp S v → D2 (cl r) v s t = 0 := fun r hr v hv => by
    induction hv with
    | zero => unfold D2; simp
    | add q _ hr' ih => rw [D2_add', ih, h r hr _ hr']; omega
  induction hu with
  | zero => unfold D2; simp
  | add q _ hr' ih => rw [D2_add, ih, h1 _ hr' hv]; omega
def D3 (u v w : Nat → Int) : Int := u 0 * (v 1 * w 2 - v 2 * w 1) - u 1 * (v 0 * w 2 - v 2 * w 0) + u 2 * (v 0 * w 1 - v 1 * w 0)
theorem D3_1 (u v w r : Nat → Int) (q : Int) : D3 (fun i => u i + q * r i) v w = D3 u v w + q * D3 r v w := by unfold D3; grind
theorem D3_2 (u v w r : Nat → Int) (q : Int) : D3 u (fun i => v i + q * r i) w = D3 u v w + q * D3 u r w := by unfold D3; grind
theorem D3_3 (u v w r : Nat → Int) (q : Int) : D3 u v (fun i => w i + q * r i) = D3 u v w + q * D3 u v r := by unfold D3; grind
theorem Sp.vanish3 {S : List (List Int)} (h : ∀ r ∈ S, ∀ r' ∈ S, ∀ r'' ∈ S, D3 (cl r) (cl r') (cl r'') = 0) {u v w : Nat → Int} (hu : Sp S u) (hv : Sp S v) (hw : Sp S w) : D3 u v w = 0 := by
  have h1 : ∀ r ∈ S, ∀ r' ∈ S, ∀ {w : Nat → Int}, Sp S w → D3 (cl r) (cl r') w = 0 := fun r hr r' hr' w hw => by
    induction hw with
    | zero => unfold D3; simp
    | add q _ hm ih => rw [D3_3, ih, h r hr r' hr' _ hm]; omega
  have h2 : ∀ r ∈ S, ∀ {v : Nat → Int}, Sp S v → D3 (cl r) v w = 0 := fun r hr v hv => by
    induction hv with
    | zero => unfold D3; simp
    | add q _ hm ih => rw [D3_2, ih, h1 r hr _ hm hw]; omega
  induction hu with
  | zero => unfold D3; simp
  | add q _ hm ih => rw [D3_1, ih, h2 _ hm hv]; omega
theorem mul_bd {x y : Int} {A B : Nat} (h : x.natAbs ≤ A) (h' : y.natAbs ≤ B) : (x * y).natAbs ≤ A * B := by rw [Int.natAbs_mul]; exact Nat.mul_le_mul h h'
theorem bd_mul {k m : Int} (h : k ≠ 0) : m.natAbs ≤ (k * m).natAbs := by rw [Int.natAbs_mul]; exact Nat.le_mul_of_pos_left _ (by omega)
/-! ## The form's numbers -/
theorem herm_pw {h : List (List Int)} (hh : isHerm h = true) : h.Pairwise fun d e => pivF d < pivF e ∧ 0 ≤ cl d (pivF e) ∧ cl d (pivF e) < cl e (pivF e) := by
  rw [List.pairwise_iff_getElem]
  intro i j hi hj hij
  have h0 : pivF h[i] < pivF h[j] := by
    induction j with
    | zero => omega
    | succ j ih =>
      have h1 := (herm_at hh hj).2.2
      rw [rw_mem hj, Nat.add_sub_cancel, rw_mem (show j < h.length by omega)] at h1
      have h2 : pivF h[j] < pivF h[j + 1] := h1.elim (fun e => absurd e (by omega)) id
      rcases Nat.lt_or_eq_of_le (Nat.le_of_lt_succ hij) with e | e
      · exact Nat.lt_trans (ih (by omega) e) h2
      · subst e; exact h2
  unfold isHerm at hh
  have := List.all_eq_true.1 hh j (List.mem_range.2 hj)
  unfold hOk at this
  simp only [Bool.and_eq_true] at this
  have := inB_iff.1 (List.all_eq_true.1 this.2 i (List.mem_range.2 hij))
  rw [rw_mem hj, rw_mem hi] at this
  exact ⟨h0, this.1, by omega⟩
theorem herm_pos {h : List (List Int)} (hh : isHerm h = true) {d : List Int} (hd : d ∈ h) : pivF d < d.length ∧ 0 < cl d (pivF d) := by
  obtain ⟨i, hi, rfl⟩ := rw_in hd
  have := herm_at hh hi
  exact ⟨this.1, this.2.1⟩
theorem herm_bd {n : Int} (hn : inB n 1 3 = true) {rows h : List (List Int)} (hm : numOk 6 rows = true) (he : Eqv rows h) (hh : isHerm h = true) (hl : lenOk n h = true) : ∀ d ∈ h, ∀ t, (cl d t).natAbs ≤ 6000 := by
  have hn' := inB_iff.1 hn
  have h6 : ∀ r ∈ rows, ∀ t, (cl r t).natAbs ≤ 6 := fun r hr t => by have := num_cl (by decide) hm hr t; omega
  have hpw := herm_pw hh
  have hpos : ∀ d ∈ h, pivF d < n.toNat ∧ 0 < cl d (pivF d) := fun d hd => by have := herm_pos hh hd; have := len_mem hl hd; omega
  have hz : ∀ d ∈ h, ∀ t, t < pivF d → cl d t = 0 := fun d _ t ht => piv_zero d t ht
  have hlen : h.length ≤ 3 := by
    rcases pair_len (n := n.toNat) h 0 (fun d hd => ⟨Nat.zero_le _, (hpos d hd).1⟩) (hpw.imp fun h => h.1) with h1 | h1
    · omega
    · rw [h1]; simp
  match h, hlen with
  | [], _ => exact fun d hd => by cases hd
  | [a], _ =>
    intro d hd t
    rw [List.mem_singleton.1 hd]
    have ha := hpos a (by simp)
    have hex : ∃ r ∈ rows, cl r (pivF a) ≠ 0 := Classical.byContradiction fun hno => by
      have := Sp.vanish (p := pivF a) (fun r hr => Classical.byContradiction fun hc => hno ⟨r, hr, hc⟩) (he.2 a (by simp))
      omega
    obtain ⟨r, hr, hne⟩ := hex
    obtain ⟨x, u, hu, e⟩ := (he.1 r hr).cons_inv
    have hx : x ≠ 0 := fun hx => hne (by rw [e, hu.nil, hx]; omega)
    have h1 := h6 r hr t
    rw [e t, hu.nil, Int.add_zero] at h1
    have := bd_mul (m := cl a t) hx
    omega
  | [a, b], _ =>
    have ha := hpos a (by simp)
    have hb := hpos b (by simp)
    have hab := (List.pairwise_cons.1 hpw).1 b (by simp)
    have hb0 : cl b (pivF a) = 0 := hz b (by simp) _ hab.1
    have hdab : D2 (cl a) (cl b) (pivF a) (pivF b) ≠ 0 := by
      unfold D2
      rw [hb0, Int.mul_zero, Int.sub_zero]
      exact Int.mul_ne_zero (by omega) (by omega)
    have hex : ∃ r ∈ rows, ∃ r' ∈ rows, D2 (cl r) (cl r') (pivF a) (pivF b) ≠ 0 := Classical.byContradiction fun hno =>
      hdab (Sp.vanish2 (fun r hr r' hr' => Classical.byContradiction fun hc => hno ⟨r, hr, r', hr', hc⟩) (he.2 a (by simp)) (he.2 b (by simp)))
    obtain ⟨r, hr, r', hr', hne⟩ := hex
    obtain ⟨x, u, hu, e⟩ := (he.1 r hr).cons_inv
    obtain ⟨y, u2, hu2, e2⟩ := hu.cons_inv
    obtain ⟨z, v, hv, e'⟩ := (he.1 r' hr').cons_inv
    obtain ⟨k, v2, hv2, e2'⟩ := hv.cons_inv
    have er : ∀ t, cl r t = x * cl a t + y * cl b t := fun t => by rw [e, e2, hu2.nil]; omega
    have er' : ∀ t, cl r' t = z * cl a t + k * cl b t := fun t => by rw [e', e2', hv2.nil]; omega
    have hdet : ∀ s t, D2 (cl r) (cl r') s t = (x * k - y * z) * D2 (cl a) (cl b) s t := fun s t => by
      unfold D2
      rw [er s, er t, er' s, er' t]
      generalize cl a s = a1
      generalize cl a t = a2
      generalize cl b s = b1
      generalize cl b t = b2
      grind
    have hk : x * k - y * z ≠ 0 := fun h0 => hne (by rw [hdet, h0, Int.zero_mul])
    have hD : ∀ s t, (D2 (cl a) (cl b) s t).natAbs ≤ 72 := fun s t => by
      have h1 := bd_mul (m := D2 (cl a) (cl b) s t) hk
      rw [← hdet] at h1
      have m1 := mul_bd (h6 r hr s) (h6 r' hr' t)
      have m2 := mul_bd (h6 r hr t) (h6 r' hr' s)
      have h2 : (D2 (cl r) (cl r') s t).natAbs ≤ 72 := by
        unfold D2
        generalize cl r s * cl r' t = z1 at *
        generalize cl r t * cl r' s = z2 at *
        omega
      omega
    have hbt : ∀ t, (cl b t).natAbs ≤ 72 := fun t => by
      have h1 := hD (pivF a) t
      unfold D2 at h1
      rw [hb0, Int.mul_zero, Int.sub_zero] at h1
      have := bd_mul (k := cl a (pivF a)) (m := cl b t) (by omega)
      omega
    intro d hd t
    have hd' : d = a ∨ d = b := by simpa using hd
    rcases hd' with rfl | rfl
    · have h1 := hD (pivF b) t
      unfold D2 at h1
      have h2 := hbt t
      have h3 := hbt (pivF b)
      have h4 := mul_bd (x := cl d (pivF b)) (y := cl b t) (A := 72) (B := 72) (by omega) h2
      have h5 := bd_mul (k := cl b (pivF b)) (m := cl d t) (by omega)
      rw [Int.mul_comm (cl b (pivF b))] at h5
      generalize cl d (pivF b) * cl b t = z1 at *
      generalize cl d t * cl b (pivF b) = z2 at *
      omega
    · have := hbt t; omega
  | [a, b, c], _ =>
    have ha := hpos a (by simp)
    have hb := hpos b (by simp)
    have hc := hpos c (by simp)
    have hab := (List.pairwise_cons.1 hpw).1 b (by simp)
    have hac := (List.pairwise_cons.1 hpw).1 c (by simp)
    have hbc := (List.pairwise_cons.1 (List.pairwise_cons.1 hpw).2).1 c (by simp)
    have pa : pivF a = 0 := by omega
    have pb : pivF b = 1 := by omega
    have pc : pivF c = 2 := by omega
    have zb := hz b (by simp) 0 (by omega)
    have zc0 := hz c (by simp) 0 (by omega)
    have zc1 := hz c (by simp) 1 (by omega)
    rw [pa] at ha
    rw [pb] at hb hab
    rw [pc] at hc hac hbc
    have hdv : D3 (cl a) (cl b) (cl c) = cl a 0 * (cl b 1 * cl c 2) := by
      unfold D3
      rw [zb, zc0, zc1]
      grind
    have hdn : D3 (cl a) (cl b) (cl c) ≠ 0 := by
      rw [hdv]
      exact Int.mul_ne_zero (by omega) (Int.mul_ne_zero (by omega) (by omega))
    have hex : ∃ r ∈ rows, ∃ r' ∈ rows, ∃ r'' ∈ rows, D3 (cl r) (cl r') (cl r'') ≠ 0 := Classical.byContradiction fun hno =>
      hdn (Sp.vanish3 (fun r hr r' hr' r'' hr'' => Classical.byContradiction fun hc => hno ⟨r, hr, r', hr', r'', hr'', hc⟩) (he.2 a (by simp)) (he.2 b (by simp)) (he.2 c (by simp)))
    obtain ⟨r, hr, r', hr', r'', hr'', hne⟩ := hex
    have form : ∀ {r : List Int}, r ∈ rows → ∃ x y z : Int, ∀ t, cl r t = x * cl a t + y * cl b t + z * cl c t := fun {r} hr => by
      obtain ⟨x, u, hu, e⟩ := (he.1 r hr).cons_inv
      obtain ⟨y, u2, hu2, e2⟩ := hu.cons_inv
      obtain ⟨z, u3, hu3, e3⟩ := hu2.cons_inv
      exact ⟨x, y, z, fun t => by rw [e, e2, e3, hu3.nil]; omega⟩
    obtain ⟨x1, y1, z1, e1⟩ := form hr
    obtain ⟨x2, y2, z2, e2⟩ := form hr'
    obtain ⟨x3, y3, z3, e3⟩ := form hr''
    have hdet : D3 (cl r) (cl r') (cl r'') = (x1 * (y2 * z3 - z2 * y3) - y1 * (x2 * z3 - z2 * x3) + z1 * (x2 * y3 - y2 * x3)) * D3 (cl a) (cl b) (cl c) := by
      unfold D3
      rw [e1 0, e1 1, e1 2, e2 0, e2 1, e2 2, e3 0, e3 1, e3 2]
      generalize cl a 0 = a0
      generalize cl a 1 = a1
      generalize cl a 2 = a2
      generalize cl b 0 = b0
      generalize cl b 1 = b1
      generalize cl b 2 = b2
      generalize cl c 0 = c0
      generalize cl c 1 = c1
      generalize cl c 2 = c2
      grind
    have hk : x1 * (y2 * z3 - z2 * y3) - y1 * (x2 * z3 - z2 * x3) + z1 * (x2 * y3 - y2 * x3) ≠ 0 := fun h0 => hne (by rw [hdet, h0, Int.zero_mul])
    have h1 := bd_mul (m := D3 (cl a) (cl b) (cl c)) hk
    rw [← hdet] at h1
    have mn : ∀ s t, (cl r' s * cl r'' t - cl r' t * cl r'' s).natAbs ≤ 72 := fun s t => by
      have m1 := mul_bd (h6 r' hr' s) (h6 r'' hr'' t)
      have m2 := mul_bd (h6 r' hr' t) (h6 r'' hr'' s)
      generalize cl r' s * cl r'' t = z1 at *
      generalize cl r' t * cl r'' s = z2 at *
      omega
    have h2 : (D3 (cl r) (cl r') (cl r'')).natAbs ≤ 1296 := by
      have m0 := mul_bd (h6 r hr 0) (mn 1 2)
      have m1 := mul_bd (h6 r hr 1) (mn 0 2)
      have m2 := mul_bd (h6 r hr 2) (mn 0 1)
      unfold D3
      generalize cl r 0 * (cl r' 1 * cl r'' 2 - cl r' 2 * cl r'' 1) = w0 at *
      generalize cl r 1 * (cl r' 0 * cl r'' 2 - cl r' 2 * cl r'' 0) = w1 at *
      generalize cl r 2 * (cl r' 0 * cl r'' 1 - cl r' 1 * cl r'' 0) = w2 at *
      omega
    rw [hdv] at h1
    have g1 := bd_mul (k := cl a 0) (m := cl b 1 * cl c 2) (by omega)
    have g2 := bd_mul (k := cl b 1) (m := cl c 2) (by omega)
    have g3 := bd_mul (k := cl c 2) (m := cl b 1) (by omega)
    rw [Int.mul_comm (cl c 2)] at g3
    have g4 := bd_mul (k := cl b 1 * cl c 2) (m := cl a 0) (Int.mul_ne_zero (by omega) (by omega))
    rw [Int.mul_comm (cl b 1 * cl c 2)] at g4
    intro d hd t
    have hdl : d.length ≤ 3 := by have := len_mem hl hd; omega
    have hd' : d = a ∨ d = b ∨ d = c := by simpa using hd
    generalize cl a 0 * (cl b 1 * cl c 2) = w at *
    generalize cl b 1 * cl c 2 = w' at *
    match t with
    | 0 => rcases hd' with rfl | rfl | rfl <;> omega
    | 1 => rcases hd' with rfl | rfl | rfl <;> omega
    | 2 => rcases hd' with rfl | rfl | rfl <;> omega
    | t + 3 => rw [cl_out (by omega)]; decide
/-! ## Membership -/
theorem latS_ok {n : Nat} : ∀ (h : List (List Int)) (x : List Int) (X : Nat), (∀ d ∈ h, d.length = n ∧ 0 < cl d (pivF d) ∧ ∀ t, (cl d t).natAbs ≤ 6000) → (h.Pairwise fun d e => pivF d < pivF e) → x.length = n → (∀ t, (cl x t).natAbs ≤ X) →
    X * 6001 ^ h.length ≤ 4000000000000000000 → Sp h (cl x) → latS h x = true
  | [], x, _, _, _, _, _, _, hs => by
    unfold latS zeroB
    rw [List.all_eq_true]
    intro y hy
    obtain ⟨i, hi, rfl⟩ := List.mem_iff_getElem.1 hy
    have := hs.nil i
    unfold cl at this
    rw [List.getD_eq_getElem?_getD, List.getElem?_eq_getElem hi] at this
    simpa using this
  | r :: h, x, X, hh, hp, hl, hX, hb, hs => by
    obtain ⟨q, u, hu, e⟩ := hs.cons_inv
    obtain ⟨r1, r2, r3⟩ := hh r (by simp)
    rw [List.pairwise_cons] at hp
    have hu0 : u (pivF r) = 0 := hu.vanish fun r' hr' => piv_zero r' _ (hp.1 r' hr')
    have hx : cl x (pivF r) = q * cl r (pivF r) := by rw [e, hu0]; omega
    have hXb : X * 6001 ≤ 4000000000000000000 := by
      rw [List.length_cons, Nat.pow_succ, Nat.mul_comm (6001 ^ h.length), ← Nat.mul_assoc] at hb
      exact Nat.le_trans (Nat.le_mul_of_pos_right _ (Nat.pow_pos (n := h.length) (show 0 < 6001 by decide))) hb
    have hq : q.natAbs ≤ X := by
      have h1 := hX (pivF r)
      rw [hx, Int.mul_comm] at h1
      have := bd_mul (k := cl r (pivF r)) (m := q) (by omega)
      omega
    unfold latS
    rw [hx, Int.mul_tmod_left, if_neg (by simp), quoW_abs (by rw [← hx]; have := hX (pivF r); omega), Int.mul_tdiv_cancel _ (by omega)]
    have hw : ∀ t, (cl x t).natAbs + q.natAbs * (cl r t).natAbs ≤ X * 6001 := fun t => by
      have h1 := hX t
      have h2 := Nat.mul_le_mul hq (r3 t)
      omega
    have hsub : ∀ t, cl (subR x q r) t = u t := fun t => by
      rw [subR_eq (by omega) (fun t => Nat.le_trans (hw t) hXb), e t]; omega
    refine latS_ok h (subR x q r) (X * 6001) (fun d hd => hh d (by simp [hd])) hp.2 (by rw [subR_len]; exact hl) (fun t => ?_) ?_ (hu.cast fun t => (hsub t).symm)
    · have h1 := hw t
      rw [subR_eq (by omega) (fun t => Nat.le_trans (hw t) hXb)]
      have h2 : (q * cl r t).natAbs = q.natAbs * (cl r t).natAbs := Int.natAbs_mul _ _
      rw [← h2] at h1
      generalize q * cl r t = z at *
      omega
    · rw [List.length_cons, Nat.pow_succ, Nat.mul_comm (6001 ^ h.length), ← Nat.mul_assoc] at hb
      exact hb
/-- All that the law asks of small rows. -/
theorem lat_main {n : Int} (hn : inB n 1 3 = true) {rows : List (List Int)} (hl : lenOk n rows = true) (hm : numOk 6 rows = true) (hc : rows.length ≤ 100) :
    hermF n (hermF n rows).1 = ((hermF n rows).1, true) ∧ (∀ r ∈ rows, latF (hermF n rows).1 r = true ∧ latF rows r = true) ∧ ∀ d ∈ (hermF n rows).1, latF rows d = true := by
  have hn' := inB_iff.1 hn
  obtain ⟨h2, he, hh, hlh⟩ := good_of hn hl hm hc
  have hbd := herm_bd hn hm he hh hlh
  have hpw := (herm_pw hh).imp fun {a b} (h : pivF a < pivF b ∧ _) => h.1
  have hlen : (hermF n rows).1.length ≤ 3 := by have := (hermF_ech h2).length; omega
  generalize hH : (hermF n rows).1 = H at *
  have hd : ∀ d ∈ H, d.length = n.toNat ∧ 0 < cl d (pivF d) ∧ ∀ t, (cl d t).natAbs ≤ 6000 := fun d hd => ⟨by have := len_mem hlh hd; omega, (herm_pos hh hd).2, hbd d hd⟩
  have hH9 : numOk 1000000000 H = true := by
    unfold numOk
    rw [List.all_eq_true]
    intro d hdm
    rw [List.all_eq_true]
    intro x hx
    obtain ⟨i, hi, rfl⟩ := List.mem_iff_getElem.1 hx
    have := hbd d hdm i
    unfold cl at this
    rw [List.getD_eq_getElem?_getD, List.getElem?_eq_getElem hi] at this
    have h3 : d[i].natAbs ≤ 6000 := this
    exact inB_iff.2 (by omega)
  have hHH : hermF n H = (H, true) := by
    unfold hermF
    rw [if_neg (by rw [hn]; decide), rowsOk_eq, hlh, hH9, hh]
    rfl
  have hpow : 6000 * 6001 ^ H.length ≤ 4000000000000000000 := Nat.le_trans (Nat.mul_le_mul_left _ (Nat.pow_le_pow_right (by decide) hlen)) (by decide)
  have key : ∀ v : List Int, (v.length : Int) = n → (∀ t, (cl v t).natAbs ≤ 6000) → Sp H (cl v) → latS H v = true ∧ (v.all fun x => inB x (-1000000) 1000000) = true := fun v hv hb hs => by
    refine ⟨latS_ok (n := n.toNat) H v 6000 hd hpw (by omega) hb hpow hs, ?_⟩
    rw [List.all_eq_true]
    intro x hx
    obtain ⟨i, hi, rfl⟩ := List.mem_iff_getElem.1 hx
    have := hb i
    unfold cl at this
    rw [List.getD_eq_getElem?_getD, List.getElem?_eq_getElem hi] at this
    have h3 : v[i].natAbs ≤ 6000 := this
    exact inB_iff.2 (by omega)
  have hr6 : ∀ r ∈ rows, ∀ t, (cl r t).natAbs ≤ 6000 := fun r hr t => by have := num_cl (by decide) hm hr t; omega
  refine ⟨hHH, fun r hr => ?_, fun d hdm => ?_⟩
  · have hv := len_mem hl hr
    have k := key r hv (hr6 r hr) (he.1 r hr)
    unfold latF
    rw [hv, hHH, h2, hH, k.1, k.2]
    exact ⟨rfl, rfl⟩
  · have hv := len_mem hlh hdm
    have k := key d hv (hbd d hdm) (.mem hdm)
    unfold latF
    rw [hv, h2, hH, k.1, k.2]
    rfl
end Go.Proofs.Ytjmjhhdjlompfaa
