/- The search of a level in plain Lean: a total order of words, the moves, the queue. Ordered lists. -/
import Derived.Test.YtnmkbkpegkchpaaRelM
import Derived.Test.YtnmkbkpegkchpaaRed
import Derived.Test.YtnmkbkpegkchpaaEqW
namespace Go.Proofs.Ytnmkbkpegkchpaa
set_option maxRecDepth 20000
set_option linter.unusedVariables false
set_option linter.unusedSimpArgs false
open Go.RowKit

/-- A comparison that is a total order. -/
structure TOrd {α : Type} (c : α → α → Int) : Prop where
  zero : ∀ {a b}, c a b = 0 ↔ a = b
  anti : ∀ {a b}, c a b < 0 ↔ 0 < c b a
  trans : ∀ {a b d}, c a b < 0 → c b d < 0 → c a d < 0
section
variable {α : Type} {c : α → α → Int}
/-- Strictly ascending. -/
def Srt (c : α → α → Int) (l : List α) : Prop := l.Pairwise fun a b => c a b < 0
theorem TOrd.irrefl (h : TOrd c) (a : α) : ¬ c a a < 0 := by
  have := (h.zero (a := a) (b := a)).2 rfl
  omega
theorem Srt.ext (h : TOrd c) : ∀ {l l' : List α}, Srt c l → Srt c l' → (∀ x, x ∈ l ↔ x ∈ l') → l = l'
  | [], [], _, _, _ => rfl
  | [], b :: l', _, _, hm => absurd ((hm b).2 (by simp)) (by simp)
  | a :: l, [], _, _, hm => absurd ((hm a).1 (by simp)) (by simp)
  | a :: l, b :: l', h1, h2, hm => by
    have p1 := List.pairwise_cons.1 h1
    have p2 := List.pairwise_cons.1 h2
    have e : a = b := by
      have ha := (hm a).1 (by simp)
      have hb := (hm b).2 (by simp)
      rcases List.mem_cons.1 ha with e | ha
      · exact e
      · rcases List.mem_cons.1 hb with e | hb
        · exact e.symm
        · exact absurd (h.trans (p1.1 b hb) (p2.1 a ha)) (h.irrefl a)
    subst e
    congr 1
    refine Srt.ext h p1.2 p2.2 fun x => ⟨fun hx => ?_, fun hx => ?_⟩
    · rcases List.mem_cons.1 ((hm x).1 (by simp [hx])) with rfl | h'
      · exact absurd (p1.1 x hx) (h.irrefl x)
      · exact h'
    · rcases List.mem_cons.1 ((hm x).2 (by simp [hx])) with rfl | h'
      · exact absurd (p2.1 x hx) (h.irrefl x)
      · exact h'
/-- As the reference writes it: one element of the old list at a time. -/
def insS (c : α → α → Int) (x : α) (s : List α × Bool) (y : α) : List α × Bool :=
  if c x y = 0 then (s.1 ++ [y], true) else if c x y < 0 ∧ s.2 = false then (s.1 ++ [x, y], true) else (s.1 ++ [y], s.2)
def insF (c : α → α → Int) (l : List α) (x : α) : List α := if (l.foldl (insS c x) ([], false)).2 then (l.foldl (insS c x) ([], false)).1 else (l.foldl (insS c x) ([], false)).1 ++ [x]
def insR (c : α → α → Int) (x : α) : List α → List α
  | [] => [x]
  | y :: l => if c x y = 0 then y :: l else if c x y < 0 then x :: y :: l else y :: insR c x l
theorem insS_true (x : α) (l acc : List α) : l.foldl (insS c x) (acc, true) = (acc ++ l, true) := by
  induction l generalizing acc with
  | nil => simp
  | cons y l ih =>
    rw [List.foldl_cons]
    have : insS c x (acc, true) y = (acc ++ [y], true) := by unfold insS; split <;> simp
    rw [this, ih]
    simp
theorem insF_eq (l : List α) (x : α) : insF c l x = insR c x l := by
  have key : ∀ l acc : List α, (if (l.foldl (insS c x) (acc, false)).2 then (l.foldl (insS c x) (acc, false)).1 else (l.foldl (insS c x) (acc, false)).1 ++ [x]) = acc ++ insR c x l := by
    intro l
    induction l with
    | nil => intro acc; simp [insR]
    | cons y l ih =>
      intro acc
      rw [List.foldl_cons]
      by_cases h0 : c x y = 0
      · have : insS c x (acc, false) y = (acc ++ [y], true) := by unfold insS; rw [if_pos h0]
        rw [this, insS_true]
        simp [insR, h0]
      · by_cases h1 : c x y < 0
        · have : insS c x (acc, false) y = (acc ++ [x, y], true) := by unfold insS; rw [if_neg h0, if_pos ⟨h1, rfl⟩]
          rw [this, insS_true]
          simp [insR, h0, h1]
        · have : insS c x (acc, false) y = (acc ++ [y], false) := by unfold insS; rw [if_neg h0, if_neg (fun h => h1 h.1)]
          rw [this, ih]
          simp [insR, h0, h1]
  simpa [insF] using key l []
theorem insR_mem (x : α) (l : List α) (h : TOrd c) (y : α) : y ∈ insR c x l ↔ y = x ∨ y ∈ l := by
  induction l with
  | nil => simp [insR]
  | cons a l ih =>
    unfold insR
    split
    · rename_i h0
      have := h.zero.1 h0
      subst this
      simp
    · split
      · simp
      · simp only [List.mem_cons, ih]
        constructor
        · rintro (e | e | e)
          · exact .inr (.inl e)
          · exact .inl e
          · exact .inr (.inr e)
        · rintro (e | e | e)
          · exact .inr (.inl e)
          · exact .inl e
          · exact .inr (.inr e)
theorem insR_srt (h : TOrd c) (x : α) (l : List α) (hl : Srt c l) : Srt c (insR c x l) := by
  induction l with
  | nil => simp [insR, Srt]
  | cons a l ih =>
    have p := List.pairwise_cons.1 hl
    unfold insR
    split
    · exact hl
    · rename_i h0
      split
      · rename_i h1
        refine List.pairwise_cons.2 ⟨fun y hy => ?_, hl⟩
        rcases List.mem_cons.1 hy with rfl | hy
        · exact h1
        · exact h.trans h1 (p.1 y hy)
      · rename_i h1
        refine List.pairwise_cons.2 ⟨fun y hy => ?_, ih p.2⟩
        rcases (insR_mem x l h y).1 hy with rfl | hy
        · have := (h.anti (a := a) (b := y)).2 (by omega)
          exact this
        · exact p.1 y hy
theorem insF_len (l : List α) (x : α) : (insF c l x).length ≤ l.length + 1 := by
  rw [insF_eq]
  induction l with
  | nil => simp [insR]
  | cons a l ih =>
    unfold insR
    split
    · simp
    · split
      · simp
      · simp only [List.length_cons]; omega
/-- A list's elements, each once, in order. -/
def srt (c : α → α → Int) (L : List α) : List α := L.foldl (insF c) []
theorem srt_spec (h : TOrd c) (L : List α) : Srt c (srt c L) ∧ ∀ x, x ∈ srt c L ↔ x ∈ L := by
  have key : ∀ L acc : List α, Srt c acc → Srt c (L.foldl (insF c) acc) ∧ ∀ x, x ∈ L.foldl (insF c) acc ↔ x ∈ acc ∨ x ∈ L := by
    intro L
    induction L with
    | nil => intro acc hs; exact ⟨hs, fun x => by simp⟩
    | cons y L ih =>
      intro acc hs
      rw [List.foldl_cons]
      obtain ⟨h1, h2⟩ := ih (insF c acc y) (by rw [insF_eq]; exact insR_srt h y acc hs)
      refine ⟨h1, fun x => ?_⟩
      rw [h2, insF_eq, insR_mem y acc h]
      simp only [List.mem_cons]
      constructor
      · rintro ((e | e) | e)
        · exact .inr (.inl e)
        · exact .inl e
        · exact .inr (.inr e)
      · rintro (e | e | e)
        · exact .inl (.inr e)
        · exact .inl (.inl e)
        · exact .inr e
  obtain ⟨h1, h2⟩ := key L [] List.Pairwise.nil
  exact ⟨h1, fun x => by simpa [srt] using h2 x⟩
theorem srt_eq (h : TOrd c) {L l : List α} (hs : Srt c l) (hm : ∀ x, x ∈ l ↔ x ∈ L) : l = srt c L :=
  Srt.ext h hs (srt_spec h L).1 fun x => by rw [hm, (srt_spec h L).2]
theorem srt_succ (L : List α) (k : Nat) (hk : k < L.length) : srt c (L.take (k + 1)) = insF c (srt c (L.take k)) L[k] := by
  unfold srt
  rw [List.take_succ_eq_append_getElem hk, List.foldl_append]
  rfl
theorem srt_len (L : List α) : (srt c L).length ≤ L.length := by
  have key : ∀ L acc : List α, (L.foldl (insF c) acc).length ≤ acc.length + L.length := by
    intro L
    induction L with
    | nil => intro acc; simp
    | cons y L ih =>
      intro acc
      have h1 := ih (insF c acc y)
      have h2 := insF_len (c := c) acc y
      simp only [List.foldl_cons, List.length_cons]
      omega
  simpa [srt] using key L []
end
/-! ## The order of words, for all ints -/
def key2 (x : Int) : Int := if x < 0 then -2 * x + 1 else 2 * x
theorem key2_inj {a b : Int} (h : key2 a = key2 b) : a = b := by
  unfold key2 at h
  repeat' split at h
  all_goals omega
def cmpY : List Int → List Int → Int
  | x :: xs, y :: ys => if key2 x < key2 y then -1 else if key2 y < key2 x then 1 else cmpY xs ys
  | _, _ => 0
def cK (a b : List Int) : Int := if a.length < b.length then -1 else if b.length < a.length then 1 else cmpY a b
theorem cmpY_zero : ∀ {a b : List Int}, a.length = b.length → (cmpY a b = 0 ↔ a = b)
  | [], [], _ => by simp [cmpY]
  | x :: a, y :: b, h => by
    have ih := cmpY_zero (a := a) (b := b) (by simpa using h)
    unfold cmpY
    by_cases h1 : key2 x < key2 y
    · rw [if_pos h1]
      have : x ≠ y := by rintro rfl; omega
      simp [this]
    · by_cases h2 : key2 y < key2 x
      · rw [if_neg h1, if_pos h2]
        have : x ≠ y := by rintro rfl; omega
        simp [this]
      · rw [if_neg h1, if_neg h2, ih]
        have e : x = y := key2_inj (by omega)
        simp [e]
theorem cmpY_anti : ∀ {a b : List Int}, cmpY a b < 0 ↔ 0 < cmpY b a
  | [], _ => by simp [cmpY]
  | _ :: _, [] => by simp [cmpY]
  | x :: a, y :: b => by
    have ih := cmpY_anti (a := a) (b := b)
    unfold cmpY
    by_cases h1 : key2 x < key2 y
    · rw [if_pos h1, if_neg (by omega), if_pos h1]; omega
    · by_cases h2 : key2 y < key2 x
      · rw [if_neg h1, if_pos h2, if_pos h2]; omega
      · rw [if_neg h1, if_neg h2, if_neg h2, if_neg h1, ih]
theorem cmpY_trans : ∀ {a b d : List Int}, cmpY a b < 0 → cmpY b d < 0 → cmpY a d < 0
  | [], _, _, h, _ => by simp [cmpY] at h
  | _ :: _, [], _, h, _ => by simp [cmpY] at h
  | _ :: _, _ :: _, [], _, h => by simp [cmpY] at h
  | x :: a, y :: b, z :: d, h1, h2 => by
    have ih := cmpY_trans (a := a) (b := b) (d := d)
    unfold cmpY at h1 h2 ⊢
    by_cases p1 : key2 x < key2 y
    · by_cases p2 : key2 y < key2 z
      · rw [if_pos (by omega)]; decide
      · rw [if_neg p2] at h2
        by_cases p3 : key2 z < key2 y
        · rw [if_pos p3] at h2; omega
        · rw [if_pos (by omega)]; decide
    · rw [if_neg p1] at h1
      by_cases p4 : key2 y < key2 x
      · rw [if_pos p4] at h1; omega
      · rw [if_neg p4] at h1
        by_cases p2 : key2 y < key2 z
        · rw [if_pos (by omega)]; decide
        · rw [if_neg p2] at h2
          by_cases p3 : key2 z < key2 y
          · rw [if_pos p3] at h2; omega
          · rw [if_neg p3] at h2
            rw [if_neg (by omega), if_neg (by omega)]
            exact ih h1 h2
theorem cK_ord : TOrd cK where
  zero := by
    intro a b
    unfold cK
    by_cases h1 : a.length < b.length
    · rw [if_pos h1]
      have : a ≠ b := by rintro rfl; omega
      simp [this]
    · by_cases h2 : b.length < a.length
      · rw [if_neg h1, if_pos h2]
        have : a ≠ b := by rintro rfl; omega
        simp [this]
      · rw [if_neg h1, if_neg h2]
        exact cmpY_zero (by omega)
  anti := by
    intro a b
    unfold cK
    by_cases h1 : a.length < b.length
    · rw [if_pos h1, if_neg (by omega), if_pos h1]; omega
    · by_cases h2 : b.length < a.length
      · rw [if_neg h1, if_pos h2, if_pos h2]; omega
      · rw [if_neg h1, if_neg h2, if_neg h2, if_neg h1]
        exact cmpY_anti
  trans := by
    intro a b d h1 h2
    unfold cK at *
    by_cases p1 : a.length < b.length
    · by_cases p2 : b.length < d.length
      · rw [if_pos (by omega)]; decide
      · rw [if_neg p2] at h2
        by_cases p3 : d.length < b.length
        · rw [if_pos p3] at h2; omega
        · rw [if_pos (by omega)]; decide
    · rw [if_neg p1] at h1
      by_cases p4 : b.length < a.length
      · rw [if_pos p4] at h1; omega
      · rw [if_neg p4] at h1
        by_cases p2 : b.length < d.length
        · rw [if_pos (by omega)]; decide
        · rw [if_neg p2] at h2
          by_cases p3 : d.length < b.length
          · rw [if_pos p3] at h2; omega
          · rw [if_neg p3] at h2
            rw [if_neg (by omega), if_neg (by omega)]
            exact cmpY_trans h1 h2
def smallW (w : List Int) : Prop := ∀ x ∈ w, -3 ≤ x ∧ x ≤ 3
theorem keyL_key2 {x : Int} (h : -3 ≤ x ∧ x ≤ 3) : keyL x = key2 x := by
  unfold keyL key2
  rw [if_neg (by omega)]
theorem cmpZ_Y : ∀ {a b : List Int}, smallW a → smallW b → cmpZ a b = cmpY a b
  | [], [], _, _ => rfl
  | [], _ :: _, _, _ => rfl
  | _ :: _, [], _, _ => rfl
  | x :: a, y :: b, h1, h2 => by
    have ih := cmpZ_Y (a := a) (b := b) (fun z hz => h1 z (by simp [hz])) (fun z hz => h2 z (by simp [hz]))
    have hx := h1 x (by simp)
    have hy := h2 y (by simp)
    unfold cmpZ cmpY
    rw [cmpL_key (by unfold I64; omega) (by unfold I64; omega), keyL_key2 hx, keyL_key2 hy, ih]
    unfold cmpI
    by_cases p1 : key2 x < key2 y
    · simp [p1]
    · by_cases p2 : key2 y < key2 x
      · simp [p1, p2]
      · simp [p1, p2]
theorem cmpW_K {a b : List Int} (h1 : smallW a) (h2 : smallW b) : cmpW a b = cK a b := by
  unfold cmpW cK
  by_cases e : a.length = b.length
  · rw [if_pos e, if_neg (by omega), if_neg (by omega), cmpZ_Y h1 h2]
  · rw [if_neg e]
    unfold cmpI
    by_cases p1 : a.length < b.length
    · rw [if_pos (by omega), if_pos p1]
    · rw [if_neg (by omega), if_neg p1, if_pos (by omega), if_pos (by omega)]

/-! ## The search -/
def movF (r : Int) : List MoD := relF r ++ (allWh r).map (whM r)
def yF (m : MoD) (u : List Int) : List Int := cycF (expL m.2 u)
def lvK (n : Nat) (u : List Int) : List MoD → List (List Int) → Option (List (List Int))
  | [], q => some q
  | m :: M, q => if (yF m u).length = n ∧ yF m u ∉ q then (if 60 ≤ q.length then none else lvK n u M (q ++ [yF m u])) else lvK n u M q
def lvGo (M : List MoD) (n : Nat) : Nat → Nat → List (List Int) → Option (List (List Int))
  | 0, _, q => some q
  | f + 1, i, q => if h : i < q.length then (match lvK n q[i] M q with | none => none | some q' => lvGo M n f (i + 1) q') else some q
def levF (r : Int) (w : List Int) : List (List Int) × Bool :=
  if wordB r w = true ∧ (redF r w).1.length ≤ 6 then (match lvGo (movF r) (redF r w).1.length 60 0 [(redF r w).1] with | none => ([], false) | some q => (srt cK q, true)) else ([], false)
/-- What the queue keeps. -/
structure Que (r : Int) (n : Nat) (q : List (List Int)) : Prop where
  nd : q.Nodup
  len : q.length ≤ 60
  el : ∀ w ∈ q, w.length = n ∧ ∀ x ∈ w, letB r x = true
theorem Que.push {r : Int} {n : Nat} {q : List (List Int)} (h : Que r n q) {y : List Int} (hl : y.length = n) (hy : ∀ x ∈ y, letB r x = true) (hn : y ∉ q) (hq : ¬ 60 ≤ q.length) : Que r n (q ++ [y]) := by
  refine ⟨List.nodup_append.2 ⟨h.nd, by simp, fun a ha b hb => by rw [List.mem_singleton] at hb; subst hb; rintro rfl; exact hn ha⟩, by rw [List.length_append, List.length_singleton]; omega, fun w hw => ?_⟩
  rcases List.mem_append.1 hw with hw | hw
  · exact h.el w hw
  · rw [List.mem_singleton] at hw; subst hw; exact ⟨hl, hy⟩
/-- What a move is. -/
def okM (r : Int) (m : MoD) : Prop := m.2.length ≤ 3 ∧ I64 m.1 ∧ ∀ p ∈ m.2, p.length ≤ 3 ∧ ∀ x ∈ p, letB r x = true
theorem movF_ok {r : Int} (hr : inB r 1 3 = true) : ∀ m ∈ movF r, okM r m := by
  have hb := inB_iff.1 hr
  intro m hm
  rcases List.mem_append.1 hm with hm | hm
  · unfold relF at hm
    rw [if_pos hr] at hm
    obtain ⟨l, hl, rfl⟩ := List.mem_map.1 hm
    obtain ⟨h1, h2⟩ := rlL_each _ _ l hl
    refine ⟨by unfold relM; simp; omega, ⟨by show (-9223372036854775808 : Int) ≤ (r.toNat : Int); omega, by show (r.toNat : Int) ≤ 9223372036854775807; omega⟩, fun p hp => ?_⟩
    obtain ⟨x, hx, rfl⟩ := List.mem_map.1 hp
    refine ⟨by simp, fun y hy => ?_⟩
    rw [List.mem_singleton] at hy; subst hy
    have := lettersL_mem (h2 y hx)
    exact (letB_iff hr).2 (by omega)
  · obtain ⟨d, hd, rfl⟩ := List.mem_map.1 hm
    unfold whM
    rcases e : whB r d with _ | _
    · rw [if_neg (by decide)]
      exact ⟨by simp, by unfold I64; simp, by simp⟩
    · rw [if_pos rfl]
      have hw := whB_rank e
      exact ⟨by rw [whImgs_len]; omega, ⟨by show (-9223372036854775808 : Int) ≤ r; omega, by show r ≤ (9223372036854775807 : Int); omega⟩, fun p hp => ⟨whImgs_each d _ p hp, whImgs_mem hw.2 hr (by omega) p hp⟩⟩
theorem yF_let {r : Int} (hr : inB r 1 3 = true) {m : MoD} (hm : okM r m) (u : List Int) : ∀ x ∈ yF m u, letB r x = true := by
  intro x hx
  obtain ⟨b, hb, h⟩ := expL_mem (cycF_mem hx)
  rcases h with h | h
  · exact (hm.2.2 b hb).2 x h
  · exact letB_inv hr (hm.2.2 b hb).2 h
theorem yF_len {r : Int} {m : MoD} (hm : okM r m) (u : List Int) (hu : u.length ≤ 6) : (expL m.2 u).length ≤ 18 ∧ (yF m u).length ≤ 18 := by
  have h1 := expL_len (B := m.2) (M := 3) (fun b hb => (hm.2.2 b hb).1) u
  have h2 : (u.take 200).length ≤ 6 := by rw [List.length_take]; omega
  have h3 := Nat.mul_le_mul_right 3 h2
  have h4 := cycF_len (expL m.2 u)
  unfold yF
  omega
theorem let_small {r : Int} (hr : inB r 1 3 = true) {w : List Int} (h : ∀ x ∈ w, letB r x = true) : smallW w := fun x hx => by
  have hb := inB_iff.1 hr
  have := (letB_iff hr).1 (h x hx)
  omega
theorem allWh_len (r : Int) : (allWh r).length ≤ 1000 := by
  rcases e : inB r 1 3 with _ | _
  · have : allWh r = [] := by unfold allWh; rw [e]; rfl
    rw [this]; simp
  · obtain ⟨h1, h2⟩ := inB_iff.1 e
    have : r = 1 ∨ r = 2 ∨ r = 3 := by omega
    rcases this with rfl | rfl | rfl <;> decide
theorem relF_len (r : Int) : (relF r).length ≤ 1000 := by
  rcases e : inB r 1 3 with _ | _
  · have : relF r = [] := by unfold relF; rw [e]; rfl
    rw [this]; simp
  · obtain ⟨h1, h2⟩ := inB_iff.1 e
    have : r = 1 ∨ r = 2 ∨ r = 3 := by omega
    rcases this with rfl | rfl | rfl <;> decide
theorem redF_que {r : Int} {w : List Int} (h : wordB r w = true) (hl : (redF r w).1.length ≤ 6) : Que r (redF r w).1.length [(redF r w).1] := by
  have hg : ∀ n c l, goodF r c → goodF r (redGo r n c l).1 := by
    intro n
    induction n with
    | zero => intro c l h; exact h
    | succ n ih =>
      intro c l h
      unfold redGo
      split
      · exact h
      · rename_i d hd
        exact ih _ _ (goodF_next h hd)
  have hgd : goodF r (redF r w).1 := by
    unfold redF
    rw [if_pos h]
    exact hg _ _ _ (goodF_cyc h)
  exact ⟨by simp, by simp, fun u hu => by rw [List.mem_singleton] at hu; subst hu; exact ⟨rfl, hgd.2.1⟩⟩
end Go.Proofs.Ytnmkbkpegkchpaa
