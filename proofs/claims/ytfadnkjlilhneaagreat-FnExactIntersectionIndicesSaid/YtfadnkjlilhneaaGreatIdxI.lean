/- IndexIn of the reference and of the program: the index of one subgroup in another. CyclicGraph of the reference and of the program: the graph without its hair. A box that holds a graph whose row of edges lies apart: read, kept, written anew. Plain: the cyclic part of a subgroup's graph, and the index of one subgroup in another. Plain: trimming and putting in order keep the reduced loops; what CoreGraph makes is a core. Plain: one graph as a part of another (renumbered, trimmed, put in order), with the reduced loops that stay inside. -/
import Derived.Test.YtfadnkjlilhneaaGreatTwP
import Derived.Test.YtfadnkjlilhneaaGreatFoldP
import Derived.Test.YtfadnkjlilhneaaGreatMov
import Derived.Test.YtfadnkjlilhneaaGreatRankS
import Derived.Test.YtfadnkjlilhneaaGreatCoreI
import Derived.Test.YtfadnkjlilhneaaGreatInsI
namespace Go.Proofs.YtfadnkjlilhneaaGreat
set_option maxRecDepth 20000
set_option linter.unusedVariables false
set_option linter.unusedSimpArgs false
open Go.RowKit

theorem mt_iff {v x y : Int} {e : EdD} (hx : -3 ≤ x ∧ x ≤ 3) : mt v x e = some y ↔ (0 < x ∧ e.2.1 = x ∧ e.1 = v ∧ e.2.2 = y) ∨ (x < 0 ∧ e.2.1 = -x ∧ e.2.2 = v ∧ e.1 = y) := by
 have hw : wrap64 (-x) = -x := IntWalk.wrap64_in _ ⟨by omega, by omega⟩
 unfold mt
 rw [hw]
 constructor
 ·intro h
  split at h
  ·split at h
   ·rename_i p q; injection h with h; exact .inl ⟨p, q.1, q.2, h⟩
   ·cases h
  ·split at h
   ·split at h
    ·rename_i p q; injection h with h; exact .inr ⟨p, q.1, q.2, h⟩
    ·cases h
   ·cases h
 ·rintro (⟨p, q, r, s⟩ | ⟨p, q, r, s⟩)
  ·rw [if_pos p, if_pos ⟨q, r⟩, s]
  ·rw [if_neg (by omega), if_pos p, if_pos ⟨q, r⟩, s]
theorem next_iff {g : GrD} (hg : grB g = true) (hf : Fol g.2.2) {v x y : Int} (hx : -3 ≤ x ∧ x ≤ 3) (hy : 0 ≤ y) : nextV g.2.2 v x = y ↔ (0 < x ∧ (v, x, y) ∈ g.2.2) ∨ (x < 0 ∧ (y, -x, v) ∈ g.2.2) := by
 constructor
 ·intro h
  obtain ⟨e, he, hm⟩ := nextV_mem (by omega : 0 ≤ nextV g.2.2 v x)
  rw [h] at hm
  rcases (mt_iff hx).1 hm with ⟨p, q, r, s⟩ | ⟨p, q, r, s⟩
  ·left
   obtain ⟨a, l, b⟩ := e
   simp only at q r s
   subst q r s
   exact ⟨p, he⟩
  ·right
   obtain ⟨a, l, b⟩ := e
   simp only at q r s
   subst q r s
   exact ⟨p, he⟩
 ·rintro (⟨p, h⟩ | ⟨p, h⟩)
  ·exact nextV_of hf h ((mt_iff hx).2 (.inl ⟨p, rfl, rfl, rfl⟩))
  ·exact nextV_of hf h ((mt_iff hx).2 (.inr ⟨p, rfl, rfl, rfl⟩))
theorem next_letter {g : GrD} (hg : grB g = true) {v x : Int} (hx : -3 ≤ x ∧ x ≤ 3) (h : 0 ≤ nextV g.2.2 v x) : x ∈ lettersL g.1.toNat := by
 obtain ⟨e, he, hm⟩ := nextV_mem h
 have hl := (edge_of_gr hg he).2.1
 rw [letters_mem]
 rcases (mt_iff hx).1 hm with ⟨p, q, _⟩ | ⟨p, q, _⟩ <;> omega
def ov (o : List Int) (i : Int) : Int := o.getD i.toNat (-1)
theorem plv_get {o : List Int} (hd : o.Nodup) : ∀ (k : Nat) (hk : k < o.length), plv o o[k] = (k : Int) + 1 := by
 induction o with
 | nil => intro k hk; cases hk
 | cons u o ih =>
   rw [List.nodup_cons] at hd
   intro k hk
   cases k with
   | zero => simp [plv]
   | succ k =>
     have hk' : k < o.length := by simpa using hk
     have hne : u ≠ o[k] := fun e => hd.1 (e ▸ List.getElem_mem hk')
     have := ih hd.2 k hk'
     simp only [List.getElem_cons_succ]
     unfold plv
     rw [if_neg hne, if_neg (by omega), this]
     omega
theorem ov_get {o : List Int} {k : Nat} (hk : k < o.length) : ov o k = o[k] := by
 unfold ov
 rw [Int.toNat_natCast]
 simp [hk]
theorem plv_ov {o : List Int} (hd : o.Nodup) {i : Int} (h0 : 0 ≤ i) (h1 : i < o.length) : plv o (ov o i) = i + 1 := by
 obtain ⟨k, rfl⟩ : ∃ k : Nat, i = (k : Int) := ⟨i.toNat, by omega⟩
 rw [ov_get (by omega), plv_get hd k (by omega)]
theorem ov_mem {o : List Int} {i : Int} (h0 : 0 ≤ i) (h1 : i < o.length) : ov o i ∈ o := by
 obtain ⟨k, rfl⟩ : ∃ k : Nat, i = (k : Int) := ⟨i.toNat, by omega⟩
 rw [ov_get (by omega)]
 exact List.getElem_mem _
theorem ov_plv {o : List Int} (hd : o.Nodup) {v : Int} (h : v ∈ o) : ov o (plv o v - 1) = v := by
 obtain ⟨k, hk, rfl⟩ := List.getElem_of_mem h
 rw [plv_get hd k hk, show (k : Int) + 1 - 1 = k by omega, ov_get hk]
theorem plv_pos {o : List Int} {v : Int} (h : v ∈ o) : 0 < plv o v := by
 have := plv_range o v
 have h0 : plv o v ≠ 0 := fun e => plv_zero.1 e h
 omega
theorem rn_mem {g : GrD} {o : List Int} {e : EdD} : e ∈ (rnG g o).2.2 ↔ ∃ a ∈ g.2.2, rnE o a = some e := by
 show e ∈ srt cmpE (rnL g.2.2 o) ↔ _
 rw [(srt_spec cmpE_ord _).2]
 unfold rnL
 rw [List.mem_filterMap]
theorem rnE_iff {o : List Int} (hd : o.Nodup) {a e : EdD} (h1 : 0 ≤ e.1 ∧ e.1 < o.length) (h2 : 0 ≤ e.2.2 ∧ e.2.2 < o.length) : rnE o a = some e ↔ a = (ov o e.1, e.2.1, ov o e.2.2) := by
 unfold rnE
 constructor
 ·intro h
  split at h
  ·rename_i p
   injection h with h
   subst h
   simp only
   have m1 : a.1 ∈ o := Classical.byContradiction fun hn => by have := plv_zero.2 hn; omega
   have m2 : a.2.2 ∈ o := Classical.byContradiction fun hn => by have := plv_zero.2 hn; omega
   rw [ov_plv hd m1, ov_plv hd m2]
  ·cases h
 ·rintro rfl
  simp only
  rw [plv_ov hd h1.1 h1.2, plv_ov hd h2.1 h2.2, if_pos ⟨by omega, by omega⟩]
  congr 1
  obtain ⟨x, l, y⟩ := e
  simp only
  rw [show x + 1 - 1 = x by omega, show y + 1 - 1 = y by omega]
theorem rn_edge {g : GrD} {o : List Int} (hd : o.Nodup) {e : EdD} (h1 : 0 ≤ e.1 ∧ e.1 < o.length) (h2 : 0 ≤ e.2.2 ∧ e.2.2 < o.length) : e ∈ (rnG g o).2.2 ↔ (ov o e.1, e.2.1, ov o e.2.2) ∈ g.2.2 := by
 rw [rn_mem]
 constructor
 ·rintro ⟨a, ha, hr⟩
  rw [(rnE_iff hd h1 h2).1 hr] at ha
  exact ha
 ·intro h
  exact ⟨_, h, (rnE_iff hd h1 h2).2 rfl⟩
theorem rn_next {g : GrD} {o : List Int} (hf : foldB g = true) (ho : OrdN g.2.1 o) {i x : Int} (h0 : 0 ≤ i) (h1 : i < o.length) (hx : -3 ≤ x ∧ x ≤ 3) :
  nextV (rnG g o).2.2 i x = if 0 ≤ nextV g.2.2 (ov o i) x then plv o (nextV g.2.2 (ov o i) x) - 1 else -1 := by
 obtain ⟨hg, hfo⟩ := foldB_parts hf
 obtain ⟨hg', hfo'⟩ := foldB_parts (foldB_rnGN hf ho)
 have fwd : ∀ j : Int, 0 ≤ j → j < o.length → (nextV (rnG g o).2.2 i x = j ↔ nextV g.2.2 (ov o i) x = ov o j) := fun j j0 j1 => by
  have hoj := (ho.2.1 _ (ov_mem j0 j1)).1
  rw [next_iff hg' hfo' hx j0, next_iff hg hfo hx hoj, rn_edge ho.1 (e := (i, x, j)) ⟨h0, h1⟩ ⟨j0, j1⟩, rn_edge ho.1 (e := (j, -x, i)) ⟨j0, j1⟩ ⟨h0, h1⟩]
 by_cases hy : 0 ≤ nextV g.2.2 (ov o i) x
 ·rw [if_pos hy]
  by_cases hm : nextV g.2.2 (ov o i) x ∈ o
  ·have hp := plv_pos hm
   have hr := plv_range o (nextV g.2.2 (ov o i) x)
   exact (fwd _ (by omega) (by omega)).2 (ov_plv ho.1 hm).symm
  ·rw [plv_zero.2 hm]
   rcases nextV_range hg' i x with h | h
   ·rw [h]; rfl
   ·have := (fwd _ h.1 h.2).1 rfl
    rw [this] at hm
    exact absurd (ov_mem h.1 h.2) hm
 ·rw [if_neg hy]
  rcases nextV_range hg' i x with h | h
  ·exact h
  ·have := (fwd _ h.1 h.2).1 rfl
   have h2 := (ho.2.1 _ (ov_mem h.1 h.2)).1
   omega
theorem conn_next {es : List EdD} {u v x : Int} (hx : -3 ≤ x ∧ x ≤ 3) (h : Conn es u v) (hn : 0 ≤ nextV es v x) : Conn es u (nextV es v x) := by
 obtain ⟨e, he, hm⟩ := nextV_mem hn
 rcases (mt_iff hx).1 hm with ⟨_, _, r, s⟩ | ⟨_, _, r, s⟩
 ·rw [← s]; exact .fwd e he (r ▸ h)
 ·rw [← s]; exact .back e he (r ▸ h)
structure Sub (x g : GrD) (s : Int → Int) : Prop where
 rk : x.1 = g.1
 rng : ∀ i, 0 ≤ i → i < x.2.1 → 0 ≤ s i ∧ s i < g.2.1
 cn : Conn g.2.2 0 (s 0)
 fw : ∀ i l, 0 ≤ i → i < x.2.1 → -3 ≤ l ∧ l ≤ 3 → 0 ≤ nextV x.2.2 i l → nextV g.2.2 (s i) l = s (nextV x.2.2 i l)
 lp : ∀ i w, 0 ≤ i → i < x.2.1 → Conn x.2.2 0 i → (∀ l ∈ w, -3 ≤ l ∧ l ≤ 3) → NoB w → walkF g.2.2 (s i) w = s i → walkF x.2.2 i w = i
theorem Sub.walk {x g : GrD} {s : Int → Int} (h : Sub x g s) (hx : grB x = true) : ∀ (w : List Int) (i : Int), 0 ≤ i → i < x.2.1 → (∀ l ∈ w, -3 ≤ l ∧ l ≤ 3) → 0 ≤ walkF x.2.2 i w → walkF g.2.2 (s i) w = s (walkF x.2.2 i w)
 | [], _, _, _, _, _ => rfl
 | l :: w, i, h0, h1, hl, hw => by
   rw [walkF_cons] at hw ⊢
   split at hw
   ·exact absurd hw (by decide)
   ·rename_i hn
    have hl0 := hl l (by simp)
    have hf := h.fw i l h0 h1 hl0 (by omega)
    rcases nextV_range hx i l with e | ⟨e1, e2⟩
    ·omega
    ·have hr := h.rng _ e1 e2
     rw [hf, if_neg (by omega)]
     conv => rhs; rw [walkF_cons, if_neg hn]
     exact h.walk hx w _ e1 e2 (fun l hl' => hl l (by simp [hl'])) hw
theorem Sub.conn {x g : GrD} {s : Int → Int} (h : Sub x g s) (hx : grB x = true) (hfx : Fol x.2.2) (hg : grB g = true) {i : Int} (hc : Conn x.2.2 0 i) : (0 ≤ i ∧ i < x.2.1) ∧ Conn g.2.2 0 (s i) := by
 have hs := (grB_parts hx).2.1
 have key : ∀ e ∈ x.2.2, (Conn g.2.2 0 (s e.1) ↔ Conn g.2.2 0 (s e.2.2)) := fun e he => by
  have hr := edge_of_gr hx he
  have h3 := (grB_parts hx).1
  have hl : -3 ≤ e.2.1 ∧ e.2.1 ≤ 3 := by omega
  have n1 := nextV_out hx hfx he
  have n2 := nextV_in hx hfx he
  have f1 := h.fw e.1 e.2.1 hr.1.1 hr.1.2 hl (by rw [n1]; exact hr.2.2.1)
  have f2 := h.fw e.2.2 (-e.2.1) hr.2.2.1 hr.2.2.2 (by omega) (by rw [n2]; exact hr.1.1)
  rw [n1] at f1
  rw [n2] at f2
  constructor
  ·intro c
   have := conn_next hl c (by rw [f1]; exact (h.rng _ hr.2.2.1 hr.2.2.2).1)
   rwa [f1] at this
  ·intro c
   have := conn_next (x := -e.2.1) (by omega) c (by rw [f2]; exact (h.rng _ hr.1.1 hr.1.2).1)
   rwa [f2] at this
 refine conn_of_closed (S := fun i => (0 ≤ i ∧ i < x.2.1) ∧ Conn g.2.2 0 (s i)) ⟨by omega, h.cn⟩ (fun e he => ?_) hc
 have hr := edge_of_gr hx he
 have := key e he
 constructor
 ·rintro ⟨_, c⟩; exact ⟨hr.2.2, this.1 c⟩
 ·rintro ⟨_, c⟩; exact ⟨hr.1, this.2 c⟩
theorem Sub.refl {g : GrD} : Sub g g id where
 rk := rfl
 rng := fun _ h0 h1 => ⟨h0, h1⟩
 cn := .base
 fw := fun _ _ _ _ _ _ => rfl
 lp := fun _ _ _ _ _ _ _ h => h
theorem Sub.trans {x y g : GrD} {s t : Int → Int} (h : Sub x y s) (k : Sub y g t) (hx : grB x = true) (hfx : Fol x.2.2) (hy : grB y = true) (hfy : Fol y.2.2) (hg : grB g = true) : Sub x g (fun i => t (s i)) where
 rk := h.rk.trans k.rk
 rng := fun i h0 h1 => by have := h.rng i h0 h1; exact k.rng _ this.1 this.2
 cn := (k.conn hy hfy hg h.cn).2
 fw := fun i l h0 h1 hl hn => by
  have hr := h.rng i h0 h1
  have f := h.fw i l h0 h1 hl hn
  rw [← f]
  refine k.fw _ l hr.1 hr.2 hl ?_
  rw [f]
  rcases nextV_range hx i l with e | ⟨e1, e2⟩
  ·omega
  ·exact (h.rng _ e1 e2).1
 lp := fun i w h0 h1 hc hl hn hw => by
  have hr := h.rng i h0 h1
  exact h.lp i w h0 h1 hc hl hn (k.lp (s i) w hr.1 hr.2 (h.conn hx hfx hy hc).2 hl hn hw)
theorem NoB.tail {a : Int} {l : List Int} (h : NoB (a :: l)) : NoB l := by
 cases l with
 | nil => trivial
 | cons b l => exact h.2
theorem Sub.rn {g : GrD} {o : List Int} (hf : foldB g = true) (ho : OrdN g.2.1 o) (h0 : Conn g.2.2 0 (ov o 0))
  (H : ∀ v ∈ o, Conn g.2.2 0 v → ∀ l w, -3 ≤ l ∧ l ≤ 3 → (∀ x ∈ w, -3 ≤ x ∧ x ≤ 3) → NoB (l :: w) → 0 ≤ nextV g.2.2 v l → nextV g.2.2 v l ∉ o → walkF g.2.2 (nextV g.2.2 v l) w ∉ o) : Sub (rnG g o) g (ov o) := by
 obtain ⟨hg, hfo⟩ := foldB_parts hf
 obtain ⟨hg', hfo'⟩ := foldB_parts (foldB_rnGN hf ho)
 have rngs : ∀ i, 0 ≤ i → i < (rnG g o).2.1 → 0 ≤ ov o i ∧ ov o i < g.2.1 := fun i a b => ho.2.1 _ (ov_mem a b)
 have fws : ∀ i l, 0 ≤ i → i < (rnG g o).2.1 → -3 ≤ l ∧ l ≤ 3 → 0 ≤ nextV (rnG g o).2.2 i l → nextV g.2.2 (ov o i) l = ov o (nextV (rnG g o).2.2 i l) := fun i l a b hl hn => by
  have e := rn_next hf ho a b hl
  split at e
  ·rename_i hp
   rw [e] at hn ⊢
   refine (ov_plv ho.1 (Classical.byContradiction fun hm => ?_)).symm
   have := plv_zero.2 hm
   omega
  ·omega
 have walks : ∀ (w : List Int) (v : Int), v ∈ o → Conn g.2.2 0 v → (∀ l ∈ w, -3 ≤ l ∧ l ≤ 3) → NoB w → walkF g.2.2 v w ∈ o → walkF (rnG g o).2.2 (plv o v - 1) w = plv o (walkF g.2.2 v w) - 1 := by
  intro w
  induction w with
  | nil => intro v _ _ _ _ _; rfl
  | cons l w ih =>
    intro v hv hc hl hn hw
    have hl0 := hl l (by simp)
    have hlw : ∀ x ∈ w, -3 ≤ x ∧ x ≤ 3 := fun x hx => hl x (by simp [hx])
    rw [walkF_cons] at hw
    split at hw
    ·have := (ho.2.1 _ hw).1; omega
    ·rename_i hnn
     have hm : nextV g.2.2 v l ∈ o := Classical.byContradiction fun hm => H v hv hc l w hl0 hlw hn (by omega) hm hw
     have hp := plv_pos hv
     have hr := plv_range o v
     have hp2 := plv_pos hm
     have e := rn_next hf ho (i := plv o v - 1) (x := l) (by omega) (by omega) hl0
     rw [ov_plv ho.1 hv, if_pos (by omega)] at e
     rw [walkF_cons, walkF_cons, e, if_neg (by omega), if_neg hnn]
     exact ih _ hm (conn_next hl0 hc (by omega)) hlw hn.tail hw
 exact ⟨rfl, rngs, h0, fws, fun i w a b hc hl hn hw => by
  have hci : Conn g.2.2 0 (ov o i) := by
   have key : ∀ e ∈ (rnG g o).2.2, (Conn g.2.2 0 (ov o e.1) ↔ Conn g.2.2 0 (ov o e.2.2)) := fun e he => by
    have hr := edge_of_gr hg' he
    have h3 := (grB_parts hg').1
    have hl : -3 ≤ e.2.1 ∧ e.2.1 ≤ 3 := by omega
    have n1 := nextV_out hg' hfo' he
    have n2 := nextV_in hg' hfo' he
    have f1 := fws e.1 e.2.1 hr.1.1 hr.1.2 hl (by rw [n1]; exact hr.2.2.1)
    have f2 := fws e.2.2 (-e.2.1) hr.2.2.1 hr.2.2.2 (by omega) (by rw [n2]; exact hr.1.1)
    rw [n1] at f1
    rw [n2] at f2
    constructor
    ·intro c
     have := conn_next hl c (by rw [f1]; exact (rngs _ hr.2.2.1 hr.2.2.2).1)
     rwa [f1] at this
    ·intro c
     have := conn_next (x := -e.2.1) (by omega) c (by rw [f2]; exact (rngs _ hr.1.1 hr.1.2).1)
     rwa [f2] at this
   exact conn_of_closed (S := fun i => Conn g.2.2 0 (ov o i)) h0 key hc
  have hmi := ov_mem a b
  have := walks w (ov o i) hmi hci hl hn (by rw [hw]; exact hmi)
  rw [hw, plv_ov ho.1 a b] at this
  rw [show i + 1 - 1 = i by omega] at this
  exact this⟩
theorem degE_pos {v x y : Int} {e : EdD} (hx : -3 ≤ x ∧ x ≤ 3) (h : mt v x e = some y) : 1 ≤ degE v e := by
 unfold degE
 rcases (mt_iff hx).1 h with ⟨_, _, r, _⟩ | ⟨_, _, r, _⟩
 ·rw [if_pos r]; omega
 ·rw [if_pos r]; omega
theorem degL_cons (e : EdD) (es : List EdD) (v : Int) : degL (e :: es) v = degE v e + degL es v := by simp [degL]
theorem degL_mem {v : Int} {e : EdD} : ∀ {es : List EdD}, e ∈ es → degE v e ≤ degL es v
 | a :: es, h => by
   rw [degL_cons]
   rcases List.mem_cons.1 h with rfl | h
   ·omega
   ·have := degL_mem (v := v) h; omega
theorem degL_two {v : Int} {e1 e2 : EdD} (hne : e1 ≠ e2) : ∀ {es : List EdD}, e1 ∈ es → e2 ∈ es → degE v e1 + degE v e2 ≤ degL es v
 | a :: es, h1, h2 => by
   rw [degL_cons]
   rcases List.mem_cons.1 h1 with r1 | h1
   ·rcases List.mem_cons.1 h2 with r2 | h2
    ·exact absurd (r1.trans r2.symm) hne
    ·have := degL_mem (v := v) h2
     rw [r1]; omega
   ·rcases List.mem_cons.1 h2 with r2 | h2
    ·have := degL_mem (v := v) h1
     rw [r2]; omega
    ·have := degL_two (v := v) hne h1 h2; omega
theorem deg_uniq {es : List EdD} {v l m : Int} (hl : -3 ≤ l ∧ l ≤ 3) (hm : -3 ≤ m ∧ m ≤ 3) (hd : degL es v ≤ 1) (h1 : 0 ≤ nextV es v l) (h2 : 0 ≤ nextV es v m) : l = m := by
 obtain ⟨e1, he1, m1⟩ := nextV_mem h1
 obtain ⟨e2, he2, m2⟩ := nextV_mem h2
 have p1 := degE_pos hl m1
 have p2 := degE_pos hm m2
 by_cases he : e1 = e2
 ·subst he
  have hd1 := degL_mem (v := v) he1
  unfold degE at hd1
  rcases (mt_iff hl).1 m1 with ⟨a1, a2, a3, a4⟩ | ⟨a1, a2, a3, a4⟩ <;> rcases (mt_iff hm).1 m2 with ⟨b1, b2, b3, b4⟩ | ⟨b1, b2, b3, b4⟩
  ·omega
  ·rw [if_pos a3, if_pos b3] at hd1; omega
  ·rw [if_pos a3, if_pos b3] at hd1; omega
  ·omega
 ·have := degL_two (v := v) he he1 he2
  omega
theorem leafFrom_leaf (es : List EdD) (n : Nat) : ∀ f v : Nat, 0 ≤ leafFrom es n f v → leafB es (leafFrom es n f v).toNat = true
 | 0, v, h => by unfold leafFrom at h; exact absurd h (by decide)
 | f + 1, v, h => by
   unfold leafFrom at h ⊢
   split
   ·rename_i hv
    rw [if_pos hv] at h
    split
    ·rename_i hb; simpa using hb
    ·rename_i hb
     rw [if_neg hb] at h
     exact leafFrom_leaf es n f (v + 1) h
   ·rename_i hv
    rw [if_neg hv] at h
    exact absurd h (by decide)
theorem Sub.leaf {g : GrD} (hf : foldB g = true) (hl : 0 ≤ leafV g.2.2 g.2.1.toNat) : Sub (rnG g (delO g.2.1.toNat (leafV g.2.2 g.2.1.toNat))) g (ov (delO g.2.1.toNat (leafV g.2.2 g.2.1.toNat))) ∧ ov (delO g.2.1.toNat (leafV g.2.2 g.2.1.toNat)) 0 = 0 := by
 obtain ⟨hg, hfo⟩ := foldB_parts hf
 have hsz := (grB_parts hg).2.1
 have hr := leafV_range g.2.2 g.2.1.toNat
 have hlf := leafFrom_leaf g.2.2 g.2.1.toNat _ _ hl
 change leafB g.2.2 (leafV g.2.2 g.2.1.toNat).toNat = true at hlf
 generalize leafV g.2.2 g.2.1.toNat = u at *
 have hok := delO_ok (n := g.2.1.toNat) (x := u) (by omega) (by omega)
 rw [show ((g.2.1.toNat : Nat) : Int) = g.2.1 by omega] at hok
 have hz : ov (delO g.2.1.toNat u) 0 = 0 := by
  have := hok.2.2
  unfold ov
  simp [List.getD, this]
 refine ⟨Sub.rn hf hok.toN (by rw [hz]; exact .base) ?_, hz⟩
 intro v hv hc l w hll hlw hn h0 hm
 have hyu : nextV g.2.2 v l = u := Classical.byContradiction fun hne => by
  rcases nextV_range hg v l with e | ⟨e1, e2⟩
  ·omega
  ·exact hm (delO_mem.2 ⟨⟨e1, by omega⟩, hne⟩)
 have hcu := conn_next hll hc h0
 rw [hyu] at hcu hm ⊢
 have hd : degL g.2.2 u < 2 := by
  unfold leafB at hlf
  rw [show ((u.toNat : Nat) : Int) = u by omega, Bool.or_eq_true, decide_eq_true_eq] at hlf
  rcases hlf with h | h
  ·exact h
  ·rw [hasB_iff.2 ((reachL_mem _ _ _).2 hcu)] at h
   cases h
 cases w with
 | nil => exact hm
 | cons m w =>
   have hml := hlw m (by simp)
   rw [walkF_cons]
   by_cases hnm : nextV g.2.2 u m < 0
   ·rw [if_pos hnm]
    intro q
    have := (delO_mem.1 q).1
    omega
   ·have hb := nextV_back hg hfo hll h0
    rw [hyu] at hb
    have hv0 := (hok.2.1 v hv).1
    have := deg_uniq hml (m := -l) (by omega) (by omega : degL g.2.2 u ≤ 1) (by omega) (by rw [hb]; exact hv0)
    exact absurd this hn.1
theorem Sub.trimF : ∀ (f : Nat) (g : GrD) (l : List Int), foldB g = true → ∃ s, Sub (trimF f g l).1 g s ∧ s 0 = 0
 | 0, g, l, _ => ⟨id, Sub.refl, rfl⟩
 | f + 1, g, l, hf => by
   unfold Go.Proofs.YtfadnkjlilhneaaGreat.trimF
   split
   ·exact ⟨id, Sub.refl, rfl⟩
   ·rename_i hn
    obtain ⟨hg, hfo⟩ := foldB_parts hf
    obtain ⟨s1, z1⟩ := Sub.leaf hf (by omega)
    have hsz := (grB_parts hg).2.1
    have hr := leafV_range g.2.2 g.2.1.toNat
    have hok := delO_ok (n := g.2.1.toNat) (x := leafV g.2.2 g.2.1.toNat) (by omega) (by omega)
    rw [show ((g.2.1.toNat : Nat) : Int) = g.2.1 by omega] at hok
    have hf2 := foldB_rnG hf hok
    obtain ⟨s, hs, hz⟩ := Sub.trimF f _ (l.take (leafV g.2.2 g.2.1.toNat).toNat ++ l.drop ((leafV g.2.2 g.2.1.toNat).toNat + 1)) hf2
    obtain ⟨ga, fa⟩ := foldB_parts hf2
    obtain ⟨gb, fb⟩ := foldB_parts (trimF_fold f _ (l.take (leafV g.2.2 g.2.1.toNat).toNat ++ l.drop ((leafV g.2.2 g.2.1.toNat).toNat + 1)) hf2)
    exact ⟨_, hs.trans s1 gb fb ga fa hg, by rw [hz, z1]⟩
theorem leafV_one (es : List EdD) : leafV es 1 = -1 := rfl
theorem trimF_noleaf : ∀ (f : Nat) (g : GrD) (l : List Int), foldB g = true → g.2.1 ≤ f + 1 → leafV (Go.Proofs.YtfadnkjlilhneaaGreat.trimF f g l).1.2.2 (Go.Proofs.YtfadnkjlilhneaaGreat.trimF f g l).1.2.1.toNat < 0
 | 0, g, l, hf, h => by
   have hsz := (grB_parts (foldB_parts hf).1).2.1
   have e : g.2.1.toNat = 1 := by omega
   show leafV g.2.2 g.2.1.toNat < 0
   rw [e, leafV_one]; decide
 | f + 1, g, l, hf, h => by
   unfold Go.Proofs.YtfadnkjlilhneaaGreat.trimF
   split
   ·rename_i hn; exact hn
   ·rename_i hn
    have hsz := (grB_parts (foldB_parts hf).1).2.1
    have hr := leafV_range g.2.2 g.2.1.toNat
    have hok := delO_ok (n := g.2.1.toNat) (x := leafV g.2.2 g.2.1.toNat) (by omega) (by omega)
    rw [show ((g.2.1.toNat : Nat) : Int) = g.2.1 by omega] at hok
    refine trimF_noleaf f _ _ (foldB_rnG hf hok) ?_
    rw [rnG_size, delO_len2, if_pos (by omega)]
    omega
theorem trimG_noleaf {g : GrD} (hf : foldB g = true) : leafV (trimG g).1.2.2 (trimG g).1.2.1.toNat < 0 := by
 have hsz := (grB_parts (foldB_parts hf).1).2.1
 exact trimF_noleaf _ _ _ hf (by omega)
theorem cstep_sub (es : List EdD) (u : Int) (o : List Int) (x : Int) {y : Int} (h : y ∈ o) : y ∈ cstep es u o x := by
 unfold cstep
 split
 ·split
  ·exact h
  ·exact List.mem_append.2 (.inl h)
 ·exact h
theorem cfold_sub (es : List EdD) (u : Int) : ∀ (ls : List Int) (o : List Int) {y : Int}, y ∈ o → y ∈ ls.foldl (cstep es u) o
 | [], _, _, h => h
 | x :: ls, o, _, h => cfold_sub es u ls _ (cstep_sub es u o x h)
theorem cfold_has (es : List EdD) (u : Int) : ∀ (ls : List Int) (o : List Int) (x : Int), x ∈ ls → 0 ≤ nextV es u x → nextV es u x ∈ ls.foldl (cstep es u) o
 | a :: ls, o, x, hx, h => by
   rw [List.foldl_cons]
   rcases List.mem_cons.1 hx with rfl | hx
   ·refine cfold_sub es u ls _ ?_
    unfold cstep
    rw [if_pos h]
    split
    ·rename_i hb; exact hasB_iff.1 hb
    ·exact List.mem_append.2 (.inr (by simp))
   ·exact cfold_has es u ls _ x hx h
theorem canF_closed {g : GrD} (hg : grB g = true) (ls : List Int) : ∀ (f i : Nat) (o : List Int), OrdOk g.2.1 o → 41 ≤ f + i →
  (∀ (j : Nat) (v : Int), j < i → o[j]? = some v → ∀ x ∈ ls, 0 ≤ nextV g.2.2 v x → nextV g.2.2 v x ∈ o) →
  ∀ v ∈ canF g.2.2 ls f i o, ∀ x ∈ ls, 0 ≤ nextV g.2.2 v x → nextV g.2.2 v x ∈ canF g.2.2 ls f i o
 | 0, i, o, hok, hi, hc => by
   have hl := hok.len (grB_parts hg).2.1.2 (by have := (grB_parts hg).2.1.1; omega)
   intro v hv x hx h0
   obtain ⟨j, hj, rfl⟩ := List.getElem_of_mem hv
   exact hc j _ (by have : (canF g.2.2 ls 0 i o).length = o.length := rfl; omega) (List.getElem?_eq_getElem hj) x hx h0
 | f + 1, i, o, hok, hi, hc => by
   have hl := hok.len (grB_parts hg).2.1.2 (by have := (grB_parts hg).2.1.1; omega)
   by_cases hil : i < o.length
   ·rw [canF_step _ _ _ _ _ hil]
    refine canF_closed hg ls f (i + 1) _ (cfold_ok hg ls hok) (by omega) ?_
    intro j v hj hv x hx h0
    by_cases hji : j < i
    ·have hjo : j < o.length := by omega
     have e := cfold_prefix g.2.2 o[i] ls o j _ (List.getElem?_eq_getElem hjo)
     rw [hv] at e
     injection e with e
     subst e
     exact cfold_sub _ _ _ _ (hc j _ hji (List.getElem?_eq_getElem hjo) x hx h0)
    ·obtain rfl : j = i := by omega
     have e := cfold_prefix g.2.2 o[j] ls o j _ (List.getElem?_eq_getElem hil)
     rw [hv] at e
     injection e with e
     subst e
     exact cfold_has _ _ _ _ _ hx h0
   ·have e : canF g.2.2 ls (f + 1) i o = o := by
     rw [canF, List.getElem?_eq_none (by omega)]
    rw [e]
    intro v hv x hx h0
    obtain ⟨j, hj, rfl⟩ := List.getElem_of_mem hv
    exact hc j _ (by omega) (List.getElem?_eq_getElem hj) x hx h0
theorem canO_closed {g : GrD} (hg : grB g = true) {v x : Int} (hv : v ∈ canO g) (hx : -3 ≤ x ∧ x ≤ 3) (h0 : 0 ≤ nextV g.2.2 v x) : nextV g.2.2 v x ∈ canO g :=
 canF_closed hg _ 41 0 [0] (OrdOk.one (grB_parts hg).2.1.1) (by omega) (fun j _ hj => by omega) v hv x (next_letter hg hx h0) h0
theorem ov_zero {n : Int} {o : List Int} (h : OrdOk n o) : ov o 0 = 0 := by
 have := h.2.2
 unfold ov
 simp [List.getD, this]
theorem Sub.can {g : GrD} (hf : foldB g = true) : Sub (canG g) g (ov (canO g)) := by
 obtain ⟨hg, hfo⟩ := foldB_parts hf
 have hok := canO_ok hg
 refine Sub.rn hf hok.toN (by rw [ov_zero hok]; exact .base) ?_
 intro v hv hc l w hl hlw hn h0 hm
 exact absurd (canO_closed hg hv hl h0) hm
theorem foL_of_fol {es : List EdD} (h : Fol es) : foL es = [] := by
 cases e : foL es with
 | nil => rfl
 | cons f l =>
   obtain ⟨i, k, hi, hk, hf⟩ := foL_from (show f ∈ foL es by rw [e]; simp)
   have hc := List.pairwise_iff_getElem.1 h i k (by omega) hk hi
   unfold clash at hc
   unfold fo2 at hf
   rw [Bool.eq_false_iff] at hc
   rcases List.mem_append.1 hf with hf | hf
   ·split at hf
    ·rename_i q
     exact absurd (by simp [q.1, q.2]) hc
    ·cases hf
   ·split at hf
    ·rename_i q
     exact absurd (by simp [q.1, q.2]) hc
    ·cases hf
theorem folA_fol {g : GrD} (hf : foldB g = true) : folA g = g := folF_nil (foL_of_fol (foldB_parts hf).2) _
theorem foldB_canG {g : GrD} (hf : foldB g = true) : foldB (canG g) = true := foldB_rnG hf (canO_ok (foldB_parts hf).1)
theorem Sub.core {g : GrD} (hf : foldB g = true) : ∃ s, Sub (coreG g) g s ∧ s 0 = 0 := by
 obtain ⟨hg, hfo⟩ := foldB_parts hf
 unfold coreG
 rw [folA_fol hf]
 obtain ⟨s, hs, hz⟩ := Sub.trimF g.2.1.toNat g ((List.range g.2.1.toNat).map fun v => ((v : Nat) : Int)) hf
 have ht := trimG_fold hf
 obtain ⟨ga, fa⟩ := foldB_parts ht
 obtain ⟨gb, fb⟩ := foldB_parts (foldB_canG ht)
 exact ⟨_, (Sub.can ht).trans hs gb fb ga fa hg, by rw [ov_zero (canO_ok ga), hz]⟩
theorem canF_map {g h : GrD} {o : List Int} {f : Int → Int} {ls : List Int} (hinj : ∀ u ∈ o, ∀ v ∈ o, f u = f v → u = v)
  (hst : ∀ u ∈ o, ∀ x ∈ ls, (0 ≤ nextV g.2.2 u x → nextV g.2.2 u x ∈ o ∧ nextV h.2.2 (f u) x = f (nextV g.2.2 u x) ∧ 0 ≤ f (nextV g.2.2 u x)) ∧ (nextV g.2.2 u x < 0 → nextV h.2.2 (f u) x < 0)) :
  ∀ (n i : Nat) (o1 : List Int), (∀ y ∈ o1, y ∈ o) → canF h.2.2 ls n i (o1.map f) = (canF g.2.2 ls n i o1).map f := by
 have hhas : ∀ (o1 : List Int) (y : Int), (∀ z ∈ o1, z ∈ o) → y ∈ o → hasB (o1.map f) (f y) = hasB o1 y := fun o1 y ho hy => by
  rw [Bool.eq_iff_iff, hasB_iff, hasB_iff, List.mem_map]
  constructor
  ·rintro ⟨z, hz, e⟩
   rw [← hinj z (ho z hz) y hy e]
   exact hz
  ·intro h; exact ⟨y, h, rfl⟩
 have step : ∀ (o1 : List Int) (u x : Int), (∀ z ∈ o1, z ∈ o) → u ∈ o → x ∈ ls → cstep h.2.2 (f u) (o1.map f) x = (cstep g.2.2 u o1 x).map f ∧ ∀ z ∈ cstep g.2.2 u o1 x, z ∈ o := fun o1 u x ho hu hx => by
  have hs := hst u hu x hx
  unfold cstep
  by_cases h0 : 0 ≤ nextV g.2.2 u x
  ·obtain ⟨a, b, c⟩ := hs.1 h0
   rw [if_pos h0, b, if_pos c, hhas o1 _ ho a]
   by_cases hb : hasB o1 (nextV g.2.2 u x) = true
   ·rw [if_pos hb, if_pos hb]; exact ⟨rfl, ho⟩
   ·rw [if_neg hb, if_neg hb]
    refine ⟨by simp, fun z hz => ?_⟩
    rcases List.mem_append.1 hz with hz | hz
    ·exact ho z hz
    ·rw [List.mem_singleton.1 hz]; exact a
  ·have := hs.2 (by omega)
   rw [if_neg h0, if_neg (by omega)]
   exact ⟨rfl, ho⟩
 have fold : ∀ (l2 : List Int) (o1 : List Int) (u : Int), (∀ x ∈ l2, x ∈ ls) → (∀ z ∈ o1, z ∈ o) → u ∈ o → l2.foldl (cstep h.2.2 (f u)) (o1.map f) = (l2.foldl (cstep g.2.2 u) o1).map f ∧ ∀ z ∈ l2.foldl (cstep g.2.2 u) o1, z ∈ o := by
  intro l2
  induction l2 with
  | nil => intro o1 u _ ho _; exact ⟨rfl, ho⟩
  | cons x l2 ih =>
    intro o1 u hl ho hu
    have := step o1 u x ho hu (hl x (by simp))
    rw [List.foldl_cons, List.foldl_cons, this.1]
    exact ih _ u (fun y hy => hl y (by simp [hy])) this.2 hu
 intro n
 induction n with
 | zero => intro i o1 _; rfl
 | succ n ih =>
   intro i o1 ho
   rw [canF, canF, List.getElem?_map]
   cases hi : o1[i]? with
   | none => rfl
   | some u =>
     simp only [Option.map_some]
     have := fold ls o1 u (fun _ h => h) ho (ho u (List.mem_of_getElem? hi))
     rw [this.1]
     exact ih _ _ this.2
theorem rng_get {n k : Nat} (h : k < (rng n).length) : (rng n)[k] = (k : Int) := by simp [rng]
theorem rng_nodup (n : Nat) : (rng n).Nodup := by
 unfold rng List.Nodup
 rw [List.pairwise_map]
 exact (List.nodup_range (n := n)).imp fun hab e => hab (by omega)
theorem plv_rng {n : Nat} {v : Int} (h : 0 ≤ v ∧ v < n) : plv (rng n) v = v + 1 := by
 obtain ⟨k, rfl⟩ : ∃ k : Nat, v = (k : Int) := ⟨v.toNat, by omega⟩
 have hk : k < (rng n).length := by rw [rng_len]; omega
 have := plv_get (rng_nodup n) k hk
 rwa [rng_get hk] at this
theorem rnG_rng {g : GrD} (hg : grB g = true) : rnG g (rng g.2.1.toNat) = g := by
 have hs := (grB_parts hg).2.1
 have hL : rnL g.2.2 (rng g.2.1.toNat) = g.2.2 := by
  unfold rnL
  have : ∀ e ∈ g.2.2, rnE (rng g.2.1.toNat) e = some e := fun e he => by
   have hr := edge_of_gr hg he
   unfold rnE
   rw [plv_rng ⟨hr.1.1, by omega⟩, plv_rng ⟨hr.2.2.1, by omega⟩, if_pos ⟨by omega, by omega⟩]
   obtain ⟨a, l, b⟩ := e
   simp only
   rw [show a + 1 - 1 = a by omega, show b + 1 - 1 = b by omega]
  generalize g.2.2 = es at *
  induction es with
  | nil => rfl
  | cons e es ih =>
    rw [List.filterMap_cons, this e (by simp)]
    simp only
    rw [ih fun a ha => this a (by simp [ha])]
 unfold rnG
 rw [hL, ← srt_eq cmpE_ord (gr_srt hg) (fun _ => Iff.rfl), rng_len]
 obtain ⟨a, b, c⟩ := g
 simp only at hs ⊢
 rw [show ((b.toNat : Nat) : Int) = b by omega]
theorem coreB_can {h : GrD} (hf : foldB h = true) (hl : leafV h.2.2 h.2.1.toNat < 0) : coreB (canG h) = true := by
 obtain ⟨hg, hfo⟩ := foldB_parts hf
 have hf' := foldB_canG hf
 obtain ⟨hg', hfo'⟩ := foldB_parts hf'
 have hok := canO_ok hg
 have hsz := (grB_parts hg).2.1
 have hsz' := (grB_parts hg').2.1
 have next : ∀ u ∈ canO h, ∀ x, -3 ≤ x ∧ x ≤ 3 → (0 ≤ nextV h.2.2 u x → nextV h.2.2 u x ∈ canO h ∧ nextV (canG h).2.2 (plv (canO h) u - 1) x = plv (canO h) (nextV h.2.2 u x) - 1 ∧ 0 ≤ plv (canO h) (nextV h.2.2 u x) - 1) ∧ (nextV h.2.2 u x < 0 → nextV (canG h).2.2 (plv (canO h) u - 1) x < 0) := fun u hu x hx => by
  have hp := plv_pos hu
  have hr := plv_range (canO h) u
  have e := rn_next hf hok.toN (i := plv (canO h) u - 1) (x := x) (by omega) (by omega) hx
  rw [ov_plv hok.1 hu] at e
  constructor
  ·intro h0
   have hm := canO_closed hg hu hx h0
   have := plv_pos hm
   rw [if_pos h0] at e
   exact ⟨hm, e, by omega⟩
  ·intro h0
   rw [if_neg (by omega)] at e
   show nextV (rnG h (canO h)).2.2 _ x < 0
   omega
 have hcan : canO (canG h) = rng (canO h).length := by
  have hm := canF_map (g := h) (h := canG h) (o := canO h) (f := fun u => plv (canO h) u - 1) (ls := lettersL h.1.toNat) (fun u hu v hv e => by
   have := plv_pos hu
   exact plv_inj (o := canO h) (by have e' : plv (canO h) u - 1 = plv (canO h) v - 1 := e; omega) (by omega)) (fun u hu x hx => next u hu x (let3 hg hx)) 41 0 [0] (fun y hy => by
   rw [List.mem_singleton.1 hy]; exact List.mem_of_getElem? hok.2.2)
  have e0 : plv (canO h) 0 - 1 = 0 := by
   have h0 : 0 < (canO h).length := (List.getElem?_eq_some_iff.1 hok.2.2).1
   have := plv_get hok.1 0 h0
   have h1 := (List.getElem?_eq_some_iff.1 hok.2.2).2
   rw [h1] at this
   omega
  simp only [List.map_cons, List.map_nil, e0] at hm
  show canF (canG h).2.2 (lettersL h.1.toNat) 41 0 [0] = _
  rw [hm]
  show (canO h).map (fun u => plv (canO h) u - 1) = _
  apply List.ext_getElem
  ·rw [List.length_map, rng_len]
  ·intro k h1 h2
   rw [List.getElem_map, rng_get, plv_get hok.1 k (by simpa using h1)]
   omega
 have hcc : canG (canG h) = canG h := by
  have e : (canO h).length = (canG h).2.1.toNat := by show _ = ((canO h).length : Int).toNat; omega
  show rnG (canG h) (canO (canG h)) = _
  rw [hcan, e, rnG_rng hg']
 have hleaf : leafV (canG h).2.2 (canG h).2.1.toNat < 0 := by
  apply Classical.byContradiction
  intro hn
  have hb := leafFrom_leaf (canG h).2.2 (canG h).2.1.toNat _ _ (by omega : 0 ≤ leafV (canG h).2.2 (canG h).2.1.toNat)
  change leafB (canG h).2.2 (leafV (canG h).2.2 (canG h).2.1.toNat).toNat = true at hb
  have hr := leafV_range (canG h).2.2 (canG h).2.1.toNat
  generalize leafV (canG h).2.2 (canG h).2.1.toNat = u at *
  have hlen : (canG h).2.1 = ((canO h).length : Int) := rfl
  have hu0 : 0 ≤ u := by omega
  have hu1 : u < ((canO h).length : Int) := by omega
  have hov := ov_mem hu0 hu1
  have hpo := plv_ov hok.1 hu0 hu1
  have hovr := hok.2.1 _ hov
  have hov0 : ov (canO h) u ≠ 0 := fun e => by
   have h0 : 0 < (canO h).length := (List.getElem?_eq_some_iff.1 hok.2.2).1
   have := plv_get hok.1 0 h0
   rw [(List.getElem?_eq_some_iff.1 hok.2.2).2] at this
   rw [e] at hpo
   omega
  have hlb := leaf_none h.2.2 h.2.1.toNat (h.2.1.toNat - 1) 1 (by omega) hl (ov (canO h) u).toNat (by omega) (by omega)
  unfold leafB at hlb hb
  rw [show ((u.toNat : Nat) : Int) = u by omega] at hb
  rw [show (((ov (canO h) u).toNat : Nat) : Int) = ov (canO h) u by omega] at hlb
  simp only [Bool.or_eq_false_iff, decide_eq_false_iff_not, Bool.not_eq_false'] at hlb
  rw [Bool.or_eq_true, decide_eq_true_eq] at hb
  rcases hb with hb | hb
  ·-- two letters at ov u
   obtain ⟨l, m, hll, hmm, hlm, n1, n2⟩ : ∃ l m, (-3 ≤ l ∧ l ≤ 3) ∧ (-3 ≤ m ∧ m ≤ 3) ∧ l ≠ m ∧ 0 ≤ nextV h.2.2 (ov (canO h) u) l ∧ 0 ≤ nextV h.2.2 (ov (canO h) u) m := by
    apply Classical.byContradiction
    intro hno
    have all : ∀ l m, (-3 ≤ l ∧ l ≤ 3) → (-3 ≤ m ∧ m ≤ 3) → 0 ≤ nextV h.2.2 (ov (canO h) u) l → 0 ≤ nextV h.2.2 (ov (canO h) u) m → l = m := fun l m a b c d => Classical.byContradiction fun e => hno ⟨l, m, a, b, e, c, d⟩
    have hd : ∀ l0, (∀ l, (-3 ≤ l ∧ l ≤ 3) → 0 ≤ nextV h.2.2 (ov (canO h) u) l → l = l0) → degL h.2.2 (ov (canO h) u) ≤ 1 := fun l0 hl0 => deg_one (l0 := l0) hfo (let_of_gr hg) fun e he => by
     have hre := edge_of_gr hg he
     have h3 := (grB_parts hg).1
     constructor
     ·intro e1
      refine hl0 e.2.1 (by omega) ?_
      rw [← e1, nextV_out hg hfo he]; exact hre.2.2.1
     ·intro e1
      refine hl0 (-e.2.1) (by omega) ?_
      rw [← e1, nextV_in hg hfo he]; exact hre.1.1
    by_cases hex : ∃ l, (-3 ≤ l ∧ l ≤ 3) ∧ 0 ≤ nextV h.2.2 (ov (canO h) u) l
    ·obtain ⟨l0, a, b⟩ := hex
     have := hd l0 fun l c d => all l l0 c a d b
     omega
    ·have := hd 0 fun l c d => absurd ⟨l, c, d⟩ hex
     omega
   have t1 := (next _ hov l hll).1 n1
   have t2 := (next _ hov m hmm).1 n2
   rw [hpo, show u + 1 - 1 = u by omega] at t1 t2
   exact hlm (deg_uniq (es := (canG h).2.2) (v := u) hll hmm (by omega) (by rw [t1.2.1]; exact t1.2.2) (by rw [t2.2.1]; exact t2.2.2))
  ·have hc := (reachL_mem _ _ _).1 (hasB_iff.1 hlb.2)
   have hc2 : (ov (canO h) u ∈ canO h ∧ Conn (canG h).2.2 0 (plv (canO h) (ov (canO h) u) - 1)) := by
    have h0 : 0 < (canO h).length := (List.getElem?_eq_some_iff.1 hok.2.2).1
    have hp0 := plv_get hok.1 0 h0
    rw [(List.getElem?_eq_some_iff.1 hok.2.2).2] at hp0
    refine conn_of_closed (S := fun v => v ∈ canO h ∧ Conn (canG h).2.2 0 (plv (canO h) v - 1)) ⟨List.mem_of_getElem? hok.2.2, by rw [hp0]; exact .base⟩ (fun e he => ?_) hc
    have hre := edge_of_gr hg he
    have h3 := (grB_parts hg).1
    have p1 := nextV_out hg hfo he
    have p2 := nextV_in hg hfo he
    constructor
    ·rintro ⟨a, b⟩
     have t := (next _ a e.2.1 (by omega)).1 (by rw [p1]; exact hre.2.2.1)
     rw [p1] at t
     refine ⟨t.1, ?_⟩
     have := conn_next (x := e.2.1) (by omega) b (by rw [t.2.1]; exact t.2.2)
     rwa [t.2.1] at this
    ·rintro ⟨a, b⟩
     have t := (next _ a (-e.2.1) (by omega)).1 (by rw [p2]; exact hre.1.1)
     rw [p2] at t
     refine ⟨t.1, ?_⟩
     have := conn_next (x := -e.2.1) (by omega) b (by rw [t.2.1]; exact t.2.2)
     rwa [t.2.1] at this
   rw [hpo, show u + 1 - 1 = u by omega] at hc2
   rw [hasB_iff.2 ((reachL_mem _ _ _).2 hc2.2)] at hb
   cases hb
 unfold coreB
 rw [hf', hcc, decide_eq_true hleaf, decide_eq_true rfl]
 rfl
theorem coreB_coreG {g : GrD} (hg : grB g = true) : coreB (coreG g) = true := by
 have h1 := trimG_fold (folA_ok hg)
 exact coreB_can h1 (trimG_noleaf (folA_ok hg))
theorem incl_hom {a b : GrD} (h : inclS a b = true) : ∀ (w : List Int) (u : Int), (∀ x ∈ w, -3 ≤ x ∧ x ≤ 3) → u ∈ canO a → 0 ≤ walkF a.2.2 u w → walkF b.2.2 (imgW a b u) w = imgW a b (walkF a.2.2 u w) := by
 unfold inclS at h
 simp only [Bool.and_eq_true, decide_eq_true_eq] at h
 obtain ⟨⟨⟨ha, hb⟩, hr⟩, H⟩ := h
 have hga := coreB_grB ha
 intro w
 induction w with
 | nil => intro u _ _ _; rfl
 | cons x w ih =>
   intro u hx hu hw
   rw [walkF_cons] at hw ⊢
   split at hw
   ·exact absurd hw (by decide)
   ·rename_i hn
    have hs := List.all_eq_true.1 (List.all_eq_true.1 H u hu) x (next_letter (v := u) hga (hx x (by simp)) (Int.not_lt.1 hn))
    unfold stB at hs
    rw [decide_eq_false hn, Bool.false_or, Bool.and_eq_true, decide_eq_true_eq, decide_eq_true_eq] at hs
    rw [if_neg (by omega)]
    conv => rhs; rw [walkF_cons, if_neg hn]
    rw [← hs.2]
    exact ih _ (fun y hy => hx y (by simp [hy])) (canO_closed hga hu (hx x (by simp)) (Int.not_lt.1 hn)) hw
theorem incl_parts {a b : GrD} (h : inclS a b = true) : coreB a = true ∧ coreB b = true ∧ a.1 = b.1 := by
 unfold inclS at h
 simp only [Bool.and_eq_true, decide_eq_true_eq] at h
 exact ⟨h.1.1.1, h.1.1.2, h.1.2⟩
theorem incl_zero {a b : GrD} (ha : grB a = true) : imgW a b 0 = 0 := by unfold imgW; rw [wd_zero ha]; rfl
theorem core_fold {g : GrD} (h : coreB g = true) : foldB g = true := by
 unfold coreB at h; simp only [Bool.and_eq_true] at h; exact h.1.1
theorem bas_let3 {g : GrD} (hg : grB g = true) {e : EdD} (he : e ∈ g.2.2) (h1 : e.1 ∈ canO g) (h2 : e.2.2 ∈ canO g) : ∀ x ∈ basW g e, -3 ≤ x ∧ x ≤ 3 := fun y hy => by
 unfold basW at hy
 rcases List.mem_append.1 hy with hy | hy
 ·rcases List.mem_append.1 hy with hy | hy
  ·exact wd_let3 hg h1 y hy
  ·rw [List.mem_singleton.1 hy]
   have := (edge_of_gr hg he).2.1
   have := (grB_parts hg).1
   omega
 ·have := wd_let3 hg h2 _ (invN_mem hy)
  omega
theorem conn_walk {es : List EdD} {u : Int} : ∀ (w : List Int) (v : Int), (∀ x ∈ w, -3 ≤ x ∧ x ≤ 3) → Conn es u v → 0 ≤ walkF es v w → Conn es u (walkF es v w)
 | [], _, _, h, _ => h
 | x :: w, v, hx, h, h0 => by
   rw [walkF_cons] at h0 ⊢
   split at h0
   ·exact absurd h0 (by decide)
   ·rename_i hn
    rw [if_neg hn]
    exact conn_walk w _ (fun y hy => hx y (by simp [hy])) (conn_next (hx x (by simp)) h (by omega)) h0
theorem core_conn {g : GrD} (h : coreB g = true) {v : Int} (hv : 0 ≤ v ∧ v < g.2.1) : Conn g.2.2 0 v := by
 have hg := coreB_grB h
 have hc := core_all h hv
 have := conn_walk (es := g.2.2) (u := 0) (wdO g v) 0 (wd_let3 hg hc) .base (by rw [wd_walk hg hc]; omega)
 rwa [wd_walk hg hc] at this
theorem two_letters {g : GrD} (hg : grB g = true) (hfo : Fol g.2.2) {v : Int} (h : 2 ≤ degL g.2.2 v) : ∃ l m, (-3 ≤ l ∧ l ≤ 3) ∧ (-3 ≤ m ∧ m ≤ 3) ∧ l ≠ m ∧ 0 ≤ nextV g.2.2 v l ∧ 0 ≤ nextV g.2.2 v m := by
 apply Classical.byContradiction
 intro hno
 have all : ∀ l m, (-3 ≤ l ∧ l ≤ 3) → (-3 ≤ m ∧ m ≤ 3) → 0 ≤ nextV g.2.2 v l → 0 ≤ nextV g.2.2 v m → l = m := fun l m a b c d => Classical.byContradiction fun e => hno ⟨l, m, a, b, e, c, d⟩
 have hd : ∀ l0, (∀ l, (-3 ≤ l ∧ l ≤ 3) → 0 ≤ nextV g.2.2 v l → l = l0) → degL g.2.2 v ≤ 1 := fun l0 hl0 => deg_one (l0 := l0) hfo (let_of_gr hg) fun e he => by
  have hre := edge_of_gr hg he
  have h3 := (grB_parts hg).1
  constructor
  ·intro e1
   refine hl0 e.2.1 (by omega) ?_
   rw [← e1, nextV_out hg hfo he]; exact hre.2.2.1
  ·intro e1
   refine hl0 (-e.2.1) (by omega) ?_
   rw [← e1, nextV_in hg hfo he]; exact hre.1.1
 by_cases hex : ∃ l, (-3 ≤ l ∧ l ≤ 3) ∧ 0 ≤ nextV g.2.2 v l
 ·obtain ⟨l0, a, b⟩ := hex
  have := hd l0 fun l c d => all l l0 c a d b
  omega
 ·have := hd 0 fun l c d => absurd ⟨l, c, d⟩ hex
  omega
theorem max_ex {α : Type} (f : α → Nat) : ∀ (l : List α), l ≠ [] → ∃ x ∈ l, ∀ y ∈ l, f y ≤ f x
 | [x], _ => ⟨x, by simp, fun y hy => by rw [List.mem_singleton.1 hy]; exact Nat.le_refl _⟩
 | x :: y :: l, _ => by
   obtain ⟨z, hz, hm⟩ := max_ex f (y :: l) (by simp)
   by_cases h : f z ≤ f x
   ·refine ⟨x, by simp, fun t ht => ?_⟩
    rcases List.mem_cons.1 ht with rfl | ht
    ·exact Nat.le_refl _
    ·exact Nat.le_trans (hm t ht) h
   ·refine ⟨z, by simp [hz], fun t ht => ?_⟩
    rcases List.mem_cons.1 ht with rfl | ht
    ·omega
    ·exact hm t ht
theorem ext_ex {g : GrD} (h : coreB g = true) (hne : g.2.2 ≠ []) : ∃ e, e ∈ extL g := by
 apply Classical.byContradiction
 intro hno
 have hf := core_fold h
 obtain ⟨hg, hfo⟩ := foldB_parts hf
 have hsz := (grB_parts hg).2.1
 have tree : ∀ e ∈ g.2.2, wdO g e.2.2 = wdO g e.1 ++ [e.2.1] ∨ wdO g e.1 = wdO g e.2.2 ++ [-e.2.1] := fun e he => by
  apply Classical.byContradiction
  intro hn
  refine hno ⟨e, List.mem_filter.2 ⟨he, exB_iff.2 ⟨fun q => hn (.inl q), fun q => hn (.inr q)⟩⟩⟩
 obtain ⟨v, hv, hmax⟩ := max_ex (fun v => (wdO g v).length) (canO g) (fun e => by have := (canO_ok hg).2.2; rw [e] at this; cases this)
 by_cases hv0 : v = 0
 ·subst hv0
  rw [wd_zero hg] at hmax
  cases hes : g.2.2 with
  | nil => exact hne hes
  | cons e es =>
    have he : e ∈ g.2.2 := by rw [hes]; simp
    have hr := edge_of_gr hg he
    have m1 := hmax _ (core_all h hr.1)
    have m2 := hmax _ (core_all h hr.2.2)
    simp only [List.length_nil, Nat.le_zero] at m1 m2
    rcases tree e he with q | q
    ·have := congrArg List.length q; simp at this; omega
    ·have := congrArg List.length q; simp at this; omega
 ·have hvr := (canO_ok hg).2.1 v hv
  obtain ⟨l, m, hl, hm, hlm, n1, n2⟩ := two_letters hg hfo (core_deg h (v := v) (by omega))
  have key : ∀ l, (-3 ≤ l ∧ l ≤ 3) → 0 ≤ nextV g.2.2 v l → l = -(wdO g v).getLastD 0 := fun l hl hn => by
   have hc := canO_closed hg hv hl hn
   have hle := hmax _ hc
   have hor : wdO g (nextV g.2.2 v l) = wdO g v ++ [l] ∨ wdO g v = wdO g (nextV g.2.2 v l) ++ [-l] := by
    rcases (next_iff hg hfo hl hn).1 rfl with ⟨p, q⟩ | ⟨p, q⟩
    ·exact tree _ q
    ·rcases tree _ q with r | r
     ·exact .inr r
     ·simp only at r; rw [Int.neg_neg] at r; exact .inl r
   rcases hor with q | q
   ·rw [q, List.length_append, List.length_singleton] at hle; omega
   ·rw [q, getLastD_snoc]; omega
  exact hlm ((key l hl n1).trans (key m hm n2).symm)
theorem Sub.mov {g : GrD} (hf : foldB g = true) {u : Nat} (hu : (u : Int) < g.2.1) (hc : Conn g.2.2 0 u) : ∃ s, Sub (movG g u) g s ∧ s 0 = u := by
 obtain ⟨hg, hfo⟩ := foldB_parts hf
 have hsz := (grB_parts hg).2.1
 have hok := movO_ok (n := g.2.1.toNat) (u := u) (by omega)
 rw [show ((g.2.1.toNat : Nat) : Int) = g.2.1 by omega] at hok
 have hz : ov (movO g.2.1.toNat u) 0 = u := rfl
 have s1 := Sub.rn hf hok (by rw [hz]; exact hc) (by
  intro v hv hc l w hl hlw hn h0 hm
  refine absurd ?_ hm
  unfold movO
  rcases nextV_range hg v l with e | ⟨e1, e2⟩
  ·omega
  ·by_cases hx : nextV g.2.2 v l = u
   ·rw [hx]; simp
   ·exact List.mem_cons.2 (.inr (delO_mem.2 ⟨⟨e1, by omega⟩, hx⟩)))
 have hf2 := foldB_rnGN hf hok
 obtain ⟨s, hs, hz2⟩ := Sub.core hf2
 obtain ⟨ga, fa⟩ := foldB_parts hf2
 obtain ⟨gb, fb⟩ := foldB_parts (core_fold (coreB_coreG ga))
 exact ⟨_, hs.trans s1 gb fb ga fa hg, by rw [hz2, hz]⟩
theorem movG_core {g : GrD} (hf : foldB g = true) {u : Nat} (hu : (u : Int) < g.2.1) : coreB (movG g u) = true := by
 obtain ⟨hg, hfo⟩ := foldB_parts hf
 have hok := movO_ok (n := g.2.1.toNat) (u := u) (by omega)
 have hsz := (grB_parts hg).2.1
 rw [show ((g.2.1.toNat : Nat) : Int) = g.2.1 by omega] at hok
 exact coreB_coreG (foldB_parts (foldB_rnGN hf hok)).1
def fstL (g : GrD) : Int := ((lettersL g.1.toNat).find? fun x => decide (0 ≤ nextV g.2.2 0 x)).getD 0
theorem fstL_ok {g : GrD} (hg : grB g = true) (h : degL g.2.2 0 = 1) : fstL g ∈ lettersL g.1.toNat ∧ 0 ≤ nextV g.2.2 0 (fstL g) := by
 unfold fstL
 cases e : (lettersL g.1.toNat).find? fun x => decide (0 ≤ nextV g.2.2 0 x) with
 | some x =>
   exact ⟨List.mem_of_find?_eq_some e, by simpa using List.find?_some e⟩
 | none =>
   exfalso
   rw [List.find?_eq_none] at e
   have hz : degL g.2.2 0 = 0 := degL_zero fun a ha => by
    have hr := edge_of_gr hg ha
    have h3 := (grB_parts hg).1
    unfold degE
    have n1 : a.1 ≠ 0 := fun q => by
     refine e a.2.1 (letters_mem.2 (.inl ⟨by omega, by omega⟩)) ?_
     rw [decide_eq_true_eq]
     have : a.2.2 ∈ stepsL g.2.2 0 a.2.1 := List.mem_filterMap.2 ⟨a, ha, (mt_iff (by omega)).2 (.inl ⟨by omega, rfl, q, rfl⟩)⟩
     unfold nextV
     cases hs : stepsL g.2.2 0 a.2.1 with
     | nil => rw [hs] at this; cases this
     | cons y l =>
       have hy : y ∈ stepsL g.2.2 0 a.2.1 := by rw [hs]; simp
       obtain ⟨c, hc, hm⟩ := List.mem_filterMap.1 hy
       have hrc := edge_of_gr hg hc
       rcases (mt_iff (by omega)).1 hm with ⟨_, _, _, s⟩ | ⟨_, _, _, s⟩
       ·rw [← s]; exact hrc.2.2.1
       ·rw [← s]; exact hrc.1.1
    have n2 : a.2.2 ≠ 0 := fun q => by
     refine e (-a.2.1) (letters_mem.2 (.inr ⟨by omega, by omega⟩)) ?_
     rw [decide_eq_true_eq]
     have : a.1 ∈ stepsL g.2.2 0 (-a.2.1) := List.mem_filterMap.2 ⟨a, ha, (mt_iff (by omega)).2 (.inr ⟨by omega, by omega, q, rfl⟩)⟩
     unfold nextV
     cases hs : stepsL g.2.2 0 (-a.2.1) with
     | nil => rw [hs] at this; cases this
     | cons y l =>
       have hy : y ∈ stepsL g.2.2 0 (-a.2.1) := by rw [hs]; simp
       obtain ⟨c, hc, hm⟩ := List.mem_filterMap.1 hy
       have hrc := edge_of_gr hg hc
       rcases (mt_iff (by omega)).1 hm with ⟨_, _, _, s⟩ | ⟨_, _, _, s⟩
       ·rw [← s]; exact hrc.2.2.1
       ·rw [← s]; exact hrc.1.1
    rw [if_neg n1, if_neg n2]
   omega
theorem nextV_nz {es : List EdD} {v x : Int} (hx : -3 ≤ x ∧ x ≤ 3) (h : 0 ≤ nextV es v x) : x ≠ 0 := by
 obtain ⟨e, _, hm⟩ := nextV_mem h
 rcases (mt_iff hx).1 hm with ⟨p, _⟩ | ⟨p, _⟩ <;> omega
theorem fst_ne {g : GrD} (hg : grB g = true) (hfo : Fol g.2.2) (h : degL g.2.2 0 = 1) : nextV g.2.2 0 (fstL g) ≠ 0 := fun e => by
 obtain ⟨h1, h2⟩ := fstL_ok hg h
 have hl := let3 hg h1
 have hb := nextV_back hg hfo hl h2
 rw [e] at hb
 have := deg_uniq hl (m := -fstL g) (by omega) (by omega) h2 (by rw [hb]; omega)
 have := nextV_nz hl h2
 omega
def hairF : Nat → GrD → List Int → GrD × List Int
 | 0, g, t => (g, t)
 | f + 1, g, t => if 1 < g.2.1 ∧ degL g.2.2 0 = 1 then hairF f (movG g (nextV g.2.2 0 (fstL g)).toNat) (t ++ [fstL g]) else (g, t)
def cycG (g : GrD) : GrD × List Int := hairF 40 g []
theorem movG_lt {g : GrD} (hf : foldB g = true) (h : degL g.2.2 0 = 1) : (movG g (nextV g.2.2 0 (fstL g)).toNat).2.1 < g.2.1 := by
 obtain ⟨hg, hfo⟩ := foldB_parts hf
 have hsz := (grB_parts hg).2.1
 obtain ⟨h1, h2⟩ := fstL_ok hg h
 have hne := fst_ne hg hfo h
 have hl := let3 hg h1
 have hlt : nextV g.2.2 0 (fstL g) < g.2.1 := by
  rcases nextV_range hg 0 (fstL g) with e | e <;> omega
 obtain ⟨u, hu⟩ : ∃ u : Nat, nextV g.2.2 0 (fstL g) = (u : Int) := ⟨(nextV g.2.2 0 (fstL g)).toNat, by omega⟩
 rw [hu] at hne hlt h2 ⊢
 rw [Int.toNat_natCast]
 have hok := movO_ok (n := g.2.1.toNat) (u := u) (by omega)
 rw [show ((g.2.1.toNat : Nat) : Int) = g.2.1 by omega] at hok
 have hf2 := foldB_rnGN hf hok
 obtain ⟨ga, fa⟩ := foldB_parts hf2
 have hlen : ((movO g.2.1.toNat u).length : Int) = g.2.1 := by
  unfold movO
  rw [List.length_cons, delO_len2, if_pos (by omega)]
  omega
 have hm0 : (0 : Int) ∈ movO g.2.1.toNat u := List.mem_cons.2 (.inr (delO_mem.2 ⟨by omega, by omega⟩))
 have hp := plv_pos hm0
 have hpr := plv_range (movO g.2.1.toNat u) 0
 have hp1 : plv (movO g.2.1.toNat u) 0 ≠ 1 := fun e => by
  have := ov_plv hok.1 hm0
  rw [e] at this
  have e2 : ov (movO g.2.1.toNat u) (1 - 1) = u := rfl
  omega
 have hleaf : ¬ leafV (rnG g (movO g.2.1.toNat u)).2.2 (rnG g (movO g.2.1.toNat u)).2.1.toNat < 0 := fun hn => by
  have hsz2 : (rnG g (movO g.2.1.toNat u)).2.1 = g.2.1 := hlen
  have := leaf_none _ _ ((rnG g (movO g.2.1.toNat u)).2.1.toNat - 1) 1 (by omega) hn (plv (movO g.2.1.toNat u) 0 - 1).toNat (by omega) (by omega)
  unfold leafB at this
  simp only [Bool.or_eq_false_iff, decide_eq_false_iff_not] at this
  rw [show (((plv (movO g.2.1.toNat u) 0 - 1).toNat : Nat) : Int) = plv (movO g.2.1.toNat u) 0 - 1 by omega] at this
  obtain ⟨l, m, hl1, hm1, hlm, n1, n2⟩ := two_letters ga fa (v := plv (movO g.2.1.toNat u) 0 - 1) (by omega)
  have key : ∀ l, (-3 ≤ l ∧ l ≤ 3) → 0 ≤ nextV (rnG g (movO g.2.1.toNat u)).2.2 (plv (movO g.2.1.toNat u) 0 - 1) l → 0 ≤ nextV g.2.2 0 l := fun l hl1 n1 => by
   rw [rn_next hf hok (by omega) (by omega) hl1, ov_plv hok.1 hm0] at n1
   split at n1
   ·rename_i q; exact q
   ·omega
  exact hlm (deg_uniq hl1 hm1 (by omega) (key l hl1 n1) (key m hm1 n2))
 have hts := trimG_size ga
 rw [decide_eq_false hleaf, decide_eq_false_iff_not] at hts
 have hle := trimF_le (rnG g (movO g.2.1.toNat u)).2.1.toNat (rnG g (movO g.2.1.toNat u)) ((List.range (rnG g (movO g.2.1.toNat u)).2.1.toNat).map fun v => ((v : Nat) : Int)) ga
 change (trimG (rnG g (movO g.2.1.toNat u))).1.2.1 ≤ _ at hle
 have hsz2 : (rnG g (movO g.2.1.toNat u)).2.1 = g.2.1 := hlen
 have ht := trimG_fold hf2
 have hgt := (foldB_parts ht).1
 have hco := canO_ok hgt
 have hszt := (grB_parts hgt).2.1
 have hcl := nodup_len (trimG (rnG g (movO g.2.1.toNat u))).1.2.1.toNat _ hco.1 fun y hy => by have := hco.2.1 y hy; omega
 unfold movG coreG
 rw [folA_fol hf2]
 show ((canO _).length : Int) < _
 omega
theorem loop_split {g : GrD} (hf : foldB g = true) (hd : degL g.2.2 0 = 1) {w : List Int} (hw : ∀ x ∈ w, -3 ≤ x ∧ x ≤ 3) (hn : NoB w) (hne : w ≠ []) (h : walkF g.2.2 0 w = 0) :
  ∃ w2, w = fstL g :: (w2 ++ [-fstL g]) ∧ w2 ≠ [] ∧ NoB w2 ∧ walkF g.2.2 (nextV g.2.2 0 (fstL g)) w2 = nextV g.2.2 0 (fstL g) := by
 obtain ⟨hg, hfo⟩ := foldB_parts hf
 obtain ⟨h1, h2⟩ := fstL_ok hg hd
 have hl := let3 hg h1
 have hne0 := fst_ne hg hfo hd
 cases w with
 | nil => exact absurd rfl hne
 | cons x w =>
   have hx := hw x (by simp)
   have hpre : 0 ≤ nextV g.2.2 0 x := by
    rw [walkF_cons] at h
    split at h
    ·exact absurd h (by decide)
    ·omega
   have hxe := deg_uniq hx hl (by omega) hpre h2
   subst hxe
   rw [walkF_cons, if_neg (by omega)] at h
   rcases List.eq_nil_or_concat w with rfl | ⟨w2, z, rfl⟩
   ·exact absurd h hne0
   ·rw [List.concat_eq_append] at *
    have hz := hw z (by simp)
    have hp := walkF_pre g.2.2 w2 (nextV g.2.2 0 (fstL g)) [z] h2 (by rw [h]; exact Int.le_refl _)
    rw [walkF_app _ _ _ _ hp, walkF_cons] at h
    split at h
    ·exact absurd h (by decide)
    ·rename_i hnz
     have h0 : nextV g.2.2 (walkF g.2.2 (nextV g.2.2 0 (fstL g)) w2) z = 0 := h
     have hb := nextV_back hg hfo hz (by omega : 0 ≤ nextV g.2.2 (walkF g.2.2 (nextV g.2.2 0 (fstL g)) w2) z)
     rw [h0] at hb
     have hze := deg_uniq (es := g.2.2) (v := 0) (l := -z) (m := fstL g) (by omega) hl (by omega) (by rw [hb]; exact hp) h2
     rw [hze] at hb
     have hz2 : z = -fstL g := by omega
     subst hz2
     refine ⟨w2, rfl, ?_, ?_, hb.symm⟩
     ·rintro rfl
      exact hn.1 rfl
     ·have ht := hn.tail
      clear h hb hn hw hp h0 hnz hze
      induction w2 with
      | nil => trivial
      | cons a w2 ih =>
        cases w2 with
        | nil => trivial
        | cons b w2 => exact ⟨ht.1, ih (by simp) ht.2⟩
theorem cyc_spec : ∀ (f : Nat) (g : GrD) (t : List Int), coreB g = true → ∃ s q, (hairF f g t).2 = t ++ q ∧ (∀ x ∈ q, -3 ≤ x ∧ x ≤ 3) ∧ Sub (hairF f g t).1 g s ∧ walkF g.2.2 0 q = s 0 ∧ coreB (hairF f g t).1 = true ∧
  (∀ w, (∀ x ∈ w, -3 ≤ x ∧ x ≤ 3) → NoB w → w ≠ [] → walkF g.2.2 0 w = 0 → ∃ w', w = q ++ w') ∧ (q = [] → (hairF f g t).1 = g)
 | 0, g, t, h => ⟨id, [], by simp [hairF], by simp, Sub.refl, rfl, h, fun w _ _ _ _ => ⟨w, rfl⟩, fun _ => rfl⟩
 | f + 1, g, t, h => by
   unfold hairF
   split
   ·rename_i hc
    have hf := core_fold h
    obtain ⟨hg, hfo⟩ := foldB_parts hf
    obtain ⟨h1, h2⟩ := fstL_ok hg hc.2
    have hl := let3 hg h1
    have hlt : nextV g.2.2 0 (fstL g) < g.2.1 := by
     rcases nextV_range hg 0 (fstL g) with e | e <;> omega
    obtain ⟨u, hu⟩ : ∃ u : Nat, nextV g.2.2 0 (fstL g) = (u : Int) := ⟨(nextV g.2.2 0 (fstL g)).toNat, by omega⟩
    have hcu := conn_next hl (.base : Conn g.2.2 0 0) h2
    have hspl := fun w a b c d => loop_split hf hc.2 (w := w) a b c d
    rw [hu] at hlt h2 hcu ⊢
    rw [Int.toNat_natCast]
    obtain ⟨s1, hs1, hz1⟩ := Sub.mov hf hlt hcu
    have hcm := movG_core hf hlt
    have hfm := core_fold hcm
    obtain ⟨gm, fm⟩ := foldB_parts hfm
    obtain ⟨s, q, e1, e2, e3, e4, e5, e6, e7⟩ := cyc_spec f (movG g u) (t ++ [fstL g]) hcm
    obtain ⟨gy, fy⟩ := foldB_parts (core_fold e5)
    have hszm := (grB_parts gm).2.1
    have hs0 := e3.rng 0 (by omega) (by have := (grB_parts gy).2.1; omega)
    have hw := hs1.walk gm q 0 (by omega) (by omega) e2 (by rw [e4]; exact hs0.1)
    refine ⟨fun i => s1 (s i), fstL g :: q, by rw [e1]; simp, fun x hx => ?_, e3.trans hs1 gy fy gm fm hg, ?_, e5, fun w a b c d => ?_, fun e => by cases e⟩
    ·rcases List.mem_cons.1 hx with rfl | hx
     ·exact hl
     ·exact e2 x hx
    ·rw [walkF_cons, hu, if_neg (by omega)]
     rw [hz1, e4] at hw
     exact hw
    ·obtain ⟨w2, r1, r2, r3, r4⟩ := hspl w a b c d
     rw [hu, ← hz1] at r4
     have r5 : ∀ x ∈ w2, -3 ≤ x ∧ x ≤ 3 := fun x hx => a x (by rw [r1]; simp [hx])
     have := hs1.lp 0 w2 (by omega) (by omega) .base r5 r3 r4
     obtain ⟨w', hw'⟩ := e6 w2 r5 r3 r2 this
     exact ⟨w' ++ [-fstL g], by rw [r1, hw']; simp⟩
   ·exact ⟨id, [], by simp, by simp, Sub.refl, rfl, h, fun w _ _ _ _ => ⟨w, rfl⟩, fun _ => rfl⟩
theorem cyc_end : ∀ (f : Nat) (g : GrD) (t : List Int), coreB g = true → g.2.1 ≤ f + 1 → ¬ (1 < (hairF f g t).1.2.1 ∧ degL (hairF f g t).1.2.2 0 = 1)
 | 0, g, t, h, hs => fun q => by have := q.1; change 1 < g.2.1 at this; omega
 | f + 1, g, t, h, hs => by
   unfold hairF
   split
   ·rename_i hc
    have hf := core_fold h
    obtain ⟨hg, hfo⟩ := foldB_parts hf
    have := movG_lt hf hc.2
    obtain ⟨h1, h2⟩ := fstL_ok hg hc.2
    refine cyc_end f _ _ (movG_core hf ?_) (by omega)
    rcases nextV_range hg 0 (fstL g) with e | e <;> omega
   ·rename_i hc; exact hc
def covB (x y : GrD) : Bool := (canO x).all fun u => (lettersL x.1.toNat).all fun l => !(decide (nextV x.2.2 u l < 0) && decide (0 ≤ nextV y.2.2 (imgW x y u) l))
def fibL (x y : GrD) (t : Int) : List Int := (canO x).filter fun u => decide (imgW x y u = t)
def idxC (x y : GrD) : Int := if covB x y = true then (fibL x y 0).length else -1
theorem fib_split (f : Int → Int) (n : Int) : ∀ (L : List Int), (L.filter fun u => decide (f u < n + 1)).length = (L.filter fun u => decide (f u < n)).length + (L.filter fun u => decide (f u = n)).length
 | [] => rfl
 | u :: L => by
   have ih := fib_split f n L
   rw [List.filter_cons, List.filter_cons, List.filter_cons]
   by_cases h1 : f u < n
   ·rw [decide_eq_true h1, decide_eq_true (by omega : f u < n + 1), decide_eq_false (by omega : ¬ f u = n)]
    simp only [if_pos, List.length_cons]
    simp only [Bool.false_eq_true, if_false]
    omega
   ·by_cases h2 : f u = n
    ·rw [decide_eq_false h1, decide_eq_true (by omega : f u < n + 1), decide_eq_true h2]
     simp only [if_pos, List.length_cons, Bool.false_eq_true, if_false]
     omega
    ·rw [decide_eq_false h1, decide_eq_false (by omega : ¬ f u < n + 1), decide_eq_false h2]
     simp only [Bool.false_eq_true, if_false]
     exact ih
theorem fib_mono {x y : GrD} (h : inclS x y = true) (hc : covB x y = true) {t l : Int} (hl : -3 ≤ l ∧ l ≤ 3) (h0 : 0 ≤ nextV y.2.2 t l) : (fibL x y t).length ≤ (fibL x y (nextV y.2.2 t l)).length := by
 obtain ⟨hx, hy, hr⟩ := incl_parts h
 obtain ⟨gx, fx⟩ := foldB_parts (core_fold hx)
 have hly : l ∈ lettersL x.1.toNat := by rw [hr]; exact next_letter (coreB_grB hy) hl h0
 have hst : ∀ u ∈ fibL x y t, 0 ≤ nextV x.2.2 u l ∧ nextV x.2.2 u l ∈ fibL x y (nextV y.2.2 t l) := fun u hu => by
  obtain ⟨hu1, hu2⟩ := List.mem_filter.1 hu
  rw [decide_eq_true_eq] at hu2
  have := List.all_eq_true.1 (List.all_eq_true.1 hc u hu1) l hly
  have hn : ¬ nextV x.2.2 u l < 0 := fun hn => by
   rw [decide_eq_true hn, hu2, decide_eq_true h0] at this
   cases this
  have hh := incl_hom h [l] u (fun z hz => by rw [List.mem_singleton.1 hz]; exact hl) hu1 (by rw [walkF_one _ _ _ (Int.not_lt.1 hn)]; omega)
  rw [hu2, walkF_one _ _ _ h0, walkF_one _ _ _ (Int.not_lt.1 hn)] at hh
  exact ⟨by omega, List.mem_filter.2 ⟨canO_closed gx hu1 hl (by omega), decide_eq_true hh.symm⟩⟩
 have hnd : ((fibL x y t).map fun u => nextV x.2.2 u l).Nodup := by
  have hd : (fibL x y t).Nodup := (canO_ok gx).1.filter _
  unfold List.Nodup at *
  rw [List.pairwise_map]
  refine hd.imp_of_mem fun {a b} ha hb hab e => hab ?_
  have b1 := nextV_back gx fx hl (hst a ha).1
  have b2 := nextV_back gx fx hl (hst b hb).1
  rw [← b1, ← b2, e]
 have hsub : ∀ z ∈ (fibL x y t).map fun u => nextV x.2.2 u l, z ∈ fibL x y (nextV y.2.2 t l) := fun z hz => by
  obtain ⟨u, hu, rfl⟩ := List.mem_map.1 hz
  exact (hst u hu).2
 have := hnd.length_le_of_subset hsub
 rwa [List.length_map] at this
theorem fib_count {x y : GrD} (h : inclS x y = true) (hc : covB x y = true) : x.2.1 = y.2.1 * ((fibL x y 0).length : Int) := by
 obtain ⟨hx, hy, hr⟩ := incl_parts h
 obtain ⟨gx, fx⟩ := foldB_parts (core_fold hx)
 obtain ⟨gy, fy⟩ := foldB_parts (core_fold hy)
 have const : ∀ t, 0 ≤ t → t < y.2.1 → (fibL x y t).length = (fibL x y 0).length := fun t t0 t1 => by
  refine conn_of_closed (S := fun t => (fibL x y t).length = (fibL x y 0).length) rfl (fun e he => ?_) (core_conn hy ⟨t0, t1⟩)
  have hre := edge_of_gr gy he
  have h3 := (grB_parts gy).1
  have n1 := nextV_out gy fy he
  have n2 := nextV_in gy fy he
  have m1 := fib_mono h hc (t := e.1) (l := e.2.1) (by omega) (by rw [n1]; exact hre.2.2.1)
  have m2 := fib_mono h hc (t := e.2.2) (l := -e.2.1) (by omega) (by rw [n2]; exact hre.1.1)
  rw [n1] at m1
  rw [n2] at m2
  constructor <;> intro q <;> omega
 have hsum : ∀ n : Nat, (n : Int) ≤ y.2.1 → ((canO x).filter fun u => decide (imgW x y u < n)).length = n * (fibL x y 0).length := by
  intro n
  induction n with
  | zero =>
    intro _
    rw [Nat.zero_mul, List.length_eq_zero_iff, List.filter_eq_nil_iff]
    intro u hu
    rw [decide_eq_true_eq]
    have hw := incl_hom h (wdO x u) 0 (wd_let3 gx hu) (List.mem_of_getElem? (canO_ok gx).2.2) (by rw [wd_walk gx hu]; exact ((canO_ok gx).2.1 u hu).1)
    rw [wd_walk gx hu, incl_zero gx] at hw
    have hI := h
    rw [incl_eq] at hI
    unfold inclI at hI
    simp only [Bool.and_eq_true, decide_eq_true_eq] at hI
    have hB : ∀ e ∈ extL x, walkF y.2.2 0 (basW x e) = 0 := fun e he => by
     have := List.all_eq_true.1 hI.2 (basW x e) (by unfold basF; rw [if_pos hx]; exact List.mem_map.2 ⟨e, he, rfl⟩)
     simpa using this
    have := img_read hx hy hB 40 hu (by omega)
    omega
  | succ n ih =>
    intro hn
    have h2 := ih (by omega)
    have h3 := fib_split (imgW x y) (n : Int) (canO x)
    have h4 := const n (by omega) (by omega)
    unfold fibL at h4
    rw [show ((n + 1 : Nat) : Int) = (n : Int) + 1 by omega, h3, h2, h4, Nat.succ_mul]
    rfl
 have hsz := (grB_parts gy).2.1
 have hszx := (grB_parts gx).2.1
 have hall := hsum y.2.1.toNat (by omega)
 have hfull : (canO x).filter (fun u => decide (imgW x y u < (y.2.1.toNat : Nat))) = canO x := by
  rw [List.filter_eq_self]
  intro u hu
  rw [decide_eq_true_eq]
  have := walkF_range gy (wdO x u) 0 (by omega)
  unfold imgW
  omega
 rw [hfull] at hall
 have hcl : ((canO x).length : Int) = x.2.1 := by
  unfold coreB at hx
  simp only [Bool.and_eq_true, decide_eq_true_eq] at hx
  exact congrArg (fun g : GrD => g.2.1) hx.2
 have : ((canO x).length : Int) = (y.2.1.toNat : Int) * ((fibL x y 0).length : Int) := by exact_mod_cast hall
 rw [← hcl, this, show ((y.2.1.toNat : Nat) : Int) = y.2.1 by omega]
theorem cyc_incl {a b : GrD} (h : inclS a b = true) (hv : 0 ≤ walkF a.2.2 0 (cycG b).2) : inclS (movG a (walkF a.2.2 0 (cycG b).2).toNat) (cycG b).1 = true := by
 obtain ⟨ha, hb, hr⟩ := incl_parts h
 obtain ⟨ga, fa⟩ := foldB_parts (core_fold ha)
 obtain ⟨gb, fb⟩ := foldB_parts (core_fold hb)
 obtain ⟨s, q, e1, e2, e3, e4, e5, e6, _⟩ := cyc_spec 40 b [] hb
 change (cycG b).2 = [] ++ q at e1
 change Sub (cycG b).1 b s at e3
 change coreB (cycG b).1 = true at e5
 rw [List.nil_append] at e1
 rw [e1] at hv ⊢
 have hsza := (grB_parts ga).2.1
 have hlt : walkF a.2.2 0 q < a.2.1 := by
  rcases walkF_range ga q 0 (by omega) with e | e <;> omega
 have hca := conn_walk (es := a.2.2) (u := 0) q 0 e2 .base hv
 have him := incl_hom h q 0 e2 (List.mem_of_getElem? (canO_ok ga).2.2) hv
 rw [incl_zero ga, e4] at him
 have hvc := core_all ha ⟨hv, hlt⟩
 obtain ⟨v, hve⟩ : ∃ v : Nat, walkF a.2.2 0 q = (v : Int) := ⟨(walkF a.2.2 0 q).toNat, by omega⟩
 rw [hve] at hlt hca him hvc ⊢
 rw [Int.toNat_natCast]
 obtain ⟨s1, hs1, hz1⟩ := Sub.mov (core_fold ha) hlt hca
 have hx := movG_core (core_fold ha) hlt
 obtain ⟨gx, fx⟩ := foldB_parts (core_fold hx)
 obtain ⟨gy, fy⟩ := foldB_parts (core_fold e5)
 have hszx := (grB_parts gx).2.1
 have hszy := (grB_parts gy).2.1
 rw [incl_eq]
 unfold inclI
 simp only [Bool.and_eq_true, decide_eq_true_eq]
 refine ⟨⟨⟨hx, e5⟩, hs1.rk.trans (hr.trans e3.rk.symm)⟩, ?_⟩
 unfold basF
 rw [if_pos hx, List.all_eq_true]
 intro w hw
 obtain ⟨e, he, rfl⟩ := List.mem_map.1 hw
 rw [decide_eq_true_eq]
 obtain ⟨he1, he2⟩ := List.mem_filter.1 he
 have hre := edge_of_gr gx he1
 have c1 := core_all hx hre.1
 have c2 := core_all hx hre.2.2
 have hl3 := bas_let3 gx he1 c1 c2
 have w1 := bas_walk gx fx he1 c1 c2
 have w2 := hs1.walk gx _ 0 (by omega) (by omega) hl3 (by rw [w1]; omega)
 rw [w1, hz1] at w2
 have w3 := incl_hom h _ _ hl3 hvc (by rw [w2]; omega)
 rw [w2, ← him] at w3
 exact e3.lp 0 _ (by omega) (by omega) .base hl3 (bas_chain gx fx he1 he2 c1 c2) w3
theorem cyc_read {a b : GrD} (h : inclS a b = true) (hne : a.2.2 ≠ []) : 0 ≤ walkF a.2.2 0 (cycG b).2 := by
 obtain ⟨ha, hb, hr⟩ := incl_parts h
 obtain ⟨ga, fa⟩ := foldB_parts (core_fold ha)
 obtain ⟨s, q, e1, e2, e3, e4, e5, e6, _⟩ := cyc_spec 40 b [] hb
 change (cycG b).2 = [] ++ q at e1
 rw [List.nil_append] at e1
 rw [e1]
 obtain ⟨e, he⟩ := ext_ex ha hne
 obtain ⟨he1, he2⟩ := List.mem_filter.1 he
 have hre := edge_of_gr ga he1
 have c1 := core_all ha hre.1
 have c2 := core_all ha hre.2.2
 have hl3 := bas_let3 ga he1 c1 c2
 have w1 := bas_walk ga fa he1 c1 c2
 have w3 := incl_hom h _ 0 hl3 (List.mem_of_getElem? (canO_ok ga).2.2) (by rw [w1]; omega)
 rw [w1, incl_zero ga] at w3
 obtain ⟨w', hw'⟩ := e6 _ hl3 (bas_chain ga fa he1 he2 c1 c2) (by unfold basW; simp) w3
 refine walkF_pre a.2.2 q 0 w' (Int.le_refl _) ?_
 rw [← hw', w1]
 exact Int.le_refl _
def idxF (a b : GrD) : Int := if inclS a b = true then (if 0 ≤ walkF a.2.2 0 (cycG b).2 then idxC (movG a (walkF a.2.2 0 (cycG b).2).toNat) (cycG b).1 else -1) else -1
theorem nextV_nil (v x : Int) : nextV [] v x = -1 := rfl
theorem core_nil {a : GrD} (ha : coreB a = true) (h : a.2.2 = []) : a.2.1 = 1 := by
 have hg := coreB_grB ha
 have hsz := (grB_parts hg).2.1
 apply Classical.byContradiction
 intro hn
 have := core_deg ha (v := 1) (by omega)
 rw [h] at this
 simp [degL] at this
theorem idx_triv {a b : GrD} (h : inclS a b = true) (hne : a.2.2 = []) : idxF a b = if b.2.2 = [] then 1 else -1 := by
 obtain ⟨ha, hb, hr⟩ := incl_parts h
 obtain ⟨ga, fa⟩ := foldB_parts (core_fold ha)
 obtain ⟨gb, fb⟩ := foldB_parts (core_fold hb)
 obtain ⟨s, q, e1, e2, e3, e4, e5, e6, e7⟩ := cyc_spec 40 b [] hb
 change (cycG b).2 = [] ++ q at e1
 change Sub (cycG b).1 b s at e3
 change coreB (cycG b).1 = true at e5
 change q = [] → (cycG b).1 = b at e7
 rw [List.nil_append] at e1
 unfold idxF
 rw [if_pos h]
 have hin := cyc_incl h
 rw [e1] at hin ⊢
 by_cases hq : q = []
 ·subst hq
  rw [e7 rfl] at hin ⊢
  have hw : walkF a.2.2 0 [] = 0 := rfl
  rw [hw] at hin ⊢
  have hin := hin (Int.le_refl _)
  rw [if_pos (Int.le_refl _)]
  have hsza := (grB_parts ga).2.1
  obtain ⟨s1, hs1, hz1⟩ := Sub.mov (g := a) (u := 0) (core_fold ha) (by omega) .base
  have hx := movG_core (g := a) (u := 0) (core_fold ha) (by omega)
  change Sub (movG a (0 : Int).toNat) a s1 at hs1
  change coreB (movG a (0 : Int).toNat) = true at hx
  generalize movG a (0 : Int).toNat = x at *
  obtain ⟨gx, fx⟩ := foldB_parts (core_fold hx)
  have hszx := (grB_parts gx).2.1
  have hnx : ∀ u l, 0 ≤ u → u < x.2.1 → (-3 ≤ l ∧ l ≤ 3) → nextV x.2.2 u l < 0 := fun u l u0 u1 hl => by
   apply Classical.byContradiction
   intro hn
   have h1 := hs1.fw u l u0 u1 hl (by omega)
   rw [hne, nextV_nil] at h1
   rcases nextV_range gx u l with e | ⟨e, f⟩
   ·omega
   ·have := (hs1.rng _ e f).1; omega
  have hxe : x.2.2 = [] := by
   cases hes : x.2.2 with
   | nil => rfl
   | cons e es =>
     have he : e ∈ x.2.2 := by rw [hes]; simp
     have hre := edge_of_gr gx he
     have h3 := (grB_parts gx).1
     have := hnx e.1 e.2.1 hre.1.1 hre.1.2 (by omega)
     rw [nextV_out gx fx he] at this
     omega
  have hx1 := core_nil hx hxe
  by_cases hbe : b.2.2 = []
  ·rw [if_pos hbe]
   have hc : covB x b = true := by
    unfold covB
    rw [List.all_eq_true]
    intro u _
    rw [List.all_eq_true]
    intro l _
    rw [hbe, nextV_nil]
    simp
   unfold idxC
   rw [if_pos hc]
   have hcount := fib_count hin hc
   rw [hx1, core_nil hb hbe] at hcount
   omega
  ·rw [if_neg hbe]
   unfold idxC
   rw [if_neg]
   intro hc
   have hno : ∀ l, (-3 ≤ l ∧ l ≤ 3) → nextV b.2.2 0 l < 0 := fun l hl => by
    apply Classical.byContradiction
    intro hn
    have hll : l ∈ lettersL x.1.toNat := by
     rw [hs1.rk, hr]; exact next_letter gb hl (Int.not_lt.1 hn)
    have := List.all_eq_true.1 (List.all_eq_true.1 hc 0 (List.mem_of_getElem? (canO_ok gx).2.2)) l hll
    rw [incl_zero gx, decide_eq_true (hnx 0 l (by omega) (by omega) hl), decide_eq_true (by omega : 0 ≤ nextV b.2.2 0 l)] at this
    cases this
   cases hes : b.2.2 with
   | nil => exact hbe hes
   | cons e es =>
     have he : e ∈ b.2.2 := by rw [hes]; simp
     have hre := edge_of_gr gb he
     have h3 := (grB_parts gb).1
     have hz : e.1 = 0 := by
      refine conn_of_closed (S := fun v => v = 0) rfl (fun d hd => ?_) (core_conn hb hre.1)
      have hrd := edge_of_gr gb hd
      constructor
      ·intro q
       have := hno d.2.1 (by omega)
       rw [← q, nextV_out gb fb hd] at this
       omega
      ·intro q
       have := hno (-d.2.1) (by omega)
       rw [← q, nextV_in gb fb hd] at this
       omega
     have := hno e.2.1 (by omega)
     rw [← hz, nextV_out gb fb he] at this
     omega
 ·cases q with
  | nil => exact absurd rfl hq
  | cons l q =>
    have hw : walkF a.2.2 0 (l :: q) = -1 := by rw [walkF_cons, hne, nextV_nil]; rfl
    rw [hw, if_neg (by decide), if_neg]
    intro hbe
    have : walkF b.2.2 0 (l :: q) = -1 := by rw [walkF_cons, hbe, nextV_nil]; rfl
    rw [this] at e4
    have := (e3.rng 0 (by omega) (by have := (grB_parts (coreB_grB e5)).2.1; omega)).1
    omega
structure GBx (w : World) (p base : Nat) (A : Option Addr) (c : Nat) (g : GrD) : Prop where
 c0 : w.cell? ⟨p, 0, none⟩ = some (.int .i64 g.1)
 c1 : w.cell? ⟨p, 1, none⟩ = some (.int .i64 g.2.1)
 c2 : w.cell? ⟨p, 2, none⟩ = some (.slice A g.2.2.length c)
 fz : ∀ j, w.frozen? ⟨p, j, none⟩ = false
 ow : OwE w base (.slice A g.2.2.length c) g.2.2
 ne : ∀ b, (Value.slice A g.2.2.length c).ownBlock = some b → b ≠ p
 i1 : I64 g.1
 i2 : I64 g.2.1
 lt : p < w.heap.size
theorem GBx.below {w w' : World} {p base : Nat} {A : Option Addr} {c : Nat} {g : GrD} (h : GBx w p base A c g) (hb : Below w.heap.size w w') : GBx w' p base A c g :=
 ⟨(hb.cell (p := ⟨p, 0, none⟩) h.lt).trans h.c0, (hb.cell (p := ⟨p, 1, none⟩) h.lt).trans h.c1, (hb.cell (p := ⟨p, 2, none⟩) h.lt).trans h.c2, fun j => (hb.frozen (p := ⟨p, j, none⟩) h.lt).trans (h.fz j), h.ow.below hb, h.ne, h.i1, h.i2, Nat.lt_of_lt_of_le h.lt hb.size⟩
theorem GBx.keep {w w' : World} {p base : Nat} {A : Option Addr} {c : Nat} {g : GrD} (h : GBx w p base A c g) (hs : w.heap.size ≤ w'.heap.size) (hk : ∀ b, b = p ∨ (Value.slice A g.2.2.length c).ownBlock = some b → w'.heap[b]? = w.heap[b]?) : GBx w' p base A c g := by
 have hp := hk p (.inl rfl)
 exact ⟨(World.cell?_of_block (w := w) hp).trans h.c0, (World.cell?_of_block (w := w) hp).trans h.c1, (World.cell?_of_block (w := w) hp).trans h.c2, fun j => (World.frozen?_of_block (w := w) hp).trans (h.fz j), h.ow.keep fun b hb => hk b (.inr hb), h.ne, h.i1, h.i2, Nat.lt_of_lt_of_le h.lt hs⟩
theorem GBx.grown {w w' : World} {p base : Nat} {A : Option Addr} {c : Nat} {g : GrD} {row : Option Nat} (h : GBx w p base A c g) (hg : w.grownBy w' row) (h1 : ∀ b, row = some b → b ≠ p ∧ (Value.slice A g.2.2.length c).ownBlock ≠ some b) : GBx w' p base A c g := by
 refine h.keep hg.size fun b hb => ?_
 have hlt : b < w.heap.size := by
  rcases hb with rfl | hb
  ·exact h.lt
  ·exact (h.ow.1.lt b hb).2
 refine hg.block b hlt fun e => ?_
 have := h1 b e.symm
 rcases hb with rfl | hb
 ·exact this.1 rfl
 ·exact this.2 hb
theorem GBx.arg {w : World} {p base : Nat} {A : Option Addr} {c : Nat} {g : GrD} (h : GBx w p base A c g) : ArgG w (.agg #[.int .i64 g.1, .int .i64 g.2.1, .slice A g.2.2.length c]) g := ⟨_, rfl, h.i1, h.i2, h.ow.arg⟩
theorem OwI.keepB {w w' : World} {base : Nat} {s : Value} {xs : List Int} (h : OwI w base s xs) (hb : ∀ b, s.ownBlock = some b → w'.heap[b]? = w.heap[b]?) : OwI w' base s xs := by
 refine ⟨⟨h.1.1, ?_⟩, h.2⟩
 rcases h.1.2 with h0 | ⟨g, cap, cur, hv, hg, hh, r⟩
 ·exact .inl h0
 ·exact .inr ⟨g, cap, cur, hv, hg, by rw [hb g (by rw [hv]; rfl)]; exact hh, r⟩
theorem GBx.set {w : World} {p base base' : Nat} {A A' : Option Addr} {c c' : Nat} {g m : GrD} (h : GBx w p base A c g) (o : OwE w base' (.slice A' m.2.2.length c') m.2.2) (hn : ∀ b, (Value.slice A' m.2.2.length c').ownBlock = some b → b ≠ p) (h1 : I64 m.1) (h2 : I64 m.2.1) :
  GBx (((w.setCell ⟨p, 0, none⟩ (.int .i64 m.1)).setCell ⟨p, 1, none⟩ (.int .i64 m.2.1)).setCell ⟨p, 2, none⟩ (.slice A' m.2.2.length c')) p base' A' c' m := by
 obtain ⟨e0, e1, e2⟩ := cells3F (.int .i64 m.1) (.int .i64 m.2.1) (.slice A' m.2.2.length c') h.c0 h.c1 h.c2
 refine ⟨e0, e1, e2, fun j => by rw [World.frozen?_setCell, World.frozen?_setCell, World.frozen?_setCell]; exact h.fz j, ?_, hn, h1, h2, by simpa using h.lt⟩
 refine o.keep fun b hb => ?_
 have := hn b hb
 rw [Below.heap_setCell _ _ _ b this, Below.heap_setCell _ _ _ b this, Below.heap_setCell _ _ _ b this]
structure CBx (w : World) (p : Nat) (x y z : Value) : Prop where
 c0 : w.cell? ⟨p, 0, none⟩ = some x
 c1 : w.cell? ⟨p, 1, none⟩ = some y
 c2 : w.cell? ⟨p, 2, none⟩ = some z
 fz : ∀ j, w.frozen? ⟨p, j, none⟩ = false
 lt : p < w.heap.size
theorem CBx.below {w w' : World} {p : Nat} {x y z : Value} (h : CBx w p x y z) (hb : Below w.heap.size w w') : CBx w' p x y z :=
 ⟨(hb.cell (p := ⟨p, 0, none⟩) h.lt).trans h.c0, (hb.cell (p := ⟨p, 1, none⟩) h.lt).trans h.c1, (hb.cell (p := ⟨p, 2, none⟩) h.lt).trans h.c2, fun j => (hb.frozen (p := ⟨p, j, none⟩) h.lt).trans (h.fz j), Nat.lt_of_lt_of_le h.lt hb.size⟩
theorem CBx.belowAt {w w' : World} {p n : Nat} {x y z : Value} (h : CBx w p x y z) (hb : Below n w w') (hn : p < n) : CBx w' p x y z :=
 ⟨(hb.cell (p := ⟨p, 0, none⟩) hn).trans h.c0, (hb.cell (p := ⟨p, 1, none⟩) hn).trans h.c1, (hb.cell (p := ⟨p, 2, none⟩) hn).trans h.c2, fun j => (hb.frozen (p := ⟨p, j, none⟩) hn).trans (h.fz j), Nat.lt_of_lt_of_le h.lt hb.size⟩
theorem CBx.other {w : World} {p q : Nat} {x y z a b c : Value} (h : CBx w p x y z) (hne : p ≠ q) : CBx (((w.setCell ⟨q, 0, none⟩ a).setCell ⟨q, 1, none⟩ b).setCell ⟨q, 2, none⟩ c) p x y z := by
 have hp : (((w.setCell ⟨q, 0, none⟩ a).setCell ⟨q, 1, none⟩ b).setCell ⟨q, 2, none⟩ c).heap[p]? = w.heap[p]? := by
  rw [Below.heap_setCell _ _ _ p hne, Below.heap_setCell _ _ _ p hne, Below.heap_setCell _ _ _ p hne]
 exact ⟨(World.cell?_of_block (w := w) hp).trans h.c0, (World.cell?_of_block (w := w) hp).trans h.c1, (World.cell?_of_block (w := w) hp).trans h.c2, fun j => (World.frozen?_of_block (w := w) hp).trans (h.fz j), by simpa using h.lt⟩
theorem CBx.set {w : World} {p base' : Nat} {x y z : Value} {A' : Option Addr} {c' : Nat} {m : GrD} (h : CBx w p x y z) (o : OwE w base' (.slice A' m.2.2.length c') m.2.2) (hn : ∀ b, (Value.slice A' m.2.2.length c').ownBlock = some b → b ≠ p) (h1 : I64 m.1) (h2 : I64 m.2.1) :
  GBx (((w.setCell ⟨p, 0, none⟩ (.int .i64 m.1)).setCell ⟨p, 1, none⟩ (.int .i64 m.2.1)).setCell ⟨p, 2, none⟩ (.slice A' m.2.2.length c')) p base' A' c' m := by
 obtain ⟨e0, e1, e2⟩ := cells3F (.int .i64 m.1) (.int .i64 m.2.1) (.slice A' m.2.2.length c') h.c0 h.c1 h.c2
 refine ⟨e0, e1, e2, fun j => by rw [World.frozen?_setCell, World.frozen?_setCell, World.frozen?_setCell]; exact h.fz j, ?_, hn, h1, h2, by simpa using h.lt⟩
 refine o.keep fun b hb => ?_
 have := hn b hb
 rw [Below.heap_setCell _ _ _ b this, Below.heap_setCell _ _ _ b this, Below.heap_setCell _ _ _ b this]
theorem CBx.new {w W : World} {x y z : Value} {t : TypeId} (hW : W = w.alloc (.cells #[x, y, z] t)) : CBx W w.heap.size x y z ∧ Below w.heap.size w W ∧ W.heap.size = w.heap.size + 1 := by
 refine ⟨⟨by rw [hW]; simp [go_sem], by rw [hW]; simp [go_sem], by rw [hW]; simp [go_sem], fun j => by rw [hW]; simp [go_sem], by rw [hW]; simp⟩, by rw [hW]; exact (Below.refl _ _).alloc (Nat.le_refl _) _, by rw [hW]; simp⟩
theorem GBx.cbx {w : World} {p base : Nat} {A : Option Addr} {c : Nat} {g : GrD} (h : GBx w p base A c g) : CBx w p (.int .i64 g.1) (.int .i64 g.2.1) (.slice A g.2.2.length c) := ⟨h.c0, h.c1, h.c2, h.fz, h.lt⟩
theorem GBx.belowAt {w w' : World} {p n base : Nat} {A : Option Addr} {c : Nat} {g : GrD} (h : GBx w p base A c g) (hb : Below n w w') (hn : p < n) (hr : ∀ b, (Value.slice A g.2.2.length c).ownBlock = some b → b < n) : GBx w' p base A c g := by
 have h2 := h.cbx.belowAt hb hn
 exact ⟨h2.c0, h2.c1, h2.c2, h2.fz, h.ow.keep fun b hb' => hb.block b (hr b hb'), h.ne, h.i1, h.i2, h2.lt⟩
theorem OwI_made {w w2 : World} {n : Nat} (h : w2.ownsRow w.heap.size 3 1 (.slice (some ⟨w.heap.size, 0, none⟩) n n) n (List.replicate n (Value.int .i64 0))) : OwI w2 w.heap.size (.slice (some ⟨w.heap.size, 0, none⟩) n n) (List.replicate n 0) := by
 refine ⟨?_, fun y hy => ?_⟩
 ·rw [List.length_replicate]
  have : ints (List.replicate n 0) = List.replicate n (Value.int .i64 0) := by simp [ints]
  rw [this]
  exact h
 ·obtain ⟨_, rfl⟩ := List.mem_replicate.1 hy
  exact ⟨by decide, by decide⟩
theorem set3_heap (w : World) (p : Nat) (x y z : Value) {b : Nat} (h : b ≠ p) : (((w.setCell ⟨p, 0, none⟩ x).setCell ⟨p, 1, none⟩ y).setCell ⟨p, 2, none⟩ z).heap[b]? = w.heap[b]? := by
 rw [Below.heap_setCell _ _ _ b h, Below.heap_setCell _ _ _ b h, Below.heap_setCell _ _ _ b h]
theorem set3_below {w0 w : World} {n p : Nat} (x y z : Value) (h : Below n w0 w) (hp : n ≤ p) : Below n w0 (((w.setCell ⟨p, 0, none⟩ x).setCell ⟨p, 1, none⟩ y).setCell ⟨p, 2, none⟩ z) := ((h.setCell hp _).setCell hp _).setCell hp _
theorem set3_size (w : World) (p : Nat) (x y z : Value) : (((w.setCell ⟨p, 0, none⟩ x).setCell ⟨p, 1, none⟩ y).setCell ⟨p, 2, none⟩ z).heap.size = w.heap.size := by simp
theorem GBx.new {w W : World} {base : Nat} {A : Option Addr} {c : Nat} {m : GrD} {t : TypeId} (o : OwE w base (.slice A m.2.2.length c) m.2.2) (h1 : I64 m.1) (h2 : I64 m.2.1) (hW : W = w.alloc (.cells #[.int .i64 m.1, .int .i64 m.2.1, .slice A m.2.2.length c] t)) :
  GBx W w.heap.size base A c m := by
 have hb : Below w.heap.size w W := by rw [hW]; exact (Below.refl _ _).alloc (Nat.le_refl _) _
 exact ⟨by rw [hW]; simp [go_sem], by rw [hW]; simp [go_sem], by rw [hW]; simp [go_sem], fun j => by rw [hW]; simp [go_sem], o.below hb, fun b hb => by have := (o.1.lt b hb).2; omega, h1, h2, by rw [hW]; simp⟩
theorem GBx.mono {w : World} {p base base' : Nat} {A : Option Addr} {c : Nat} {g : GrD} (h : GBx w p base A c g) (hb : base' ≤ base) : GBx w p base' A c g :=
 ⟨h.c0, h.c1, h.c2, h.fz, h.ow.mono hb, h.ne, h.i1, h.i2, h.lt⟩
theorem fstL_at {g : GrD} {k : Nat} (hk : k < (lettersL g.1.toNat).length) (h0 : ∀ j (hj : j < (lettersL g.1.toNat).length), j < k → nextV g.2.2 0 (lettersL g.1.toNat)[j] < 0) (h : 0 ≤ nextV g.2.2 0 (lettersL g.1.toNat)[k]) : fstL g = (lettersL g.1.toNat)[k] := by
 unfold fstL
 have : (lettersL g.1.toNat).find? (fun x => decide (0 ≤ nextV g.2.2 0 x)) = some (lettersL g.1.toNat)[k] := by
  rw [List.find?_eq_some_iff_getElem]
  refine ⟨by simpa using h, k, hk, rfl, fun j hj => ?_⟩
  have := h0 j (by omega) hj
  simp
  omega
 rw [this]
 rfl
theorem cyc_step {f : Nat} {g : GrD} {t : List Int} (h : 1 < g.2.1 ∧ degL g.2.2 0 = 1) : hairF (f + 1) g t = hairF f (movG g (nextV g.2.2 0 (fstL g)).toNat) (t ++ [fstL g]) := by
 rw [hairF, if_pos h]
theorem cyc_stop {f : Nat} {g : GrD} {t : List Int} (h : ¬ (1 < g.2.1 ∧ degL g.2.2 0 = 1)) : hairF f g t = (g, t) := by
 cases f with
 | zero => rfl
 | succ f => rw [hairF, if_neg h]
set_option maxHeartbeats 4000000 in
theorem specCyclicGraph_any (v : Value) (g : GrD) (w : World) (h : ArgG w v g) (hc : coreB g = true) :
  Calls Tryz.prog 80 #[v] w fun e w' => ∃ r o, e = .returned (.tuple #[r, o]) ∧ OwG w' w.heap.size r (cycG g).1 ∧ OwI w' w.heap.size o (cycG g).2 ∧ Below w.heap.size w w' := by
 have HG := Lib.hid h
 have HC := Lib.hid hc
 have hf := core_fold hc
 have HF := Lib.hid hf
 obtain ⟨hgr, hfo⟩ := foldB_parts hf
 have HGR := Lib.hid hgr
 obtain ⟨h13, h40, h120, _⟩ := grB_parts hgr
 have HRES : Hid (hairF 40 g [] = cycG g) := Lib.hid rfl
 have HEND := Lib.hid (cyc_end 40 g [] hc (by omega))
 change Hid ¬(1 < (cycG g).1.2.1 ∧ degL (cycG g).1.2.2 0 = 1) at HEND
 generalize cycG g = RES at *
 obtain ⟨s, rfl, hi1, hi2, ha⟩ := h
 obtain ⟨A, cap, rfl⟩ := ha.form
 obtain ⟨g1, N, es⟩ := g
 simp only at *
 clear ha hgr hfo hf hc
 go_enter Tryz.func80, Tryz.ntmps80
 go_wp2_with fail
 obtain ⟨W1, hW1⟩ : ∃ W, W = w.alloc (Obj.cells #[Value.int IntKind.i64 g1, Value.int IntKind.i64 N, .slice A es.length cap] 31) := ⟨_, rfl⟩
 rw [← hW1]
 obtain ⟨hs1, b1, hc1, _⟩ := gbox hW1
 obtain ⟨W2, hW2⟩ : ∃ W, W = W1.alloc (Obj.cells #[Value.int IntKind.i64 0, Value.int IntKind.i64 0, .slice none 0 0] 31) := ⟨_, rfl⟩
 rw [← hW2]
 obtain ⟨hs2, b2, hc2, hf2⟩ := gbox hW2
 obtain ⟨W, hW⟩ : ∃ W, W = W2.alloc (.cells #[] 3) := ⟨_, rfl⟩
 rw [← hW]
 have hs3 : W.heap.size = W2.heap.size + 1 := by rw [hW]; simp
 have b3 : Below W2.heap.size W2 W := by rw [hW]; exact (Below.refl _ _).alloc (Nat.le_refl _) _
 have o3 : OwI W W2.heap.size (.slice (some ⟨W2.heap.size, 0, none⟩) 0 0) [] := by rw [hW]; exact OwI_lit W2 [] I64s_nil (by simp) (Nat.le_refl _)
 have HC1 := Lib.hid hc1
 have HC2 := Lib.hid hc2
 have HF2 := Lib.hid hf2
 have BX1 := Lib.hid b1
 have BX2 := Lib.hid b2
 have BX3 := Lib.hid b3
 have hsW : W.heap.size = w.heap.size + 3 := by omega
 have e2 : W2.heap.size = w.heap.size + 2 := by omega
 have O3 : Hid (OwI W (w.heap.size + 2) (.slice (some ⟨w.heap.size + 1 + 1, 0, none⟩) 0 0) []) := Lib.hid (by rw [show w.heap.size + 1 + 1 = W2.heap.size by omega]; exact o3.mono (by omega))
 have BX : Hid (Below w.heap.size w W) := Lib.hid (b1.trans ((b2.trans (b3.mono (by omega))).mono (by omega)))
 have HCL : Hid (∀ w', Below (w.heap.size + 2) W w' → w'.cell? ⟨w.heap.size, 0, none⟩ = some (.int .i64 g1) ∧ w'.cell? ⟨w.heap.size, 1, none⟩ = some (.int .i64 N) ∧ w'.cell? ⟨w.heap.size, 2, none⟩ = some (.slice A es.length cap)) := Lib.hid fun w' hb => HC1.out w' ((BX2.out.mono (by omega)).trans ((BX3.out.mono (by omega)).trans (hb.mono (by omega))))
 have HRC : Hid (∀ w', Below (w.heap.size + 2) W w' → (w'.cell? ⟨w.heap.size + 1, 0, none⟩ = some (.int .i64 0) ∧ w'.cell? ⟨w.heap.size + 1, 1, none⟩ = some (.int .i64 0) ∧ w'.cell? ⟨w.heap.size + 1, 2, none⟩ = some (.slice none 0 0)) ∧ ∀ j, w'.frozen? ⟨w.heap.size + 1, j, none⟩ = false) := Lib.hid fun w' hb => by
  have e : Below (W1.heap.size + 1) W2 w' := (BX3.out.mono (by omega)).trans (hb.mono (by omega))
  have h1 := HC2.out w' e
  have h2 := fun j => HF2.out j w' e
  rw [hs1] at h1 h2
  exact ⟨h1, h2⟩
 have HA : Hid (∀ w', Below (w.heap.size + 2) W w' → ArgG w' (.agg #[.int .i64 g1, .int .i64 N, .slice A es.length cap]) (g1, N, es)) := Lib.hid fun w' hb => HG.out.below (BX.out.trans (hb.mono (by omega)))
 clear hW1 hW2 hW hc1 hc2 hf2 b1 b2 b3 o3 HC1 HC2 HF2 BX1 BX2 BX3 hs1 hs2 hs3
 clear e2
 have hfo := specIsSubgroup_any _ (g1, N, es) W (HA.out W ((Below.refl W.heap.size W).mono (by omega)))
 rw [HC.out] at hfo
 refine hfo.mono ?_
 clear hfo
 rintro e w4 ⟨rfl, b4⟩
 have hs4 := b4.size
 have B4 : Hid (Below (w.heap.size + 2) W w4) := Lib.hid (b4.mono (by omega))
 have O4 := Lib.hid (O3.out.below b4)
 obtain ⟨q0, q1, q2⟩ := HCL.out w4 B4.out
 clear b4
 go_wp2_with fail
 refine (l4Copy_any _ (g1, N, es) w4 (HA.out w4 B4.out) (by simp only; omega)).mono ?_
 clear q0 q1 q2
 rintro e w5 ⟨r, rfl, o5, b5⟩
 have hs5 := b5.size
 have B5 : Hid (Below (w.heap.size + 2) W w5) := Lib.hid (B4.out.trans (b5.mono (by omega)))
 have O5 := Lib.hid (O4.out.below b5)
 obtain ⟨s1, rfl, _, _, oe5⟩ := o5
 obtain ⟨A1, c1, rfl, _⟩ := oe5.form
 simp only at *
 clear b5
 go_wp2_with fail
 obtain ⟨W6, hW6⟩ : ∃ W, W = w5.alloc (Obj.cells #[Value.int IntKind.i64 g1, Value.int IntKind.i64 N, .slice A1 es.length c1] 31) := ⟨_, rfl⟩
 have GB6 := Lib.hid (GBx.new (m := (g1, N, es)) oe5 hi1 hi2 hW6)
 have HNB6 : Hid (∀ b, (Value.slice A1 es.length c1).ownBlock = some b → b ≠ w.heap.size + 2) := Lib.hid fun b hb => by have := (oe5.1.lt b hb).1; omega
 obtain ⟨hs6, b6, _, _⟩ := gbox hW6
 rw [← hW6]
 have B6 : Hid (Below (w.heap.size + 2) W W6) := Lib.hid (B5.out.trans (b6.mono (by omega)))
 have O6 := Lib.hid (O5.out.below b6)
 clear hW6 b6 oe5
 obtain ⟨p, hp⟩ : ∃ p, p = w5.heap.size := ⟨_, rfl⟩
 rw [← hp] at GB6 ⊢
 have hpw : w.heap.size + 3 ≤ p := by omega
 have hp6 : p < W6.heap.size := by omega
 have h4w : w.heap.size + 2 ≤ w4.heap.size := by omega
 clear hp hs6 hs5 hs4
 go_loopw [4, 6] (fun tl i wr => ∃ (k : Nat) (gk : GrD) (t : List Int) (A2 : Option Addr) (c2 : Nat), k ≤ 40 ∧ i = .int .i64 k ∧ coreB gk = true ∧ hairF (40 - k) gk t = RES ∧ gk.2.1 + k ≤ 40 ∧ t.length ≤ k ∧ GBx wr p (w.heap.size + 2) A2 c2 gk ∧ OwI wr (w.heap.size + 2) tl t ∧ (∀ b, tl.ownBlock = some b → b ≠ p ∧ (Value.slice A2 gk.2.2.length c2).ownBlock ≠ some b) ∧ Below (w.heap.size + 2) W wr) (fun _ i _ => 40 - (intOf i).toNat)
 case atStart =>
  exact ⟨0, (g1, N, es), [], A1, c1, Nat.zero_le _, rfl, HC.out, HRES.out, (by simp only; omega), Nat.zero_le _, GB6.out.mono (by omega), O6.out, fun b hb => ⟨by simp [Value.ownBlock] at hb; omega, fun e => HNB6.out b e (by simp [Value.ownBlock] at hb; omega)⟩, B6.out⟩
 case round =>
  obtain ⟨k, gk, t, A2, c2, hk, rfl, hck, hcy, hsz, htl, hgb, hot, hdj, hbr⟩ := hrel
  obtain ⟨wk, rfl⟩ : ∃ wk : World, wk = wr := ⟨_, rfl⟩
  have hfk := core_fold hck
  obtain ⟨hgk, hfok⟩ := foldB_parts hfk
  obtain ⟨k13, k40, k120, _⟩ := grB_parts hgk
  have HFL := Lib.hid (fun hd => fstL_ok hgk hd)
  have HNE0 := Lib.hid (fun hd => fst_ne hgk hfok hd)
  have HRG := Lib.hid (nextV_range hgk)
  have HMC := Lib.hid (fun (u : Nat) hu => movG_core hfk (u := u) hu)
  have HML := Lib.hid (fun hd => movG_lt hfk hd)
  have HST := Lib.hid (fun (f : Nat) hd => cyc_step (f := f) (g := gk) (t := t) hd)
  have HSP := Lib.hid (fun (f : Nat) hd => cyc_stop (f := f) (g := gk) (t := t) hd)
  have ONE := Lib.hid (steps_one hfok)
  have HFK := Lib.hid hfk
  have HCY := Lib.hid hcy
  have HGB := Lib.hid hgb
  have HOT := Lib.hid hot
  have HDJ := Lib.hid hdj
  have HBR := Lib.hid hbr
  obtain ⟨At, ct, rfl, _⟩ := hot.form
  obtain ⟨rk, nk, ek⟩ := gk
  obtain ⟨rn, rfl⟩ : ∃ rn : Nat, rk = (rn : Int) := ⟨rk.toNat, by simp only at k13; omega⟩
  simp only [Int.toNat_natCast] at *
  have HFA : Hid (∀ k (hk : k < (lettersL rn).length), (∀ j (hj : j < (lettersL rn).length), j < k → nextV ek 0 (lettersL rn)[j] < 0) → 0 ≤ nextV ek 0 (lettersL rn)[k] → fstL ((rn : Int), nk, ek) = (lettersL rn)[k]) := Lib.hid fun k hk h0 h1 => fstL_at (g := ((rn : Int), nk, ek)) hk h0 h1
  have z0 := hgb.c0
  have z1 := hgb.c1
  have z2 := hgb.c2
  simp only at z0 z1 z2
  have hwk := hgb.lt
  clear hck hfk hgk hfok hcy hgb hot hdj hbr
  have hkI : (k : Int) < 40 := by omega
  have HTAIL : Hid (∀ wf, Below wk.heap.size wk wf → ¬ (1 < nk ∧ degL ek 0 = 1) → (((rn : Int), nk, ek), t) = RES) := Lib.hid fun wf _ hn => by rw [← HCY.out, HSP.out _ hn]
  rcases es1 : decide (1 < nk) with _ | _
  ·have hsn : ¬ 1 < nk := by simpa using es1
   have HT := HTAIL.out wk (Below.refl _ _) (fun q => hsn q.1)
   obtain ⟨⟨r0, r1, r2⟩, hrf⟩ := HRC.out wk HBR.out
   have rf0 := hrf 0
   have rf1 := hrf 1
   have rf2 := hrf 2
   have HBF := Lib.hid (BX.out.trans (HBR.out.mono (by omega)))
   have hpne : w.heap.size + 1 ≠ p := by omega
   have HHT := Lib.hid HT
   clear hrf HT
   go_wp2
   obtain ⟨e0, e1, e2⟩ := cells3F (.int .i64 (rn : Int)) (.int .i64 nk) (.slice A2 ek.length c2) r0 r1 r2
   have bw : Below w.heap.size w (((wk.setCell ⟨w.heap.size + 1, 0, none⟩ (.int .i64 (rn : Int))).setCell ⟨w.heap.size + 1, 1, none⟩ (.int .i64 nk)).setCell ⟨w.heap.size + 1, 2, none⟩ (.slice A2 ek.length c2)) := set3_below _ _ _ HBF.out (by omega)
   have ow : OwE (((wk.setCell ⟨w.heap.size + 1, 0, none⟩ (.int .i64 (rn : Int))).setCell ⟨w.heap.size + 1, 1, none⟩ (.int .i64 nk)).setCell ⟨w.heap.size + 1, 2, none⟩ (.slice A2 ek.length c2)) (w.heap.size + 2) (.slice A2 ek.length c2) ek := HGB.out.ow.keep fun b hb => set3_heap _ _ _ _ _ (by have := (HGB.out.ow.1.lt b hb).1; omega)
   have ot : OwI (((wk.setCell ⟨w.heap.size + 1, 0, none⟩ (.int .i64 (rn : Int))).setCell ⟨w.heap.size + 1, 1, none⟩ (.int .i64 nk)).setCell ⟨w.heap.size + 1, 2, none⟩ (.slice A2 ek.length c2)) (w.heap.size + 2) (.slice At t.length ct) t := HOT.out.keepB fun b hb => set3_heap _ _ _ _ _ (by have := (HOT.out.1.lt b hb).1; omega)
   have i1 := HGB.out.i1
   have i2 := HGB.out.i2
   generalize (((wk.setCell ⟨w.heap.size + 1, 0, none⟩ (.int .i64 (rn : Int))).setCell ⟨w.heap.size + 1, 1, none⟩ (.int .i64 nk)).setCell ⟨w.heap.size + 1, 2, none⟩ (.slice A2 ek.length c2)) = wf at *
   rw [← HHT.out]
   exact bodyPost_ret (v := .tuple #[.agg #[.int .i64 (rn : Int), .int .i64 nk, .slice A2 ek.length c2], .slice At t.length ct]) (by simp [results, Tryz.results80, go_sem, e0, e1, e2]) rfl ⟨_, _, rfl, ⟨.slice A2 ek.length c2, rfl, i1, i2, ow.mono (by omega)⟩, ot.mono (by omega), bw⟩
  ·have hsn : 1 < nk := by simpa using es1
   go_wp2_with fail
   refine (specDegreeOf_any _ ((rn : Int), nk, ek) 0 wk HGB.out.arg (by simp only; omega)).mono ?_
   rintro e w7 ⟨rfl, b7⟩
   have hs7 := b7.size
   have HGB7 := Lib.hid (HGB.out.below b7)
   have HOT7 := Lib.hid (HOT.out.below b7)
   have BK7 := Lib.hid b7
   have B7 := Lib.hid (HBR.out.trans (b7.mono (by have := HBR.out.size; omega)))
   have z0 := HGB7.out.c0
   have z1 := HGB7.out.c1
   have z2 := HGB7.out.c2
   simp only at z0 z1 z2
   clear b7
   rcases ed : ((degL ek 0 : Int) == 1) with _ | _
   ·have hdn : ¬ degL ek 0 = 1 := fun q => by simp [q] at ed
    have HT := HTAIL.out w7 BK7.out (fun q => hdn q.2)
    obtain ⟨⟨r0, r1, r2⟩, hrf⟩ := HRC.out w7 B7.out
    have rf0 := hrf 0
    have rf1 := hrf 1
    have rf2 := hrf 2
    have HBF := Lib.hid (BX.out.trans (B7.out.mono (by omega)))
    have hpne : w.heap.size + 1 ≠ p := by omega
    have HHT := Lib.hid HT
    clear hrf HT
    go_wp2
    obtain ⟨e0, e1, e2⟩ := cells3F (.int .i64 (rn : Int)) (.int .i64 nk) (.slice A2 ek.length c2) r0 r1 r2
    have bw : Below w.heap.size w (((w7.setCell ⟨w.heap.size + 1, 0, none⟩ (.int .i64 (rn : Int))).setCell ⟨w.heap.size + 1, 1, none⟩ (.int .i64 nk)).setCell ⟨w.heap.size + 1, 2, none⟩ (.slice A2 ek.length c2)) := set3_below _ _ _ HBF.out (by omega)
    have ow : OwE (((w7.setCell ⟨w.heap.size + 1, 0, none⟩ (.int .i64 (rn : Int))).setCell ⟨w.heap.size + 1, 1, none⟩ (.int .i64 nk)).setCell ⟨w.heap.size + 1, 2, none⟩ (.slice A2 ek.length c2)) (w.heap.size + 2) (.slice A2 ek.length c2) ek := HGB7.out.ow.keep fun b hb => set3_heap _ _ _ _ _ (by have := (HGB7.out.ow.1.lt b hb).1; omega)
    have ot : OwI (((w7.setCell ⟨w.heap.size + 1, 0, none⟩ (.int .i64 (rn : Int))).setCell ⟨w.heap.size + 1, 1, none⟩ (.int .i64 nk)).setCell ⟨w.heap.size + 1, 2, none⟩ (.slice A2 ek.length c2)) (w.heap.size + 2) (.slice At t.length ct) t := HOT7.out.keepB fun b hb => set3_heap _ _ _ _ _ (by have := (HOT7.out.1.lt b hb).1; omega)
    have i1 := HGB7.out.i1
    have i2 := HGB7.out.i2
    generalize (((w7.setCell ⟨w.heap.size + 1, 0, none⟩ (.int .i64 (rn : Int))).setCell ⟨w.heap.size + 1, 1, none⟩ (.int .i64 nk)).setCell ⟨w.heap.size + 1, 2, none⟩ (.slice A2 ek.length c2)) = wf at *
    rw [← HHT.out]
    exact bodyPost_ret (v := .tuple #[.agg #[.int .i64 (rn : Int), .int .i64 nk, .slice A2 ek.length c2], .slice At t.length ct]) (by simp [results, Tryz.results80, go_sem, e0, e1, e2]) rfl ⟨_, _, rfl, ⟨.slice A2 ek.length c2, rfl, i1, i2, ow.mono (by omega)⟩, ot.mono (by omega), bw⟩
   ·have hd1 : degL ek 0 = 1 := by simp at ed; omega
    have HD1 := Lib.hid hd1
    have HFL := Lib.hid (HFL.out hd1)
    have HNE0 := Lib.hid (HNE0.out hd1)
    have HML := Lib.hid (HML.out hd1)
    have HST := Lib.hid (fun f => HST.out f ⟨hsn, hd1⟩)
    clear hd1 HTAIL
    go_wp2_with fail
    refine (l5Letters_any rn w7 (by omega)).mono ?_
    rintro e w8 ⟨rl, rfl, ol, b8⟩
    have hs8 := b8.size
    have B8 := Lib.hid (B7.out.trans (b8.mono (by have := B7.out.size; omega)))
    have HGB8 := Lib.hid (HGB7.out.below b8)
    have HOT8 := Lib.hid (HOT7.out.below b8)
    have hll := lettersL_len rn
    have HRNG : Hid (∀ x ∈ lettersL rn, -3 ≤ x ∧ x ≤ 3) := Lib.hid fun x hx => by have := letters_mem.1 hx; omega
    generalize lettersL rn = ls at *
    obtain ⟨Al, capl, rfl, hcl, hml, _, hfl⟩ := ol.form
    obtain ⟨bl, rfl, hbl1, hbl2⟩ := hfl (by omega)
    unfold maxLen at hml
    have OL := Lib.hid ol.rd
    clear ol b8 z0 z1 z2 hfl
    go_wp2
    go_loopw [4, 8] (fun tl j wr => ∃ m : Nat, tl = .slice At t.length ct ∧ m ≤ ls.length ∧ j = .int .i64 m ∧ (∀ i (hi : i < ls.length), i < m → nextV ek 0 ls[i] < 0) ∧ Below w8.heap.size w8 wr) (fun _ j _ => ls.length - (intOf j).toNat)
    case atStart => exact ⟨0, rfl, Nat.zero_le _, rfl, fun i _ hi => absurd hi (Nat.not_lt_zero _), Below.refl _ _⟩
    case round =>
     obtain ⟨m, rfl, hm, rfl, hno, hb⟩ := hrel
     have HNO := Lib.hid hno
     have hsr := hb.size
     have B9 := Lib.hid (B8.out.trans (hb.mono (by have := B8.out.size; omega)))
     have HGB9 := Lib.hid (HGB8.out.below hb)
     have HOT9 := Lib.hid (HOT8.out.below hb)
     have OL9 := Lib.hid (OL.out.below hb)
     have HB9 := Lib.hid hb
     clear hno hb
     by_cases hlt : m < ls.length
     ·obtain ⟨_, _, hAl, _, hcl9⟩ := OL9.out.at (by omega)
      obtain ⟨rfl, rfl⟩ : bl = _ ∧ 0 = _ := by simpa using hAl
      have c0 := hcl9 m hlt
      rw [Nat.zero_add] at c0
      have HF1 := Lib.hid (HFA.out m hlt (fun j hj hjm => HNO.out j hj hjm))
      have HX3 := Lib.hid (HRNG.out ls[m] (List.getElem_mem hlt))
      have HNX := Lib.hid (fun x W (h : ArgG W (.agg #[.int .i64 (rn : Int), .int .i64 nk, .slice A2 ek.length c2]) ((rn : Int), nk, ek)) => specNextVertex_any _ ((rn : Int), nk, ek) 0 x W h (ONE.out 0 x))
      have HNS : Hid (nextV ek 0 ls[m] < 0 → ∀ i (hi : i < ls.length), i < m + 1 → nextV ek 0 ls[i] < 0) := Lib.hid fun h i hi hm1 => by
       by_cases hi' : i < m
       ·exact HNO.out i hi hi'
       ·obtain rfl : i = m := by omega
        exact h
      obtain ⟨x, hx⟩ : ∃ x, ls[m] = x := ⟨_, rfl⟩
      have HLM := Lib.hid hx
      rw [hx] at c0 HF1 HX3 HNS
      clear hx
      have z0 := HGB9.out.c0
      have z1 := HGB9.out.c1
      have z2 := HGB9.out.c2
      simp only at z0 z1 z2
      have hpl := HGB9.out.lt
      have hblr : bl < wr.heap.size := by omega
      clear hAl hcl9
      go_wp2_with fail
      have f0 := BelW.cell z0 hpl
      have f1 := BelW.cell z1 hpl
      have f2 := BelW.cell z2 hpl
      have f3 := BelW.cell c0 hblr
      (refine wp_region_quiet_bel (by kernel_rfl) (by kernel_rfl) ?_; (repeat (go_big_quiet_step (first | (go_at_call 58; exact Calls.bel_of (HNX.out _ _ (HGB9.out.below (BelW.h _)).arg))))); refine wpQuiet_nil ?_; intro wq hw'; obtain ⟨pq, hw''⟩ := hw'; have bq := pq.h; rw [← hw''] at bq; clear hw'' pq)
      clear f0 f1 f2 f3 z0 z1 z2 c0
      have sq := bq.size
      have HGBq := Lib.hid (HGB9.out.below bq)
      have HOTq := Lib.hid (HOT9.out.below bq)
      have Bq := Lib.hid (B9.out.trans (bq.mono (by have := B9.out.size; omega)))
      have HB9q := Lib.hid (HB9.out.trans (bq.mono (by omega)))
      clear bq
      have HR := Lib.hid (HRG.out 0 x)
      rcases ey : decide (0 ≤ nextV ek 0 x) with _ | _
      ·have hy : ¬ 0 ≤ nextV ek 0 x := by simpa using ey
       have HNS2 := Lib.hid (HNS.out (by omega))
       generalize nextV ek 0 x = y at *
       go_wp2
       go_roundw
       case rel => exact ⟨m + 1, rfl, by omega, by go_num, HNS2.out, HB9q.out⟩
       case measure => simp [intOf]; omega
      ·have hy : 0 ≤ nextV ek 0 x := by simpa using ey
       have HFX := Lib.hid (HF1.out hy)
       rw [HFX.out] at HST HML HNE0 HFL
       have hyr : nextV ek 0 x < nk := by
        have := HR.out
        omega
       have HI64 : Hid (I64 x) := Lib.hid (by have := HX3.out; unfold I64; omega)
       obtain ⟨u, hu⟩ : ∃ u : Nat, nextV ek 0 x = (u : Int) := ⟨(nextV ek 0 x).toNat, by omega⟩
       rw [hu] at HST HML hyr hy ⊢
       have HMC2 := Lib.hid (HMC.out u hyr)
       have HYR := Lib.hid hyr
       rw [Int.toNat_natCast] at HST HML
       clear hu HF1 HNS HFX HR ey
       have z0 := HGBq.out.c0
       have z1 := HGBq.out.c1
       have z2 := HGBq.out.c2
       have hpl := HGBq.out.lt
       have HBL := Lib.hid (OL.out.below HB9q.out)
       have hls : m < ls.length := hlt
       obtain ⟨_, _, hAl, _, hcl9⟩ := HBL.out.at (by omega)
       obtain ⟨rfl, rfl⟩ : bl = _ ∧ 0 = _ := by simpa using hAl
       have c0 := hcl9 m hlt
       rw [Nat.zero_add] at c0
       have HXM : Hid (ls[m] = x) := HLM
       rw [HXM.out] at c0
       clear hAl hcl9
       have hbq : w.heap.size + 2 ≤ wq.heap.size := by omega
       have BA : Hid (Below wq.heap.size wq (wq.alloc (.cells #[.int .i64 x] 3))) := Lib.hid ((Below.refl _ _).alloc (Nat.le_refl _) _)
       have HSA : Hid ((wq.alloc (.cells #[.int .i64 x] 3)).heap.size = wq.heap.size + 1) := Lib.hid (by simp)
       clear z0 z1 z2
       have z0 := (HGBq.out.below BA.out).c0
       have z1 := (HGBq.out.below BA.out).c1
       have z2 := (HGBq.out.below BA.out).c2
       go_wp2_with ((at_builtin; refine push_int rfl (.tmp 50) (.tmp 55) rfl _ _ _ (OwI.alloc HOTq.out _) rfl _ _ rfl (cell_new1 _ _ _) HI64.out (by first | omega | (simp <;> omega)) (by first | omega | (simp <;> omega)) ?_; intro v9 wv9 o9 g9 p9); have HGB10 := Lib.hid ((HGBq.out.below BA.out).grown g9 (HDJ.out)); have O9 := Lib.hid o9; have G9 := Lib.hid g9; have P9 := Lib.hid p9; clear z0 z1 z2 o9 g9 p9; have z0 := HGB10.out.c0; have z1 := HGB10.out.c1; have z2 := HGB10.out.c2; simp only at z0 z1 z2)
       have hs9 := G9.out.size
       rw [HSA.out] at hs9
       have B10 : Hid (Below (w.heap.size + 2) W wv9) := Lib.hid (bel_push Bq.out hbq HOTq.out.1 (Nat.le_refl _) G9.out)
       have HDJ9 : Hid (∀ b, v9.ownBlock = some b → b ≠ p ∧ (Value.slice A2 ek.length c2).ownBlock ≠ some b) := Lib.hid fun b hb => by
        rcases P9.out with p9 | p9
        ·rw [p9] at hb; exact HDJ.out b hb
        ·rw [p9, HSA.out] at hb
         have hbb : b = wq.heap.size + 1 := by simpa using hb.symm
         refine ⟨by omega, fun e => ?_⟩
         have := (HGBq.out.ow.1.lt b e).2
         omega
       have HARG := Lib.hid HGB10.out.arg
       clear z0 z1 z2 c0
       refine (specMoveBase_any _ ((rn : Int), nk, ek) u wv9 HARG.out HFK.out HYR.out).mono ?_
       rintro e w11 ⟨r11, rfl, o11, b11⟩
       have hs11 := b11.size
       have HGB11 := Lib.hid (HGB10.out.below b11)
       have O11 := Lib.hid (O9.out.below b11)
       have B11 := Lib.hid (B10.out.trans (b11.mono (by omega)))
       generalize movG ((rn : Int), nk, ek) u = M at *
       obtain ⟨m1, m2, ms⟩ := M
       obtain ⟨s11, rfl, hj1, hj2, oe11⟩ := o11
       obtain ⟨A9, c9, rfl, _⟩ := oe11.form
       simp only at hj1 hj2 oe11
       have HDN : Hid (∀ b, (Value.slice A9 ms.length c9).ownBlock = some b → wv9.heap.size ≤ b) := Lib.hid fun b hb => (oe11.1.lt b hb).1
       have HGN := Lib.hid (HGB11.out.set (m := (m1, m2, ms)) oe11 (fun b hb => by have := HDN.out b hb; have := HGB10.out.lt; omega) hj1 hj2)
       have z0 := HGB11.out.c0
       have z1 := HGB11.out.c1
       have z2 := HGB11.out.c2
       simp only at z0 z1 z2
       have zf0 := HGB11.out.fz 0
       have zf1 := HGB11.out.fz 1
       have zf2 := HGB11.out.fz 2
       have OK := Lib.hid (O11.out.keepB (w' := (((w11.setCell ⟨p, 0, none⟩ (.int .i64 m1)).setCell ⟨p, 1, none⟩ (.int .i64 m2)).setCell ⟨p, 2, none⟩ (.slice A9 ms.length c9))) fun b hb => set3_heap _ _ _ _ _ (HDJ9.out b hb).1)
       have HDF : Hid (∀ b, v9.ownBlock = some b → b ≠ p ∧ (Value.slice A9 ms.length c9).ownBlock ≠ some b) := Lib.hid fun b hb => ⟨(HDJ9.out b hb).1, fun e => by have := HDN.out b e; have := (O9.out.1.lt b hb).2; omega⟩
       have BN : Hid (Below (w.heap.size + 2) W (((w11.setCell ⟨p, 0, none⟩ (.int .i64 m1)).setCell ⟨p, 1, none⟩ (.int .i64 m2)).setCell ⟨p, 2, none⟩ (.slice A9 ms.length c9))) := Lib.hid (set3_below _ _ _ B11.out (by omega))
       have HST2 : Hid (hairF (40 - (k + 1)) (m1, m2, ms) (t ++ [x]) = RES) := Lib.hid (by
        rw [← HST.out, ← HCY.out, show 40 - k = (40 - (k + 1)) + 1 by omega])
       have hml := HML.out
       simp only at hml
       clear oe11 b11
       go_wp2
       go_roundw
       case rel => exact ⟨k + 1, (m1, m2, ms), t ++ [x], A9, c9, by omega, by go_num, HMC2.out, HST2.out, by simp only; omega, by rw [List.length_append, List.length_singleton]; omega, HGN.out.mono (by omega), OK.out, HDF.out, BN.out⟩
       case measure => simp [intOf]; omega
     ·exfalso
      obtain ⟨k2, hk2, hx2⟩ := List.getElem_of_mem HFL.out.1
      have := HNO.out k2 hk2 (by omega)
      rw [hx2] at this
      have := HFL.out.2
      omega
set_option maxHeartbeats 4000000 in
theorem implCyclicGraph_any (v : Value) (g : GrD) (w : World) (h : ArgG w v g) (hc : coreB g = true) :
  Calls Tryz.prog 88 #[v] w fun e w' => ∃ r o, e = .returned (.tuple #[r, o]) ∧ OwG w' w.heap.size r (cycG g).1 ∧ OwI w' w.heap.size o (cycG g).2 ∧ Below w.heap.size w w' := by
 have HG := Lib.hid h
 have HC := Lib.hid hc
 have hf := core_fold hc
 have HF := Lib.hid hf
 obtain ⟨hgr, hfo⟩ := foldB_parts hf
 have HGR := Lib.hid hgr
 obtain ⟨h13, h40, h120, _⟩ := grB_parts hgr
 have HRES : Hid (hairF 40 g [] = cycG g) := Lib.hid rfl
 have HEND := Lib.hid (cyc_end 40 g [] hc (by omega))
 change Hid ¬(1 < (cycG g).1.2.1 ∧ degL (cycG g).1.2.2 0 = 1) at HEND
 generalize cycG g = RES at *
 obtain ⟨s, rfl, hi1, hi2, ha⟩ := h
 obtain ⟨A, cap, rfl⟩ := ha.form
 obtain ⟨g1, N, es⟩ := g
 simp only at *
 clear ha hgr hfo hf hc
 go_enter Tryz.func88, Tryz.ntmps88
 go_wp2_with fail
 obtain ⟨W1, hW1⟩ : ∃ W, W = w.alloc (Obj.cells #[Value.int IntKind.i64 g1, Value.int IntKind.i64 N, .slice A es.length cap] 31) := ⟨_, rfl⟩
 rw [← hW1]
 obtain ⟨hs1, b1, hc1, _⟩ := gbox hW1
 obtain ⟨W, hW⟩ : ∃ W, W = W1.alloc (Obj.cells #[Value.int IntKind.i64 0, Value.int IntKind.i64 0, .slice none 0 0] 31) := ⟨_, rfl⟩
 rw [← hW]
 obtain ⟨hs2, b2, hc2, hf2⟩ := gbox hW
 have HC1 := Lib.hid hc1
 have HC2 := Lib.hid hc2
 have HF2 := Lib.hid hf2
 have BX1 := Lib.hid b1
 have BX2 := Lib.hid b2
 have hsW : W.heap.size = w.heap.size + 2 := by omega
 have BX : Hid (Below w.heap.size w W) := Lib.hid (b1.trans (b2.mono (by omega)))
 have HCL : Hid (∀ w', Below (w.heap.size + 2) W w' → w'.cell? ⟨w.heap.size, 0, none⟩ = some (.int .i64 g1) ∧ w'.cell? ⟨w.heap.size, 1, none⟩ = some (.int .i64 N) ∧ w'.cell? ⟨w.heap.size, 2, none⟩ = some (.slice A es.length cap)) := Lib.hid fun w' hb => HC1.out w' ((BX2.out.mono (by omega)).trans (hb.mono (by omega)))
 have HRC : Hid (∀ w', Below (w.heap.size + 2) W w' → (w'.cell? ⟨w.heap.size + 1, 0, none⟩ = some (.int .i64 0) ∧ w'.cell? ⟨w.heap.size + 1, 1, none⟩ = some (.int .i64 0) ∧ w'.cell? ⟨w.heap.size + 1, 2, none⟩ = some (.slice none 0 0)) ∧ ∀ j, w'.frozen? ⟨w.heap.size + 1, j, none⟩ = false) := Lib.hid fun w' hb => by
  have e : Below (W1.heap.size + 1) W w' := hb.mono (by omega)
  have h1 := HC2.out w' e
  have h2 := fun j => HF2.out j w' e
  rw [hs1] at h1 h2
  exact ⟨h1, h2⟩
 have HA : Hid (∀ w', Below (w.heap.size + 2) W w' → ArgG w' (.agg #[.int .i64 g1, .int .i64 N, .slice A es.length cap]) (g1, N, es)) := Lib.hid fun w' hb => HG.out.below (BX.out.trans (hb.mono (by omega)))
 clear hW1 hW hc1 hc2 hf2 b1 b2 HC1 HC2 HF2 BX1 BX2 hs1 hs2
 refine (copyGraph_any _ (g1, N, es) W (HA.out W ((Below.refl W.heap.size W).mono (by omega))) (by simp only; omega)).mono ?_
 rintro e w5 ⟨r, rfl, o5, b5⟩
 have hs5 := b5.size
 have B5 : Hid (Below (w.heap.size + 2) W w5) := Lib.hid (b5.mono (by omega))
 obtain ⟨s1, rfl, _, _, oe5⟩ := o5
 obtain ⟨A1, c1, rfl, _⟩ := oe5.form
 simp only at *
 clear b5
 obtain ⟨q0, q1, q2⟩ := HCL.out w5 B5.out
 have hlw5 : w.heap.size < w5.heap.size := by omega
 go_wp2_with fail
 clear q0 q1 q2
 obtain ⟨W6, hW6⟩ : ∃ W, W = w5.alloc (Obj.cells #[Value.int IntKind.i64 g1, Value.int IntKind.i64 N, .slice A1 es.length c1] 31) := ⟨_, rfl⟩
 have GB6 := Lib.hid (GBx.new (m := (g1, N, es)) oe5 hi1 hi2 hW6)
 obtain ⟨hs6, b6, _, _⟩ := gbox hW6
 rw [← hW6]
 have B6 : Hid (Below (w.heap.size + 2) W W6) := Lib.hid (B5.out.trans (b6.mono (by omega)))
 have HRB : Hid (∀ b, (Value.slice A1 es.length c1).ownBlock = some b → b < w5.heap.size) := Lib.hid fun b hb => (oe5.1.lt b hb).2
 clear hW6 b6 oe5
 obtain ⟨W7, hW7⟩ : ∃ W, W = W6.alloc (.cells #[] 3) := ⟨_, rfl⟩
 rw [← hW7]
 have hs7 : W7.heap.size = W6.heap.size + 1 := by rw [hW7]; simp
 have b7 : Below W6.heap.size W6 W7 := by rw [hW7]; exact (Below.refl _ _).alloc (Nat.le_refl _) _
 have o7 : OwI W7 W6.heap.size (.slice (some ⟨W6.heap.size, 0, none⟩) 0 0) [] := by rw [hW7]; exact OwI_lit W6 [] I64s_nil (by simp) (Nat.le_refl _)
 have B7 : Hid (Below (w.heap.size + 2) W W7) := Lib.hid (B6.out.trans (b7.mono (by omega)))
 have GB7 := Lib.hid (GB6.out.below b7)
 have O7 := Lib.hid o7
 clear hW7 b7 o7
 have hfo := implIsCore_any _ (g1, N, es) W7 (HA.out W7 B7.out)
 rw [HC.out] at hfo
 refine hfo.mono ?_
 clear hfo
 rintro e w8 ⟨rfl, b8⟩
 have hs8 := b8.size
 have B8 : Hid (Below (w.heap.size + 2) W w8) := Lib.hid (B7.out.trans (b8.mono (by omega)))
 have GB8 := Lib.hid (GB7.out.below b8)
 have O8 := Lib.hid (O7.out.below b8)
 clear b8
 obtain ⟨p, hp⟩ : ∃ p, p = w5.heap.size := ⟨_, rfl⟩
 have hw7e : w5.heap.size + 1 = p + 1 := by omega
 rw [← hp] at GB8 HRB ⊢
 have hpw : w.heap.size + 2 ≤ p := by omega
 have h6p : W6.heap.size = p + 1 := by omega
 rw [h6p] at O8
 have hp8 : p < w8.heap.size := by omega
 clear hp hs5 hs6 hs7 hs8 GB6 GB7 B5 B6 B7 O7
 go_wp2
 go_loopw [5] (fun tl wr => ∃ (gk : GrD) (t : List Int) (A2 : Option Addr) (c2 : Nat), t.length ≤ 40 ∧ coreB gk = true ∧ hairF (40 - t.length) gk t = RES ∧ gk.2.1 + t.length ≤ 40 ∧ GBx wr p (w.heap.size + 2) A2 c2 gk ∧ OwI wr (w.heap.size + 2) tl t ∧ (∀ b, tl.ownBlock = some b → b ≠ p ∧ (Value.slice A2 gk.2.2.length c2).ownBlock ≠ some b) ∧ Below (w.heap.size + 2) W wr) (fun o _ => 40 - sLen o)
 case atStart =>
  exact ⟨(g1, N, es), [], A1, c1, Nat.zero_le _, HC.out, HRES.out, (by simp only [List.length_nil]; omega), GB8.out.mono (by omega), O8.out.mono (by omega), fun b hb => ⟨by simp [Value.ownBlock] at hb; omega, fun e => by have := HRB.out b e; simp [Value.ownBlock] at hb; omega⟩, B8.out⟩
 case round =>
  obtain ⟨gk, t, A2, c2, htl, hck, hcy, hsz, hgb, hot, hdj, hbr⟩ := hrel
  obtain ⟨wk, rfl⟩ : ∃ wk : World, wk = wr := ⟨_, rfl⟩
  have hfk := core_fold hck
  obtain ⟨hgk, hfok⟩ := foldB_parts hfk
  obtain ⟨k13, k40, k120, _⟩ := grB_parts hgk
  have HFL := Lib.hid (fun hd => fstL_ok hgk hd)
  have HNE0 := Lib.hid (fun hd => fst_ne hgk hfok hd)
  have HRG := Lib.hid (nextV_range hgk)
  have HMC := Lib.hid (fun (u : Nat) hu => movG_core hfk (u := u) hu)
  have HML := Lib.hid (fun hd => movG_lt hfk hd)
  have HST := Lib.hid (fun (f : Nat) hd => cyc_step (f := f) (g := gk) (t := t) hd)
  have HSP := Lib.hid (fun (f : Nat) hd => cyc_stop (f := f) (g := gk) (t := t) hd)
  have ONE := Lib.hid (steps_one hfok)
  have LET := Lib.hid (let_of_gr hgk)
  have HFK := Lib.hid hfk
  have HCY := Lib.hid hcy
  have HGB := Lib.hid hgb
  have HOT := Lib.hid hot
  have HDJ := Lib.hid hdj
  have HBR := Lib.hid hbr
  obtain ⟨At, ct, rfl, _⟩ := hot.form
  obtain ⟨rk, nk, ek⟩ := gk
  obtain ⟨rn, rfl⟩ : ∃ rn : Nat, rk = (rn : Int) := ⟨rk.toNat, by simp only at k13; omega⟩
  simp only [Int.toNat_natCast] at *
  have HFA : Hid (∀ k (hk : k < (lettersL rn).length), (∀ j (hj : j < (lettersL rn).length), j < k → nextV ek 0 (lettersL rn)[j] < 0) → 0 ≤ nextV ek 0 (lettersL rn)[k] → fstL ((rn : Int), nk, ek) = (lettersL rn)[k]) := Lib.hid fun k hk h0 h1 => fstL_at (g := ((rn : Int), nk, ek)) hk h0 h1
  have z0 := hgb.c0
  have z1 := hgb.c1
  have z2 := hgb.c2
  simp only at z0 z1 z2
  have hwk := hgb.lt
  clear hck hfk hgk hfok hcy hgb hot hdj hbr
  have htl2 : t.length < 40 := by omega
  have HTAIL : Hid (∀ wf, Below wk.heap.size wk wf → ¬ (1 < nk ∧ degL ek 0 = 1) → (((rn : Int), nk, ek), t) = RES) := Lib.hid fun wf _ hn => by rw [← HCY.out, HSP.out _ hn]
  rcases es1 : decide (1 < nk) with _ | _
  ·have hsn : ¬ 1 < nk := by simpa using es1
   have HT := HTAIL.out wk (Below.refl _ _) (fun q => hsn q.1)
   obtain ⟨⟨r0, r1, r2⟩, hrf⟩ := HRC.out wk HBR.out
   have rf0 := hrf 0
   have rf1 := hrf 1
   have rf2 := hrf 2
   have HBF := Lib.hid (BX.out.trans (HBR.out.mono (by omega)))
   have hpne : w.heap.size + 1 ≠ p := by omega
   have HHT := Lib.hid HT
   clear hrf HT
   go_wp2
   obtain ⟨e0, e1, e2⟩ := cells3F (.int .i64 (rn : Int)) (.int .i64 nk) (.slice A2 ek.length c2) r0 r1 r2
   have bw : Below w.heap.size w (((wk.setCell ⟨w.heap.size + 1, 0, none⟩ (.int .i64 (rn : Int))).setCell ⟨w.heap.size + 1, 1, none⟩ (.int .i64 nk)).setCell ⟨w.heap.size + 1, 2, none⟩ (.slice A2 ek.length c2)) := set3_below _ _ _ HBF.out (by omega)
   have ow : OwE (((wk.setCell ⟨w.heap.size + 1, 0, none⟩ (.int .i64 (rn : Int))).setCell ⟨w.heap.size + 1, 1, none⟩ (.int .i64 nk)).setCell ⟨w.heap.size + 1, 2, none⟩ (.slice A2 ek.length c2)) (w.heap.size + 2) (.slice A2 ek.length c2) ek := HGB.out.ow.keep fun b hb => set3_heap _ _ _ _ _ (by have := (HGB.out.ow.1.lt b hb).1; omega)
   have ot : OwI (((wk.setCell ⟨w.heap.size + 1, 0, none⟩ (.int .i64 (rn : Int))).setCell ⟨w.heap.size + 1, 1, none⟩ (.int .i64 nk)).setCell ⟨w.heap.size + 1, 2, none⟩ (.slice A2 ek.length c2)) (w.heap.size + 2) (.slice At t.length ct) t := HOT.out.keepB fun b hb => set3_heap _ _ _ _ _ (by have := (HOT.out.1.lt b hb).1; omega)
   have i1 := HGB.out.i1
   have i2 := HGB.out.i2
   generalize (((wk.setCell ⟨w.heap.size + 1, 0, none⟩ (.int .i64 (rn : Int))).setCell ⟨w.heap.size + 1, 1, none⟩ (.int .i64 nk)).setCell ⟨w.heap.size + 1, 2, none⟩ (.slice A2 ek.length c2)) = wf at *
   rw [← HHT.out]
   exact bodyPost_ret (v := .tuple #[.agg #[.int .i64 (rn : Int), .int .i64 nk, .slice A2 ek.length c2], .slice At t.length ct]) (by simp [results, Tryz.results88, go_sem, e0, e1, e2]) rfl ⟨_, _, rfl, ⟨.slice A2 ek.length c2, rfl, i1, i2, ow.mono (by omega)⟩, ot.mono (by omega), bw⟩
  ·have hsn : 1 < nk := by simpa using es1
   go_wp2_with fail
   refine (implDegreeOf_any _ ((rn : Int), nk, ek) 0 wk HGB.out.arg (by simp only; omega)).mono ?_
   rintro e w7 ⟨rfl, b7⟩
   have hs7 := b7.size
   have HGB7 := Lib.hid (HGB.out.below b7)
   have HOT7 := Lib.hid (HOT.out.below b7)
   have BK7 := Lib.hid b7
   have B7 := Lib.hid (HBR.out.trans (b7.mono (by have := HBR.out.size; omega)))
   have z0 := HGB7.out.c0
   have z1 := HGB7.out.c1
   have z2 := HGB7.out.c2
   simp only at z0 z1 z2
   clear b7
   rcases ed : ((degL ek 0 : Int) == 1) with _ | _
   ·have hdn : ¬ degL ek 0 = 1 := fun q => by simp [q] at ed
    have HT := HTAIL.out w7 BK7.out (fun q => hdn q.2)
    obtain ⟨⟨r0, r1, r2⟩, hrf⟩ := HRC.out w7 B7.out
    have rf0 := hrf 0
    have rf1 := hrf 1
    have rf2 := hrf 2
    have HBF := Lib.hid (BX.out.trans (B7.out.mono (by omega)))
    have hpne : w.heap.size + 1 ≠ p := by omega
    have HHT := Lib.hid HT
    clear hrf HT
    go_wp2
    obtain ⟨e0, e1, e2⟩ := cells3F (.int .i64 (rn : Int)) (.int .i64 nk) (.slice A2 ek.length c2) r0 r1 r2
    have bw : Below w.heap.size w (((w7.setCell ⟨w.heap.size + 1, 0, none⟩ (.int .i64 (rn : Int))).setCell ⟨w.heap.size + 1, 1, none⟩ (.int .i64 nk)).setCell ⟨w.heap.size + 1, 2, none⟩ (.slice A2 ek.length c2)) := set3_below _ _ _ HBF.out (by omega)
    have ow : OwE (((w7.setCell ⟨w.heap.size + 1, 0, none⟩ (.int .i64 (rn : Int))).setCell ⟨w.heap.size + 1, 1, none⟩ (.int .i64 nk)).setCell ⟨w.heap.size + 1, 2, none⟩ (.slice A2 ek.length c2)) (w.heap.size + 2) (.slice A2 ek.length c2) ek := HGB7.out.ow.keep fun b hb => set3_heap _ _ _ _ _ (by have := (HGB7.out.ow.1.lt b hb).1; omega)
    have ot : OwI (((w7.setCell ⟨w.heap.size + 1, 0, none⟩ (.int .i64 (rn : Int))).setCell ⟨w.heap.size + 1, 1, none⟩ (.int .i64 nk)).setCell ⟨w.heap.size + 1, 2, none⟩ (.slice A2 ek.length c2)) (w.heap.size + 2) (.slice At t.length ct) t := HOT7.out.keepB fun b hb => set3_heap _ _ _ _ _ (by have := (HOT7.out.1.lt b hb).1; omega)
    have i1 := HGB7.out.i1
    have i2 := HGB7.out.i2
    generalize (((w7.setCell ⟨w.heap.size + 1, 0, none⟩ (.int .i64 (rn : Int))).setCell ⟨w.heap.size + 1, 1, none⟩ (.int .i64 nk)).setCell ⟨w.heap.size + 1, 2, none⟩ (.slice A2 ek.length c2)) = wf at *
    rw [← HHT.out]
    exact bodyPost_ret (v := .tuple #[.agg #[.int .i64 (rn : Int), .int .i64 nk, .slice A2 ek.length c2], .slice At t.length ct]) (by simp [results, Tryz.results88, go_sem, e0, e1, e2]) rfl ⟨_, _, rfl, ⟨.slice A2 ek.length c2, rfl, i1, i2, ow.mono (by omega)⟩, ot.mono (by omega), bw⟩
   ·have hd1 : degL ek 0 = 1 := by simp at ed; omega
    have HD1 := Lib.hid hd1
    have HFL := Lib.hid (HFL.out hd1)
    have HNE0 := Lib.hid (HNE0.out hd1)
    have HML := Lib.hid (HML.out hd1)
    have HST := Lib.hid (fun f => HST.out f ⟨hsn, hd1⟩)
    clear hd1 HTAIL
    go_wp2_with fail
    refine (letters_any rn w7 (by omega)).mono ?_
    rintro e w8 ⟨rl, rfl, ol, b8⟩
    have hs8 := b8.size
    have B8 := Lib.hid (B7.out.trans (b8.mono (by have := B7.out.size; omega)))
    have HGB8 := Lib.hid (HGB7.out.below b8)
    have HOT8 := Lib.hid (HOT7.out.below b8)
    have hll := lettersL_len rn
    have HRNG : Hid (∀ x ∈ lettersL rn, -3 ≤ x ∧ x ≤ 3) := Lib.hid fun x hx => by have := letters_mem.1 hx; omega
    generalize lettersL rn = ls at *
    obtain ⟨Al, capl, rfl, hcl, hml, _, hfl⟩ := ol.form
    obtain ⟨bl, rfl, hbl1, hbl2⟩ := hfl (by omega)
    unfold maxLen at hml
    have OL := Lib.hid ol.rd
    clear ol b8 z0 z1 z2 hfl
    go_wp2
    go_loopw [5, 29] (fun tl j wr => ∃ m : Nat, tl = .slice At t.length ct ∧ m ≤ ls.length ∧ j = .int .i64 m ∧ (∀ i (hi : i < ls.length), i < m → nextV ek 0 ls[i] < 0) ∧ Below w8.heap.size w8 wr) (fun _ j _ => ls.length - (intOf j).toNat)
    case atStart => exact ⟨0, rfl, Nat.zero_le _, rfl, fun i _ hi => absurd hi (Nat.not_lt_zero _), Below.refl _ _⟩
    case round =>
     obtain ⟨m, rfl, hm, rfl, hno, hb⟩ := hrel
     have HNO := Lib.hid hno
     have hsr := hb.size
     have B9 := Lib.hid (B8.out.trans (hb.mono (by have := B8.out.size; omega)))
     have HGB9 := Lib.hid (HGB8.out.below hb)
     have HOT9 := Lib.hid (HOT8.out.below hb)
     have OL9 := Lib.hid (OL.out.below hb)
     have HB9 := Lib.hid hb
     clear hno hb
     by_cases hlt : m < ls.length
     ·obtain ⟨_, _, hAl, _, hcl9⟩ := OL9.out.at (by omega)
      obtain ⟨rfl, rfl⟩ : bl = _ ∧ 0 = _ := by simpa using hAl
      have c0 := hcl9 m hlt
      rw [Nat.zero_add] at c0
      have HF1 := Lib.hid (HFA.out m hlt (fun j hj hjm => HNO.out j hj hjm))
      have HX3 := Lib.hid (HRNG.out ls[m] (List.getElem_mem hlt))
      have HNX := Lib.hid (fun x W (h : ArgG W (.agg #[.int .i64 (rn : Int), .int .i64 nk, .slice A2 ek.length c2]) ((rn : Int), nk, ek)) => specNextVertex_any _ ((rn : Int), nk, ek) 0 x W h (ONE.out 0 x))
      have HNS : Hid (nextV ek 0 ls[m] < 0 → ∀ i (hi : i < ls.length), i < m + 1 → nextV ek 0 ls[i] < 0) := Lib.hid fun h i hi hm1 => by
       by_cases hi' : i < m
       ·exact HNO.out i hi hi'
       ·obtain rfl : i = m := by omega
        exact h
      obtain ⟨x, hx⟩ : ∃ x, ls[m] = x := ⟨_, rfl⟩
      have HLM := Lib.hid hx
      rw [hx] at c0 HF1 HX3 HNS
      clear hx
      have z0 := HGB9.out.c0
      have z1 := HGB9.out.c1
      have z2 := HGB9.out.c2
      simp only at z0 z1 z2
      have hpl := HGB9.out.lt
      clear hAl hcl9
      go_wp2_with fail
      refine (implNextVertex_any _ ((rn : Int), nk, ek) 0 x wr HGB9.out.arg (ONE.out 0 x) LET.out).mono ?_
      rintro e wq ⟨rfl, bq⟩
      clear z0 z1 z2 c0
      have sq := bq.size
      have HGBq := Lib.hid (HGB9.out.below bq)
      have HOTq := Lib.hid (HOT9.out.below bq)
      have Bq := Lib.hid (B9.out.trans (bq.mono (by have := B9.out.size; omega)))
      have HB9q := Lib.hid (HB9.out.trans (bq.mono (by omega)))
      clear bq
      have HR := Lib.hid (HRG.out 0 x)
      rcases ey : decide (0 ≤ nextV ek 0 x) with _ | _
      ·have hy : ¬ 0 ≤ nextV ek 0 x := by simpa using ey
       have HNS2 := Lib.hid (HNS.out (by omega))
       generalize nextV ek 0 x = y at *
       go_wp2
       go_roundw
       case rel => exact ⟨m + 1, rfl, by omega, by go_num, HNS2.out, HB9q.out⟩
       case measure => simp [intOf]; omega
      ·have hy : 0 ≤ nextV ek 0 x := by simpa using ey
       have HFX := Lib.hid (HF1.out hy)
       rw [HFX.out] at HST HML HNE0 HFL
       have hyr : nextV ek 0 x < nk := by
        have := HR.out
        omega
       have HI64 : Hid (I64 x) := Lib.hid (by have := HX3.out; unfold I64; omega)
       obtain ⟨u, hu⟩ : ∃ u : Nat, nextV ek 0 x = (u : Int) := ⟨(nextV ek 0 x).toNat, by omega⟩
       rw [hu] at HST HML hyr hy ⊢
       have HMC2 := Lib.hid (HMC.out u hyr)
       have HYR := Lib.hid hyr
       rw [Int.toNat_natCast] at HST HML
       clear hu HF1 HNS HFX HR ey
       have z0 := HGBq.out.c0
       have z1 := HGBq.out.c1
       have z2 := HGBq.out.c2
       have hpl := HGBq.out.lt
       go_wp2_with fail
       refine (implMoveBase_any _ ((rn : Int), nk, ek) u wq HGBq.out.arg HFK.out HYR.out).mono ?_
       rintro e w11 ⟨r11, rfl, o11, b11⟩
       have hs11 := b11.size
       have HGB11 := Lib.hid (HGBq.out.below b11)
       have O11 := Lib.hid (HOTq.out.below b11)
       have B11 := Lib.hid (Bq.out.trans (b11.mono (by omega)))
       generalize movG ((rn : Int), nk, ek) u = M at *
       obtain ⟨m1, m2, ms⟩ := M
       obtain ⟨s11, rfl, hj1, hj2, oe11⟩ := o11
       obtain ⟨A9, c9, rfl, _⟩ := oe11.form
       simp only at hj1 hj2 oe11
       have HDN : Hid (∀ b, (Value.slice A9 ms.length c9).ownBlock = some b → wq.heap.size ≤ b ∧ b < w11.heap.size) := Lib.hid fun b hb => oe11.1.lt b hb
       have HGN := Lib.hid (HGB11.out.set (m := (m1, m2, ms)) oe11 (fun b hb => by have := (HDN.out b hb).1; have := HGBq.out.lt; omega) hj1 hj2)
       clear z0 z1 z2
       have z0 := HGB11.out.c0
       have z1 := HGB11.out.c1
       have z2 := HGB11.out.c2
       simp only at z0 z1 z2
       have zf0 := HGB11.out.fz 0
       have zf1 := HGB11.out.fz 1
       have zf2 := HGB11.out.fz 2
       have OK := Lib.hid (O11.out.keepB (w' := (((w11.setCell ⟨p, 0, none⟩ (.int .i64 m1)).setCell ⟨p, 1, none⟩ (.int .i64 m2)).setCell ⟨p, 2, none⟩ (.slice A9 ms.length c9))) fun b hb => set3_heap _ _ _ _ _ (HDJ.out b hb).1)
       have BN : Hid (Below (w.heap.size + 2) W (((w11.setCell ⟨p, 0, none⟩ (.int .i64 m1)).setCell ⟨p, 1, none⟩ (.int .i64 m2)).setCell ⟨p, 2, none⟩ (.slice A9 ms.length c9))) := Lib.hid (set3_below _ _ _ B11.out (by omega))
       have HSZ : Hid ((((w11.setCell ⟨p, 0, none⟩ (.int .i64 m1)).setCell ⟨p, 1, none⟩ (.int .i64 m2)).setCell ⟨p, 2, none⟩ (.slice A9 ms.length c9)).heap.size = w11.heap.size) := Lib.hid (set3_size _ _ _ _ _)
       have HDF0 : Hid (∀ b, (Value.slice At t.length ct).ownBlock = some b → b ≠ p ∧ (Value.slice A9 ms.length c9).ownBlock ≠ some b) := Lib.hid fun b hb => ⟨(HDJ.out b hb).1, fun e => by have := (HDN.out b e).1; have := (HOTq.out.1.lt b hb).2; omega⟩
       have HST2 : Hid (hairF (40 - (t ++ [x]).length) (m1, m2, ms) (t ++ [x]) = RES) := Lib.hid (by
        rw [← HST.out, ← HCY.out, List.length_append, List.length_singleton, show 40 - t.length = (40 - (t.length + 1)) + 1 by omega])
       have hml := HML.out
       simp only at hml
       have HGA := Lib.hid (HGN.out.below ((Below.refl _ _).alloc (Nat.le_refl _) (.cells #[.int .i64 x] 3)))
       clear oe11 b11
       go_wp2_with (at_builtin; refine push_int rfl (.tmp 44) (.tmp 46) rfl _ _ _ (OwI.alloc OK.out _) rfl _ _ rfl (by simp [go_sem]) HI64.out (by first | omega | (simp <;> omega)) (by first | omega | (simp <;> omega)) ?_; intro v9 wv9 o9 g9 p9)
       have hs9 := g9.size
       simp at hs9
       have B12 : Hid (Below (w.heap.size + 2) W wv9) := Lib.hid (bel_push BN.out (by rw [HSZ.out]; omega) OK.out.1 (Nat.le_refl _) g9)
       have HGB12 := Lib.hid (HGA.out.grown g9 (HDF0.out))
       have O12 := Lib.hid o9
       have HDJ12 : Hid (∀ b, v9.ownBlock = some b → b ≠ p ∧ (Value.slice A9 ms.length c9).ownBlock ≠ some b) := Lib.hid fun b hb => by
        rcases p9 with p9 | p9
        ·rw [p9] at hb; exact HDF0.out b hb
        ·rw [p9] at hb
         have hbb : b = w11.heap.size + 1 := by simpa using hb.symm
         have := HGBq.out.lt
         refine ⟨by omega, fun e => ?_⟩
         have := (HDN.out b e).2
         omega
       clear g9 p9 o9
       obtain ⟨A12, c12, rfl, _⟩ := O12.out.form
       go_wp2
       go_roundw
       case rel => exact ⟨(m1, m2, ms), t ++ [x], A9, c9, by rw [List.length_append, List.length_singleton]; omega, HMC2.out, HST2.out, by rw [List.length_append, List.length_singleton]; simp only; omega, HGB12.out.mono (by omega), O12.out, HDJ12.out, B12.out⟩
       case measure => simp [sLen]; omega
     ·exfalso
      obtain ⟨k2, hk2, hx2⟩ := List.getElem_of_mem HFL.out.1
      have := HNO.out k2 hk2 (by omega)
      rw [hx2] at this
      have := HFL.out.2
      omega
def ImS (x y : GrD) (o im : List Int) : Prop := (im.length : Int) = x.2.1 ∧ ∀ u ∈ o, ∃ h : u.toNat < im.length, im[u.toNat] = imgW x y u
theorem ImS.add {x y : GrD} {o im : List Int} (h : ImS x y o im) {z : Int} (h0 : 0 ≤ z) (h1 : z < x.2.1) (hp : ∀ u ∈ o, 0 ≤ u) : ImS x y (o ++ [z]) (im.set z.toNat (imgW x y z)) := by
 refine ⟨by rw [List.length_set]; exact h.1, fun u hu => ?_⟩
 have hl := h.1
 rcases List.mem_append.1 hu with hu | hu
 ·obtain ⟨hu1, hu2⟩ := h.2 u hu
  refine ⟨by rw [List.length_set]; exact hu1, ?_⟩
  rw [List.getElem_set]
  split
  ·rename_i e
   have := hp u hu
   have : z = u := by omega
   rw [this]
  ·exact hu2
 ·rw [List.mem_singleton.1 hu]
  refine ⟨by rw [List.length_set]; omega, ?_⟩
  rw [List.getElem_set, if_pos rfl]
theorem stp_in {x y : GrD} (h : inclS x y = true) {u l : Int} (hu : u ∈ canO x) (hl : -3 ≤ l ∧ l ≤ 3) (h0 : 0 ≤ nextV x.2.2 u l) : 0 ≤ nextV y.2.2 (imgW x y u) l ∧ imgW x y (nextV x.2.2 u l) = nextV y.2.2 (imgW x y u) l := by
 have hga := coreB_grB (incl_parts h).1
 unfold inclS at h
 simp only [Bool.and_eq_true] at h
 have hs := List.all_eq_true.1 (List.all_eq_true.1 h.2 u hu) l (next_letter hga hl h0)
 unfold stB at hs
 rw [decide_eq_false (by omega : ¬ nextV x.2.2 u l < 0), Bool.false_or, Bool.and_eq_true, decide_eq_true_eq, decide_eq_true_eq] at hs
 exact hs
theorem cov_false {x y : GrD} {u l : Int} (hu : u ∈ canO x) (hl : l ∈ lettersL x.1.toNat) (h1 : nextV x.2.2 u l < 0) (h2 : 0 ≤ nextV y.2.2 (imgW x y u) l) : covB x y = false := by
 rw [Bool.eq_false_iff]
 intro hc
 have := List.all_eq_true.1 (List.all_eq_true.1 hc u hu) l hl
 rw [decide_eq_true h1, decide_eq_true h2] at this
 cases this
theorem cov_true {x y : GrD} (h : ∀ u ∈ canO x, ∀ l ∈ lettersL x.1.toNat, ¬ (nextV x.2.2 u l < 0 ∧ 0 ≤ nextV y.2.2 (imgW x y u) l)) : covB x y = true := by
 unfold covB
 rw [List.all_eq_true]
 intro u hu
 rw [List.all_eq_true]
 intro l hl
 have := h u hu l hl
 by_cases h1 : nextV x.2.2 u l < 0
 ·have h2 : ¬ 0 ≤ nextV y.2.2 (imgW x y u) l := fun h2 => this ⟨h1, h2⟩
  rw [decide_eq_false h2, Bool.and_false]
  rfl
 ·rw [decide_eq_false h1]
  rfl
theorem canF_prefix (es : List EdD) (ls : List Int) : ∀ (f i : Nat) (o : List Int) (j : Nat) (y : Int), o[j]? = some y → (canF es ls f i o)[j]? = some y
 | 0, _, _, _, _, h => h
 | f + 1, i, o, j, y, h => by
   rw [canF]
   cases o[i]? with
   | none => exact h
   | some u => exact canF_prefix es ls f _ _ j y (cfold_prefix es u ls o j y h)
theorem idx_quot {x y : GrD} (h : inclS x y = true) (hc : covB x y = true) : idxC x y = x.2.1 / y.2.1 := by
 unfold idxC
 rw [if_pos hc, fib_count h hc]
 have hy := (grB_parts (coreB_grB (incl_parts h).2.1)).2.1
 rw [Int.mul_ediv_cancel_left _ (by omega)]
theorem imgW_range {x y : GrD} (h : inclS x y = true) {u : Int} (hu : u ∈ canO x) : 0 ≤ imgW x y u ∧ imgW x y u < y.2.1 := by
 have hgx := coreB_grB (incl_parts h).1
 have hgy := coreB_grB (incl_parts h).2.1
 have hsy := (grB_parts hgy).2.1
 have hr := walkF_range hgy (wdO x u) 0 (by omega)
 have h0 : 0 ≤ imgW x y u := by
  have := incl_hom h (wdO x u) 0 (wd_let3 hgx hu) (List.mem_of_getElem? (canO_ok hgx).2.2) (by rw [wd_walk hgx hu]; exact ((canO_ok hgx).2.1 u hu).1)
  rw [wd_walk hgx hu, incl_zero hgx] at this
  have hI := h
  rw [incl_eq] at hI
  unfold inclI at hI
  simp only [Bool.and_eq_true, decide_eq_true_eq] at hI
  exact img_read (incl_parts h).1 (incl_parts h).2.1 (fun e he => by
   have := List.all_eq_true.1 hI.2 (basW x e) (by unfold basF; rw [if_pos (incl_parts h).1]; exact List.mem_map.2 ⟨e, he, rfl⟩)
   simpa using this) 40 hu (by omega)
 unfold imgW at *
 omega
set_option maxHeartbeats 4000000 in
theorem specIndexIn_any (va vb : Value) (a b : GrD) (w : World) (ha : ArgG w va a) (hb : ArgG w vb b) :
  Calls Tryz.prog 48 #[va, vb] w fun e w' => e = .returned (.int .i64 (idxF a b)) ∧ Below w.heap.size w w' := by
 have HGA := Lib.hid ha
 have HGB := Lib.hid hb
 obtain ⟨sa, rfl, hai1, hai2, haa⟩ := ha
 obtain ⟨A, ca, rfl⟩ := haa.form
 obtain ⟨sb, rfl, hbi1, hbi2, hbb⟩ := hb
 obtain ⟨B, cb, rfl⟩ := hbb.form
 have HCI := Lib.hid (fun h => cyc_incl (a := a) (b := b) h)
 have HIP := Lib.hid (fun h => incl_parts (a := a) (b := b) h)
 have HID0 : Hid (inclS a b = false → idxF a b = -1) := Lib.hid fun h => by unfold idxF; rw [h]; rfl
 have HID1 : Hid (inclS a b = true → walkF a.2.2 0 (cycG b).2 < 0 → idxF a b = -1) := Lib.hid fun h h2 => by unfold idxF; rw [if_pos h, if_neg (by omega)]
 have HID2 : Hid (inclS a b = true → 0 ≤ walkF a.2.2 0 (cycG b).2 → idxF a b = idxC (movG a (walkF a.2.2 0 (cycG b).2).toNat) (cycG b).1) := Lib.hid fun h h2 => by unfold idxF; rw [if_pos h, if_pos h2]
 generalize hRR : idxF a b = RR at *
 clear hRR
 obtain ⟨a1, a2, as'⟩ := a
 obtain ⟨b1, b2, bs⟩ := b
 simp only at *
 clear haa hbb
 go_enter Tryz.func48, Tryz.ntmps48
 go_wp2_with fail
 obtain ⟨W1, hW1⟩ : ∃ W, W = w.alloc (Obj.cells #[Value.int IntKind.i64 a1, Value.int IntKind.i64 a2, .slice A as'.length ca] 31) := ⟨_, rfl⟩
 rw [← hW1]
 obtain ⟨x1, bx1, s1⟩ := CBx.new hW1
 obtain ⟨W, hW⟩ : ∃ W, W = W1.alloc (Obj.cells #[Value.int IntKind.i64 b1, Value.int IntKind.i64 b2, .slice B bs.length cb] 31) := ⟨_, rfl⟩
 rw [← hW]
 obtain ⟨x2, bx2, s2⟩ := CBx.new hW
 have XA := Lib.hid (x1.below bx2)
 rw [s1] at x2
 have XB := Lib.hid x2
 have BX : Hid (Below w.heap.size w W) := Lib.hid (bx1.trans (bx2.mono (by omega)))
 have hsW : W.heap.size = w.heap.size + 2 := by omega
 clear hW hW1 bx1 bx2 x1 x2 s1 s2
 refine (specIsInside_any _ _ (a1, a2, as') (b1, b2, bs) W (HGA.out.below BX.out) (HGB.out.below BX.out)).mono ?_
 rintro e w1 ⟨rfl, b1'⟩
 have hs1 := b1'.size
 have XA1 := Lib.hid (XA.out.below b1')
 have XB1 := Lib.hid (XB.out.below b1')
 have B1 : Hid (Below w.heap.size w w1) := Lib.hid (BX.out.trans (b1'.mono (by omega)))
 clear b1'
 rcases ei : inclS (a1, a2, as') (b1, b2, bs) with _ | _
 ·have F := Lib.hid (HID0.out ei)
  go_wp2
  go_ret
  rw [F.out]
  exact ⟨by simp [go_sem], B1.out⟩
 ·have HIN := Lib.hid ei
  obtain ⟨hca, hcb, hrk⟩ := HIP.out ei
  clear hrk
  have HCB := Lib.hid hcb
  have HFA := Lib.hid (core_fold hca)
  have HCA := Lib.hid hca
  have HID1 := Lib.hid (HID1.out ei)
  have HID2 := Lib.hid (HID2.out ei)
  have HCI := Lib.hid (HCI.out ei)
  have ha40 := (grB_parts (coreB_grB hca)).2.1
  have HWR := Lib.hid (fun q => walkF_range (coreB_grB hca) q 0 (by omega))
  obtain ⟨sC, qC, eC1, eC2, _, _, eC5, _⟩ := cyc_spec 40 (b1, b2, bs) [] hcb
  change (cycG (b1, b2, bs)).2 = [] ++ qC at eC1
  change coreB (cycG (b1, b2, bs)).1 = true at eC5
  have HCY := Lib.hid eC5
  clear ei HID0 HIP hca hcb eC1 eC2 eC5
  have z0 := XB1.out.c0
  have z1 := XB1.out.c1
  have z2 := XB1.out.c2
  go_wp2_with fail
  refine (specCyclicGraph_any _ (b1, b2, bs) w1 (HGB.out.below B1.out) HCB.out).mono ?_
  rintro e w2 ⟨r2, q2, rfl, o2, oq2, b2'⟩
  have hs2 := b2'.size
  have XA2 := Lib.hid (XA1.out.below b2')
  have XB2 := Lib.hid (XB1.out.below b2')
  have B2 : Hid (Below w.heap.size w w2) := Lib.hid (B1.out.trans (b2'.mono (by omega)))
  clear b2' z0 z1 z2
  generalize cycG (b1, b2, bs) = C at *
  obtain ⟨⟨y1, y2, ys⟩, q⟩ := C
  obtain ⟨sy, rfl, hyi1, hyi2, oy2⟩ := o2
  obtain ⟨Ay, cy, rfl, _⟩ := oy2.form
  obtain ⟨Aq, cq, rfl, _⟩ := oq2.form
  simp only at *
  have GY := Lib.hid (XB2.out.set (m := (y1, y2, ys)) oy2 (fun b hb => by have := (oy2.1.lt b hb).1; omega) hyi1 hyi2)
  have HYB : Hid (∀ b, (Value.slice Ay ys.length cy).ownBlock = some b → w1.heap.size ≤ b ∧ b < w2.heap.size) := Lib.hid fun b hb => oy2.1.lt b hb
  have XA3 := Lib.hid (XA2.out.other (q := w.heap.size + 1) (a := .int .i64 y1) (b := .int .i64 y2) (c := .slice Ay ys.length cy) (by omega))
  have B3 := Lib.hid (set3_below (p := w.heap.size + 1) (.int .i64 y1) (.int .i64 y2) (.slice Ay ys.length cy) B2.out (by omega))
  have OQ3 := Lib.hid (oq2.keepB (w' := (((w2.setCell ⟨w.heap.size + 1, 0, none⟩ (.int .i64 y1)).setCell ⟨w.heap.size + 1, 1, none⟩ (.int .i64 y2)).setCell ⟨w.heap.size + 1, 2, none⟩ (.slice Ay ys.length cy))) fun b hb => set3_heap _ _ _ _ _ (by have := (oq2.1.lt b hb).1; omega))
  have hs3 := set3_size w2 (w.heap.size + 1) (.int .i64 y1) (.int .i64 y2) (.slice Ay ys.length cy)
  have z0 := XB2.out.c0
  have z1 := XB2.out.c1
  have z2 := XB2.out.c2
  have zf0 := XB2.out.fz 0
  have zf1 := XB2.out.fz 1
  have zf2 := XB2.out.fz 2
  have u0 := XA2.out.c0
  have u1 := XA2.out.c1
  have u2 := XA2.out.c2
  clear oy2 oq2
  go_wp2_with fail
  clear z0 z1 z2 zf0 zf1 zf2 u0 u1 u2
  obtain ⟨w3, hw3⟩ : ∃ W, W = (((w2.setCell ⟨w.heap.size + 1, 0, none⟩ (.int .i64 y1)).setCell ⟨w.heap.size + 1, 1, none⟩ (.int .i64 y2)).setCell ⟨w.heap.size + 1, 2, none⟩ (.slice Ay ys.length cy)) := ⟨_, rfl⟩
  rw [← hw3] at GY XA3 B3 OQ3 hs3 ⊢
  clear hw3
  with_reducible refine (walkWord_any _ _ (a1, a2, as') 0 q w3 (HGA.out.below B3.out) OQ3.out.rd HFA.out (by simp only; omega)).mono ?_
  rintro e w4 ⟨rfl, b4'⟩
  have hs4 := b4'.size
  have GY4 := Lib.hid (GY.out.below b4')
  have XA4 := Lib.hid (XA3.out.below b4')
  have B4 : Hid (Below w.heap.size w w4) := Lib.hid (B3.out.trans (b4'.mono (by omega)))
  clear b4'
  have hwr := HWR.out q
  rcases ew : decide (0 ≤ walkF as' 0 q) with _ | _
  ·have F := Lib.hid (HID1.out (by simpa using ew))
   go_wp2
   go_ret
   rw [F.out]
   exact ⟨by simp [go_sem], B4.out⟩
  ·have hw0 : 0 ≤ walkF as' 0 q := by simpa using ew
   have HID2 := Lib.hid (HID2.out hw0)
   have HCI := Lib.hid (HCI.out hw0)
   obtain ⟨u, hu⟩ : ∃ u : Nat, walkF as' 0 q = (u : Int) := ⟨(walkF as' 0 q).toNat, by omega⟩
   rw [hu] at HID2 HCI hwr ⊢
   rw [Int.toNat_natCast] at HID2 HCI
   have HUL : Hid ((u : Int) < a2) := Lib.hid (by omega)
   clear hu hw0 ew hwr HWR HID1
   have u0 := XA4.out.c0
   have u1 := XA4.out.c1
   have u2 := XA4.out.c2
   go_wp2_with fail
   refine (specMoveBase_any _ (a1, a2, as') u w4 (HGA.out.below B4.out) HFA.out HUL.out).mono ?_
   rintro e w5 ⟨r5, rfl, o5, b5'⟩
   have hs5 := b5'.size
   have XA5 := Lib.hid (XA4.out.below b5')
   have GY5 := Lib.hid (GY4.out.below b5')
   have B5 : Hid (Below w.heap.size w w5) := Lib.hid (B4.out.trans (b5'.mono (by omega)))
   clear b5' u0 u1 u2
   generalize movG (a1, a2, as') u = X at *
   obtain ⟨x1, x2, xs⟩ := X
   obtain ⟨sx, rfl, hxi1, hxi2, ox5⟩ := o5
   obtain ⟨Ax, cx, rfl, _⟩ := ox5.form
   simp only at *
   have HXB : Hid (∀ b, (Value.slice Ax xs.length cx).ownBlock = some b → w4.heap.size ≤ b ∧ b < w5.heap.size) := Lib.hid fun b hb => ox5.1.lt b hb
   have GX := Lib.hid (XA5.out.set (m := (x1, x2, xs)) ox5 (fun b hb => by have := (HXB.out b hb).1; omega) hxi1 hxi2)
   have GY6 := Lib.hid (GY5.out.keep (w' := (((w5.setCell ⟨w.heap.size, 0, none⟩ (.int .i64 x1)).setCell ⟨w.heap.size, 1, none⟩ (.int .i64 x2)).setCell ⟨w.heap.size, 2, none⟩ (.slice Ax xs.length cx))) (by simp) fun b hb => set3_heap _ _ _ _ _ (by
    rcases hb with rfl | hb
    ·omega
    ·have := (HYB.out b hb).1; omega))
   have B6 := Lib.hid (set3_below (p := w.heap.size) (.int .i64 x1) (.int .i64 x2) (.slice Ax xs.length cx) B5.out (Nat.le_refl _))
   have hs6 := set3_size w5 w.heap.size (.int .i64 x1) (.int .i64 x2) (.slice Ax xs.length cx)
   have z0 := XA5.out.c0
   have z1 := XA5.out.c1
   have z2 := XA5.out.c2
   have zf0 := XA5.out.fz 0
   have zf1 := XA5.out.fz 1
   have zf2 := XA5.out.fz 2
   have hix := HCI.out
   obtain ⟨hcx, hcy2, hrk⟩ := incl_parts hix
   have hgx := coreB_grB hcx
   have hgy := coreB_grB hcy2
   obtain ⟨x13, x40, x120, _⟩ := grB_parts hgx
   obtain ⟨y13, y40, y120, _⟩ := grB_parts hgy
   have HOX := Lib.hid (canO_ok hgx)
   have HST := Lib.hid (fun u l => stp_in hix (u := u) (l := l))
   have HCF := Lib.hid (fun u l => cov_false (x := (x1, x2, xs)) (y := (y1, y2, ys)) (u := u) (l := l))
   have HCT := Lib.hid (cov_true (x := (x1, x2, xs)) (y := (y1, y2, ys)))
   have HQU := Lib.hid (fun h => idx_quot hix h)
   have HIF : Hid (covB (x1, x2, xs) (y1, y2, ys) = false → idxC (x1, x2, xs) (y1, y2, ys) = -1) := Lib.hid fun h => by unfold idxC; rw [h]; rfl
   have HIR := Lib.hid (fun u => imgW_range hix (u := u))
   have HNXR := Lib.hid (nextV_range hgx)
   have HNYR := Lib.hid (nextV_range hgy)
   have OX := Lib.hid (steps_one (foldB_parts (core_fold hcx)).2)
   have OY := Lib.hid (steps_one (foldB_parts (core_fold hcy2)).2)
   have HCS := Lib.hid (fun u (x : Int) o => cstep_ok hgx (u := u) (o := o) x)
   have HI0 : Hid (imgW (x1, x2, xs) (y1, y2, ys) 0 = 0) := Lib.hid (incl_zero hgx)
   obtain ⟨n, rfl⟩ : ∃ n : Nat, x2 = (n : Int) := ⟨x2.toNat, by simp only at x40; omega⟩
   obtain ⟨rn, rfl⟩ : ∃ rn : Nat, x1 = (rn : Int) := ⟨x1.toNat, by simp only at x13; omega⟩
   simp only at x13 x40 x120 y13 y40 y120
   clear ox5 hix hcx hcy2 hrk hgx hgy
   obtain ⟨i0, hi0, hm0, hm1, hm2⟩ := info_parts int_info
   obtain ⟨w6, hw6⟩ : ∃ W, W = (((w5.setCell ⟨w.heap.size, 0, none⟩ (.int .i64 (rn : Int))).setCell ⟨w.heap.size, 1, none⟩ (.int .i64 (n : Int))).setCell ⟨w.heap.size, 2, none⟩ (.slice Ax xs.length cx)) := ⟨_, rfl⟩
   rw [← hw6] at GX GY6 B6 hs6
   go_wp2_with (at_make; rw [← hw6]; refine wpList_make_full _ rfl _ _ 26 rfl w6.heap.size 3 i0 (.int .i64 0) 1 Tryz.underlying26 hi0 hm0 hm1 _ _ _ _ n rfl rfl rfl rfl (by rw [hm2]; omega) (by unfold maxLen; omega) (Nat.le_refl _) ?_)
   intro w7 hown7 hgrow7
   rw [← hw6] at hgrow7
   try rw [hs6] at hown7
   have O7 := Lib.hid (OwI_made (w := w5) (by simpa [toList_madeCells_one] using hown7))
   have hs7 := hgrow7.size
   have HB7 : Hid (Below w5.heap.size w6 w7) := Lib.hid ((Below.refl w5.heap.size w6).grown hgrow7 (by omega) (fun k h => by cases h))
   have hs7' : w5.heap.size < w7.heap.size := (O7.out.1.lt w5.heap.size rfl).2
   have GXL : Hid (∀ w', Below w5.heap.size w6 w' → GBx w' w.heap.size (w.heap.size + 1) Ax cx ((rn : Int), (n : Int), xs) ∧ GBx w' (w.heap.size + 1) (w.heap.size + 1) Ay cy (y1, y2, ys)) := Lib.hid fun w' hb =>
    ⟨(GX.out.belowAt hb (by omega) (fun b hb => by have := (HXB.out b hb).2; omega)).mono (by omega), (GY6.out.belowAt hb (by omega) (fun b hb => by have := (HYB.out b hb).2; omega)).mono (by omega)⟩
   have BW : Hid (∀ w', Below w5.heap.size w6 w' → Below w.heap.size w w') := Lib.hid fun w' hb => B6.out.trans (hb.mono (by omega))
   clear hw6 hown7 hgrow7 z0 z1 z2 zf0 zf1 zf2 GX GY6 B6 GY5 XA5 XA4 GY4 B5 B4
   have z0 := (GXL.out w7 HB7.out).1.c0
   have z1 := (GXL.out w7 HB7.out).1.c1
   have z2 := (GXL.out w7 HB7.out).1.c2
   simp only at z0 z1 z2
   have hl7 : w.heap.size < w7.heap.size := by omega
   go_wp2_with fail
   refine (l5Letters_any rn w7 (by omega)).mono ?_
   rintro e w8 ⟨rl, rfl, ol, b8⟩
   have hs8 := b8.size
   have B8 := Lib.hid (HB7.out.trans (b8.mono (by omega)))
   have O8 := Lib.hid (O7.out.below b8)
   have hll := lettersL_len rn
   have HRNG : Hid (∀ x ∈ lettersL rn, -3 ≤ x ∧ x ≤ 3) := Lib.hid fun x hx => by have := letters_mem.1 hx; omega
   have HCF2 : Hid (∀ u l, u ∈ canO ((rn : Int), (n : Int), xs) → l ∈ lettersL rn → nextV xs u l < 0 → 0 ≤ nextV ys (imgW ((rn : Int), (n : Int), xs) (y1, y2, ys) u) l → covB ((rn : Int), (n : Int), xs) (y1, y2, ys) = false) := Lib.hid fun u l a b c d => HCF.out u l a b c d
   have HCT2 : Hid ((∀ u ∈ canO ((rn : Int), (n : Int), xs), ∀ l ∈ lettersL rn, ¬ (nextV xs u l < 0 ∧ 0 ≤ nextV ys (imgW ((rn : Int), (n : Int), xs) (y1, y2, ys) u) l)) → covB ((rn : Int), (n : Int), xs) (y1, y2, ys) = true) := Lib.hid fun h => HCT.out h
   have HCO : Hid (canO ((rn : Int), (n : Int), xs) = canF xs (lettersL rn) (41 - 0) 0 [0]) := Lib.hid rfl
   clear HCF HCT
   generalize lettersL rn = ls at *
   obtain ⟨Al, capl, rfl, hcl, hml, _, hfl⟩ := ol.form
   obtain ⟨bl, rfl, hbl1, hbl2⟩ := hfl (by omega)
   unfold maxLen at hml
   have OL := Lib.hid ol.rd
   have HLL := Lib.hid hll
   clear ol b8 z0 z1 z2 hfl hll
   have O9 : Hid (OwI (w8.alloc (.cells #[.int .i64 0] 3)) (w5.heap.size + 1) (.slice (some ⟨w8.heap.size, 0, none⟩) 1 1) [0]) := Lib.hid ((OwI_lit w8 [0] (fun x hx => by simp at hx; subst hx; exact ⟨by decide, by decide⟩) (by simp) (Nat.le_refl _)).mono (by omega))
   have b9 : Below w8.heap.size w8 (w8.alloc (.cells #[.int .i64 0] 3)) := (Below.refl _ _).alloc (Nat.le_refl _) _
   go_wp2
   obtain ⟨w9, hw9⟩ : ∃ W, W = w8.alloc (.cells #[.int .i64 0] 3) := ⟨_, rfl⟩
   have hs9 : w9.heap.size = w8.heap.size + 1 := by rw [hw9]; simp
   rw [← hw9] at O9 b9 ⊢
   have B9 := Lib.hid (B8.out.trans (b9.mono (by omega)))
   have OI9 := Lib.hid (O8.out.below b9)
   have OL9 := Lib.hid (OL.out.below b9)
   clear hw9 b9
   go_loopw [10, 11] (fun out i wr => ∃ (k : Nat) (o im : List Int), k ≤ o.length ∧ i = .int .i64 k ∧ OrdOk (n : Int) o ∧ canO ((rn : Int), (n : Int), xs) = canF xs ls (41 - k) k o ∧ ImS ((rn : Int), (n : Int), xs) (y1, y2, ys) o im ∧ OwI wr w5.heap.size (.slice (some ⟨w5.heap.size, 0, none⟩) n n) im ∧ OwI wr (w5.heap.size + 1) out o ∧ RdI wr (.slice (some ⟨bl, 0, none⟩) ls.length capl) ls ∧ out.ownBlock ≠ some bl ∧ bl < wr.heap.size ∧ Below w5.heap.size w6 wr ∧ (∀ (j : Nat) u, j < k → o[j]? = some u → ∀ l ∈ ls, ¬ (nextV xs u l < 0 ∧ 0 ≤ nextV ys (imgW ((rn : Int), (n : Int), xs) (y1, y2, ys) u) l))) (fun _ i _ => 41 - (intOf i).toNat)
   case atStart => exact ⟨0, [0], List.replicate n 0, Nat.zero_le _, rfl, OrdOk.one (by omega), HCO.out, ⟨by simp, fun u hu => by rw [List.mem_singleton.1 hu]; exact ⟨by simp; omega, by simp [HI0.out]⟩⟩, OI9.out, O9.out, OL9.out, by simp [Value.ownBlock]; omega, by omega, B9.out, fun j u hj => absurd hj (Nat.not_lt_zero _)⟩
   case round =>
    obtain ⟨k, o, im, hk, rfl, hok, hco, him, hio, hown, hrd, hne, hblt, hbel, hcv⟩ := hrel
    obtain ⟨wo, rfl⟩ : ∃ wo : World, wo = wr := ⟨_, rfl⟩
    have hol := hok.len (by omega) (by omega)
    have HOK := Lib.hid hok
    have HC := Lib.hid hco
    have HIM := Lib.hid him
    have HIO := Lib.hid hio
    have HO := Lib.hid hown
    have HRD := Lib.hid hrd
    have HNE := Lib.hid hne
    have HB2 := Lib.hid hbel
    have HCV := Lib.hid hcv
    have hsz := hbel.size
    obtain ⟨A1, cap1, rfl, _⟩ := hown.form
    clear hok hco him hio hown hrd hne hbel hcv
    by_cases hlt : k < o.length
    ·obtain ⟨u, hu⟩ : ∃ u, o[k]? = some u := ⟨o[k], by simp⟩
     have hku : o[k] = u := by rw [List.getElem?_eq_getElem hlt] at hu; injection hu
     have hu0 := (HOK.out.2.1 u (List.mem_of_getElem? hu)).1
     obtain ⟨un, rfl⟩ : ∃ un : Nat, u = (un : Int) := ⟨u.toNat, by omega⟩
     have HCFK : Hid (canO ((rn : Int), (n : Int), xs) = canF xs ls (41 - (k + 1)) (k + 1) (ls.foldl (cstep xs (un : Int)) o)) := Lib.hid (by
      rw [HC.out, show 41 - k = (41 - (k + 1)) + 1 by omega, canF_step _ _ _ _ _ hlt, hku])
     have HUC : Hid ((un : Int) ∈ canO ((rn : Int), (n : Int), xs)) := Lib.hid (by rw [HC.out]; exact List.mem_of_getElem? (canF_prefix _ _ _ _ _ _ _ hu))
     have HPU : Hid (∀ m : Nat, (((ls.take m).foldl (cstep xs (un : Int)) o))[k]? = some (un : Int)) := Lib.hid fun m => cfold_prefix _ _ _ _ _ _ hu
     have HPO : Hid (∀ (j : Nat) (v : Int), j < k → (ls.foldl (cstep xs (un : Int)) o)[j]? = some v → o[j]? = some v) := Lib.hid fun j v hj hv => by
      have h1 := cfold_prefix xs (un : Int) ls o j _ (List.getElem?_eq_getElem (by omega : j < o.length))
      rw [hv] at h1
      injection h1 with h1
      rw [h1]
      exact List.getElem?_eq_getElem _
     have HSU : Hid (∀ (m : Nat) (hm : m < ls.length), (ls.take (m + 1)).foldl (cstep xs (un : Int)) o = cstep xs (un : Int) ((ls.take m).foldl (cstep xs (un : Int)) o) ls[m]) := Lib.hid fun m hm => cfold_succ _ _ _ _ _ hm
     have HOKm : Hid (∀ m : Nat, OrdOk (n : Int) ((ls.take m).foldl (cstep xs (un : Int)) o)) := Lib.hid fun m => by
      generalize ls.take m = l2
      have : ∀ (l2 : List Int) (o : List Int), OrdOk (n : Int) o → OrdOk (n : Int) (l2.foldl (cstep xs (un : Int)) o) := by
       intro l2
       induction l2 with
       | nil => intro o h; exact h
       | cons a l2 ih => intro o h; exact ih _ (HCS.out _ a o h)
      exact this l2 o HOK.out
     have HLM : Hid (∀ (m : Nat) (hm : m < ls.length), ls[m] ∈ ls) := Lib.hid fun m hm => List.getElem_mem hm
     have HIR1 := Lib.hid (HIR.out _ HUC.out)
     have HST1 := Lib.hid (fun l => HST.out (un : Int) l HUC.out)
     have HCF3 := Lib.hid (fun l => HCF2.out (un : Int) l HUC.out)
     clear hu hku
     go_wp2
     go_loopw [10, 12] (fun out j wr => ∃ (m : Nat) (im : List Int), m ≤ ls.length ∧ j = .int .i64 m ∧ ImS ((rn : Int), (n : Int), xs) (y1, y2, ys) ((ls.take m).foldl (cstep xs (un : Int)) o) im ∧ OwI wr w5.heap.size (.slice (some ⟨w5.heap.size, 0, none⟩) n n) im ∧ OwI wr (w5.heap.size + 1) out ((ls.take m).foldl (cstep xs (un : Int)) o) ∧ RdI wr (.slice (some ⟨bl, 0, none⟩) ls.length capl) ls ∧ out.ownBlock ≠ some bl ∧ bl < wr.heap.size ∧ Below w5.heap.size w6 wr ∧ (∀ i (hi : i < ls.length), i < m → ¬ (nextV xs (un : Int) ls[i] < 0 ∧ 0 ≤ nextV ys (imgW ((rn : Int), (n : Int), xs) (y1, y2, ys) (un : Int)) ls[i]))) (fun _ j _ => ls.length - (intOf j).toNat)
     case atStart => exact ⟨0, im, Nat.zero_le _, rfl, HIM.out, HIO.out, HO.out, HRD.out, HNE.out, hblt, HB2.out, fun i _ hi => absurd hi (Nat.not_lt_zero _)⟩
     case round =>
      obtain ⟨m, im, hm1, rfl, him, hio, hown, hrd, hne, hblr, hbi, hcv⟩ := hrel
      have hsi := hbi.size
      have HBI := Lib.hid hbi
      have HIM := Lib.hid him
      have HIO := Lib.hid hio
      have HRR := Lib.hid hrd
      have HNR := Lib.hid hne
      have HCVm := Lib.hid hcv
      have HGX := Lib.hid (GXL.out wr hbi).1
      have HGY := Lib.hid (GXL.out wr hbi).2
      clear him hbi hne hcv
      by_cases hlt2 : m < ls.length
      ·have hokm := HOKm.out m
       have hlm := hokm.len (by omega) (by omega)
       have hpu := HPU.out m
       have HS := Lib.hid (HSU.out m hlt2)
       have HX3 := Lib.hid (HRNG.out _ (HLM.out m hlt2))
       have HLX := Lib.hid (HLM.out m hlt2)
       have HCN : Hid (¬ (nextV xs (un : Int) ls[m] < 0 ∧ 0 ≤ nextV ys (imgW ((rn : Int), (n : Int), xs) (y1, y2, ys) (un : Int)) ls[m]) → ∀ i (hi : i < ls.length), i < m + 1 → ¬ (nextV xs (un : Int) ls[i] < 0 ∧ 0 ≤ nextV ys (imgW ((rn : Int), (n : Int), xs) (y1, y2, ys) (un : Int)) ls[i])) := Lib.hid fun h i hi h1 => by
        by_cases h2 : i < m
        ·exact HCVm.out i hi h2
        ·obtain rfl : i = m := by omega
         exact h
       obtain ⟨_, _, hAl, _, hcl9⟩ := hrd.at (by omega)
       obtain ⟨rfl, rfl⟩ : bl = _ ∧ 0 = _ := by simpa using hAl
       have c0 := hcl9 m hlt2
       rw [Nat.zero_add] at c0
       have HMP : Hid (∀ v ∈ (ls.take m).foldl (cstep xs (un : Int)) o, 0 ≤ v) := Lib.hid fun v hv => (hokm.2.1 v hv).1
       obtain ⟨x, hx⟩ : ∃ x, ls[m] = x := ⟨_, rfl⟩
       rw [hx] at c0 HS HX3 HLX HCN
       clear hx hAl hcl9
       obtain ⟨om, hom⟩ : ∃ om, (ls.take m).foldl (cstep xs (un : Int)) o = om := ⟨_, rfl⟩
       rw [hom] at hokm hlm hpu HS HIM hown HMP
       clear hom
       have hkm : k < om.length := (List.getElem?_eq_some_iff.1 hpu).1
       have hkg : om[k] = (un : Int) := by rw [List.getElem?_eq_getElem hkm] at hpu; injection hpu
       have HOM := Lib.hid hown
       obtain ⟨A2, cap2, rfl, _, _, _, hf2⟩ := hown.form
       obtain ⟨b2', rfl, hb21, hb22⟩ := hf2 (by omega)
       have d0 := hown.cellAt k hkm
       rw [hkg] at d0
       obtain ⟨hul, hum⟩ := HIM.out.2 (un : Int) (List.mem_of_getElem? hpu)
       simp only [Int.toNat_natCast] at hul hum
       have g0 := HIO.out.cellAt un hul
       rw [hum] at g0
       have hgl : w5.heap.size < wr.heap.size := (HIO.out.1.lt w5.heap.size rfl).2
       have hun : un < n := by have := HIM.out.1; simp only at this; omega
       have hunI : (un : Int) < (n : Int) := by omega
       have ISt := Lib.hid (HIR1.out)
       obtain ⟨iu, hiu⟩ : ∃ iu, imgW ((rn : Int), (n : Int), xs) (y1, y2, ys) (un : Int) = iu := ⟨_, rfl⟩
       rw [hiu] at g0
       have HIU := Lib.hid hiu
       have HCN0 := HCN
       clear HCN
       have HCN : Hid (¬ (nextV xs (un : Int) x < 0 ∧ 0 ≤ nextV ys iu x) → ∀ i (hi : i < ls.length), i < m + 1 → ¬ (nextV xs (un : Int) ls[i] < 0 ∧ 0 ≤ nextV ys (imgW ((rn : Int), (n : Int), xs) (y1, y2, ys) (un : Int)) ls[i])) := Lib.hid fun h => HCN0.out (by rw [hiu]; exact h)
       clear HCN0
       have HST2 := Lib.hid (HST1.out x HX3.out)
       have HCF4 := Lib.hid (HCF3.out x HLX.out)
       rw [hiu] at HST2 HCF4
       have N0 := Lib.hid (cstep_no (es := xs) (u := (un : Int)) (x := x) (o := om))
       have N1 := Lib.hid (cstep_in (es := xs) (u := (un : Int)) (x := x) (o := om))
       have N2 := Lib.hid (cstep_new (es := xs) (u := (un : Int)) (x := x) (o := om))
       have HNX := Lib.hid (fun W (h : ArgG W (.agg #[.int .i64 (rn : Int), .int .i64 (n : Int), .slice Ax xs.length cx]) ((rn : Int), (n : Int), xs)) => specNextVertex_any _ ((rn : Int), (n : Int), xs) (un : Int) x W h (OX.out (un : Int) x))
       have HNY := Lib.hid (fun W (h : ArgG W (.agg #[.int .i64 y1, .int .i64 y2, .slice Ay ys.length cy]) (y1, y2, ys)) => specNextVertex_any _ (y1, y2, ys) iu x W h (OY.out iu x))
       have p0 := HGX.out.c0
       have p1 := HGX.out.c1
       have p2 := HGX.out.c2
       have r0 := HGY.out.c0
       have r1 := HGY.out.c1
       have r2 := HGY.out.c2
       simp only at p0 p1 p2 r0 r1 r2
       have hws := HGX.out.lt
       have hws1 := HGY.out.lt
       have HR1 := Lib.hid (HNXR.out (un : Int) x)
       have HR2 := Lib.hid (HNYR.out iu x)
       clear hiu hown hrd hf2 hpu hkg hul hum
       go_wp2_with fail
       have f0 := BelW.cell p0 hws
       have f1 := BelW.cell p1 hws
       have f2 := BelW.cell p2 hws
       have f3 := BelW.cell c0 hblr
       have f4 := BelW.cell d0 hb22
       (refine wp_region_quiet_bel (by kernel_rfl) (by kernel_rfl) ?_; (repeat (go_big_quiet_step (first | (go_at_call 58; exact Calls.bel_of (HNX.out _ (HGX.out.below (BelW.h _)).arg))))); refine wpQuiet_nil ?_; intro wq hw'; obtain ⟨pq, hw''⟩ := hw'; have bq := pq.h; rw [← hw''] at bq; clear hw'' pq)
       clear f0 f1 f2 f3 f4 p0 p1 p2
       have sq := bq.size
       have c1 := (bq.cell (p := ⟨bl, m, none⟩) hblr).trans c0
       have d1 := (bq.cell (p := ⟨b2', k, none⟩) hb22).trans d0
       have g1 := (bq.cell (p := ⟨w5.heap.size, un, none⟩) hgl).trans g0
       have t0 := (bq.cell (p := ⟨w.heap.size + 1, 0, none⟩) hws1).trans r0
       have t1 := (bq.cell (p := ⟨w.heap.size + 1, 1, none⟩) hws1).trans r1
       have t2 := (bq.cell (p := ⟨w.heap.size + 1, 2, none⟩) hws1).trans r2
       have HBQ := Lib.hid bq
       have HGYq := Lib.hid (HGY.out.below bq)
       clear c0 d0 g0 r0 r1 r2
       go_wp2_with fail
       have f0 := BelW.cell t0 (show w.heap.size + 1 < wq.heap.size by omega)
       have f1 := BelW.cell t1 (show w.heap.size + 1 < wq.heap.size by omega)
       have f2 := BelW.cell t2 (show w.heap.size + 1 < wq.heap.size by omega)
       have f3 := BelW.cell c1 (show bl < wq.heap.size by omega)
       have f4 := BelW.cell d1 (show b2' < wq.heap.size by omega)
       have f5 := BelW.cell g1 (show w5.heap.size < wq.heap.size by omega)
       (refine wp_region_quiet_bel (by kernel_rfl) (by kernel_rfl) ?_; (repeat (go_big_quiet_step (first | (go_at_call 58; exact Calls.bel_of (HNY.out _ (HGYq.out.below (BelW.h _)).arg))))); refine wpQuiet_nil ?_; intro wz hw'; obtain ⟨pq, hw''⟩ := hw'; have bz := pq.h; rw [← hw''] at bz; clear hw'' pq)
       clear f0 f1 f2 f3 f4 f5 t0 t1 t2 c1 d1 g1
       have sz := bz.size
       have HQZ := Lib.hid (HBQ.out.trans (bz.mono sq))
       have HBZ := Lib.hid (HBI.out.trans (HQZ.out.mono (by omega)))
       have HOZ := Lib.hid (HOM.out.below HQZ.out)
       have HIZ := Lib.hid (HIO.out.below HQZ.out)
       have HRZ := Lib.hid (HRR.out.below HQZ.out)
       clear bq bz
       rcases es : decide (nextV xs (un : Int) x < 0) with _ | _
       ·have hs0 : 0 ≤ nextV xs (un : Int) x := by simpa using es
        have hsn : ¬ nextV xs (un : Int) x < 0 := by omega
        have HNB := Lib.hid (HCN.out fun q => hsn q.1)
        have hsr : nextV xs (un : Int) x < (n : Int) := by have := HR1.out; omega
        have HSS := Lib.hid (HST2.out hs0)
        obtain ⟨sn, hsn2⟩ : ∃ sn : Nat, nextV xs (un : Int) x = (sn : Int) := ⟨(nextV xs (un : Int) x).toNat, by omega⟩
        rw [hsn2] at HSS N1 N2 hs0 hsn hsr ⊢
        generalize nextV ys iu x = tt at *
        clear hsn2 es HCN N0 HST2 HCF4
        go_wp2_with fail
        refine (l4Has_any _ om (sn : Int) _ HOZ.out.rd.arg (by omega)).mono ?_
        rintro e' w' ⟨rfl, rfl⟩
        rcases h1 : hasB om (sn : Int) with _ | _
        ·have F := Lib.hid (N2.out hs0 h1)
         have HY : Hid (I64 (sn : Int)) := Lib.hid ⟨by omega, by omega⟩
         have HBN : Hid (b2' ≠ w5.heap.size ∧ bl ≠ w5.heap.size ∧ bl ≠ b2') := Lib.hid ⟨by omega, by omega, fun e => HNR.out (by rw [e]; rfl)⟩
         have hil : sn < im.length := by have := HIM.out.1; simp only at this; omega
         have HIL := Lib.hid hil
         have HTI : Hid (I64 tt) := Lib.hid (by have := HR2.out; unfold I64; omega)
         have hsnI : (sn : Int) < (n : Int) := hsr
         go_wp2_with ((at_builtin; refine push_int rfl (.tmp 94) (.tmp 96) rfl _ _ _ (OwI.alloc HOZ.out _) rfl _ _ rfl (cell_new1 _ _ _) HY.out (by first | omega | (simp <;> omega)) (by first | omega | (simp <;> omega)) ?_; intro v9 wv9 o9 g9 p9); have HI9 := Lib.hid ((HIZ.out.alloc (.cells #[.int .i64 (sn : Int)] 3)).kept g9 (.inr (by simp [Value.ownBlock]; exact fun e => HBN.out.1 e.symm))); have cc := HI9.out.cellAt sn HIL.out; have ff := HI9.out.free sn; generalize im[sn]'HIL.out = old at cc; have O9 := Lib.hid o9; have G9 := Lib.hid g9; have P9 := Lib.hid p9; clear o9 g9 p9)
         have hz9 := G9.out.size
         simp at hz9
         have HSET := Lib.hid (HI9.out.set sn tt HTI.out)
         have B9z : Hid (Below w5.heap.size w6 wv9) := Lib.hid (bel_push HBZ.out (by omega) HOZ.out.1 (Nat.le_succ _) G9.out)
         have HL9 : Hid (RdI wv9 (.slice (some ⟨bl, 0, none⟩) ls.length capl) ls) := Lib.hid ((HRZ.out.alloc _).grown G9.out (fun b hb hb' => by simp [Value.ownBlock] at hb hb'; have := HBN.out.2.2; omega))
         have HV9 : Hid (∀ b, v9.ownBlock = some b → b ≠ w5.heap.size ∧ b ≠ bl) := Lib.hid fun b hb => by
          have h1 := (O9.out.1.lt b hb).1
          refine ⟨by omega, fun e => ?_⟩
          rcases P9.out with p9 | p9
          ·rw [p9] at hb
           have := HBN.out.2.2
           simp [Value.ownBlock] at hb
           omega
          ·rw [p9] at hb; simp at hb; omega
         go_roundw
         case rel =>
          refine ⟨m + 1, im.set sn tt, by omega, by go_num, ?_, HSET.out.1, ?_, HL9.out.grown HSET.out.2 (fun b hb hb' => ?_), fun e => (HV9.out bl e).2 rfl, ?_, B9z.out.grown HSET.out.2 (by omega) (fun j hj => by cases hj; exact Nat.le_refl _), HNB.out⟩
          ·rw [HS.out, F.out]
           have := HIM.out.add (z := (sn : Int)) (by omega) hsr HMP.out
           rw [Int.toNat_natCast, HSS.out.2] at this
           exact this
          ·rw [HS.out, F.out]
           exact O9.out.keepB fun b hb => Below.heap_setCell _ _ _ b (HV9.out b hb).1
          ·simp [Value.ownBlock] at hb hb'; have := HBN.out.2.1; omega
          ·simp; omega
         case measure => simp [intOf]; omega
        ·have F := Lib.hid (N1.out hs0 h1)
         go_wp2
         go_roundw
         case rel => exact ⟨m + 1, im, by omega, by go_num, by rw [HS.out, F.out]; exact HIM.out, HIZ.out, by rw [HS.out, F.out]; exact HOZ.out, HRZ.out, HNR.out, by omega, HBZ.out, HNB.out⟩
         case measure => simp [intOf]; omega
       ·have hs0 : nextV xs (un : Int) x < 0 := by simpa using es
        have hsr : ¬ 0 ≤ nextV xs (un : Int) x := by omega
        rcases et : decide (0 ≤ nextV ys iu x) with _ | _
        ·have ht0 : ¬ 0 ≤ nextV ys iu x := by simpa using et
         have HNB := Lib.hid (HCN.out fun q => ht0 q.2)
         have F := Lib.hid (N0.out hs0)
         generalize nextV xs (un : Int) x = ss at *
         generalize nextV ys iu x = tt at *
         go_wp2
         go_roundw
         case rel => exact ⟨m + 1, im, by omega, by go_num, by rw [HS.out, F.out]; exact HIM.out, HIZ.out, by rw [HS.out, F.out]; exact HOZ.out, HRZ.out, HNR.out, by omega, HBZ.out, HNB.out⟩
         case measure => simp [intOf]; omega
        ·have ht0 : 0 ≤ nextV ys iu x := by simpa using et
         have F := Lib.hid ((HID2.out).trans (HIF.out (HCF4.out hs0 ht0)))
         generalize nextV xs (un : Int) x = ss at *
         generalize nextV ys iu x = tt at *
         go_wp2
         go_ret
         rw [F.out]
         exact ⟨by simp [go_sem], BW.out _ HBZ.out⟩
      ·obtain rfl : m = ls.length := by omega
       rw [List.take_length] at hown HIM
       have hokm := HOKm.out ls.length
       rw [List.take_length] at hokm
       have HOKF := Lib.hid hokm
       have HOM := Lib.hid hown
       have hlen : k + 1 ≤ (ls.foldl (cstep xs (un : Int)) o).length := by
        have := HPU.out ls.length
        rw [List.take_length] at this
        have := (List.getElem?_eq_some_iff.1 this).1
        omega
       have HCV2 : Hid (∀ (j : Nat) v, j < k + 1 → (ls.foldl (cstep xs (un : Int)) o)[j]? = some v → ∀ l ∈ ls, ¬ (nextV xs v l < 0 ∧ 0 ≤ nextV ys (imgW ((rn : Int), (n : Int), xs) (y1, y2, ys) v) l)) := Lib.hid fun j v hj hv l hl => by
        by_cases hjk : j < k
        ·exact HCV.out j v hjk (HPO.out j v hjk hv) l hl
        ·obtain rfl : j = k := by omega
         have h1 := HPU.out ls.length
         rw [List.take_length, hv] at h1
         injection h1 with h1
         subst h1
         obtain ⟨i, hi, rfl⟩ := List.getElem_of_mem hl
         exact HCVm.out i hi hi
       obtain ⟨A2, cap2, rfl, _⟩ := hown.form
       clear hown hrd hokm
       go_wp2
       go_roundw
       case rel => exact ⟨k + 1, _, im, hlen, by go_num, HOKF.out, HCFK.out, HIM.out, HIO.out, HOM.out, HRR.out, HNR.out, hblr, HBI.out, HCV2.out⟩
       case measure => simp [intOf]; omega
    ·obtain rfl : k = o.length := by omega
     have hcc : covB ((rn : Int), (n : Int), xs) (y1, y2, ys) = true := HCT2.out fun u hu l hl => by
      rw [HC.out, canF_end] at hu
      obtain ⟨j, hj, rfl⟩ := List.getElem_of_mem hu
      exact HCV.out j _ hj (List.getElem?_eq_getElem hj) l hl
     have F := Lib.hid (HID2.out.trans (HQU.out hcc))
     have hdv1 : (0 : Int) ≤ (n : Int) / y2 := Int.ediv_nonneg (by omega) (by omega)
     have hdv2 : (n : Int) / y2 ≤ (n : Int) := Int.ediv_le_self _ (by omega)
     have hn40 : (n : Int) ≤ 9223372036854775807 := by omega
     have HDV : Hid (wrap64 ((n : Int) / y2) = (n : Int) / y2) := Lib.hid (IntWalk.wrap64_in _ ⟨Int.le_trans (by decide) hdv1, Int.le_trans hdv2 hn40⟩)
     clear hdv1 hdv2 hn40
     have HGX := Lib.hid (GXL.out wo HB2.out).1
     have HGY := Lib.hid (GXL.out wo HB2.out).2
     have p1 := HGX.out.c1
     have r1 := HGY.out.c1
     simp only at p1 r1
     have hws := HGX.out.lt
     have hws1 := HGY.out.lt
     clear hcc
     go_wp2
     go_ret
     rw [F.out]
     exact ⟨by simp [go_sem, HDV.out], BW.out _ HB2.out⟩
set_option maxHeartbeats 1000000 in
theorem implIsTrivial_any (v : Value) (g : GrD) (w : World) (h : ArgG w v g) :
  Calls Tryz.prog 87 #[v] w fun e w' => e = .returned (.bool (coreB g && ((g.2.1 == 1) && ((g.2.2.length : Int) == 0)))) ∧ Below w.heap.size w w' := by
 have HG := Lib.hid h
 obtain ⟨s, rfl, hi1, hi2, ha⟩ := h
 obtain ⟨A, cap, rfl⟩ := ha.form
 obtain ⟨g1, N, es⟩ := g
 simp only at *
 clear ha
 go_enter Tryz.func87, Tryz.ntmps87
 go_wp2_with fail
 obtain ⟨W, hW⟩ : ∃ W, W = w.alloc (Obj.cells #[Value.int IntKind.i64 g1, Value.int IntKind.i64 N, .slice A es.length cap] 31) := ⟨_, rfl⟩
 obtain ⟨x1, b1, hsW⟩ := CBx.new hW
 rw [← hW]
 have XA := Lib.hid x1
 have BX := Lib.hid b1
 clear hW b1 x1
 refine (implIsCore_any _ (g1, N, es) W (HG.out.below BX.out)).mono ?_
 rintro e w2 ⟨rfl, b2⟩
 have hs2 := b2.size
 have XA2 := Lib.hid (XA.out.below b2)
 have HBF : Hid (Below w.heap.size w w2) := Lib.hid (BX.out.trans (b2.mono (by omega)))
 clear b2
 have q1 := XA2.out.c1
 have q2 := XA2.out.c2
 rcases ec : coreB (g1, N, es) with _ | _
 ·have F : Hid ((coreB (g1, N, es) && ((N == 1) && ((es.length : Int) == 0))) = false) := Lib.hid (by rw [ec]; rfl)
  clear ec
  go_wp2
  go_ret
  exact ⟨ret_bool F.out.symm, HBF.out⟩
 ·rcases e1 : (N == 1) with _ | _
  ·have F : Hid ((coreB (g1, N, es) && ((N == 1) && ((es.length : Int) == 0))) = false) := Lib.hid (by rw [ec, e1]; rfl)
   clear ec
   go_wp2
   go_ret
   exact ⟨ret_bool F.out.symm, HBF.out⟩
  ·rcases e2 : ((es.length : Int) == 0) with _ | _
   ·have F : Hid ((coreB (g1, N, es) && ((N == 1) && ((es.length : Int) == 0))) = false) := Lib.hid (by rw [ec, e1, e2]; rfl)
    clear ec
    go_wp2
    go_ret
    exact ⟨ret_bool F.out.symm, HBF.out⟩
   ·have F : Hid ((coreB (g1, N, es) && ((N == 1) && ((es.length : Int) == 0))) = true) := Lib.hid (by rw [ec, e1, e2]; rfl)
    clear ec
    go_wp2
    go_ret
    exact ⟨ret_bool F.out.symm, HBF.out⟩
def ImI (x y : GrD) (o im : List Int) : Prop := (im.length : Int) = x.2.1 ∧ ∀ (u : Nat) (h : u < im.length), im[u] = if (u : Int) ∈ o then imgW x y u else -1
theorem ImI.add {x y : GrD} {o im : List Int} (h : ImI x y o im) {z : Nat} : ImI x y (o ++ [(z : Int)]) (im.set z (imgW x y z)) := by
 refine ⟨by rw [List.length_set]; exact h.1, fun u hu => ?_⟩
 rw [List.length_set] at hu
 rw [List.getElem_set]
 split
 ·rename_i e
  subst e
  rw [if_pos (by simp)]
 ·rename_i e
  rw [h.2 u hu]
  by_cases hm : (u : Int) ∈ o
  ·rw [if_pos hm, if_pos (List.mem_append.2 (.inl hm))]
  ·rw [if_neg hm, if_neg]
   intro hm2
   rcases List.mem_append.1 hm2 with hm2 | hm2
   ·exact hm hm2
   ·have := List.mem_singleton.1 hm2; omega
theorem ImI.one {x y : GrD} {n : Nat} (hn : x.2.1 = (n : Int)) (h0 : imgW x y 0 = 0) : ImI x y [0] ((List.replicate n (-1)).set 0 0) := by
 refine ⟨by simp [hn], fun u hu => ?_⟩
 rw [List.getElem_set]
 split
 ·rename_i e
  subst e
  simp [h0]
 ·rename_i e
  rw [if_neg (by simp; omega)]
  simp
def ovN (x y : GrD) (o : List Int) (k : Nat) : Nat := ((o.take k).filter fun u => decide (imgW x y u = 0)).length
theorem ovN_succ {x y : GrD} {o : List Int} {k : Nat} {u : Int} (h : o[k]? = some u) : ovN x y o (k + 1) = if imgW x y u = 0 then ovN x y o k + 1 else ovN x y o k := by
 unfold ovN
 obtain ⟨hk, rfl⟩ := List.getElem?_eq_some_iff.1 h
 rw [List.take_succ_eq_append_getElem hk, List.filter_append, List.length_append]
 by_cases e : imgW x y o[k] = 0
 ·rw [if_pos e]; simp [e]
 ·rw [if_neg e]; simp [e]
theorem ovN_ext {x y : GrD} {o o' : List Int} {k : Nat} (hk : k ≤ o.length) (h : ∀ (j : Nat) (u : Int), o[j]? = some u → o'[j]? = some u) : ovN x y o' k = ovN x y o k := by
 have : o'.take k = o.take k := by
  apply List.ext_getElem?
  intro j
  rw [List.getElem?_take, List.getElem?_take]
  by_cases hj : j < k
  ·rw [if_pos hj, if_pos hj, List.getElem?_eq_getElem (by omega : j < o.length)]
   exact h j _ (List.getElem?_eq_getElem _)
  ·rw [if_neg hj, if_neg hj]
 unfold ovN
 rw [this]
theorem ovN_le {x y : GrD} {o : List Int} {k : Nat} : ovN x y o k ≤ k := by
 unfold ovN
 refine Nat.le_trans (List.length_filter_le _ _) ?_
 rw [List.length_take]
 omega
set_option maxHeartbeats 4000000 in
theorem implIndexIn_any (va vb : Value) (a b : GrD) (w : World) (ha : ArgG w va a) (hb : ArgG w vb b) :
  Calls Tryz.prog 50 #[va, vb] w fun e w' => e = .returned (.int .i64 (idxF a b)) ∧ Below w.heap.size w w' := by
 have HGA := Lib.hid ha
 have HGB := Lib.hid hb
 obtain ⟨sa, rfl, hai1, hai2, haa⟩ := ha
 obtain ⟨A, ca, rfl⟩ := haa.form
 obtain ⟨sb, rfl, hbi1, hbi2, hbb⟩ := hb
 obtain ⟨B, cb, rfl⟩ := hbb.form
 have HCI := Lib.hid (fun h => cyc_incl (a := a) (b := b) h)
 have HCR := Lib.hid (fun h => cyc_read (a := a) (b := b) h)
 have HIP := Lib.hid (fun h => incl_parts (a := a) (b := b) h)
 have HCN := Lib.hid (fun h => core_nil (a := a) h)
 have HCNB := Lib.hid (fun h => core_nil (a := b) h)
 have HIT := Lib.hid (fun h => idx_triv (a := a) (b := b) h)
 have HID0 : Hid (inclS a b = false → idxF a b = -1) := Lib.hid fun h => by unfold idxF; rw [h]; rfl
 have HID2 : Hid (inclS a b = true → 0 ≤ walkF a.2.2 0 (cycG b).2 → idxF a b = idxC (movG a (walkF a.2.2 0 (cycG b).2).toNat) (cycG b).1) := Lib.hid fun h h2 => by unfold idxF; rw [if_pos h, if_pos h2]
 generalize hRR : idxF a b = RR at *
 clear hRR
 obtain ⟨a1, a2, as'⟩ := a
 obtain ⟨b1, b2, bs⟩ := b
 simp only at *
 clear haa hbb
 go_enter Tryz.func50, Tryz.ntmps50
 go_wp2_with fail
 obtain ⟨W1, hW1⟩ : ∃ W, W = w.alloc (Obj.cells #[Value.int IntKind.i64 a1, Value.int IntKind.i64 a2, .slice A as'.length ca] 31) := ⟨_, rfl⟩
 rw [← hW1]
 obtain ⟨x1, bx1, s1⟩ := CBx.new hW1
 obtain ⟨W, hW⟩ : ∃ W, W = W1.alloc (Obj.cells #[Value.int IntKind.i64 b1, Value.int IntKind.i64 b2, .slice B bs.length cb] 31) := ⟨_, rfl⟩
 rw [← hW]
 obtain ⟨x2, bx2, s2⟩ := CBx.new hW
 have XA := Lib.hid (x1.below bx2)
 rw [s1] at x2
 have XB := Lib.hid x2
 have BX : Hid (Below w.heap.size w W) := Lib.hid (bx1.trans (bx2.mono (by omega)))
 have hsW : W.heap.size = w.heap.size + 2 := by omega
 clear hW hW1 bx1 bx2 x1 x2 s1 s2
 refine (implIsInside_any _ _ (a1, a2, as') (b1, b2, bs) W (HGA.out.below BX.out) (HGB.out.below BX.out)).mono ?_
 rintro e w1 ⟨rfl, b1'⟩
 have hs1 := b1'.size
 have XA1 := Lib.hid (XA.out.below b1')
 have XB1 := Lib.hid (XB.out.below b1')
 have B1 : Hid (Below w.heap.size w w1) := Lib.hid (BX.out.trans (b1'.mono (by omega)))
 clear b1'
 rcases ei : inclS (a1, a2, as') (b1, b2, bs) with _ | _
 ·have F := Lib.hid (HID0.out ei)
  go_wp2
  go_ret
  rw [F.out]
  exact ⟨by simp [go_sem], B1.out⟩
 ·have HIN := Lib.hid ei
  obtain ⟨hca, hcb, hrk⟩ := HIP.out ei
  clear hrk
  have HCB := Lib.hid hcb
  have HFA := Lib.hid (core_fold hca)
  have HCA := Lib.hid hca
  have HID2 := Lib.hid (HID2.out ei)
  have HCI := Lib.hid (HCI.out ei)
  have HCR := Lib.hid (HCR.out ei)
  have HIT := Lib.hid (HIT.out ei)
  have HCN := Lib.hid (HCN.out hca)
  have HCNB := Lib.hid (HCNB.out hcb)
  have ha40 := (grB_parts (coreB_grB hca)).2.1
  have HWR := Lib.hid (fun q => walkF_range (coreB_grB hca) q 0 (by omega))
  obtain ⟨sC, qC, eC1, eC2, _, _, eC5, _⟩ := cyc_spec 40 (b1, b2, bs) [] hcb
  change (cycG (b1, b2, bs)).2 = [] ++ qC at eC1
  change coreB (cycG (b1, b2, bs)).1 = true at eC5
  have HCY := Lib.hid eC5
  clear ei HID0 HIP hca hcb eC1 eC2 eC5
  have z0 := XA1.out.c0
  have z1 := XA1.out.c1
  have z2 := XA1.out.c2
  go_wp2_with fail
  refine (implIsTrivial_any _ (a1, a2, as') w1 (HGA.out.below B1.out)).mono ?_
  rintro e w2 ⟨rfl, b2'⟩
  have hs2 := b2'.size
  have XA2 := Lib.hid (XA1.out.below b2')
  have XB2 := Lib.hid (XB1.out.below b2')
  have B2 : Hid (Below w.heap.size w w2) := Lib.hid (B1.out.trans (b2'.mono (by omega)))
  clear b2' z0 z1 z2
  rw [HCA.out]
  by_cases hta : as' = []
  ·have hta1 : a2 = 1 := HCN.out hta
   have HIT := Lib.hid (HIT.out hta)
   have htr : (true && ((a2 == 1) && ((as'.length : Int) == 0))) = true := by rw [hta, hta1]; rfl
   rw [htr]
   have z0 := XB2.out.c0
   have z1 := XB2.out.c1
   have z2 := XB2.out.c2
   clear htr hta hta1
   go_wp2_with fail
   refine (implIsTrivial_any _ (b1, b2, bs) w2 (HGB.out.below B2.out)).mono ?_
   rintro e w3 ⟨rfl, b3'⟩
   have B3 : Hid (Below w.heap.size w w3) := Lib.hid (B2.out.trans (b3'.mono (by omega)))
   clear b3' z0 z1 z2
   rw [HCB.out]
   by_cases htb : bs = []
   ·have htb1 : b2 = 1 := HCNB.out htb
    have htr : (true && ((b2 == 1) && ((bs.length : Int) == 0))) = true := by rw [htb, htb1]; rfl
    have F : Hid (RR = 1) := Lib.hid (by rw [HIT.out, if_pos htb])
    rw [htr]
    clear htr htb htb1
    go_wp2
    go_ret
    rw [F.out]
    exact ⟨by simp [go_sem], B3.out⟩
   ·have htr : (true && ((b2 == 1) && ((bs.length : Int) == 0))) = false := by
     cases bs with
     | nil => exact absurd rfl htb
     | cons z zs => simp; intro _; omega
    have F : Hid (RR = -1) := Lib.hid (by rw [HIT.out, if_neg htb])
    rw [htr]
    clear htr htb
    go_wp2
    go_ret
    rw [F.out]
    exact ⟨by simp [go_sem], B3.out⟩
  ·have htr : (true && ((a2 == 1) && ((as'.length : Int) == 0))) = false := by
    cases as' with
    | nil => exact absurd rfl hta
    | cons z zs => simp; intro _; omega
   rw [htr]
   have hw0' := HCR.out hta
   have HID2 := Lib.hid (HID2.out hw0')
   have HCI := Lib.hid (HCI.out hw0')
   have HW0 := Lib.hid hw0'
   have z0 := XB2.out.c0
   have z1 := XB2.out.c1
   have z2 := XB2.out.c2
   clear htr hta hw0'
   go_wp2_with fail
   refine (implCyclicGraph_any _ (b1, b2, bs) w2 (HGB.out.below B2.out) HCB.out).mono ?_
   rintro e w3 ⟨r3, q3, rfl, o3, oq3, b3'⟩
   have hs3 := b3'.size
   have XA3 := Lib.hid (XA2.out.below b3')
   have B3 : Hid (Below w.heap.size w w3) := Lib.hid (B2.out.trans (b3'.mono (by omega)))
   clear b3' z0 z1 z2
   generalize cycG (b1, b2, bs) = C at *
   obtain ⟨⟨y1, y2, ys⟩, q⟩ := C
   obtain ⟨sy, rfl, hyi1, hyi2, oy3⟩ := o3
   obtain ⟨Ay, cy, rfl, _⟩ := oy3.form
   obtain ⟨Aq, cq, rfl, _⟩ := oq3.form
   simp only at *
   have u0 := XA3.out.c0
   have u1 := XA3.out.c1
   have u2 := XA3.out.c2
   have hl3 : w.heap.size < w3.heap.size := by omega
   go_wp2_with fail
   clear u0 u1 u2
   obtain ⟨w4, hw4⟩ : ∃ W, W = w3.alloc (Obj.cells #[Value.int IntKind.i64 y1, Value.int IntKind.i64 y2, .slice Ay ys.length cy] 31) := ⟨_, rfl⟩
   have GY4 := Lib.hid (GBx.new (m := (y1, y2, ys)) oy3 hyi1 hyi2 hw4)
   obtain ⟨_, b4', hs4⟩ := CBx.new hw4
   rw [← hw4]
   have HYB : Hid (∀ b, (Value.slice Ay ys.length cy).ownBlock = some b → w2.heap.size ≤ b ∧ b < w3.heap.size) := Lib.hid fun b hb => oy3.1.lt b hb
   have XA4 := Lib.hid (XA3.out.below b4')
   have OQ4 := Lib.hid (oq3.below b4')
   have B4 : Hid (Below w.heap.size w w4) := Lib.hid (B3.out.trans (b4'.mono (by omega)))
   clear hw4 b4' oy3 oq3
   refine (read_any _ _ (a1, a2, as') 0 q w4 (HGA.out.below B4.out) OQ4.out.rd HFA.out (by simp only; omega)).mono ?_
   rintro e w5 ⟨rfl, b5'⟩
   have hs5 := b5'.size
   have XA5 := Lib.hid (XA4.out.below b5')
   have GY5 := Lib.hid (GY4.out.below b5')
   have B5 : Hid (Below w.heap.size w w5) := Lib.hid (B4.out.trans (b5'.mono (by omega)))
   clear b5'
   have hwr := HWR.out q
   have hw0 := HW0.out
   have hrd : readF as' 0 q = (walkF as' 0 q, q.length) := by
    rcases walk_read as' q 0 (Int.le_refl _) with ⟨h1, _⟩ | ⟨h1, h2, h3⟩
    ·omega
    ·exact Prod.ext h3 h2
   obtain ⟨u, hu⟩ : ∃ u : Nat, walkF as' 0 q = (u : Int) := ⟨(walkF as' 0 q).toNat, by omega⟩
   rw [hrd]
   rw [hu] at HID2 HCI hwr ⊢
   rw [Int.toNat_natCast] at HID2 HCI
   have HUL : Hid ((u : Int) < a2) := Lib.hid (by omega)
   clear hu hw0 hwr HWR hrd HW0
   have u0 := XA5.out.c0
   have u1 := XA5.out.c1
   have u2 := XA5.out.c2
   go_wp2_with fail
   refine (implMoveBase_any _ (a1, a2, as') u w5 (HGA.out.below B5.out) HFA.out HUL.out).mono ?_
   rintro e w6 ⟨r6, rfl, o6, b6'⟩
   have hs6 := b6'.size
   have GY6 := Lib.hid (GY5.out.below b6')
   have B6 : Hid (Below w.heap.size w w6) := Lib.hid (B5.out.trans (b6'.mono (by omega)))
   clear b6' u0 u1 u2
   generalize movG (a1, a2, as') u = X at *
   obtain ⟨x1, x2, xs⟩ := X
   obtain ⟨sx, rfl, hxi1, hxi2, ox6⟩ := o6
   obtain ⟨Ax, cx, rfl, _⟩ := ox6.form
   simp only at *
   have hix := HCI.out
   obtain ⟨hcx, hcy2, hrk⟩ := incl_parts hix
   have hgx := coreB_grB hcx
   have hgy := coreB_grB hcy2
   obtain ⟨x13, x40, x120, _⟩ := grB_parts hgx
   obtain ⟨y13, y40, y120, _⟩ := grB_parts hgy
   have HST := Lib.hid (fun u l => stp_in hix (u := u) (l := l))
   have HCF := Lib.hid (fun u l => cov_false (x := (x1, x2, xs)) (y := (y1, y2, ys)) (u := u) (l := l))
   have HCT := Lib.hid (cov_true (x := (x1, x2, xs)) (y := (y1, y2, ys)))
   have HIF : Hid (covB (x1, x2, xs) (y1, y2, ys) = false → idxC (x1, x2, xs) (y1, y2, ys) = -1) := Lib.hid fun h => by unfold idxC; rw [h]; rfl
   have HIT2 : Hid (covB (x1, x2, xs) (y1, y2, ys) = true → idxC (x1, x2, xs) (y1, y2, ys) = ((fibL (x1, x2, xs) (y1, y2, ys) 0).length : Int)) := Lib.hid fun h => by unfold idxC; rw [h]; rfl
   have HIR := Lib.hid (fun u => imgW_range hix (u := u))
   have HNXR := Lib.hid (nextV_range hgx)
   have HNYR := Lib.hid (nextV_range hgy)
   have OX := Lib.hid (steps_one (foldB_parts (core_fold hcx)).2)
   have OY := Lib.hid (steps_one (foldB_parts (core_fold hcy2)).2)
   have LX := Lib.hid (let_of_gr hgx)
   have LY := Lib.hid (let_of_gr hgy)
   have HCS := Lib.hid (fun u (x : Int) o => cstep_ok hgx (u := u) (o := o) x)
   have HI0 : Hid (imgW (x1, x2, xs) (y1, y2, ys) 0 = 0) := Lib.hid (incl_zero hgx)
   obtain ⟨n, rfl⟩ : ∃ n : Nat, x2 = (n : Int) := ⟨x2.toNat, by simp only at x40; omega⟩
   obtain ⟨rn, rfl⟩ : ∃ rn : Nat, x1 = (rn : Int) := ⟨x1.toNat, by simp only at x13; omega⟩
   simp only at x13 x40 x120 y13 y40 y120
   clear hix hcx hcy2 hrk hgx hgy
   obtain ⟨i0, hi0, hm0, hm1, hm2⟩ := info_parts int_info
   obtain ⟨w7, hw7⟩ : ∃ W, W = w6.alloc (Obj.cells #[Value.int IntKind.i64 (rn : Int), Value.int IntKind.i64 (n : Int), .slice Ax xs.length cx] 31) := ⟨_, rfl⟩
   have GX7 := Lib.hid (GBx.new (m := ((rn : Int), (n : Int), xs)) ox6 hxi1 hxi2 hw7)
   obtain ⟨_, b7', hs7⟩ := CBx.new hw7
   have HXB : Hid (∀ b, (Value.slice Ax xs.length cx).ownBlock = some b → b < w6.heap.size) := Lib.hid fun b hb => (ox6.1.lt b hb).2
   have GY7 := Lib.hid (GY6.out.below b7')
   have B7 : Hid (Below w.heap.size w w7) := Lib.hid (B6.out.trans (b7'.mono (by omega)))
   clear b7' ox6
   go_wp2_with (at_make; rw [← hw7]; refine wpList_make_full _ rfl _ _ 26 rfl w7.heap.size 3 i0 (.int .i64 0) 1 Tryz.underlying26 hi0 hm0 hm1 _ _ _ _ n rfl rfl rfl rfl (by rw [hm2]; omega) (by unfold maxLen; omega) (Nat.le_refl _) ?_)
   intro w8 hown8 hgrow8
   rw [← hw7] at hgrow8
   try rw [hs7] at hown8
   have O8 : Hid (OwI w8 (w6.heap.size + 1) (.slice (some ⟨w6.heap.size + 1, 0, none⟩) n n) (List.replicate 0 (-1) ++ List.replicate (n - 0) 0)) := Lib.hid (by
    have := OwI_made (w := w7) (w2 := w8) (n := n) (by rw [hs7]; simpa [toList_madeCells_one] using hown8)
    rw [hs7] at this
    simpa using this)
   have HB8 : Hid (Below (w6.heap.size + 1) w7 w8) := Lib.hid ((Below.refl (w6.heap.size + 1) w7).grown hgrow8 (by omega) (fun k h => by cases h))
   have hs8' : w6.heap.size + 1 < w8.heap.size := (O8.out.1.lt (w6.heap.size + 1) rfl).2
   have GXL : Hid (∀ w', Below (w6.heap.size + 1) w7 w' → GBx w' w6.heap.size w.heap.size Ax cx ((rn : Int), (n : Int), xs) ∧ GBx w' w3.heap.size w.heap.size Ay cy (y1, y2, ys)) := Lib.hid fun w' hb =>
    ⟨(GX7.out.belowAt hb (by omega) (fun b hb => by have := HXB.out b hb; omega)).mono (by omega), (GY7.out.belowAt hb (by omega) (fun b hb => by have := (HYB.out b hb).2; omega)).mono (by omega)⟩
   have BW : Hid (∀ w', Below (w6.heap.size + 1) w7 w' → Below w.heap.size w w') := Lib.hid fun w' hb => B7.out.trans (hb.mono (by omega))
   have h36 : w3.heap.size < w6.heap.size := by omega
   clear hw7 hown8 hgrow8 GX7 GY7 B7 GY6 GY5 GY4 XA5 XA4 XA3 B6 B5 B4 B3
   go_wp2
   go_loopw [51] (fun i wr => ∃ k : Nat, k ≤ n ∧ i = .int .i64 k ∧ OwI wr (w6.heap.size + 1) (.slice (some ⟨w6.heap.size + 1, 0, none⟩) n n) (List.replicate k (-1) ++ List.replicate (n - k) 0) ∧ Below (w6.heap.size + 1) w7 wr) (fun i _ => n - (intOf i).toNat)
   case atStart => exact ⟨0, Nat.zero_le _, rfl, O8.out, HB8.out⟩
   case round =>
    obtain ⟨k, hk, rfl, hown, hbel⟩ := hrel
    have HB := Lib.hid hbel
    have hsr := hbel.size
    have HO := Lib.hid hown
    have hplt := (hown.1.lt (w6.heap.size + 1) rfl).2
    by_cases hlt : k < n
    ·have hcell := hown.cellAt k (by simp; omega)
     have hfz := hown.free k
     have HS := Lib.hid (hown.set k (-1) ⟨by decide, by decide⟩)
     have HSET := Lib.hid (set_minus n k hlt)
     clear hown hbel
     generalize (List.replicate k (-1 : Int) ++ List.replicate (n - k) 0)[k]'(by simp; omega) = z0 at hcell
     go_wp2
     go_roundw
     case rel => exact ⟨k + 1, by omega, by go_num, by rw [← HSET.out]; exact HS.out.1, HB.out.grown HS.out.2 (by omega) (fun j hj => by cases hj; exact Nat.le_refl _)⟩
     case measure => simp [intOf]; omega
    ·obtain rfl : k = n := by omega
     have hown2 : OwI wr (w6.heap.size + 1) (.slice (some ⟨w6.heap.size + 1, 0, none⟩) k k) (List.replicate k (-1)) := by simpa using hown
     have hcell := hown2.cellAt 0 (by simp; omega)
     have hfz := hown2.free 0
     have HS := Lib.hid (hown2.set 0 0 ⟨by decide, by decide⟩)
     have hk0 : (0 : Int) < (k : Int) := by omega
     clear hown hbel hown2
     generalize (List.replicate k (-1 : Int))[0]'(by simp; omega) = z0 at hcell
     have BS := Lib.hid (HB.out.grown HS.out.2 (by omega) (fun j hj => by cases hj; exact Nat.le_refl _))
     have hss : (wr.setCell ⟨w6.heap.size + 1, 0, none⟩ (.int .i64 0)).heap.size = wr.heap.size := by simp
     go_wp2
     obtain ⟨wS, hwS⟩ : ∃ W, W = wr.setCell ⟨w6.heap.size + 1, 0, none⟩ (.int .i64 0) := ⟨_, rfl⟩
     rw [← hwS] at HS BS hss ⊢
     have O9 : Hid (OwI (wS.alloc (.cells #[.int .i64 0] 3)) (w6.heap.size + 2) (.slice (some ⟨wr.heap.size, 0, none⟩) 1 1) [0]) := Lib.hid (by
      have := (OwI_lit wS [0] (fun x hx => by simp at hx; subst hx; exact ⟨by decide, by decide⟩) (by simp) (Nat.le_refl _)).mono (base' := w6.heap.size + 2) (by omega)
      rw [hss] at this
      exact this)
     have b9 : Below wS.heap.size wS (wS.alloc (.cells #[.int .i64 0] 3)) := (Below.refl _ _).alloc (Nat.le_refl _) _
     obtain ⟨w9, hw9⟩ : ∃ W, W = wS.alloc (.cells #[.int .i64 0] 3) := ⟨_, rfl⟩
     have hs9 : w9.heap.size = wS.heap.size + 1 := by rw [hw9]; simp
     rw [← hw9] at O9 b9 ⊢
     have OI9 := Lib.hid (HS.out.1.below b9)
     have B9 := Lib.hid (BS.out.trans (b9.mono (by omega)))
     clear hw9 b9 hwS hcell hfz
     obtain ⟨n, rfl⟩ : ∃ n, n = k := ⟨_, rfl⟩
     have HLE : Hid (∀ W : World, Calls Tryz.prog 66 #[.int .i64 (rn : Int)] W fun e w' => ∃ r, e = .returned r ∧ OwI w' W.heap.size r (lettersL rn) ∧ Below W.heap.size W w') := Lib.hid fun W => letters_any rn W (by omega)
     have hll := lettersL_len rn
     have HLL : Hid ((lettersL rn).length = 2 * rn) := Lib.hid hll
     have hl1 : 1 ≤ (lettersL rn).length := by omega
     have hl6 : (lettersL rn).length ≤ 6 := by omega
     have HRNG : Hid (∀ x ∈ lettersL rn, -3 ≤ x ∧ x ≤ 3) := Lib.hid fun x hx => by have := letters_mem.1 hx; omega
     have HCF2 : Hid (∀ u l, u ∈ canO ((rn : Int), (n : Int), xs) → l ∈ lettersL rn → nextV xs u l < 0 → 0 ≤ nextV ys (imgW ((rn : Int), (n : Int), xs) (y1, y2, ys) u) l → covB ((rn : Int), (n : Int), xs) (y1, y2, ys) = false) := Lib.hid fun u l a b c d => HCF.out u l a b c d
     have HCT2 : Hid ((∀ u ∈ canO ((rn : Int), (n : Int), xs), ∀ l ∈ lettersL rn, ¬ (nextV xs u l < 0 ∧ 0 ≤ nextV ys (imgW ((rn : Int), (n : Int), xs) (y1, y2, ys) u) l)) → covB ((rn : Int), (n : Int), xs) (y1, y2, ys) = true) := Lib.hid fun h => HCT.out h
     have HCO : Hid (canO ((rn : Int), (n : Int), xs) = canF xs (lettersL rn) (41 - 0) 0 [0]) := Lib.hid rfl
     have HIM0 : Hid (ImI ((rn : Int), (n : Int), xs) (y1, y2, ys) [0] ((List.replicate n (-1)).set 0 0)) := Lib.hid (ImI.one rfl HI0.out)
     clear HCF HCT hll HS
     generalize lettersL rn = ls at *
     obtain ⟨imS, himS⟩ : ∃ l, (List.replicate n (-1 : Int)).set 0 0 = l := ⟨_, rfl⟩
     rw [himS] at HIM0 OI9
     clear himS
     go_loopw [13, 14, 15] (fun out ov i wr => ∃ (k : Nat) (o im : List Int), k ≤ o.length ∧ i = .int .i64 k ∧ ov = .int .i64 (ovN ((rn : Int), (n : Int), xs) (y1, y2, ys) o k : Nat) ∧ OrdOk (n : Int) o ∧ canO ((rn : Int), (n : Int), xs) = canF xs ls (41 - k) k o ∧ ImI ((rn : Int), (n : Int), xs) (y1, y2, ys) o im ∧ OwI wr (w6.heap.size + 1) (.slice (some ⟨w6.heap.size + 1, 0, none⟩) n n) im ∧ OwI wr (w6.heap.size + 2) out o ∧ Below (w6.heap.size + 1) w7 wr ∧ (∀ (j : Nat) u, j < k → o[j]? = some u → ∀ l ∈ ls, ¬ (nextV xs u l < 0 ∧ 0 ≤ nextV ys (imgW ((rn : Int), (n : Int), xs) (y1, y2, ys) u) l))) (fun _ _ i _ => 41 - (intOf i).toNat)
     case atStart => exact ⟨0, [0], imS, Nat.zero_le _, rfl, rfl, OrdOk.one (by omega), HCO.out, HIM0.out, OI9.out, O9.out, B9.out, fun j u hj => absurd hj (Nat.not_lt_zero _)⟩
     case round =>
      obtain ⟨k, o, im, hk, rfl, rfl, hok, hco, him, hio, hown, hbel, hcv⟩ := hrel
      obtain ⟨wo, rfl⟩ : ∃ wo : World, wo = wr := ⟨_, rfl⟩
      have hol := hok.len (by omega) (by omega)
      have HOK := Lib.hid hok
      have HC := Lib.hid hco
      have HIM := Lib.hid him
      have HIO := Lib.hid hio
      have HO := Lib.hid hown
      have HB2 := Lib.hid hbel
      have HCV := Lib.hid hcv
      have hsz := hbel.size
      have hovk := ovN_le (x := ((rn : Int), (n : Int), xs)) (y := (y1, y2, ys)) (o := o) (k := k)
      obtain ⟨A1, cap1, rfl, _, _, _, hf1⟩ := hown.form
      clear hok hco him hio hbel hcv
      by_cases hlt : k < o.length
      ·obtain ⟨u, hu⟩ : ∃ u, o[k]? = some u := ⟨o[k], by simp⟩
       have hku : o[k] = u := by rw [List.getElem?_eq_getElem hlt] at hu; injection hu
       have hu0 := HOK.out.2.1 u (List.mem_of_getElem? hu)
       obtain ⟨un, rfl⟩ : ∃ un : Nat, u = (un : Int) := ⟨u.toNat, by omega⟩
       have hun : un < n := by omega
       have hunI : (un : Int) < (n : Int) := by omega
       have HUO : Hid ((un : Int) ∈ o) := Lib.hid (List.mem_of_getElem? hu)
       have HCFK : Hid (canO ((rn : Int), (n : Int), xs) = canF xs ls (41 - (k + 1)) (k + 1) (ls.foldl (cstep xs (un : Int)) o)) := Lib.hid (by
        rw [HC.out, show 41 - k = (41 - (k + 1)) + 1 by omega, canF_step _ _ _ _ _ hlt, hku])
       have HUC : Hid ((un : Int) ∈ canO ((rn : Int), (n : Int), xs)) := Lib.hid (by rw [HC.out]; exact List.mem_of_getElem? (canF_prefix _ _ _ _ _ _ _ hu))
       have HPU : Hid (∀ m : Nat, (((ls.take m).foldl (cstep xs (un : Int)) o))[k]? = some (un : Int)) := Lib.hid fun m => cfold_prefix _ _ _ _ _ _ hu
       have HPO : Hid (∀ (j : Nat) (v : Int), j < k → (ls.foldl (cstep xs (un : Int)) o)[j]? = some v → o[j]? = some v) := Lib.hid fun j v hj hv => by
        have h1 := cfold_prefix xs (un : Int) ls o j _ (List.getElem?_eq_getElem (by omega : j < o.length))
        rw [hv] at h1
        injection h1 with h1
        rw [h1]
        exact List.getElem?_eq_getElem _
       have HOE : Hid (ovN ((rn : Int), (n : Int), xs) (y1, y2, ys) (ls.foldl (cstep xs (un : Int)) o) (k + 1) = ovN ((rn : Int), (n : Int), xs) (y1, y2, ys) o (k + 1)) := Lib.hid (ovN_ext (by omega) fun j v hj => cfold_prefix _ _ _ _ _ _ hj)
       have HSU : Hid (∀ (m : Nat) (hm : m < ls.length), (ls.take (m + 1)).foldl (cstep xs (un : Int)) o = cstep xs (un : Int) ((ls.take m).foldl (cstep xs (un : Int)) o) ls[m]) := Lib.hid fun m hm => cfold_succ _ _ _ _ _ hm
       have HOKm : Hid (∀ m : Nat, OrdOk (n : Int) ((ls.take m).foldl (cstep xs (un : Int)) o)) := Lib.hid fun m => by
        generalize ls.take m = l2
        have : ∀ (l2 : List Int) (o : List Int), OrdOk (n : Int) o → OrdOk (n : Int) (l2.foldl (cstep xs (un : Int)) o) := by
         intro l2
         induction l2 with
         | nil => intro o h; exact h
         | cons a l2 ih => intro o h; exact ih _ (HCS.out _ a o h)
        exact this l2 o HOK.out
       have HLM : Hid (∀ (m : Nat) (hm : m < ls.length), ls[m] ∈ ls) := Lib.hid fun m hm => List.getElem_mem hm
       have HIR1 := Lib.hid (HIR.out _ HUC.out)
       have HST1 := Lib.hid (fun l => HST.out (un : Int) l HUC.out)
       have HCF3 := Lib.hid (fun l => HCF2.out (un : Int) l HUC.out)
       have HOV := Lib.hid (ovN_succ (x := ((rn : Int), (n : Int), xs)) (y := (y1, y2, ys)) hu)
       obtain ⟨b1', rfl, hb11, hb12⟩ := hf1 (by omega)
       have d0 := hown.cellAt k hlt
       rw [hku] at d0
       have hul : un < im.length := by have := HIM.out.1; simp only at this; omega
       have hum := HIM.out.2 un hul
       rw [if_pos HUO.out] at hum
       have g0 := HIO.out.cellAt un hul
       rw [hum] at g0
       have p0 := (GXL.out wo HB2.out).1.c0
       have p1 := (GXL.out wo HB2.out).1.c1
       have p2 := (GXL.out wo HB2.out).1.c2
       simp only at p0 p1 p2
       obtain ⟨iu, hiu⟩ : ∃ iu, imgW ((rn : Int), (n : Int), xs) (y1, y2, ys) (un : Int) = iu := ⟨_, rfl⟩
       rw [hiu] at g0 HOV HIR1
       have HIU := Lib.hid hiu
       obtain ⟨ok, hok⟩ : ∃ ok, ovN ((rn : Int), (n : Int), xs) (y1, y2, ys) o k = ok := ⟨_, rfl⟩
       rw [hok] at HOV hovk ⊢
       clear hu hku hul hum hiu hf1 hown hok
       rcases e0 : (iu == 0) with _ | _
       ·have HOW : Hid (ovN ((rn : Int), (n : Int), xs) (y1, y2, ys) o (k + 1) = ok) := Lib.hid (by rw [HOV.out, if_neg (by simpa using e0)])
        have hokb : ok ≤ 100 := by omega
        obtain ⟨ok2, hok2⟩ : ∃ ok2, ok2 = ok := ⟨_, rfl⟩
        have HK2 := Lib.hid hok2
        clear hok2
        go_wp2_with fail
        rw [← HK2.out] at HOW hokb ⊢
        clear HK2 e0 hovk HOV
        refine (HLE.out wo).mono ?_
        rintro e wl ⟨rl, rfl, ol, bL⟩
        have hsl := bL.size
        have HIOL := Lib.hid (HIO.out.below bL)
        have HOL := Lib.hid (HO.out.below bL)
        have BL := Lib.hid (HB2.out.trans (bL.mono (by omega)))
        obtain ⟨Al, capl, rfl, hcl, hml, _, hfl⟩ := ol.form
        obtain ⟨bl, rfl, hbl1, hbl2⟩ := hfl (by omega)
        unfold maxLen at hml
        have OL := Lib.hid ol.rd
        clear ol bL hfl p0 p1 p2 d0 g0
        go_wp2
        go_loopw [13, 82] (fun out j wr => ∃ (m : Nat) (im : List Int), m ≤ ls.length ∧ j = .int .i64 m ∧ ImI ((rn : Int), (n : Int), xs) (y1, y2, ys) ((ls.take m).foldl (cstep xs (un : Int)) o) im ∧ OwI wr (w6.heap.size + 1) (.slice (some ⟨w6.heap.size + 1, 0, none⟩) n n) im ∧ OwI wr (w6.heap.size + 2) out ((ls.take m).foldl (cstep xs (un : Int)) o) ∧ RdI wr (.slice (some ⟨bl, 0, none⟩) ls.length capl) ls ∧ out.ownBlock ≠ some bl ∧ bl < wr.heap.size ∧ Below (w6.heap.size + 1) w7 wr ∧ (∀ i (hi : i < ls.length), i < m → ¬ (nextV xs (un : Int) ls[i] < 0 ∧ 0 ≤ nextV ys (imgW ((rn : Int), (n : Int), xs) (y1, y2, ys) (un : Int)) ls[i]))) (fun _ j _ => ls.length - (intOf j).toNat)
        case atStart => exact ⟨0, im, Nat.zero_le _, rfl, HIM.out, HIOL.out, HOL.out, OL.out, by simp [Value.ownBlock]; omega, hbl2, BL.out, fun i _ hi => absurd hi (Nat.not_lt_zero _)⟩
        case round =>
         obtain ⟨m, im, hm1, rfl, him, hio, hown, hrd, hne, hblr, hbi, hcv⟩ := hrel
         have hsi := hbi.size
         have HBI := Lib.hid hbi
         have HIM := Lib.hid him
         have HIO := Lib.hid hio
         have HRR := Lib.hid hrd
         have HNR := Lib.hid hne
         have HCVm := Lib.hid hcv
         have HGX := Lib.hid (GXL.out wr hbi).1
         have HGY := Lib.hid (GXL.out wr hbi).2
         clear him hbi hne hcv
         by_cases hlt2 : m < ls.length
         ·have hokm := HOKm.out m
          have hlm := hokm.len (by omega) (by omega)
          have hpu := HPU.out m
          have HS := Lib.hid (HSU.out m hlt2)
          have HX3 := Lib.hid (HRNG.out _ (HLM.out m hlt2))
          have HLX := Lib.hid (HLM.out m hlt2)
          have HCN0 : Hid (¬ (nextV xs (un : Int) ls[m] < 0 ∧ 0 ≤ nextV ys iu ls[m]) → ∀ i (hi : i < ls.length), i < m + 1 → ¬ (nextV xs (un : Int) ls[i] < 0 ∧ 0 ≤ nextV ys (imgW ((rn : Int), (n : Int), xs) (y1, y2, ys) (un : Int)) ls[i])) := Lib.hid fun h i hi h1 => by
           by_cases h2 : i < m
           ·exact HCVm.out i hi h2
           ·obtain rfl : i = m := by omega
            rw [HIU.out]; exact h
          obtain ⟨_, _, hAl, _, hcl9⟩ := hrd.at (by omega)
          obtain ⟨rfl, rfl⟩ : bl = _ ∧ 0 = _ := by simpa using hAl
          have c0 := hcl9 m hlt2
          rw [Nat.zero_add] at c0
          obtain ⟨x, hx⟩ : ∃ x, ls[m] = x := ⟨_, rfl⟩
          rw [hx] at c0 HS HX3 HLX HCN0
          clear hx hAl hcl9
          obtain ⟨om, hom⟩ : ∃ om, (ls.take m).foldl (cstep xs (un : Int)) o = om := ⟨_, rfl⟩
          rw [hom] at hokm hlm hpu HS HIM hown
          clear hom
          have HUM : Hid ((un : Int) ∈ om) := Lib.hid (List.mem_of_getElem? hpu)
          have HOM := Lib.hid hown
          have hul : un < im.length := by have := HIM.out.1; simp only at this; omega
          have hum := HIM.out.2 un hul
          rw [if_pos HUM.out, HIU.out] at hum
          have g0 := HIO.out.cellAt un hul
          rw [hum] at g0
          have hgl : w6.heap.size + 1 < wr.heap.size := (HIO.out.1.lt (w6.heap.size + 1) rfl).2
          have HST2 := Lib.hid (HST1.out x HX3.out)
          have HCF4 := Lib.hid (HCF3.out x HLX.out)
          rw [HIU.out] at HST2 HCF4
          have N0 := Lib.hid (cstep_no (es := xs) (u := (un : Int)) (x := x) (o := om))
          have N1 := Lib.hid (cstep_in (es := xs) (u := (un : Int)) (x := x) (o := om))
          have N2 := Lib.hid (cstep_new (es := xs) (u := (un : Int)) (x := x) (o := om))
          have HNX := Lib.hid (fun W (h : ArgG W (.agg #[.int .i64 (rn : Int), .int .i64 (n : Int), .slice Ax xs.length cx]) ((rn : Int), (n : Int), xs)) => implNextVertex_any _ ((rn : Int), (n : Int), xs) (un : Int) x W h (OX.out (un : Int) x) LX.out)
          have HNY := Lib.hid (fun W (h : ArgG W (.agg #[.int .i64 y1, .int .i64 y2, .slice Ay ys.length cy]) (y1, y2, ys)) => implNextVertex_any _ (y1, y2, ys) iu x W h (OY.out iu x) LY.out)
          have p0 := HGX.out.c0
          have p1 := HGX.out.c1
          have p2 := HGX.out.c2
          have r0 := HGY.out.c0
          have r1 := HGY.out.c1
          have r2 := HGY.out.c2
          simp only at p0 p1 p2 r0 r1 r2
          have hws := HGX.out.lt
          have hws1 := HGY.out.lt
          have HR1 := Lib.hid (HNXR.out (un : Int) x)
          have HR2 := Lib.hid (HNYR.out iu x)
          obtain ⟨A2, cap2, rfl, _, _, _, hf2⟩ := hown.form
          clear hown hrd hpu hul hum hf2
          go_wp2_with fail
          have f0 := BelW.cell p0 hws
          have f1 := BelW.cell p1 hws
          have f2 := BelW.cell p2 hws
          have f3 := BelW.cell r0 hws1
          have f4 := BelW.cell r1 hws1
          have f5 := BelW.cell r2 hws1
          have f6 := BelW.cell g0 hgl
          (refine wp_region_quiet_bel (by kernel_rfl) (by kernel_rfl) ?_; (repeat (go_big_quiet_step (first | (go_at_call 67; with_reducible exact Calls.bel_of (HNX.out _ (HGX.out.below (BelW.h _)).arg)) | (go_at_call 67; with_reducible exact Calls.bel_of (HNY.out _ (HGY.out.below (BelW.h _)).arg))))); refine wpQuiet_nil ?_; intro wz hw'; obtain ⟨pq, hw''⟩ := hw'; have bz := pq.h; rw [← hw''] at bz; clear hw'' pq)
          clear f0 f1 f2 f3 f4 f5 f6 p0 p1 p2 r0 r1 r2 c0 g0
          have sz := bz.size
          have HBZ := Lib.hid (HBI.out.trans (bz.mono (by omega)))
          have HOZ := Lib.hid (HOM.out.below bz)
          have HIZ := Lib.hid (HIO.out.below bz)
          have HRZ := Lib.hid (HRR.out.below bz)
          clear bz
          rcases es : decide (nextV xs (un : Int) x < 0) with _ | _
          ·have hs0 : 0 ≤ nextV xs (un : Int) x := by simpa using es
           have hsn : ¬ nextV xs (un : Int) x < 0 := by omega
           have HNB := Lib.hid (HCN0.out fun q => hsn q.1)
           have hsr : nextV xs (un : Int) x < (n : Int) := by have := HR1.out; omega
           have HSS := Lib.hid (HST2.out hs0)
           have ht0 : 0 ≤ nextV ys iu x := HSS.out.1
           have htn : ¬ nextV ys iu x < 0 := by omega
           obtain ⟨sn, hsn2⟩ : ∃ sn : Nat, nextV xs (un : Int) x = (sn : Int) := ⟨(nextV xs (un : Int) x).toNat, by omega⟩
           rw [hsn2] at HSS N1 N2 hs0 hsn hsr ⊢
           generalize nextV ys iu x = tt at *
           clear hsn2 es HCN0 N0 HST2 HCF4
           have hil : sn < im.length := by have := HIM.out.1; simp only at this; omega
           have him2 := HIM.out.2 sn hil
           have cc := HIZ.out.cellAt sn hil
           have ff := HIZ.out.free sn
           rcases h1 : hasB om (sn : Int) with _ | _
           ·rw [if_neg (hasB_not h1)] at him2
            rw [him2] at cc
            have F := Lib.hid (N2.out hs0 h1)
            have HY : Hid (I64 (sn : Int)) := Lib.hid ⟨by omega, by omega⟩
            have HTI : Hid (I64 tt) := Lib.hid (by have := HR2.out; unfold I64; omega)
            have HSET := Lib.hid (HIZ.out.set sn tt HTI.out)
            have hbo : ∀ b, (Value.slice A2 om.length cap2).ownBlock = some b → w6.heap.size + 2 ≤ b := fun b hb => (HOZ.out.1.lt b hb).1
            have HBO := Lib.hid hbo
            have HOS := Lib.hid (HOZ.out.keepB (w' := wz.setCell ⟨w6.heap.size + 1, sn, none⟩ (.int .i64 tt)) fun b hb => Below.heap_setCell _ _ _ b (by have := hbo b hb; show b ≠ w6.heap.size + 1; omega))
            have BS2 := Lib.hid (HBZ.out.grown HSET.out.2 (by omega) (fun j hj => by cases hj; exact Nat.le_refl _))
            have HRS : Hid (RdI (wz.setCell ⟨w6.heap.size + 1, sn, none⟩ (.int .i64 tt)) (.slice (some ⟨bl, 0, none⟩) ls.length capl) ls) := Lib.hid (HRZ.out.grown HSET.out.2 (fun b hb hb' => by simp [Value.ownBlock] at hb hb'; omega))
            have hsS : (wz.setCell ⟨w6.heap.size + 1, sn, none⟩ (.int .i64 tt)).heap.size = wz.heap.size := by simp
            have HSS2 := Lib.hid hsS
            clear him2 hil hbo hsS
            go_wp2_with (at_builtin; refine push_int rfl (.tmp 115) (.tmp 117) rfl _ _ _ (OwI.alloc HOS.out _) rfl _ _ rfl (by simp [go_sem]) HY.out (by first | omega | (simp <;> omega)) (by first | omega | (simp <;> omega)) ?_; intro v9 wv9 o9 g9 p9)
            have hz9 := g9.size
            simp at hz9
            have HI9 := Lib.hid ((HSET.out.1.alloc (.cells #[.int .i64 (sn : Int)] 3)).kept g9 (.inr (fun e => by have h : w6.heap.size + 2 ≤ w6.heap.size + 1 := HBO.out _ e.symm; omega)))
            have B9z : Hid (Below (w6.heap.size + 1) w7 wv9) := Lib.hid (bel_push BS2.out (by rw [HSS2.out]; omega) HOS.out.1 (Nat.le_succ _) g9)
            have HL9 : Hid (RdI wv9 (.slice (some ⟨bl, 0, none⟩) ls.length capl) ls) := Lib.hid ((HRS.out.alloc _).grown g9 (fun b hb hb' => HNR.out (by simp [Value.ownBlock] at hb; subst hb; exact hb')))
            have HV9 : Hid (v9.ownBlock ≠ some bl) := Lib.hid fun e => by
             rcases p9 with p9 | p9
             ·rw [p9] at e; exact HNR.out e
             ·rw [p9] at e; simp at e; omega
            go_roundw
            case rel =>
             refine ⟨m + 1, im.set sn tt, by omega, by go_num, ?_, HI9.out, by rw [HS.out, F.out]; exact o9, HL9.out, HV9.out, by omega, B9z.out, HNB.out⟩
             rw [HS.out, F.out]
             have := HIM.out.add (z := sn)
             rw [HSS.out.2] at this
             exact this
            case measure => simp [intOf]; omega
           ·rw [if_pos (hasB_iff.1 h1), HSS.out.2] at him2
            rw [him2] at cc
            have F := Lib.hid (N1.out hs0 h1)
            clear him2 hil
            go_wp2
            go_roundw
            case rel => exact ⟨m + 1, im, by omega, by go_num, by rw [HS.out, F.out]; exact HIM.out, HIZ.out, by rw [HS.out, F.out]; exact HOZ.out, HRZ.out, HNR.out, by omega, HBZ.out, HNB.out⟩
            case measure => simp [intOf]; omega
          ·have hs0 : nextV xs (un : Int) x < 0 := by simpa using es
           have hsr : ¬ 0 ≤ nextV xs (un : Int) x := by omega
           rcases et : decide (nextV ys iu x < 0) with _ | _
           ·have ht0 : ¬ nextV ys iu x < 0 := by simpa using et
            have F := Lib.hid ((HID2.out).trans (HIF.out (HCF4.out hs0 (by omega))))
            generalize nextV xs (un : Int) x = ss at *
            generalize nextV ys iu x = tt at *
            go_wp2
            go_ret
            rw [F.out]
            exact ⟨by simp [go_sem], BW.out _ HBZ.out⟩
           ·have ht0 : nextV ys iu x < 0 := by simpa using et
            have HNB := Lib.hid (HCN0.out fun q => by omega)
            have F := Lib.hid (N0.out hs0)
            generalize nextV xs (un : Int) x = ss at *
            generalize nextV ys iu x = tt at *
            go_wp2
            go_roundw
            case rel => exact ⟨m + 1, im, by omega, by go_num, by rw [HS.out, F.out]; exact HIM.out, HIZ.out, by rw [HS.out, F.out]; exact HOZ.out, HRZ.out, HNR.out, by omega, HBZ.out, HNB.out⟩
            case measure => simp [intOf]; omega
         ·obtain rfl : m = ls.length := by omega
          rw [List.take_length] at hown HIM
          have hokm := HOKm.out ls.length
          rw [List.take_length] at hokm
          have HOKF := Lib.hid hokm
          have HOM := Lib.hid hown
          have hlen : k + 1 ≤ (ls.foldl (cstep xs (un : Int)) o).length := by
           have := HPU.out ls.length
           rw [List.take_length] at this
           have := (List.getElem?_eq_some_iff.1 this).1
           omega
          have HCV2 : Hid (∀ (j : Nat) v, j < k + 1 → (ls.foldl (cstep xs (un : Int)) o)[j]? = some v → ∀ l ∈ ls, ¬ (nextV xs v l < 0 ∧ 0 ≤ nextV ys (imgW ((rn : Int), (n : Int), xs) (y1, y2, ys) v) l)) := Lib.hid fun j v hj hv l hl => by
           by_cases hjk : j < k
           ·exact HCV.out j v hjk (HPO.out j v hjk hv) l hl
           ·obtain rfl : j = k := by omega
            have h1 := HPU.out ls.length
            rw [List.take_length, hv] at h1
            injection h1 with h1
            subst h1
            obtain ⟨i, hi, rfl⟩ := List.getElem_of_mem hl
            exact HCVm.out i hi hi
          obtain ⟨A2, cap2, rfl, _⟩ := hown.form
          clear hown hrd hokm
          go_wp2
          go_roundw
          case rel => exact ⟨k + 1, _, im, hlen, by go_num, by rw [HOE.out, HOW.out], HOKF.out, HCFK.out, HIM.out, HIO.out, HOM.out, HBI.out, HCV2.out⟩
          case measure => simp [intOf]; omega
       ·have HOW : Hid (ovN ((rn : Int), (n : Int), xs) (y1, y2, ys) o (k + 1) = ok + 1) := Lib.hid (by rw [HOV.out, if_pos (by simpa using e0)])
        have hokb : ok + 1 ≤ 100 := by omega
        obtain ⟨ok2, hok2⟩ : ∃ ok2, ok2 = ok + 1 := ⟨_, rfl⟩
        have HK3 : Hid ((ok : Int) + 1 = (ok2 : Int)) := Lib.hid (by omega)
        have HK2 := Lib.hid hok2
        clear hok2
        go_wp2_with fail
        rw [← HK2.out] at HOW hokb
        rw [HK3.out]
        clear HK2 e0 hovk HOV HK3
        refine (HLE.out wo).mono ?_
        rintro e wl ⟨rl, rfl, ol, bL⟩
        have hsl := bL.size
        have HIOL := Lib.hid (HIO.out.below bL)
        have HOL := Lib.hid (HO.out.below bL)
        have BL := Lib.hid (HB2.out.trans (bL.mono (by omega)))
        obtain ⟨Al, capl, rfl, hcl, hml, _, hfl⟩ := ol.form
        obtain ⟨bl, rfl, hbl1, hbl2⟩ := hfl (by omega)
        unfold maxLen at hml
        have OL := Lib.hid ol.rd
        clear ol bL hfl p0 p1 p2 d0 g0
        go_wp2
        go_loopw [13, 82] (fun out j wr => ∃ (m : Nat) (im : List Int), m ≤ ls.length ∧ j = .int .i64 m ∧ ImI ((rn : Int), (n : Int), xs) (y1, y2, ys) ((ls.take m).foldl (cstep xs (un : Int)) o) im ∧ OwI wr (w6.heap.size + 1) (.slice (some ⟨w6.heap.size + 1, 0, none⟩) n n) im ∧ OwI wr (w6.heap.size + 2) out ((ls.take m).foldl (cstep xs (un : Int)) o) ∧ RdI wr (.slice (some ⟨bl, 0, none⟩) ls.length capl) ls ∧ out.ownBlock ≠ some bl ∧ bl < wr.heap.size ∧ Below (w6.heap.size + 1) w7 wr ∧ (∀ i (hi : i < ls.length), i < m → ¬ (nextV xs (un : Int) ls[i] < 0 ∧ 0 ≤ nextV ys (imgW ((rn : Int), (n : Int), xs) (y1, y2, ys) (un : Int)) ls[i]))) (fun _ j _ => ls.length - (intOf j).toNat)
        case atStart => exact ⟨0, im, Nat.zero_le _, rfl, HIM.out, HIOL.out, HOL.out, OL.out, by simp [Value.ownBlock]; omega, hbl2, BL.out, fun i _ hi => absurd hi (Nat.not_lt_zero _)⟩
        case round =>
         obtain ⟨m, im, hm1, rfl, him, hio, hown, hrd, hne, hblr, hbi, hcv⟩ := hrel
         have hsi := hbi.size
         have HBI := Lib.hid hbi
         have HIM := Lib.hid him
         have HIO := Lib.hid hio
         have HRR := Lib.hid hrd
         have HNR := Lib.hid hne
         have HCVm := Lib.hid hcv
         have HGX := Lib.hid (GXL.out wr hbi).1
         have HGY := Lib.hid (GXL.out wr hbi).2
         clear him hbi hne hcv
         by_cases hlt2 : m < ls.length
         ·have hokm := HOKm.out m
          have hlm := hokm.len (by omega) (by omega)
          have hpu := HPU.out m
          have HS := Lib.hid (HSU.out m hlt2)
          have HX3 := Lib.hid (HRNG.out _ (HLM.out m hlt2))
          have HLX := Lib.hid (HLM.out m hlt2)
          have HCN0 : Hid (¬ (nextV xs (un : Int) ls[m] < 0 ∧ 0 ≤ nextV ys iu ls[m]) → ∀ i (hi : i < ls.length), i < m + 1 → ¬ (nextV xs (un : Int) ls[i] < 0 ∧ 0 ≤ nextV ys (imgW ((rn : Int), (n : Int), xs) (y1, y2, ys) (un : Int)) ls[i])) := Lib.hid fun h i hi h1 => by
           by_cases h2 : i < m
           ·exact HCVm.out i hi h2
           ·obtain rfl : i = m := by omega
            rw [HIU.out]; exact h
          obtain ⟨_, _, hAl, _, hcl9⟩ := hrd.at (by omega)
          obtain ⟨rfl, rfl⟩ : bl = _ ∧ 0 = _ := by simpa using hAl
          have c0 := hcl9 m hlt2
          rw [Nat.zero_add] at c0
          obtain ⟨x, hx⟩ : ∃ x, ls[m] = x := ⟨_, rfl⟩
          rw [hx] at c0 HS HX3 HLX HCN0
          clear hx hAl hcl9
          obtain ⟨om, hom⟩ : ∃ om, (ls.take m).foldl (cstep xs (un : Int)) o = om := ⟨_, rfl⟩
          rw [hom] at hokm hlm hpu HS HIM hown
          clear hom
          have HUM : Hid ((un : Int) ∈ om) := Lib.hid (List.mem_of_getElem? hpu)
          have HOM := Lib.hid hown
          have hul : un < im.length := by have := HIM.out.1; simp only at this; omega
          have hum := HIM.out.2 un hul
          rw [if_pos HUM.out, HIU.out] at hum
          have g0 := HIO.out.cellAt un hul
          rw [hum] at g0
          have hgl : w6.heap.size + 1 < wr.heap.size := (HIO.out.1.lt (w6.heap.size + 1) rfl).2
          have HST2 := Lib.hid (HST1.out x HX3.out)
          have HCF4 := Lib.hid (HCF3.out x HLX.out)
          rw [HIU.out] at HST2 HCF4
          have N0 := Lib.hid (cstep_no (es := xs) (u := (un : Int)) (x := x) (o := om))
          have N1 := Lib.hid (cstep_in (es := xs) (u := (un : Int)) (x := x) (o := om))
          have N2 := Lib.hid (cstep_new (es := xs) (u := (un : Int)) (x := x) (o := om))
          have HNX := Lib.hid (fun W (h : ArgG W (.agg #[.int .i64 (rn : Int), .int .i64 (n : Int), .slice Ax xs.length cx]) ((rn : Int), (n : Int), xs)) => implNextVertex_any _ ((rn : Int), (n : Int), xs) (un : Int) x W h (OX.out (un : Int) x) LX.out)
          have HNY := Lib.hid (fun W (h : ArgG W (.agg #[.int .i64 y1, .int .i64 y2, .slice Ay ys.length cy]) (y1, y2, ys)) => implNextVertex_any _ (y1, y2, ys) iu x W h (OY.out iu x) LY.out)
          have p0 := HGX.out.c0
          have p1 := HGX.out.c1
          have p2 := HGX.out.c2
          have r0 := HGY.out.c0
          have r1 := HGY.out.c1
          have r2 := HGY.out.c2
          simp only at p0 p1 p2 r0 r1 r2
          have hws := HGX.out.lt
          have hws1 := HGY.out.lt
          have HR1 := Lib.hid (HNXR.out (un : Int) x)
          have HR2 := Lib.hid (HNYR.out iu x)
          obtain ⟨A2, cap2, rfl, _, _, _, hf2⟩ := hown.form
          clear hown hrd hpu hul hum hf2
          go_wp2_with fail
          have f0 := BelW.cell p0 hws
          have f1 := BelW.cell p1 hws
          have f2 := BelW.cell p2 hws
          have f3 := BelW.cell r0 hws1
          have f4 := BelW.cell r1 hws1
          have f5 := BelW.cell r2 hws1
          have f6 := BelW.cell g0 hgl
          (refine wp_region_quiet_bel (by kernel_rfl) (by kernel_rfl) ?_; (repeat (go_big_quiet_step (first | (go_at_call 67; with_reducible exact Calls.bel_of (HNX.out _ (HGX.out.below (BelW.h _)).arg)) | (go_at_call 67; with_reducible exact Calls.bel_of (HNY.out _ (HGY.out.below (BelW.h _)).arg))))); refine wpQuiet_nil ?_; intro wz hw'; obtain ⟨pq, hw''⟩ := hw'; have bz := pq.h; rw [← hw''] at bz; clear hw'' pq)
          clear f0 f1 f2 f3 f4 f5 f6 p0 p1 p2 r0 r1 r2 c0 g0
          have sz := bz.size
          have HBZ := Lib.hid (HBI.out.trans (bz.mono (by omega)))
          have HOZ := Lib.hid (HOM.out.below bz)
          have HIZ := Lib.hid (HIO.out.below bz)
          have HRZ := Lib.hid (HRR.out.below bz)
          clear bz
          rcases es : decide (nextV xs (un : Int) x < 0) with _ | _
          ·have hs0 : 0 ≤ nextV xs (un : Int) x := by simpa using es
           have hsn : ¬ nextV xs (un : Int) x < 0 := by omega
           have HNB := Lib.hid (HCN0.out fun q => hsn q.1)
           have hsr : nextV xs (un : Int) x < (n : Int) := by have := HR1.out; omega
           have HSS := Lib.hid (HST2.out hs0)
           have ht0 : 0 ≤ nextV ys iu x := HSS.out.1
           have htn : ¬ nextV ys iu x < 0 := by omega
           obtain ⟨sn, hsn2⟩ : ∃ sn : Nat, nextV xs (un : Int) x = (sn : Int) := ⟨(nextV xs (un : Int) x).toNat, by omega⟩
           rw [hsn2] at HSS N1 N2 hs0 hsn hsr ⊢
           generalize nextV ys iu x = tt at *
           clear hsn2 es HCN0 N0 HST2 HCF4
           have hil : sn < im.length := by have := HIM.out.1; simp only at this; omega
           have him2 := HIM.out.2 sn hil
           have cc := HIZ.out.cellAt sn hil
           have ff := HIZ.out.free sn
           rcases h1 : hasB om (sn : Int) with _ | _
           ·rw [if_neg (hasB_not h1)] at him2
            rw [him2] at cc
            have F := Lib.hid (N2.out hs0 h1)
            have HY : Hid (I64 (sn : Int)) := Lib.hid ⟨by omega, by omega⟩
            have HTI : Hid (I64 tt) := Lib.hid (by have := HR2.out; unfold I64; omega)
            have HSET := Lib.hid (HIZ.out.set sn tt HTI.out)
            have hbo : ∀ b, (Value.slice A2 om.length cap2).ownBlock = some b → w6.heap.size + 2 ≤ b := fun b hb => (HOZ.out.1.lt b hb).1
            have HBO := Lib.hid hbo
            have HOS := Lib.hid (HOZ.out.keepB (w' := wz.setCell ⟨w6.heap.size + 1, sn, none⟩ (.int .i64 tt)) fun b hb => Below.heap_setCell _ _ _ b (by have := hbo b hb; show b ≠ w6.heap.size + 1; omega))
            have BS2 := Lib.hid (HBZ.out.grown HSET.out.2 (by omega) (fun j hj => by cases hj; exact Nat.le_refl _))
            have HRS : Hid (RdI (wz.setCell ⟨w6.heap.size + 1, sn, none⟩ (.int .i64 tt)) (.slice (some ⟨bl, 0, none⟩) ls.length capl) ls) := Lib.hid (HRZ.out.grown HSET.out.2 (fun b hb hb' => by simp [Value.ownBlock] at hb hb'; omega))
            have hsS : (wz.setCell ⟨w6.heap.size + 1, sn, none⟩ (.int .i64 tt)).heap.size = wz.heap.size := by simp
            have HSS2 := Lib.hid hsS
            clear him2 hil hbo hsS
            go_wp2_with (at_builtin; refine push_int rfl (.tmp 115) (.tmp 117) rfl _ _ _ (OwI.alloc HOS.out _) rfl _ _ rfl (by simp [go_sem]) HY.out (by first | omega | (simp <;> omega)) (by first | omega | (simp <;> omega)) ?_; intro v9 wv9 o9 g9 p9)
            have hz9 := g9.size
            simp at hz9
            have HI9 := Lib.hid ((HSET.out.1.alloc (.cells #[.int .i64 (sn : Int)] 3)).kept g9 (.inr (fun e => by have h : w6.heap.size + 2 ≤ w6.heap.size + 1 := HBO.out _ e.symm; omega)))
            have B9z : Hid (Below (w6.heap.size + 1) w7 wv9) := Lib.hid (bel_push BS2.out (by rw [HSS2.out]; omega) HOS.out.1 (Nat.le_succ _) g9)
            have HL9 : Hid (RdI wv9 (.slice (some ⟨bl, 0, none⟩) ls.length capl) ls) := Lib.hid ((HRS.out.alloc _).grown g9 (fun b hb hb' => HNR.out (by simp [Value.ownBlock] at hb; subst hb; exact hb')))
            have HV9 : Hid (v9.ownBlock ≠ some bl) := Lib.hid fun e => by
             rcases p9 with p9 | p9
             ·rw [p9] at e; exact HNR.out e
             ·rw [p9] at e; simp at e; omega
            go_roundw
            case rel =>
             refine ⟨m + 1, im.set sn tt, by omega, by go_num, ?_, HI9.out, by rw [HS.out, F.out]; exact o9, HL9.out, HV9.out, by omega, B9z.out, HNB.out⟩
             rw [HS.out, F.out]
             have := HIM.out.add (z := sn)
             rw [HSS.out.2] at this
             exact this
            case measure => simp [intOf]; omega
           ·rw [if_pos (hasB_iff.1 h1), HSS.out.2] at him2
            rw [him2] at cc
            have F := Lib.hid (N1.out hs0 h1)
            clear him2 hil
            go_wp2
            go_roundw
            case rel => exact ⟨m + 1, im, by omega, by go_num, by rw [HS.out, F.out]; exact HIM.out, HIZ.out, by rw [HS.out, F.out]; exact HOZ.out, HRZ.out, HNR.out, by omega, HBZ.out, HNB.out⟩
            case measure => simp [intOf]; omega
          ·have hs0 : nextV xs (un : Int) x < 0 := by simpa using es
           have hsr : ¬ 0 ≤ nextV xs (un : Int) x := by omega
           rcases et : decide (nextV ys iu x < 0) with _ | _
           ·have ht0 : ¬ nextV ys iu x < 0 := by simpa using et
            have F := Lib.hid ((HID2.out).trans (HIF.out (HCF4.out hs0 (by omega))))
            generalize nextV xs (un : Int) x = ss at *
            generalize nextV ys iu x = tt at *
            go_wp2
            go_ret
            rw [F.out]
            exact ⟨by simp [go_sem], BW.out _ HBZ.out⟩
           ·have ht0 : nextV ys iu x < 0 := by simpa using et
            have HNB := Lib.hid (HCN0.out fun q => by omega)
            have F := Lib.hid (N0.out hs0)
            generalize nextV xs (un : Int) x = ss at *
            generalize nextV ys iu x = tt at *
            go_wp2
            go_roundw
            case rel => exact ⟨m + 1, im, by omega, by go_num, by rw [HS.out, F.out]; exact HIM.out, HIZ.out, by rw [HS.out, F.out]; exact HOZ.out, HRZ.out, HNR.out, by omega, HBZ.out, HNB.out⟩
            case measure => simp [intOf]; omega
         ·obtain rfl : m = ls.length := by omega
          rw [List.take_length] at hown HIM
          have hokm := HOKm.out ls.length
          rw [List.take_length] at hokm
          have HOKF := Lib.hid hokm
          have HOM := Lib.hid hown
          have hlen : k + 1 ≤ (ls.foldl (cstep xs (un : Int)) o).length := by
           have := HPU.out ls.length
           rw [List.take_length] at this
           have := (List.getElem?_eq_some_iff.1 this).1
           omega
          have HCV2 : Hid (∀ (j : Nat) v, j < k + 1 → (ls.foldl (cstep xs (un : Int)) o)[j]? = some v → ∀ l ∈ ls, ¬ (nextV xs v l < 0 ∧ 0 ≤ nextV ys (imgW ((rn : Int), (n : Int), xs) (y1, y2, ys) v) l)) := Lib.hid fun j v hj hv l hl => by
           by_cases hjk : j < k
           ·exact HCV.out j v hjk (HPO.out j v hjk hv) l hl
           ·obtain rfl : j = k := by omega
            have h1 := HPU.out ls.length
            rw [List.take_length, hv] at h1
            injection h1 with h1
            subst h1
            obtain ⟨i, hi, rfl⟩ := List.getElem_of_mem hl
            exact HCVm.out i hi hi
          obtain ⟨A2, cap2, rfl, _⟩ := hown.form
          clear hown hrd hokm
          go_wp2
          go_roundw
          case rel => exact ⟨k + 1, _, im, hlen, by go_num, by rw [HOE.out, HOW.out], HOKF.out, HCFK.out, HIM.out, HIO.out, HOM.out, HBI.out, HCV2.out⟩
          case measure => simp [intOf]; omega
      ·obtain rfl : k = o.length := by omega
       have hcc : covB ((rn : Int), (n : Int), xs) (y1, y2, ys) = true := HCT2.out fun u hu l hl => by
        rw [HC.out, canF_end] at hu
        obtain ⟨j, hj, rfl⟩ := List.getElem_of_mem hu
        exact HCV.out j _ hj (List.getElem?_eq_getElem hj) l hl
       have hov : ovN ((rn : Int), (n : Int), xs) (y1, y2, ys) o o.length = (fibL ((rn : Int), (n : Int), xs) (y1, y2, ys) 0).length := by
        unfold ovN fibL
        rw [List.take_length, HC.out, canF_end]
       have F : Hid (RR = ((ovN ((rn : Int), (n : Int), xs) (y1, y2, ys) o o.length : Nat) : Int)) := Lib.hid (by rw [HID2.out, HIT2.out hcc, hov])
       obtain ⟨ok, hok⟩ : ∃ ok, ovN ((rn : Int), (n : Int), xs) (y1, y2, ys) o o.length = ok := ⟨_, rfl⟩
       rw [hok] at F hovk ⊢
       clear hcc hov hok hown hf1
       go_wp2
       go_ret
       rw [F.out]
       exact ⟨by simp [go_sem], BW.out _ HB2.out⟩
end Go.Proofs.YtfadnkjlilhneaaGreat
