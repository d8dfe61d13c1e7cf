/- Plain: the words of the breadth-first tree of a folded graph, the words of its basis, and when one subgroup lies in another. -/
import Derived.Test.YtfadnkjlilhneaaGreatWalk
import Derived.Test.YtfadnkjlilhneaaGreatRankS
namespace Go.Proofs.YtfadnkjlilhneaaGreat
set_option maxRecDepth 20000
set_option linter.unusedVariables false
set_option linter.unusedSimpArgs false
open Go.RowKit

theorem walkF_cons (es : List EdD) (v x : Int) (w : List Int) : walkF es v (x :: w) = if nextV es v x < 0 then -1 else walkF es (nextV es v x) w := rfl
theorem walkF_app (es : List EdD) : ∀ (a : List Int) (v : Int) (b : List Int), 0 ≤ walkF es v a → walkF es v (a ++ b) = walkF es (walkF es v a) b
 | [], _, _, _ => rfl
 | x :: a, v, b, h => by
   rw [List.cons_append, walkF_cons, walkF_cons]
   rw [walkF_cons] at h
   split at h
   ·exact absurd h (by decide)
   ·rename_i hn
    rw [if_neg hn, if_neg hn]
    exact walkF_app es a _ b h
theorem walkF_pre (es : List EdD) : ∀ (a : List Int) (v : Int) (b : List Int), 0 ≤ v → 0 ≤ walkF es v (a ++ b) → 0 ≤ walkF es v a
 | [], v, _, hv, _ => hv
 | x :: a, v, b, hv, h => by
   rw [List.cons_append, walkF_cons] at h
   rw [walkF_cons]
   split at h
   ·exact absurd h (by decide)
   ·rename_i hn
    rw [if_neg hn]
    exact walkF_pre es a _ b (by omega) h
theorem walkF_one (es : List EdD) (v x : Int) (h : 0 ≤ nextV es v x) : walkF es v [x] = nextV es v x := by
 rw [walkF_cons, if_neg (by omega)]; rfl
def invN (w : List Int) : List Int := (w.map fun x => -x).reverse
theorem invN_inv (w : List Int) : invN (invN w) = w := by
 unfold invN
 rw [List.map_reverse, List.reverse_reverse, List.map_map]
 have : ((fun x : Int => -x) ∘ fun x : Int => -x) = id := by funext x; simp
 rw [this, List.map_id]
theorem invN_app (a b : List Int) : invN (a ++ b) = invN b ++ invN a := by simp [invN]
theorem invN_mem {w : List Int} {x : Int} (h : x ∈ invN w) : -x ∈ w := by
 unfold invN at h
 simp only [List.mem_reverse, List.mem_map] at h
 obtain ⟨y, hy, rfl⟩ := h
 simpa using hy
theorem walk_back {g : GrD} (hg : grB g = true) (hf : Fol g.2.2) : ∀ (w : List Int) (v : Int), (∀ x ∈ w, -3 ≤ x ∧ x ≤ 3) → 0 ≤ v → 0 ≤ walkF g.2.2 v w → walkF g.2.2 (walkF g.2.2 v w) (invN w) = v
 | [], _, _, _, _ => rfl
 | x :: w, v, hx, hv, h => by
   rw [walkF_cons] at h ⊢
   split at h
   ·exact absurd h (by decide)
   ·rename_i hn
    rw [if_neg hn]
    have e : invN (x :: w) = invN w ++ [-x] := by simp [invN]
    have ih := walk_back hg hf w _ (fun y hy => hx y (by simp [hy])) (by omega) h
    have hb := nextV_back hg hf (hx x (by simp)) (by omega : 0 ≤ nextV g.2.2 v x)
    rw [e, walkF_app _ _ _ _ (by rw [ih]; omega), ih, walkF_one _ _ _ (by omega), hb]

def wst (es : List EdD) (u : Int) (wu : List Int) (tw : List (Int × List Int)) (x : Int) : List (Int × List Int) :=
 if 0 ≤ nextV es u x then (if hasB (tw.map (·.1)) (nextV es u x) then tw else tw ++ [(nextV es u x, wu ++ [x])]) else tw
def wcF (es : List EdD) (ls : List Int) : Nat → Nat → List (Int × List Int) → List (Int × List Int)
 | 0, _, tw => tw
 | f + 1, i, tw => match tw[i]? with
   | none => tw
   | some p => wcF es ls f (i + 1) (ls.foldl (wst es p.1 p.2) tw)
def wcO (g : GrD) : List (Int × List Int) := wcF g.2.2 (lettersL g.1.toNat) 41 0 [(0, [])]
theorem wst_map (es : List EdD) (u : Int) (wu : List Int) (tw : List (Int × List Int)) (x : Int) : (wst es u wu tw x).map (·.1) = cstep es u (tw.map (·.1)) x := by
 unfold wst cstep
 by_cases h0 : 0 ≤ nextV es u x
 ·rw [if_pos h0, if_pos h0]
  by_cases h1 : hasB (tw.map (·.1)) (nextV es u x) = true
  ·rw [if_pos h1, if_pos h1]
  ·rw [if_neg h1, if_neg h1]; simp
 ·rw [if_neg h0, if_neg h0]
theorem wfold_map (es : List EdD) (u : Int) (wu : List Int) : ∀ (ls : List Int) (tw : List (Int × List Int)), (ls.foldl (wst es u wu) tw).map (·.1) = ls.foldl (cstep es u) (tw.map (·.1))
 | [], _ => rfl
 | x :: ls, tw => by rw [List.foldl_cons, List.foldl_cons, wfold_map es u wu ls, wst_map]
theorem wcF_map (es : List EdD) (ls : List Int) : ∀ (f i : Nat) (tw : List (Int × List Int)), (wcF es ls f i tw).map (·.1) = canF es ls f i (tw.map (·.1))
 | 0, _, _ => rfl
 | f + 1, i, tw => by
   rw [wcF, canF, List.getElem?_map]
   cases tw[i]? with
   | none => rfl
   | some p => simp only [Option.map_some]; rw [wcF_map es ls f, wfold_map]
theorem wcO_map (g : GrD) : (wcO g).map (·.1) = canO g := by unfold wcO canO; rw [wcF_map]; rfl
theorem wcF_step (es : List EdD) (ls : List Int) (f i : Nat) (o : List (Int × List Int)) (h : i < o.length) : wcF es ls (f + 1) i o = wcF es ls f (i + 1) (ls.foldl (wst es o[i].1 o[i].2) o) := by
 rw [wcF, List.getElem?_eq_getElem h]
theorem wst_prefix (es : List EdD) (u : Int) (wu : List Int) (x : Int) (o : List (Int × List Int)) (i : Nat) (y : Int × List Int) (h : o[i]? = some y) : (wst es u wu o x)[i]? = some y := by
 unfold wst
 split
 ·split
  ·exact h
  ·rw [List.getElem?_append_left (List.getElem?_eq_some_iff.1 h).1]; exact h
 ·exact h
theorem wfold_prefix (es : List EdD) (u : Int) (wu : List Int) : ∀ (ls : List Int) (o : List (Int × List Int)) (i : Nat) (y : Int × List Int), o[i]? = some y → (ls.foldl (wst es u wu) o)[i]? = some y
 | [], _, _, _, h => h
 | x :: ls, o, i, y, h => wfold_prefix es u wu ls _ i y (wst_prefix es u wu x o i y h)
theorem wfold_succ (es : List EdD) (u : Int) (wu : List Int) (ls : List Int) (o : List (Int × List Int)) (k : Nat) (h : k < ls.length) : (ls.take (k + 1)).foldl (wst es u wu) o = wst es u wu ((ls.take k).foldl (wst es u wu) o) ls[k] := by
 rw [List.take_succ_eq_append_getElem h, List.foldl_append]
 rfl
theorem wcF_prefix (es : List EdD) (ls : List Int) : ∀ (f i : Nat) (o : List (Int × List Int)) (j : Nat) (y : Int × List Int), o[j]? = some y → (wcF es ls f i o)[j]? = some y
 | 0, _, _, _, _, h => h
 | f + 1, i, o, j, y, h => by
   rw [wcF]
   cases o[i]? with
   | none => exact h
   | some p => exact wcF_prefix es ls f _ _ j y (wfold_prefix es _ _ ls o j y h)
structure TwI (es : List EdD) (ls : List Int) (tw : List (Int × List Int)) : Prop where
 root : tw[0]? = some (0, [])
 par : ∀ p ∈ tw, p = (0, []) ∨ ∃ q ∈ tw, ∃ x ∈ ls, p.2 = q.2 ++ [x] ∧ nextV es q.1 x = p.1 ∧ 0 ≤ p.1
 len : ∀ p ∈ tw, p.2.length < tw.length
theorem TwI.step {es : List EdD} {ls : List Int} {tw : List (Int × List Int)} (h : TwI es ls tw) {u : Int} {wu : List Int} (hu : (u, wu) ∈ tw) {x : Int} (hx : x ∈ ls) : TwI es ls (wst es u wu tw x) ∧ (u, wu) ∈ wst es u wu tw x := by
 refine ⟨⟨wst_prefix _ _ _ _ _ _ _ h.root, ?_, ?_⟩, ?_⟩
 ·unfold wst
  split
  ·rename_i h0
   split
   ·exact h.par
   ·intro p hp
    rcases List.mem_append.1 hp with hp | hp
    ·rcases h.par p hp with e | ⟨q, hq, r⟩
     ·exact .inl e
     ·exact .inr ⟨q, List.mem_append.2 (.inl hq), r⟩
    ·rw [List.mem_singleton.1 hp]
     exact .inr ⟨(u, wu), List.mem_append.2 (.inl hu), x, hx, rfl, rfl, h0⟩
  ·exact h.par
 ·unfold wst
  split
  ·split
   ·exact h.len
   ·intro p hp
    rw [List.length_append]
    rcases List.mem_append.1 hp with hp | hp
    ·have := h.len p hp; simp; omega
    ·rw [List.mem_singleton.1 hp]
     have := h.len _ hu
     simp only [List.length_append, List.length_singleton] at this ⊢
     omega
  ·exact h.len
 ·unfold wst
  split
  ·split
   ·exact hu
   ·exact List.mem_append.2 (.inl hu)
  ·exact hu
theorem TwI.fold {es : List EdD} {ls : List Int} {u : Int} {wu : List Int} : ∀ (l2 : List Int) {tw : List (Int × List Int)}, TwI es ls tw → (u, wu) ∈ tw → (∀ x ∈ l2, x ∈ ls) → TwI es ls (l2.foldl (wst es u wu) tw)
 | [], _, h, _, _ => h
 | x :: l2, tw, h, hu, hs => by
   have := h.step hu (hs x (by simp))
   exact TwI.fold l2 this.1 this.2 fun y hy => hs y (by simp [hy])
theorem TwI.bfs {es : List EdD} {ls : List Int} : ∀ (f i : Nat) {tw : List (Int × List Int)}, TwI es ls tw → TwI es ls (wcF es ls f i tw)
 | 0, _, _, h => h
 | f + 1, i, tw, h => by
   rw [wcF]
   cases e : tw[i]? with
   | none => exact h
   | some p => exact TwI.bfs f _ (h.fold ls (List.mem_of_getElem? e) fun _ hx => hx)
theorem TwI.one (es : List EdD) (ls : List Int) : TwI es ls [(0, [])] := ⟨rfl, fun p hp => .inl (List.mem_singleton.1 hp), fun p hp => by rw [List.mem_singleton.1 hp]; simp⟩
theorem wcO_ok (g : GrD) : TwI g.2.2 (lettersL g.1.toNat) (wcO g) := (TwI.one _ _).bfs _ _
def lkW (tw : List (Int × List Int)) (v : Int) : List Int := match tw.find? (fun p => decide (p.1 = v)) with
 | some p => p.2
 | none => []
def wdO (g : GrD) (v : Int) : List Int := lkW (wcO g) v
theorem lkW_of {tw : List (Int × List Int)} (hn : (tw.map (·.1)).Nodup) {p : Int × List Int} (hp : p ∈ tw) : lkW tw p.1 = p.2 := by
 unfold lkW
 induction tw with
 | nil => cases hp
 | cons q tw ih =>
   rw [List.map_cons, List.nodup_cons] at hn
   rw [List.find?_cons]
   rcases List.mem_cons.1 hp with rfl | hp
   ·simp
   ·have hne : q.1 ≠ p.1 := fun e => hn.1 (e ▸ List.mem_map.2 ⟨p, hp, rfl⟩)
    rw [show decide (q.1 = p.1) = false by simp [hne]]
    exact ih hn.2 hp
section
variable {g : GrD}
theorem wcO_nodup (hg : grB g = true) : ((wcO g).map (·.1)).Nodup := by rw [wcO_map]; exact (canO_ok hg).1
theorem wd_of (hg : grB g = true) {p : Int × List Int} (hp : p ∈ wcO g) : wdO g p.1 = p.2 := lkW_of (wcO_nodup hg) hp
theorem wd_mem (hg : grB g = true) {v : Int} (hv : v ∈ canO g) : (v, wdO g v) ∈ wcO g := by
 rw [← wcO_map] at hv
 obtain ⟨p, hp, rfl⟩ := List.mem_map.1 hv
 rw [wd_of hg hp]
 exact hp
theorem can_of {p : Int × List Int} (hp : p ∈ wcO g) : p.1 ∈ canO g := by rw [← wcO_map]; exact List.mem_map.2 ⟨p, hp, rfl⟩
theorem wd_zero (hg : grB g = true) : wdO g 0 = [] := wd_of hg (p := (0, [])) (List.mem_of_getElem? (wcO_ok g).root)
theorem wd_par (hg : grB g = true) {v : Int} (hv : v ∈ canO g) (h0 : v ≠ 0) : ∃ u ∈ canO g, ∃ x ∈ lettersL g.1.toNat, wdO g v = wdO g u ++ [x] ∧ nextV g.2.2 u x = v := by
 rcases (wcO_ok g).par _ (wd_mem hg hv) with e | ⟨q, hq, x, hx, h1, h2, _⟩
 ·exact absurd (congrArg Prod.fst e) h0
 ·exact ⟨q.1, can_of hq, x, hx, by rw [wd_of hg hq]; exact h1, h2⟩
theorem wd_len (hg : grB g = true) {v : Int} (hv : v ∈ canO g) : (wdO g v).length < 40 := by
 have h1 := (wcO_ok g).len _ (wd_mem hg hv)
 have h2 := (canO_ok hg).len (grB_parts hg).2.1.2 (by have := (grB_parts hg).2.1.1; omega)
 rw [← wcO_map, List.length_map] at h2
 simp only at h1
 omega
theorem let3 (hg : grB g = true) {x : Int} (hx : x ∈ lettersL g.1.toNat) : -3 ≤ x ∧ x ≤ 3 := by
 have h1 := letters_mem.1 hx
 have h2 := (grB_parts hg).1
 omega
theorem wd_facts (hg : grB g = true) : ∀ (n : Nat) {v : Int}, v ∈ canO g → (wdO g v).length ≤ n → walkF g.2.2 0 (wdO g v) = v ∧ ∀ x ∈ wdO g v, x ∈ lettersL g.1.toNat
 | n, v, hv, hn => by
   by_cases h0 : v = 0
   ·subst h0; rw [wd_zero hg]; exact ⟨rfl, fun x hx => by cases hx⟩
   ·obtain ⟨u, hu, x, hx, e, hnx⟩ := wd_par hg hv h0
    have hv0 := (canO_ok hg).2.1 v hv
    have hu0 := (canO_ok hg).2.1 u hu
    rw [e] at hn ⊢
    rw [List.length_append, List.length_singleton] at hn
    match n, hn with
    | n + 1, hn =>
      have ih := wd_facts hg n hu (by omega)
      refine ⟨?_, fun y hy => ?_⟩
      ·rw [walkF_app _ _ _ _ (by rw [ih.1]; omega), ih.1, walkF_one _ _ _ (by omega), hnx]
      ·rcases List.mem_append.1 hy with hy | hy
       ·exact ih.2 y hy
       ·rw [List.mem_singleton.1 hy]; exact hx
theorem wd_walk (hg : grB g = true) {v : Int} (hv : v ∈ canO g) : walkF g.2.2 0 (wdO g v) = v := (wd_facts hg _ hv (Nat.le_refl _)).1
theorem wd_let (hg : grB g = true) {v : Int} (hv : v ∈ canO g) : ∀ x ∈ wdO g v, x ∈ lettersL g.1.toNat := (wd_facts hg _ hv (Nat.le_refl _)).2
theorem wd_let3 (hg : grB g = true) {v : Int} (hv : v ∈ canO g) : ∀ x ∈ wdO g v, -3 ≤ x ∧ x ≤ 3 := fun x hx => let3 hg (wd_let hg hv x hx)
theorem snoc_inj {a b : List Int} {x y : Int} (h : a ++ [x] = b ++ [y]) : a = b ∧ x = y := by
 have := List.append_inj' h rfl
 exact ⟨this.1, by simpa using this.2⟩
def NoB : List Int → Prop
 | [] => True
 | [_] => True
 | a :: b :: l => b ≠ -a ∧ NoB (b :: l)
theorem NoB.app : ∀ {a b : List Int}, NoB a → NoB b → (∀ x ∈ a.getLast?, ∀ y ∈ b.head?, y ≠ -x) → NoB (a ++ b)
 | [], _, _, hb, _ => hb
 | [x], [], _, _, _ => trivial
 | [x], y :: b, _, hb, h => ⟨h x rfl y rfl, hb⟩
 | x :: y :: a, b, ha, hb, h => ⟨ha.1, NoB.app (a := y :: a) ha.2 hb (by rw [List.getLast?_cons_cons] at h; exact h)⟩
theorem NoB.inv : ∀ {w : List Int}, NoB w → NoB (invN w)
 | [], _ => trivial
 | [x], _ => trivial
 | x :: y :: w, h => by
   have e : invN (x :: y :: w) = invN (y :: w) ++ [-x] := by simp [invN]
   rw [e]
   refine NoB.app h.2.inv trivial fun a ha b hb => ?_
   simp [invN] at ha hb
   have := h.1
   omega
theorem wd_chain (hg : grB g = true) (hf : Fol g.2.2) : ∀ (n : Nat) {v : Int}, v ∈ canO g → (wdO g v).length ≤ n → NoB (wdO g v)
 | n, v, hv, hn => by
   by_cases h0 : v = 0
   ·subst h0; rw [wd_zero hg]; exact trivial
   ·obtain ⟨u, hu, x, hx, e, hnx⟩ := wd_par hg hv h0
    have hl : (wdO g v).length = (wdO g u).length + 1 := by rw [e]; simp
    match n, hn with
    | 0, hn => omega
    | n + 1, hn =>
      have ih := wd_chain hg hf n hu (by omega)
      rw [e]
      refine NoB.app ih trivial fun a ha b hb => ?_
      simp at hb
      subst hb
      intro hx'
      by_cases hu0 : u = 0
      ·subst hu0; rw [wd_zero hg] at ha; simp at ha
      ·obtain ⟨t, ht, y, hy, e2, hny⟩ := wd_par hg hu hu0
       rw [e2] at ha
       simp at ha
       subst ha
       have hu1 := (canO_ok hg).2.1 u hu
       have hb := nextV_back hg hf (let3 hg hy) (by rw [hny]; omega)
       rw [hny, ← hx', hnx] at hb
       subst hb
       rw [e2] at e
       have := congrArg List.length e
       simp at this
def exB (g : GrD) (e : EdD) : Bool := !decide (wdO g e.2.2 = wdO g e.1 ++ [e.2.1]) && !decide (wdO g e.1 = wdO g e.2.2 ++ [-e.2.1])
theorem exB_iff {e : EdD} : exB g e = true ↔ wdO g e.2.2 ≠ wdO g e.1 ++ [e.2.1] ∧ wdO g e.1 ≠ wdO g e.2.2 ++ [-e.2.1] := by simp [exB]
def extL (g : GrD) : List EdD := g.2.2.filter (exB g)
def basW (g : GrD) (e : EdD) : List Int := wdO g e.1 ++ [e.2.1] ++ invN (wdO g e.2.2)
def basF (g : GrD) : List (List Int) := if coreB g = true then (extL g).map (basW g) else []
theorem nextV_out (hg : grB g = true) (hf : Fol g.2.2) {e : EdD} (he : e ∈ g.2.2) : nextV g.2.2 e.1 e.2.1 = e.2.2 := by
 have h := (edge_of_gr hg he).2.1
 exact nextV_of hf he (by unfold mt; rw [if_pos (by omega), if_pos ⟨rfl, rfl⟩])
theorem nextV_in (hg : grB g = true) (hf : Fol g.2.2) {e : EdD} (he : e ∈ g.2.2) : nextV g.2.2 e.2.2 (-e.2.1) = e.1 := by
 have h := (edge_of_gr hg he).2.1
 have h3 := (grB_parts hg).1
 have hb := nextV_back hg hf (v := e.1) (x := e.2.1) (by omega) (by rw [nextV_out hg hf he]; exact (edge_of_gr hg he).2.2.1)
 rwa [nextV_out hg hf he] at hb
theorem bas_chain (hg : grB g = true) (hf : Fol g.2.2) {e : EdD} (he : e ∈ g.2.2) (hx : exB g e = true) (h1 : e.1 ∈ canO g) (h2 : e.2.2 ∈ canO g) : NoB (basW g e) := by
 obtain ⟨n1, n2⟩ := exB_iff.1 hx
 have hl := (edge_of_gr hg he).2.1
 have hr := (grB_parts hg).1
 unfold basW
 refine NoB.app (NoB.app (wd_chain hg hf _ h1 (Nat.le_refl _)) trivial fun a ha b hb => ?_) (wd_chain hg hf _ h2 (Nat.le_refl _)).inv fun a ha b hb => ?_
 ·simp at hb
  subst hb
  intro hx'
  by_cases hu0 : e.1 = 0
  ·rw [hu0, wd_zero hg] at ha; simp at ha
  ·obtain ⟨t, ht, y, hy, e2, hny⟩ := wd_par hg h1 hu0
   rw [e2] at ha
   simp at ha
   subst ha
   have hu1 := (canO_ok hg).2.1 _ h1
   have hb := nextV_back hg hf (let3 hg hy) (by rw [hny]; omega)
   rw [hny, ← hx', nextV_out hg hf he] at hb
   subst hb
   exact n2 (by rw [e2, hx']; simp)
 ·simp at ha
  subst ha
  intro hb'
  by_cases hu0 : e.2.2 = 0
  ·rw [hu0, wd_zero hg] at hb; simp [invN] at hb
  ·obtain ⟨t, ht, y, hy, e2, hny⟩ := wd_par hg h2 hu0
   rw [e2, invN_app] at hb
   simp [invN] at hb
   have hyx : y = e.2.1 := by omega
   subst hyx
   have h2' := (canO_ok hg).2.1 _ h2
   have b1 := nextV_back hg hf (let3 hg hy) (by rw [hny]; omega)
   rw [hny, nextV_in hg hf he] at b1
   subst b1
   exact n1 e2
theorem bas_walk (hg : grB g = true) (hf : Fol g.2.2) {e : EdD} (he : e ∈ g.2.2) (h1 : e.1 ∈ canO g) (h2 : e.2.2 ∈ canO g) : walkF g.2.2 0 (basW g e) = 0 := by
 have a1 := (canO_ok hg).2.1 _ h1
 have a2 := (canO_ok hg).2.1 _ h2
 have w1 : walkF g.2.2 0 (wdO g e.1 ++ [e.2.1]) = e.2.2 := by
  rw [walkF_app _ _ _ _ (by rw [wd_walk hg h1]; omega), wd_walk hg h1, walkF_one _ _ _ (by rw [nextV_out hg hf he]; omega), nextV_out hg hf he]
 unfold basW
 rw [walkF_app _ _ _ _ (by rw [w1]; omega), w1]
 have := walk_back hg hf (wdO g e.2.2) 0 (wd_let3 hg h2) (Int.le_refl _) (by rw [wd_walk hg h2]; omega)
 rwa [wd_walk hg h2] at this
theorem core_all (h : coreB g = true) {v : Int} (hv : 0 ≤ v ∧ v < g.2.1) : v ∈ canO g := by
 have hg := coreB_grB h
 have hok := canO_ok hg
 have hl : ((canO g).length : Int) = g.2.1 := by
  unfold coreB at h
  simp only [Bool.and_eq_true, decide_eq_true_eq] at h
  have := congrArg (fun g : GrD => g.2.1) h.2
  exact this
 apply Classical.byContradiction
 intro hn
 have := nodup_len g.2.1.toNat (v :: canO g) (List.nodup_cons.2 ⟨hn, hok.1⟩) fun y hy => by
  rcases List.mem_cons.1 hy with rfl | hy
  ·omega
  ·have := hok.2.1 y hy; omega
 rw [List.length_cons] at this
 omega
theorem leaf_none (es : List EdD) (n : Nat) : ∀ (f v : Nat), v + f = n → leafFrom es n f v < 0 → ∀ u, v ≤ u → u < n → leafB es u = false
 | 0, v, h, _, u, h1, h2 => by omega
 | f + 1, v, h, hl, u, h1, h2 => by
   unfold leafFrom at hl
   rw [if_pos (by omega)] at hl
   split at hl
   ·omega
   ·rename_i hb
    by_cases e : u = v
    ·subst e; simpa using hb
    ·exact leaf_none es n f (v + 1) (by omega) hl u (by omega) h2
theorem core_deg (h : coreB g = true) {v : Int} (hv : 0 < v ∧ v < g.2.1) : 2 ≤ degL g.2.2 v := by
 have hg := coreB_grB h
 have hs := (grB_parts hg).2.1
 unfold coreB at h
 simp only [Bool.and_eq_true, decide_eq_true_eq] at h
 have hl := leaf_none g.2.2 g.2.1.toNat (g.2.1.toNat - 1) 1 (by omega) h.1.2 v.toNat (by omega) (by omega)
 unfold leafB at hl
 simp only [Bool.or_eq_false_iff, decide_eq_false_iff_not] at hl
 have := hl.1
 rw [show ((v.toNat : Nat) : Int) = v by omega] at this
 omega
theorem degL_zero {v : Int} : ∀ {es : List EdD}, (∀ e ∈ es, degE v e = 0) → degL es v = 0
 | [], _ => rfl
 | e :: es, h => by
   have h1 := degL_zero (es := es) fun e he => h e (by simp [he])
   have h2 := h e (by simp)
   unfold degL at h1 ⊢
   rw [List.map_cons, List.sum_cons, h1, h2]
theorem deg_one {v l0 : Int} : ∀ {es : List EdD}, Fol es → (∀ e ∈ es, 1 ≤ e.2.1) → (∀ e ∈ es, (e.1 = v → e.2.1 = l0) ∧ (e.2.2 = v → -e.2.1 = l0)) → degL es v ≤ 1
 | [], _, _, _ => by simp [degL]
 | e :: es, hf, hl, h => by
   have p := List.pairwise_cons.1 hf
   have ih := deg_one p.2 (fun e he => hl e (by simp [he])) fun e he => h e (by simp [he])
   have he := h e (by simp)
   have hle := hl e (by simp)
   have hsum : degL (e :: es) v = degE v e + degL es v := by simp [degL]
   rw [hsum]
   by_cases ht : e.1 = v ∨ e.2.2 = v
   ·have hz : degL es v = 0 := by
     refine degL_zero fun e' he' => ?_
     have h' := h e' (by simp [he'])
     have hl' := hl e' (by simp [he'])
     have hc := p.1 e' he'
     unfold clash at hc
     have hne : ¬ (e'.1 = v ∨ e'.2.2 = v) := by
      rintro (ha | ha)
      ·rcases ht with ht | ht
       ·have a1 := he.1 ht; have a2 := h'.1 ha
        rw [show (e.2.1 == e'.2.1) = true by simp; omega, show (e.1 == e'.1) = true by simp; omega] at hc
        simp at hc
       ·have a1 := he.2 ht; have a2 := h'.1 ha; omega
      ·rcases ht with ht | ht
       ·have a1 := he.1 ht; have a2 := h'.2 ha; omega
       ·have a1 := he.2 ht; have a2 := h'.2 ha
        rw [show (e.2.1 == e'.2.1) = true by simp; omega, show (e.2.2 == e'.2.2) = true by simp; omega] at hc
        simp at hc
     unfold degE
     rw [if_neg fun q => hne (.inl q), if_neg fun q => hne (.inr q)]
    rw [hz]
    unfold degE
    by_cases a : e.1 = v
    ·rw [if_pos a]
     by_cases b : e.2.2 = v
     ·have a1 := he.1 a; have a2 := he.2 b; omega
     ·rw [if_neg b]; omega
    ·rw [if_neg a]
     by_cases b : e.2.2 = v
     ·rw [if_pos b]; omega
     ·rw [if_neg b]; omega
   ·have : degE v e = 0 := by
     unfold degE
     rw [if_neg fun q => ht (.inl q), if_neg fun q => ht (.inr q)]
    omega
end
def imgW (a b : GrD) (v : Int) : Int := walkF b.2.2 0 (wdO a v)
def stB (a b : GrD) (u l : Int) : Bool := decide (nextV a.2.2 u l < 0) || (decide (0 ≤ nextV b.2.2 (imgW a b u) l) && decide (imgW a b (nextV a.2.2 u l) = nextV b.2.2 (imgW a b u) l))
def inclS (a b : GrD) : Bool := coreB a && coreB b && decide (a.1 = b.1) && (canO a).all fun u => (lettersL a.1.toNat).all (stB a b u)
def inclI (a b : GrD) : Bool := coreB a && coreB b && decide (a.1 = b.1) && (basF a).all fun w => decide (walkF b.2.2 0 w = 0)
section
variable {a b : GrD}
theorem img_read (ha : coreB a = true) (hb : coreB b = true) (hB : ∀ e ∈ extL a, walkF b.2.2 0 (basW a e) = 0) : ∀ (n : Nat) {v : Int}, v ∈ canO a → 40 ≤ (wdO a v).length + n → 0 ≤ imgW a b v
 | n, v, hv, hn => by
   have hga := coreB_grB ha
   have hgb := coreB_grB hb
   have hfa : Fol a.2.2 := (foldB_parts (by unfold coreB at ha; simp only [Bool.and_eq_true] at ha; exact ha.1.1)).2
   have hfb : Fol b.2.2 := (foldB_parts (by unfold coreB at hb; simp only [Bool.and_eq_true] at hb; exact hb.1.1)).2
   by_cases h0 : v = 0
   ·subst h0; unfold imgW; rw [wd_zero hga]; exact Int.le_refl _
   ·obtain ⟨u, hu, x, hx, e1, hnx⟩ := wd_par hga hv h0
    have hvr := (canO_ok hga).2.1 v hv
    have hd := core_deg ha (v := v) ⟨by omega, hvr.2⟩
    have hlen := wd_len hga hv
    match n, hn with
    | 0, hn => omega
    | n + 1, hn =>
      apply Classical.byContradiction
      intro hneg
      have key : degL a.2.2 v ≤ 1 := by
       refine deg_one (l0 := -x) hfa (fun e he => (edge_of_gr hga he).2.1.1) fun e he => ⟨fun h1 => ?_, fun h2 => ?_⟩
       ·apply Classical.byContradiction
        intro hl
        have hc : e.2.2 ∈ canO a := core_all ha (edge_of_gr hga he).2.2
        by_cases hex : exB a e = true
        ·have hw := hB e (List.mem_filter.2 ⟨he, hex⟩)
         unfold basW at hw
         rw [List.append_assoc, h1] at hw
         exact hneg (walkF_pre _ _ _ _ (Int.le_refl _) (by rw [hw]; exact Int.le_refl _))
        ·rw [exB_iff, Classical.not_and_iff_not_or_not, Classical.not_not, Classical.not_not, h1] at hex
         rcases hex with hex | hex
         ·have ih := img_read ha hb hB n hc (by rw [hex, List.length_append]; simp; omega)
          unfold imgW at ih
          rw [hex] at ih
          exact hneg (walkF_pre _ _ _ _ (Int.le_refl _) ih)
         ·rw [e1] at hex
          have := (snoc_inj hex).2
          omega
       ·apply Classical.byContradiction
        intro hl
        have hc : e.1 ∈ canO a := core_all ha (edge_of_gr hga he).1
        by_cases hex : exB a e = true
        ·have hw := hB e (List.mem_filter.2 ⟨he, hex⟩)
         have hbk := walk_back hgb hfb (basW a e) 0 (fun y hy => by
          unfold basW at hy
          rcases List.mem_append.1 hy with hy | hy
          ·rcases List.mem_append.1 hy with hy | hy
           ·exact wd_let3 hga hc y hy
           ·rw [List.mem_singleton.1 hy]
            have := (edge_of_gr hga he).2.1
            have := (grB_parts hga).1
            omega
          ·have := wd_let3 hga (h2 ▸ hv) _ (invN_mem hy)
           omega) (Int.le_refl _) (by rw [hw]; exact Int.le_refl _)
         rw [hw] at hbk
         unfold basW at hbk
         rw [invN_app, invN_inv, h2] at hbk
         exact hneg (walkF_pre _ _ _ _ (Int.le_refl _) (by rw [hbk]; exact Int.le_refl _))
        ·rw [exB_iff, Classical.not_and_iff_not_or_not, Classical.not_not, Classical.not_not, h2] at hex
         rcases hex with hex | hex
         ·rw [e1] at hex
          have := (snoc_inj hex).2
          omega
         ·have ih := img_read ha hb hB n hc (by rw [hex, List.length_append]; simp; omega)
          unfold imgW at ih
          rw [hex] at ih
          exact hneg (walkF_pre _ _ _ _ (Int.le_refl _) ih)
      omega
theorem img_edge (ha : coreB a = true) (hb : coreB b = true) (hB : ∀ e ∈ extL a, walkF b.2.2 0 (basW a e) = 0) {e : EdD} (he : e ∈ a.2.2) :
  nextV b.2.2 (imgW a b e.1) e.2.1 = imgW a b e.2.2 ∧ nextV b.2.2 (imgW a b e.2.2) (-e.2.1) = imgW a b e.1 ∧ 0 ≤ imgW a b e.1 ∧ 0 ≤ imgW a b e.2.2 := by
 have hga := coreB_grB ha
 have hgb := coreB_grB hb
 have hfb : Fol b.2.2 := (foldB_parts (by unfold coreB at hb; simp only [Bool.and_eq_true] at hb; exact hb.1.1)).2
 have h1 : e.1 ∈ canO a := core_all ha (edge_of_gr hga he).1
 have h2 : e.2.2 ∈ canO a := core_all ha (edge_of_gr hga he).2.2
 have r1 := img_read ha hb hB 40 h1 (by omega)
 have r2 := img_read ha hb hB 40 h2 (by omega)
 have hl : -3 ≤ e.2.1 ∧ e.2.1 ≤ 3 := by
  have := (edge_of_gr hga he).2.1
  have := (grB_parts hga).1
  omega
 have out : nextV b.2.2 (imgW a b e.1) e.2.1 = imgW a b e.2.2 := by
  by_cases hex : exB a e = true
  ·have hw := hB e (List.mem_filter.2 ⟨he, hex⟩)
   unfold basW at hw
   rw [List.append_assoc, walkF_app _ _ _ _ r1, List.cons_append, List.nil_append, walkF_cons] at hw
   split at hw
   ·exact absurd hw (by decide)
   ·rename_i hn
    have hbk := walk_back hgb hfb (invN (wdO a e.2.2)) (nextV b.2.2 (imgW a b e.1) e.2.1) (fun y hy => by
     have := wd_let3 hga h2 _ (invN_mem hy)
     omega) (by unfold imgW; omega) (by unfold imgW; rw [hw]; exact Int.le_refl _)
    unfold imgW at hbk ⊢
    rw [hw, invN_inv] at hbk
    exact hbk.symm
  ·rw [exB_iff, Classical.not_and_iff_not_or_not, Classical.not_not, Classical.not_not] at hex
   rcases hex with hex | hex
   ·have q := r2
    unfold imgW at q
    rw [hex, walkF_app _ _ _ _ r1, walkF_cons] at q
    split at q
    ·exact absurd q (by decide)
    ·rename_i hn
     show _ = walkF b.2.2 0 (wdO a e.2.2)
     rw [hex, walkF_app _ _ _ _ r1, walkF_cons, if_neg hn]
     rfl
   ·have q := r1
    unfold imgW at q
    rw [hex, walkF_app _ _ _ _ r2, walkF_cons] at q
    split at q
    ·exact absurd q (by decide)
    ·rename_i hn
     have e1 : imgW a b e.1 = nextV b.2.2 (imgW a b e.2.2) (-e.2.1) := by
      show walkF b.2.2 0 (wdO a e.1) = _
      rw [hex, walkF_app _ _ _ _ r2, walkF_cons, if_neg hn]
      rfl
     have hbk := nextV_back hgb hfb (v := imgW a b e.2.2) (x := -e.2.1) (by omega) (by rw [← e1]; exact r1)
     rw [← e1, Int.neg_neg] at hbk
     exact hbk
 refine ⟨out, ?_, r1, r2⟩
 have hbk := nextV_back hgb hfb hl (by rw [out]; exact r2)
 rwa [out] at hbk
theorem incl_eq (a b : GrD) : inclS a b = inclI a b := by
 unfold inclS inclI
 rcases ha : coreB a with _ | _
 ·rfl
 rcases hb : coreB b with _ | _
 ·rfl
 by_cases hr : a.1 = b.1
 ·simp only [hr, decide_true, Bool.true_and]
  have hga := coreB_grB ha
  have hfa : Fol a.2.2 := (foldB_parts (by unfold coreB at ha; simp only [Bool.and_eq_true] at ha; exact ha.1.1)).2
  rw [← hr]
  rw [Bool.eq_iff_iff, List.all_eq_true, List.all_eq_true]
  unfold basF
  rw [if_pos ha]
  constructor
  ·intro H w hw
   obtain ⟨e, he, rfl⟩ := List.mem_map.1 hw
   have hee := (List.mem_filter.1 he).1
   rw [decide_eq_true_eq]
   have h1 : e.1 ∈ canO a := core_all ha (edge_of_gr hga hee).1
   have h2 : e.2.2 ∈ canO a := core_all ha (edge_of_gr hga hee).2.2
   have hom : ∀ (w : List Int) (u : Int), (∀ x ∈ w, x ∈ lettersL a.1.toNat) → u ∈ canO a → 0 ≤ walkF a.2.2 u w → walkF b.2.2 (imgW a b u) w = imgW a b (walkF a.2.2 u w) := by
    intro w
    induction w with
    | nil => intro u _ _ _; rfl
    | cons x w ih =>
      intro u hx hu hw
      rw [walkF_cons] at hw ⊢
      split at hw
      ·exact absurd hw (by decide)
      ·rename_i hn
       have hs := List.all_eq_true.1 (H u hu) x (hx x (by simp))
       unfold stB at hs
       rw [decide_eq_false hn, Bool.false_or, Bool.and_eq_true, decide_eq_true_eq, decide_eq_true_eq] at hs
       rw [if_neg (by omega)]
       conv => rhs; rw [walkF_cons, if_neg hn]
       rw [← hs.2]
       refine ih _ (fun y hy => hx y (by simp [hy])) ?_ hw
       rcases nextV_range hga u x with e | e
       ·omega
       ·exact core_all ha e
   have hbw := bas_walk hga hfa hee h1 h2
   have := hom (basW a e) 0 (fun x hx => by
    unfold basW at hx
    rcases List.mem_append.1 hx with hx | hx
    ·rcases List.mem_append.1 hx with hx | hx
     ·exact wd_let hga h1 x hx
     ·rw [List.mem_singleton.1 hx]
      have := (edge_of_gr hga hee).2.1
      exact letters_mem.2 (.inl ⟨by omega, by omega⟩)
    ·have h3 := letters_mem.1 (wd_let hga h2 _ (invN_mem hx))
     exact letters_mem.2 (by omega)) (core_all ha ⟨Int.le_refl _, by have := (grB_parts hga).2.1; omega⟩) (by rw [hbw]; exact Int.le_refl _)
   rw [hbw] at this
   have i0 : imgW a b 0 = 0 := by unfold imgW; rw [wd_zero hga]; rfl
   rwa [i0] at this
  ·intro H u hu
   have hB : ∀ e ∈ extL a, walkF b.2.2 0 (basW a e) = 0 := fun e he => by simpa using H (basW a e) (List.mem_map.2 ⟨e, he, rfl⟩)
   refine List.all_eq_true.2 fun l hl => ?_
   unfold stB
   by_cases hn : nextV a.2.2 u l < 0
   ·rw [decide_eq_true hn]; rfl
   ·rw [decide_eq_false hn, Bool.false_or, Bool.and_eq_true, decide_eq_true_eq, decide_eq_true_eq]
    obtain ⟨e, he, hm⟩ := nextV_mem (by omega : 0 ≤ nextV a.2.2 u l)
    generalize nextV a.2.2 u l = c at *
    obtain ⟨p1, p2, p3, p4⟩ := img_edge ha hb hB he
    have hl3 := let3 hga hl
    unfold mt at hm
    by_cases hp : 0 < l
    ·rw [if_pos hp] at hm
     split at hm
     ·rename_i q
      injection hm with hm
      rw [← q.1, ← q.2, ← hm, p1]
      exact ⟨p4, rfl⟩
     ·cases hm
    ·rw [if_neg hp] at hm
     by_cases hng : l < 0
     ·rw [if_pos hng, IntWalk.wrap64_in (-l) ⟨by omega, by omega⟩] at hm
      split at hm
      ·rename_i q
       injection hm with hm
       have : l = -e.2.1 := by omega
       rw [← q.2, ← hm, this, p2]
       exact ⟨p3, rfl⟩
      ·cases hm
     ·rw [if_neg hng] at hm; cases hm
 ·simp [hr]
end
def TwS (g : GrD) (ls : List Int) (k : Nat) (o : List Int) : Prop := ∃ tw, tw.map (·.1) = o ∧ wcO g = wcF g.2.2 ls (41 - k) k tw
theorem TwS.zero (g : GrD) : TwS g (lettersL g.1.toNat) 0 [0] := ⟨[(0, [])], rfl, rfl⟩
theorem TwS.step {g : GrD} {ls : List Int} {k : Nat} {o : List Int} (h : TwS g ls k o) {u : Int} (hk : o[k]? = some u) (h41 : k < 41) : TwS g ls (k + 1) (ls.foldl (cstep g.2.2 u) o) := by
 obtain ⟨tw, rfl, h2⟩ := h
 have hlt : k < tw.length := by have := (List.getElem?_eq_some_iff.1 hk).1; simpa using this
 have hu : tw[k].1 = u := by rw [List.getElem?_map, List.getElem?_eq_getElem hlt] at hk; simpa using hk
 refine ⟨ls.foldl (wst g.2.2 tw[k].1 tw[k].2) tw, by rw [wfold_map, hu], ?_⟩
 rw [h2, show 41 - k = (41 - (k + 1)) + 1 by omega, wcF_step _ _ _ _ _ hlt]
theorem TwS.new {g : GrD} (hg : grB g = true) {ls : List Int} {k : Nat} {o : List Int} (h : TwS g ls k o) {u : Int} (hk : o[k]? = some u) (h41 : k < 41) {m : Nat} (hm : m < ls.length)
  (h0 : 0 ≤ nextV g.2.2 u ls[m]) (hn : hasB ((ls.take m).foldl (cstep g.2.2 u) o) (nextV g.2.2 u ls[m]) = false) : wdO g (nextV g.2.2 u ls[m]) = wdO g u ++ [ls[m]] := by
 obtain ⟨tw, rfl, h2⟩ := h
 have hlt : k < tw.length := by have := (List.getElem?_eq_some_iff.1 hk).1; simpa using this
 have hu : tw[k].1 = u := by rw [List.getElem?_map, List.getElem?_eq_getElem hlt] at hk; simpa using hk
 rw [show 41 - k = (41 - (k + 1)) + 1 by omega] at h2
 have m1 : tw[k] ∈ wcO g := by rw [h2]; exact List.mem_of_getElem? (wcF_prefix _ _ _ _ _ k _ (List.getElem?_eq_getElem hlt))
 have w1 := wd_of hg m1
 rw [hu] at w1
 rw [wcF_step _ _ _ _ _ hlt, hu] at h2
 have hmap := wfold_map g.2.2 u tw[k].2 (ls.take m) tw
 have hst : wst g.2.2 u tw[k].2 ((ls.take m).foldl (wst g.2.2 u tw[k].2) tw) ls[m] = (ls.take m).foldl (wst g.2.2 u tw[k].2) tw ++ [(nextV g.2.2 u ls[m], tw[k].2 ++ [ls[m]])] := by
  rw [wst, if_pos h0, hmap, if_neg (by rw [hn]; simp)]
 have hall : ls.foldl (wst g.2.2 u tw[k].2) tw = (ls.drop (m + 1)).foldl (wst g.2.2 u tw[k].2) ((ls.take (m + 1)).foldl (wst g.2.2 u tw[k].2) tw) := by
  rw [← List.foldl_append, List.take_append_drop]
 have m2 : (nextV g.2.2 u ls[m], tw[k].2 ++ [ls[m]]) ∈ wcO g := by
  rw [h2, hall, wfold_succ _ _ _ _ _ _ hm, hst]
  refine List.mem_of_getElem? (wcF_prefix _ _ _ _ _ ((ls.take m).foldl (wst g.2.2 u tw[k].2) tw).length _ (wfold_prefix _ _ _ _ _ _ _ ?_))
  rw [List.getElem?_append_right (Nat.le_refl _), Nat.sub_self]
  rfl
 have w2 := wd_of hg m2
 rw [w2, w1]
def tE (g : GrD) (y : Int) : EdD :=
 if 0 < (wdO g y).getLastD 0 then (nextV g.2.2 y (-(wdO g y).getLastD 0), (wdO g y).getLastD 0, y) else (y, -(wdO g y).getLastD 0, nextV g.2.2 y (-(wdO g y).getLastD 0))
theorem wd_out {g : GrD} {v : Int} (hv : v ∉ canO g) : wdO g v = [] := by
 unfold wdO lkW
 cases e : (wcO g).find? (fun p => decide (p.1 = v)) with
 | none => rfl
 | some p =>
   have h1 := List.find?_some e
   have h2 := List.mem_of_find?_eq_some e
   rw [decide_eq_true_eq] at h1
   exact absurd (h1 ▸ can_of h2) hv
theorem getLastD_snoc (l : List Int) (x : Int) : (l ++ [x]).getLastD 0 = x := by simp [List.getLastD_eq_getLast?]
theorem tE_new {g : GrD} (hg : grB g = true) (hf : Fol g.2.2) {u x y : Int} (hx : x ∈ lettersL g.1.toNat) (h0 : 0 ≤ nextV g.2.2 u x) (hy : nextV g.2.2 u x = y) (hw : wdO g y = wdO g u ++ [x]) : tE g y = if 0 < x then (u, x, y) else (y, -x, u) := by
 have hb := nextV_back hg hf (let3 hg hx) h0
 rw [hy] at hb
 unfold tE
 rw [hw, getLastD_snoc, hb]
theorem tE_iff {g : GrD} (hg : grB g = true) (hf : Fol g.2.2) {e : EdD} (he : e ∈ g.2.2) : (∃ y ∈ canO g, y ≠ 0 ∧ e = tE g y) ↔ exB g e = false := by
 have hl := (edge_of_gr hg he).2.1
 rw [Bool.eq_false_iff, Ne, exB_iff, Classical.not_and_iff_not_or_not, Classical.not_not, Classical.not_not]
 constructor
 ·rintro ⟨y, hy, h0, rfl⟩
  obtain ⟨u, hu, x, hx, e1, hnx⟩ := wd_par hg hy h0
  have hyr := (canO_ok hg).2.1 y hy
  have ht := tE_new hg hf hx (by rw [hnx]; omega) hnx e1
  rw [ht]
  split
  ·exact .inl e1
  ·exact .inr (by simp only; rw [Int.neg_neg]; exact e1)
 ·rintro (h | h)
  ·have hy : e.2.2 ∈ canO g := Classical.byContradiction fun hn => by
    rw [wd_out hn] at h
    have := congrArg List.length h
    simp at this
   have h0 : e.2.2 ≠ 0 := fun h0 => by
    rw [h0, wd_zero hg] at h
    have := congrArg List.length h
    simp at this
   obtain ⟨u, hu, x, hx, e1, hnx⟩ := wd_par hg hy h0
   have hyr := (canO_ok hg).2.1 _ hy
   rw [h] at e1
   have hxe := (snoc_inj e1).2
   subst hxe
   have hb := nextV_back hg hf (let3 hg hx) (by rw [hnx]; omega)
   rw [hnx, nextV_in hg hf he] at hb
   refine ⟨e.2.2, hy, h0, ?_⟩
   have ht := tE_new hg hf hx (by rw [hnx]; omega) hnx (by rw [h, hb])
   rw [ht, if_pos (by omega), ← hb]
  ·have hy : e.1 ∈ canO g := Classical.byContradiction fun hn => by
    rw [wd_out hn] at h
    have := congrArg List.length h
    simp at this
   have h0 : e.1 ≠ 0 := fun h0 => by
    rw [h0, wd_zero hg] at h
    have := congrArg List.length h
    simp at this
   obtain ⟨u, hu, x, hx, e1, hnx⟩ := wd_par hg hy h0
   have hyr := (canO_ok hg).2.1 _ hy
   rw [h] at e1
   have hxe := (snoc_inj e1).2
   subst hxe
   have hb := nextV_back hg hf (let3 hg hx) (by rw [hnx]; omega)
   rw [hnx, Int.neg_neg, nextV_out hg hf he] at hb
   refine ⟨e.1, hy, h0, ?_⟩
   have ht := tE_new hg hf hx (by rw [hnx]; omega) hnx (by rw [h, hb])
   rw [ht, if_neg (by omega), ← hb, Int.neg_neg]
def TrE (g : GrD) (o : List Int) (T : List EdD) : Prop := ∀ e, e ∈ T ↔ ∃ y ∈ o, y ≠ 0 ∧ e = tE g y
theorem TrE.add {g : GrD} {o : List Int} {T T' : List EdD} (h : TrE g o T) {y : Int} (hy : y ≠ 0) (hT : ∀ e, e ∈ T' ↔ e = tE g y ∨ e ∈ T) : TrE g (o ++ [y]) T' := by
 intro e
 rw [hT, h e]
 constructor
 ·rintro (rfl | ⟨z, hz, r⟩)
  ·exact ⟨y, by simp, hy, rfl⟩
  ·exact ⟨z, by simp [hz], r⟩
 ·rintro ⟨z, hz, r⟩
  rcases List.mem_append.1 hz with hz | hz
  ·exact .inr ⟨z, hz, r⟩
  ·rw [List.mem_singleton.1 hz] at r; exact .inl r.2
theorem TrE.ext {g : GrD} (hf : foldB g = true) {T : List EdD} (h : TrE g (canO g) T) {e : EdD} (he : e ∈ g.2.2) : (e ∈ T ↔ exB g e = false) := by
 obtain ⟨hg, hfol⟩ := foldB_parts hf
 rw [h e]
 exact tE_iff hg hfol he
end Go.Proofs.YtfadnkjlilhneaaGreat
