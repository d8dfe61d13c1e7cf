/- Lists whose elements hold memory: an element put in place of another one. -/
import Derived.Test.YtjmjhhdjlompfaaOwnF
namespace Go.Proofs.Ytjmjhhdjlompfaa
set_option maxRecDepth 20000
set_option linter.unusedVariables false
set_option linter.unusedSimpArgs false
open Go.RowKit

section
variable {α : Type} {E : El α} {t : TypeId} {width : Nat} {w w' w1 w2 : World} {v v' : Value} {ds : List α} {lo hi : Nat}
theorem flat_width (l : List (List Value × α × List Nat)) (hl : ∀ e ∈ l, e.1.length = width) : ((l.map (·.1)).flatten).length = l.length * width := by
  induction l with
  | nil => simp
  | cons e l ih =>
    simp only [List.map_cons, List.flatten_cons, List.length_append, List.length_cons, ih fun e he => hl e (by simp [he]), hl e (by simp), Nat.add_mul]
    omega
/-- An element that was made since takes the place of another one. -/
theorem OwnL.put {A : Option Addr} {m cap : Nat} (h : OwnL E t width lo hi w (.slice A m cap) ds) (hE : Stable E) {k : Nat} (hk : k < ds.length)
    (hbel : Below w.heap.size w w1) (hhi : hi ≤ w.heap.size) :
    ∃ g, A = some ⟨g, 0, none⟩ ∧ lo ≤ g ∧ g < hi ∧ (∀ j, w1.frozen? ⟨g, j, none⟩ = false) ∧ (∃ cs : List Value, cs.length = width ∧ ∀ j (hj : j < cs.length), w1.cell? ⟨g, k * width + j, none⟩ = some cs[j]) ∧
      ∀ w2 cs' d' Fe', cs'.length = width → E w1 cs' d' Fe' → Fe'.Nodup → (∀ b ∈ Fe', w.heap.size ≤ b ∧ b < w1.heap.size) →
        (∀ pre cs post, pre.length = k * width → cs.length = width → w1.ownsRow 0 t width (.slice A m cap) ds.length (pre ++ cs ++ post) → w2.ownsRow 0 t width (.slice A m cap) ds.length (pre ++ cs' ++ post)) →
        w1.grownBy w2 (some g) → OwnL E t width lo w2.heap.size w2 (.slice A m cap) (ds.set k d') := by
  obtain ⟨F, ⟨es, h1, h2, h3, rfl⟩, hnF, hF⟩ := h
  have hl : es.length = ds.length := by rw [← h1]; simp
  rw [hl] at h3
  obtain ⟨p, x, q, rfl, hp⟩ : ∃ p x q, es = p ++ x :: q ∧ p.length = k := ⟨es.take k, es[k], es.drop (k + 1), by rw [← List.drop_eq_getElem_cons (by omega), List.take_append_drop], by simp; omega⟩
  obtain ⟨A', cap', hv, _, _, _, hg⟩ := owns_form h3
  obtain ⟨g, hA, hge, _⟩ := hg (by omega)
  injection hv with e1 e2 e3
  subst e1 e2 e3 hA
  obtain ⟨cs, d, Fe⟩ := x
  have hgF := hF g (by simp [Value.ownBlock])
  have hx := h2 (cs, d, Fe) (by simp)
  have hx1 : cs.length = width := hx.1
  have h4 := ownsRow_keep h3 (w' := w1) fun b hb => hbel.block b (by simp [Value.ownBlock] at hb; omega)
  simp only [List.map_append, List.map_cons, List.flatten_append, List.flatten_cons, Value.ownBlock, Option.toList_some] at h4 hnF hF
  have hpl : ((p.map (·.1)).flatten).length = k * width := by
    rw [flat_width p fun e he => (h2 e (by simp [he])).1, hp]
  have hng := (List.nodup_append.1 hnF).2.2 g (by simp)
  have hn2 := (List.nodup_append.1 hnF).2.1
  obtain ⟨np, nq, npq⟩ := List.nodup_append.1 hn2
  obtain ⟨nF, nq2, nFq⟩ := List.nodup_append.1 nq
  have hlen := h4.1
  simp only [List.length_append, hpl, hx1] at hlen
  refine ⟨g, rfl, hgF.1, hgF.2, fun j => h4.frozenAt j, ⟨cs, hx1, fun j hj => ?_⟩, ?_⟩
  · have hj' : k * width + j < ds.length * width := by omega
    rw [h4.cellAt _ hj', List.getElem?_append_right (by omega), hpl, Nat.add_sub_cancel_left, List.getElem?_append_left hj, List.getElem?_eq_getElem hj]
  · intro w2 cs' d' Fe' hcs' hE' hnd' hFe' hrow hg2
    have hsz := hbel.size
    have hsz2 := hg2.size
    have hold : ∀ e, e ∈ p ∨ e ∈ q → ∀ b ∈ e.2.2, lo ≤ b ∧ b < hi ∧ b ≠ g := by
      intro e he b hb
      have hbm : b ∈ (p.map (·.2.2)).flatten ∨ b ∈ (q.map (·.2.2)).flatten := by
        rcases he with he | he
        · exact .inl (List.mem_flatten.2 ⟨e.2.2, List.mem_map.2 ⟨e, he, rfl⟩, hb⟩)
        · exact .inr (List.mem_flatten.2 ⟨e.2.2, List.mem_map.2 ⟨e, he, rfl⟩, hb⟩)
      have hm : b ∈ (p.map (·.2.2)).flatten ++ (Fe ++ (q.map (·.2.2)).flatten) := by
        rcases hbm with hbm | hbm
        · exact List.mem_append.2 (.inl hbm)
        · exact List.mem_append.2 (.inr (List.mem_append.2 (.inr hbm)))
      have := hF b (List.mem_append.2 (.inr hm))
      exact ⟨this.1, this.2, fun e' => hng b hm e'.symm⟩
    have keep : ∀ e, e ∈ p ∨ e ∈ q → E w2 e.1 e.2.1 e.2.2 := by
      intro e he
      have h0 : E w e.1 e.2.1 e.2.2 := by
        rcases he with he | he
        · exact (h2 e (by simp [he])).2
        · exact (h2 e (by simp [he])).2
      refine hE _ _ _ _ _ h0 fun b hb => ?_
      have := hold e he b hb
      rw [hg2.block b (by omega) (fun e => this.2.2 (by injection e)), hbel.block b (by omega)]
    refine ⟨g :: ((p.map (·.2.2)).flatten ++ (Fe' ++ (q.map (·.2.2)).flatten)), ⟨p ++ (cs', d', Fe') :: q, ?_, ?_, ?_, ?_⟩, ?_, ?_⟩
    · rw [← h1]
      simp only [List.map_append, List.map_cons]
      rw [List.set_append_right _ _ (by simp [hp]), List.length_map, hp, Nat.sub_self, List.set_cons_zero]
    · intro e he
      simp only [List.mem_append, List.mem_cons] at he
      rcases he with he | rfl | he
      · exact ⟨(h2 e (by simp [he])).1, keep e (.inl he)⟩
      · exact ⟨hcs', hE _ _ _ _ _ hE' fun b hb => hg2.block b (hFe' b hb).2 fun e => by injection e with e; have := hFe' b hb; omega⟩
      · exact ⟨(h2 e (by simp [he])).1, keep e (.inr he)⟩
    · have := hrow (p.map (·.1)).flatten cs (q.map (·.1)).flatten hpl hx1 (by simpa using h4)
      simp only [List.map_append, List.map_cons, List.flatten_append, List.flatten_cons, List.length_append, List.length_cons, List.append_assoc] at this hl ⊢
      rw [hl]
      exact this
    · simp [Value.ownBlock]
    · have hpm : ∀ b ∈ (p.map (·.2.2)).flatten, b < hi ∧ b ≠ g := fun b hb => by
        obtain ⟨l, hl', hbl⟩ := List.mem_flatten.1 hb
        obtain ⟨e, he, rfl⟩ := List.mem_map.1 hl'
        exact (hold e (.inl he) b hbl).2
      have hqm : ∀ b ∈ (q.map (·.2.2)).flatten, b < hi ∧ b ≠ g := fun b hb => by
        obtain ⟨l, hl', hbl⟩ := List.mem_flatten.1 hb
        obtain ⟨e, he, rfl⟩ := List.mem_map.1 hl'
        exact (hold e (.inr he) b hbl).2
      rw [List.nodup_cons]
      refine ⟨fun hm => ?_, List.nodup_append.2 ⟨np, List.nodup_append.2 ⟨hnd', nq2, fun a ha b hb hab => ?_⟩, fun a ha b hb hab => ?_⟩⟩
      · rcases List.mem_append.1 hm with hm | hm
        · exact (hpm g hm).2 rfl
        · rcases List.mem_append.1 hm with hm | hm
          · have := hFe' g hm; omega
          · exact (hqm g hm).2 rfl
      · have := hFe' a ha; have := hqm b hb; omega
      · rcases List.mem_append.1 hb with hb | hb
        · have := hFe' b hb; have := hpm a ha; omega
        · exact npq a ha b (List.mem_append.2 (.inr hb)) hab
    · intro b hb
      rcases List.mem_cons.1 hb with rfl | hb
      · omega
      · rcases List.mem_append.1 hb with hb | hb
        · obtain ⟨l, hl', hbl⟩ := List.mem_flatten.1 hb
          obtain ⟨e, he, rfl⟩ := List.mem_map.1 hl'
          have := hold e (.inl he) b hbl
          omega
        · rcases List.mem_append.1 hb with hb | hb
          · have := hFe' b hb; omega
          · obtain ⟨l, hl', hbl⟩ := List.mem_flatten.1 hb
            obtain ⟨e, he, rfl⟩ := List.mem_map.1 hl'
            have := hold e (.inr he) b hbl
            omega
/-- A list of n like elements that hold no memory, in a row of its own. -/
theorem OwnL.same {cs : List Value} {d : α} {n : Nat} (hcs : cs.length = width) (hel : E w cs d []) (hrow : w.ownsRow 0 t width v n (List.replicate n cs).flatten) (hb : ∀ b, v.ownBlock = some b → lo ≤ b ∧ b < hi) :
    OwnL E t width lo hi w v (List.replicate n d) := by
  refine ⟨v.ownBlock.toList, ⟨List.replicate n (cs, d, []), by simp, fun e he => ?_, by simpa using hrow, by simp⟩, ?_, fun b hb' => hb b (by simpa using hb')⟩
  · obtain ⟨_, rfl⟩ := List.mem_replicate.1 he
    exact ⟨hcs, hel⟩
  · cases v.ownBlock <;> simp
theorem ownsRow_base {base n sz : Nat} {e : TypeId} {cs : List Value} (h : w.ownsRow base e sz v n cs) : w.ownsRow 0 e sz v n cs := by
  refine ⟨h.1, ?_⟩
  rcases h.2 with h0 | ⟨g, cap, cur, hv, hg, r⟩
  · exact .inl h0
  · exact .inr ⟨g, cap, cur, hv, Nat.zero_le _, r⟩
theorem set_grown (w : World) (g j : Nat) (u : Value) : w.grownBy (w.setCell ⟨g, j, none⟩ u) (some g) :=
  ⟨rfl, rfl, rfl, by simp, fun b _ hb => Below.heap_setCell w _ u b (fun e => hb (by rw [e]))⟩
end
end Go.Proofs.Ytjmjhhdjlompfaa
