/- A list that takes over elements of another list: those that a test lets pass. -/
import Derived.Test.YtbflljcafbneaaaOwnII
namespace Go.Proofs.Ytbflljcafbneaaa
set_option maxRecDepth 20000
set_option linter.unusedVariables false
set_option linter.unusedSimpArgs false
open Go.RowKit

/-- vs is a list of the elements ds; vo is a row of those among its first k that pass the test: the elements are shared. -/
def OwFil {α : Type} (E : El α) (t : TypeId) (width : Nat) (lo hi : Nat) (w : World) (vs : Value) (ds : List α) (vo : Value) (p : α → Bool) (k : Nat) : Prop :=
  ∃ es : List (List Value × α × List Nat), es.map (·.2.1) = ds ∧ (∀ e ∈ es, e.1.length = width ∧ E w e.1 e.2.1 e.2.2) ∧
    w.ownsRow 0 t width vs es.length (es.map (·.1)).flatten ∧
    w.ownsRow 0 t width vo ((es.take k).filter fun e => p e.2.1).length (((es.take k).filter fun e => p e.2.1).map (·.1)).flatten ∧
    (vs.ownBlock.toList ++ (es.map (·.2.2)).flatten).Nodup ∧ (∀ b ∈ vs.ownBlock.toList ++ (es.map (·.2.2)).flatten, lo ≤ b ∧ b < hi) ∧
    (∀ b, vo.ownBlock = some b → lo ≤ b ∧ b < hi ∧ b ∉ vs.ownBlock.toList ++ (es.map (·.2.2)).flatten)

section
variable {α : Type} {E : El α} {t : TypeId} {width : Nat} {w w' w1 w2 : World} {vs vo vo' : Value} {ds : List α} {lo hi : Nat} {p : α → Bool} {k : Nat}
theorem OwFil.start {lo1 : Nat} (h : OwnL E t width lo1 hi w vs ds) (ho : w.ownsRow 0 t width vo 0 []) (hb : ∀ b, vo.ownBlock = some b → lo ≤ b ∧ b < lo1) (hlo : lo ≤ lo1) (hhi : lo1 ≤ hi) : OwFil E t width lo hi w vs ds vo p 0 := by
  obtain ⟨F, ⟨es, h1, h2, h3, rfl⟩, hn, hF⟩ := h
  refine ⟨es, h1, h2, h3, by simpa using ho, hn, fun b hb' => ⟨Nat.le_trans hlo (hF b hb').1, (hF b hb').2⟩, fun b hb' => ⟨(hb b hb').1, Nat.lt_of_lt_of_le (hb b hb').2 hhi, fun hm => ?_⟩⟩
  have := (hF b hm).1
  have := (hb b hb').2
  omega
theorem OwFil.keep (h : OwFil E t width lo hi w vs ds vo p k) (hE : Stable E) (hb : ∀ b, lo ≤ b → b < hi → w'.heap[b]? = w.heap[b]?) : OwFil E t width lo hi w' vs ds vo p k := by
  obtain ⟨es, h1, h2, h3, h4, hn, hF, ho⟩ := h
  refine ⟨es, h1, fun e he => ⟨(h2 e he).1, hE _ _ _ _ _ (h2 e he).2 fun b hbe => ?_⟩, ownsRow_keep h3 fun b hv => ?_, ownsRow_keep h4 fun b hv => ?_, hn, hF, ho⟩
  · have := hF b (List.mem_append.2 (.inr (List.mem_flatten.2 ⟨e.2.2, List.mem_map.2 ⟨e, he, rfl⟩, hbe⟩)))
    exact hb b this.1 this.2
  · have := hF b (List.mem_append.2 (.inl (by rw [hv]; simp)))
    exact hb b this.1 this.2
  · exact hb b (ho b hv).1 (ho b hv).2.1
theorem OwFil.below (h : OwFil E t width lo w.heap.size w vs ds vo p k) (hE : Stable E) (hb : Below w.heap.size w w') : OwFil E t width lo w'.heap.size w' vs ds vo p k := by
  have h' := h.keep hE fun b _ hlt => hb.block b hlt
  obtain ⟨es, h1, h2, h3, h4, hn, hF, ho⟩ := h'
  have := hb.size
  exact ⟨es, h1, h2, h3, h4, hn, fun b hb => ⟨(hF b hb).1, by have := (hF b hb).2; omega⟩, fun b hb => ⟨(ho b hb).1, by have := (ho b hb).2.1; omega, (ho b hb).2.2⟩⟩
theorem OwFil.src (h : OwFil E t width lo hi w vs ds vo p k) : OwnL E t width lo hi w vs ds := by
  obtain ⟨es, h1, h2, h3, h4, hn, hF, ho⟩ := h
  exact ⟨_, ⟨es, h1, h2, h3, rfl⟩, hn, hF⟩
theorem OwFil.lt {b : Nat} (h : OwFil E t width lo hi w vs ds vo p k) (hb : vo.ownBlock = some b) : lo ≤ b ∧ b < hi := by
  obtain ⟨es, h1, h2, h3, h4, hn, hF, ho⟩ := h
  exact ⟨(ho b hb).1, (ho b hb).2.1⟩
theorem OwFil.skip (h : OwFil E t width lo hi w vs ds vo p k) (hk : k < ds.length) (hp : p ds[k] = false) : OwFil E t width lo hi w vs ds vo p (k + 1) := by
  obtain ⟨es, h1, h2, h3, h4, hn, hF, ho⟩ := h
  have hl : es.length = ds.length := by rw [← h1]; simp
  have hke : k < es.length := by omega
  have he : es[k].2.1 = ds[k] := by simp [← h1]
  have e : (es.take (k + 1)).filter (fun e => p e.2.1) = (es.take k).filter fun e => p e.2.1 := by
    rw [List.take_succ_eq_append_getElem hke, List.filter_append]
    simp [he, hp]
  exact ⟨es, h1, h2, h3, by rw [e]; exact h4, hn, hF, ho⟩
theorem sub_flat {β γ : Type} {l l' : List β} (f : β → List γ) (h : l'.Sublist l) : ((l'.map f).flatten).Sublist (l.map f).flatten := by
  induction h with
  | slnil => exact List.Sublist.refl _
  | cons a _ ih =>
    rw [List.map_cons, List.flatten_cons]
    exact ih.trans (List.sublist_append_right _ _)
  | cons_cons a _ ih =>
    rw [List.map_cons, List.flatten_cons, List.map_cons, List.flatten_cons]
    exact List.Sublist.append (List.Sublist.refl _) ih
theorem OwFil.fin (h : OwFil E t width lo hi w vs ds vo p ds.length) : OwnL E t width lo hi w vo (ds.filter p) := by
  obtain ⟨es, h1, h2, h3, h4, hn, hF, ho⟩ := h
  have hl : es.length = ds.length := by rw [← h1]; simp
  rw [← hl, List.take_length] at h4
  have hs : (((es.filter fun e => p e.2.1).map (·.2.2)).flatten).Sublist (es.map (·.2.2)).flatten := sub_flat _ List.filter_sublist
  refine ⟨_, ⟨es.filter fun e => p e.2.1, ?_, fun e he => h2 e (List.mem_filter.1 he).1, h4, rfl⟩, ?_, fun b hb => ?_⟩
  · rw [← h1, List.filter_map]
    rfl
  · refine List.nodup_append.2 ⟨by cases vo.ownBlock <;> simp, (List.nodup_append.1 hn).2.1.sublist hs, fun a ha b hb hab => ?_⟩
    subst hab
    have ha' : vo.ownBlock = some a := by simpa using ha
    exact (ho a ha').2.2 (List.mem_append.2 (.inr (hs.subset hb)))
  · rcases List.mem_append.1 hb with hb | hb
    · have hb' : vo.ownBlock = some b := by simpa using hb
      exact ⟨(ho b hb').1, (ho b hb').2.1⟩
    · exact hF b (List.mem_append.2 (.inr (hs.subset hb)))
theorem flat_at {es : List (List Value × α × List Nat)} (h : ∀ e ∈ es, e.1.length = width) : ∀ (k : Nat) (hk : k < es.length) (j : Nat), j < width → ((es.map (·.1)).flatten)[k * width + j]? = es[k].1[j]? := by
  induction es with
  | nil => intro k hk; cases hk
  | cons e es ih =>
    intro k hk j hj
    rw [List.map_cons, List.flatten_cons]
    have he := h e (by simp)
    match k with
    | 0 => rw [List.getElem?_append_left (by omega)]; simp
    | k + 1 =>
      rw [List.getElem?_append_right (by rw [he, Nat.add_mul]; omega)]
      have : (k + 1) * width + j - e.1.length = k * width + j := by rw [he, Nat.add_mul]; omega
      rw [this, ih (fun e he => h e (by simp [he])) k (by simpa using hk) j hj]
      rfl
end
/-- 'out = append(out, w)': w the list's element number k, that lies in a new block's one element. -/
theorem push_fil {α : Type} {E : El α} (hE : Stable E) {t ts : TypeId} {ti : TypeInfo} {z : Value} {width bytes lo : Nat} {w0 w : World} {vs vo : Value} {ds : List α} {p : α → Bool} {k : Nat} {ops : Array Oper} {rest : List Oper} {o : Oper} {a : Act} {Q : Exit → Act → World → Prop} (hgd : o.guard = none) (s x : Operand)
    (ho : o.op = .call { callee := .builtin .append, args := #[s, x], argTypes := #[ts, ts] })
    (ht : Try.prog.underlying ts = some (.slice t)) (hi : Try.prog.info? t = some ti) (hz : ti.zero = some z) (hsize : ti.size = width) (hby : ti.bytes = bytes) (hzs : z.cells.size = width) (hsz : 0 < width) (hb0 : bytes ≤ 128)
    (hown : OwFil E t width lo w0.heap.size w0 vs ds vo p k) (hlo : lo ≤ w0.heap.size) (hbel : Below w0.heap.size w0 w) (hs : a.eval s = vo) (hk : k < ds.length) (hp : p ds[k] = true) (b g m cap : Nat) (hvs : vs = .slice (some ⟨g, 0, none⟩) m cap) (hx : a.eval x = .slice (some ⟨b, 0, none⟩) 1 1)
    (hc : ∀ j, j < width → w.cell? ⟨b, j, none⟩ = w0.cell? ⟨g, k * width + j, none⟩) (h1 : ∀ j u, j < width → w0.cell? ⟨g, k * width + j, none⟩ = some u → u.oneCell' = true) (hl : ds.length ≤ 1073741824)
    (h : ∀ v' w', OwFil E t width lo w'.heap.size w' vs ds v' p (k + 1) → w.grownBy w' vo.ownBlock → wpList Try.prog ops Q rest (a.put o.dst v') w') :
    wpList Try.prog ops Q (o :: rest) a w := by
  obtain ⟨es, e1, e2, e3, e4, hn, hF, hvo⟩ := hown
  have hln : es.length = ds.length := by rw [← e1]; simp
  have hke : k < es.length := by omega
  have hek : es[k].2.1 = ds[k] := by simp [← e1]
  have hw := (e2 es[k] (by simp)).1
  have hcs : ∀ j u, es[k].1[j]? = some u → w0.cell? ⟨g, k * width + j, none⟩ = some u := by
    intro j u hj
    have hjw : j < width := by rw [← hw]; exact (List.getElem?_eq_some_iff.1 hj).1
    have hlt : k * width + j < es.length * width := by
      have := Nat.mul_le_mul_right width (show k + 1 ≤ es.length by omega)
      rw [Nat.add_mul] at this; omega
    rw [hvs] at e3
    obtain rfl : es.length = m := by
      rcases e3.2 with ⟨hv, _⟩ | ⟨_, _, _, hv, _⟩
      · cases hv
      · injection hv with _ e _; exact e.symm
    rw [e3.cellAt _ hlt, flat_at (fun e he => (e2 e he).1) k hke j hjw, hj]
  have hrow := ownsRow_keep e4 (w' := w) fun b hb => hbel.block b (hvo b hb).2.1
  have hfl : ((es.take k).filter fun e => p e.2.1).length ≤ 1073741824 := by
    refine Nat.le_trans (List.length_filter_le _ _) ?_
    rw [List.length_take]; omega
  refine wpList_append_own_at _ hgd s x ts ho 0 t ti z width bytes ht hi hz hsize hby hzs hsz vo _ _ hs hrow ⟨b, 0, none⟩ 1 1 es[k].1 hx (by omega) ?_ ?_ (by unfold maxLen; omega) ?_ (Nat.zero_le _) ?_
  · intro j u hj
    have e : (⟨b, 0, none⟩ : Addr).add j = ⟨b, j, none⟩ := by simp [Addr.add]; intro h; exact h.symm
    have hjw : j < width := by rw [← hw]; exact (List.getElem?_eq_some_iff.1 hj).1
    rw [e, hc j hjw]; exact hcs j u hj
  · intro u hu
    obtain ⟨j, hj, rfl⟩ := List.mem_iff_getElem.1 hu
    exact h1 j _ (by omega) (hcs j _ (List.getElem?_eq_getElem hj))
  · calc (((es.take k).filter fun e => p e.2.1).length + 1) * bytes ≤ 1073741825 * 128 := Nat.mul_le_mul (by omega) hb0
      _ ≤ 140737488355328 := by decide
  · intro v' w' h2 h3 _ h5
    have hsz1 := hbel.size
    have hsz2 := h3.size
    have hblk : ∀ b, b < w0.heap.size → some b ≠ vo.ownBlock → w'.heap[b]? = w0.heap[b]? := fun b hb hne => (h3.block b (by omega) hne).trans (hbel.block b hb)
    have hne : ∀ b ∈ vs.ownBlock.toList ++ (es.map (·.2.2)).flatten, some b ≠ vo.ownBlock := fun b hb hv => (hvo b hv.symm).2.2 hb
    refine h v' w' ⟨es, e1, fun e he => ⟨(e2 e he).1, hE _ _ _ _ _ (e2 e he).2 fun b hbe => ?_⟩, ownsRow_keep e3 fun b hv => ?_, ?_, hn, fun b hb => ⟨(hF b hb).1, by have := (hF b hb).2; omega⟩, fun b hb => ?_⟩ h3
    · have hm : b ∈ vs.ownBlock.toList ++ (es.map (·.2.2)).flatten := List.mem_append.2 (.inr (List.mem_flatten.2 ⟨e.2.2, List.mem_map.2 ⟨e, he, rfl⟩, hbe⟩))
      exact hblk b (hF b hm).2 (hne b hm)
    · have hm : b ∈ vs.ownBlock.toList ++ (es.map (·.2.2)).flatten := List.mem_append.2 (.inl (by rw [hv]; simp))
      exact hblk b (hF b hm).2 (hne b hm)
    · have e : (es.take (k + 1)).filter (fun e => p e.2.1) = ((es.take k).filter fun e => p e.2.1) ++ [es[k]] := by
        rw [List.take_succ_eq_append_getElem hke, List.filter_append]
        simp [hek, hp]
      rw [e, List.length_append, List.map_append, List.flatten_append]
      simpa using h2
    · have hlt := (h2.lt b hb).2
      rcases h5 with h5 | h5
      · rw [h5] at hb
        exact ⟨(hvo b hb).1, hlt, (hvo b hb).2.2⟩
      · rw [h5] at hb
        injection hb with hb
        exact ⟨by omega, hlt, fun hm => by have := (hF b hm).2; omega⟩
/-- The same at lists of lists of ints. -/
theorem push_fil_ints {lo : Nat} {w0 w : World} {vs vo : Value} {L : List (List Int)} {p : List Int → Bool} {k : Nat} {ops : Array Oper} {rest : List Oper} {o : Oper} {a : Act} {Q : Exit → Act → World → Prop} (hgd : o.guard = none) (s x : Operand)
    (ho : o.op = .call { callee := .builtin .append, args := #[s, x], argTypes := #[23, 23] })
    (hown : OwFil EI 22 1 lo w0.heap.size w0 vs L vo p k) (hlo : lo ≤ w0.heap.size) (hbel : Below w0.heap.size w0 w) (hs : a.eval s = vo) (hk : k < L.length) (hp : p L[k] = true) (b g m cap : Nat) (hvs : vs = .slice (some ⟨g, 0, none⟩) m cap) (hx : a.eval x = .slice (some ⟨b, 0, none⟩) 1 1)
    (z : Value) (hz : z.oneCell' = true) (hc : w.cell? ⟨b, 0, none⟩ = some z) (hc0 : w0.cell? ⟨g, k, none⟩ = some z) (hl : L.length ≤ 1073741824)
    (h : ∀ v' w', OwFil EI 22 1 lo w'.heap.size w' vs L v' p (k + 1) → w.grownBy w' vo.ownBlock → wpList Try.prog ops Q rest (a.put o.dst v') w') :
    wpList Try.prog ops Q (o :: rest) a w := by
  obtain ⟨i0, hi0, hz0, hz1, hz2⟩ := info_parts ints_info
  refine push_fil EI.stable hgd s x ho Try.underlying23 hi0 hz0 hz1 hz2 rfl (by decide) (by decide) hown hlo hbel hs hk hp b g m cap hvs hx (fun j hj => ?_) (fun j u hj hu => ?_) hl h
  · obtain rfl : j = 0 := by omega
    rw [hc, Nat.mul_one, Nat.add_zero, hc0]
  · obtain rfl : j = 0 := by omega
    rw [Nat.mul_one, Nat.add_zero, hc0] at hu
    injection hu with hu
    rw [← hu]; exact hz
end Go.Proofs.Ytbflljcafbneaaa
