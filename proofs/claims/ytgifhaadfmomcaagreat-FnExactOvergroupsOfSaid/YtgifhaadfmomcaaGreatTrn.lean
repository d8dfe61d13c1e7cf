/- A list that takes over some elements of another list, and holds older elements of its own. -/
import Derived.Test.YtgifhaadfmomcaaGreatQuo
namespace Go.Proofs.YtgifhaadfmomcaaGreat
set_option maxRecDepth 20000
set_option linter.unusedVariables false
set_option linter.unusedSimpArgs false
open Go.RowKit

/-- 'vo' holds elements of its own, and some of the first k elements of 'vs'. -/
def OwTr {α : Type} (E : El α) (t : TypeId) (width : Nat) (lo hi : Nat) (w : World) (vs : Value) (ds : List α) (vo : Value) (os : List α) (k : Nat) : Prop :=
  ∃ es0 es sub : List (List Value × α × List Nat), es.map (·.2.1) = ds ∧ (es0 ++ sub).map (·.2.1) = os ∧ sub.Sublist (es.take k) ∧ (∀ e ∈ es0 ++ es, e.1.length = width ∧ E w e.1 e.2.1 e.2.2) ∧
    w.ownsRow 0 t width vs es.length (es.map (·.1)).flatten ∧ w.ownsRow 0 t width vo (es0 ++ sub).length ((es0 ++ sub).map (·.1)).flatten ∧
    (vs.ownBlock.toList ++ ((es0.map (·.2.2)).flatten ++ (es.map (·.2.2)).flatten)).Nodup ∧ (∀ b ∈ vs.ownBlock.toList ++ ((es0.map (·.2.2)).flatten ++ (es.map (·.2.2)).flatten), lo ≤ b ∧ b < hi) ∧
    (∀ b, vo.ownBlock = some b → lo ≤ b ∧ b < hi ∧ b ∉ vs.ownBlock.toList ++ ((es0.map (·.2.2)).flatten ++ (es.map (·.2.2)).flatten))

section
variable {α : Type} {E : El α} {t : TypeId} {width : Nat} {w w' w1 w2 : World} {vs vo vo' : Value} {ds os : List α} {lo hi : Nat} {k : Nat}
theorem tr_sub_flat {β γ : Type} {l l' : List β} (f : β → List γ) (h : l'.Sublist l) : ((l'.map f).flatten).Sublist (l.map f).flatten := by
  induction h with
  | slnil => exact List.Sublist.refl _
  | cons a _ ih =>
    rw [List.map_cons, List.flatten_cons]
    exact ih.trans (List.sublist_append_right _ _)
  | cons_cons a _ ih =>
    rw [List.map_cons, List.flatten_cons, List.map_cons, List.flatten_cons]
    exact List.Sublist.append (List.Sublist.refl _) ih
theorem tr_flat_at {es : List (List Value × α × List Nat)} (h : ∀ e ∈ es, e.1.length = width) : ∀ (k : Nat) (hk : k < es.length) (j : Nat), j < width → ((es.map (·.1)).flatten)[k * width + j]? = es[k].1[j]? := by
  induction es with
  | nil => intro k hk; cases hk
  | cons e es ih =>
    intro k hk j hj
    rw [List.map_cons, List.flatten_cons]
    have he := h e (by simp)
    match k with
    | 0 => rw [List.getElem?_append_left (by omega)]; simp
    | k + 1 =>
      rw [List.getElem?_append_right (by rw [he, Nat.add_mul]; omega)]
      have : (k + 1) * width + j - e.1.length = k * width + j := by rw [he, Nat.add_mul]; omega
      rw [this, ih (fun e he => h e (by simp [he])) k (by simpa using hk) j hj]
      rfl
theorem mem_flat {es : List (List Value × α × List Nat)} {e : List Value × α × List Nat} (he : e ∈ es) {b : Nat} (hb : b ∈ e.2.2) : b ∈ (es.map (·.2.2)).flatten :=
  List.mem_flatten.2 ⟨e.2.2, List.mem_map.2 ⟨e, he, rfl⟩, hb⟩
theorem OwTr.start {lo1 : Nat} (h : OwnL E t width lo1 hi w vs ds) (ho : OwnL E t width lo lo1 w vo os) (hlo : lo ≤ lo1) (hhi : lo1 ≤ hi) : OwTr E t width lo hi w vs ds vo os 0 := by
  obtain ⟨F, ⟨es, h1, h2, h3, rfl⟩, hn, hF⟩ := h
  obtain ⟨G, ⟨es0, g1, g2, g3, rfl⟩, gn, gF⟩ := ho
  obtain ⟨n1, n2, n3⟩ := List.nodup_append.1 hn
  obtain ⟨m1, m2, m3⟩ := List.nodup_append.1 gn
  refine ⟨es0, es, [], h1, by simpa using g1, List.nil_sublist _, fun e he => ?_, h3, by simpa using g3, ?_, fun b hb => ?_, fun b hb => ?_⟩
  · rcases List.mem_append.1 he with he | he
    · exact g2 e he
    · exact h2 e he
  · refine List.nodup_append.2 ⟨n1, List.nodup_append.2 ⟨m2, n2, fun a ha b hb hab => ?_⟩, fun a ha b hb hab => ?_⟩
    · have := (gF a (List.mem_append.2 (.inr ha))).2
      have := (hF b (List.mem_append.2 (.inr hb))).1
      omega
    · rcases List.mem_append.1 hb with hb | hb
      · have := (gF b (List.mem_append.2 (.inr hb))).2
        have := (hF a (List.mem_append.2 (.inl ha))).1
        omega
      · exact n3 a ha b hb hab
  · rcases List.mem_append.1 hb with hb | hb
    · have := hF b (List.mem_append.2 (.inl hb)); omega
    · rcases List.mem_append.1 hb with hb | hb
      · have := gF b (List.mem_append.2 (.inr hb)); omega
      · have := hF b (List.mem_append.2 (.inr hb)); omega
  · have hg := gF b (List.mem_append.2 (.inl (by rw [hb]; simp)))
    refine ⟨hg.1, by omega, fun hm => ?_⟩
    rcases List.mem_append.1 hm with hm | hm
    · have := hF b (List.mem_append.2 (.inl hm)); omega
    · rcases List.mem_append.1 hm with hm | hm
      · exact m3 b (by rw [hb]; simp) b hm rfl
      · have := hF b (List.mem_append.2 (.inr hm)); omega
theorem OwTr.keep (h : OwTr E t width lo hi w vs ds vo os k) (hE : Stable E) (hb : ∀ b, lo ≤ b → b < hi → w'.heap[b]? = w.heap[b]?) : OwTr E t width lo hi w' vs ds vo os k := by
  obtain ⟨es0, es, sub, h1, h2, h3, h4, h5, h6, hn, hF, ho⟩ := h
  refine ⟨es0, es, sub, h1, h2, h3, fun e he => ⟨(h4 e he).1, hE _ _ _ _ _ (h4 e he).2 fun b hbe => ?_⟩, ownsRow_keep h5 fun b hv => ?_, ownsRow_keep h6 fun b hv => ?_, hn, hF, ho⟩
  · have hm : b ∈ (es0.map (·.2.2)).flatten ++ (es.map (·.2.2)).flatten := by
      rcases List.mem_append.1 he with he | he
      · exact List.mem_append.2 (.inl (mem_flat he hbe))
      · exact List.mem_append.2 (.inr (mem_flat he hbe))
    have := hF b (List.mem_append.2 (.inr hm))
    exact hb b this.1 this.2
  · have := hF b (List.mem_append.2 (.inl (by rw [hv]; simp)))
    exact hb b this.1 this.2
  · exact hb b (ho b hv).1 (ho b hv).2.1
theorem OwTr.widen (h : OwTr E t width lo hi w vs ds vo os k) {hi' : Nat} (hh : hi ≤ hi') : OwTr E t width lo hi' w vs ds vo os k := by
  obtain ⟨es0, es, sub, h1, h2, h3, h4, h5, h6, hn, hF, ho⟩ := h
  exact ⟨es0, es, sub, h1, h2, h3, h4, h5, h6, hn, fun b hb => ⟨(hF b hb).1, Nat.lt_of_lt_of_le (hF b hb).2 hh⟩, fun b hb => ⟨(ho b hb).1, Nat.lt_of_lt_of_le (ho b hb).2.1 hh, (ho b hb).2.2⟩⟩
theorem OwTr.below (h : OwTr E t width lo w.heap.size w vs ds vo os k) (hE : Stable E) (hb : Below w.heap.size w w') : OwTr E t width lo w'.heap.size w' vs ds vo os k :=
  (h.keep hE fun b _ hlt => hb.block b hlt).widen hb.size
theorem OwTr.src (h : OwTr E t width lo hi w vs ds vo os k) : OwnL E t width lo hi w vs ds := by
  obtain ⟨es0, es, sub, h1, h2, h3, h4, h5, h6, hn, hF, ho⟩ := h
  obtain ⟨n1, n2, n3⟩ := List.nodup_append.1 hn
  refine ⟨_, ⟨es, h1, fun e he => h4 e (List.mem_append.2 (.inr he)), h5, rfl⟩, List.nodup_append.2 ⟨n1, (List.nodup_append.1 n2).2.1, fun a ha b hb => n3 a ha b (List.mem_append.2 (.inr hb))⟩, fun b hb => hF b ?_⟩
  rcases List.mem_append.1 hb with hb | hb
  · exact List.mem_append.2 (.inl hb)
  · exact List.mem_append.2 (.inr (List.mem_append.2 (.inr hb)))
theorem OwTr.dst (h : OwTr E t width lo hi w vs ds vo os k) : OwnL E t width lo hi w vo os := by
  obtain ⟨es0, es, sub, h1, h2, h3, h4, h5, h6, hn, hF, ho⟩ := h
  obtain ⟨n1, n2, n3⟩ := List.nodup_append.1 hn
  have hss : sub.Sublist es := h3.trans (List.take_sublist _ _)
  have hsl : ((sub.map (·.2.2)).flatten).Sublist (es.map (·.2.2)).flatten := tr_sub_flat _ hss
  have hmem : ∀ b ∈ ((es0 ++ sub).map (·.2.2)).flatten, b ∈ (es0.map (·.2.2)).flatten ++ (es.map (·.2.2)).flatten := by
    intro b hb
    rw [List.map_append, List.flatten_append] at hb
    rcases List.mem_append.1 hb with hb | hb
    · exact List.mem_append.2 (.inl hb)
    · exact List.mem_append.2 (.inr (hsl.subset hb))
  refine ⟨_, ⟨es0 ++ sub, h2, fun e he => h4 e ?_, h6, rfl⟩, List.nodup_append.2 ⟨by cases vo.ownBlock <;> simp, ?_, fun a ha b hb hab => ?_⟩, fun b hb => ?_⟩
  · rcases List.mem_append.1 he with he | he
    · exact List.mem_append.2 (.inl he)
    · exact List.mem_append.2 (.inr (hss.subset he))
  · rw [List.map_append, List.flatten_append]
    exact n2.sublist (List.Sublist.append (List.Sublist.refl _) hsl)
  · subst hab
    have ha' : vo.ownBlock = some a := by simpa using ha
    exact (ho a ha').2.2 (List.mem_append.2 (.inr (hmem a hb)))
  · rcases List.mem_append.1 hb with hb | hb
    · have hb' : vo.ownBlock = some b := by simpa using hb
      exact ⟨(ho b hb').1, (ho b hb').2.1⟩
    · exact hF b (List.mem_append.2 (.inr (hmem b hb)))
theorem OwTr.skip (h : OwTr E t width lo hi w vs ds vo os k) : OwTr E t width lo hi w vs ds vo os (k + 1) := by
  obtain ⟨es0, es, sub, h1, h2, h3, r⟩ := h
  exact ⟨es0, es, sub, h1, h2, h3.trans (List.take_sublist_take_left (by omega)), r⟩
end
/-- 'out = append(out, w)': w the list's element number k, that lies in a new block's one element. -/
theorem push_tr {α : Type} {E : El α} (hE : Stable E) {t ts : TypeId} {ti : TypeInfo} {z : Value} {width bytes lo : Nat} {w0 w : World} {vs vo : Value} {ds os : List α} {k : Nat} {ops : Array Oper} {rest : List Oper} {o : Oper} {a : Act} {Q : Exit → Act → World → Prop} (hgd : o.guard = none) (s x : Operand)
    (ho : o.op = .call { callee := .builtin .append, args := #[s, x], argTypes := #[ts, ts] })
    (ht : Tryz.prog.underlying ts = some (.slice t)) (hi : Tryz.prog.info? t = some ti) (hz : ti.zero = some z) (hsize : ti.size = width) (hby : ti.bytes = bytes) (hzs : z.cells.size = width) (hsz : 0 < width) (hb0 : bytes ≤ 128)
    (hown : OwTr E t width lo w0.heap.size w0 vs ds vo os k) (hlo : lo ≤ w0.heap.size) (hbel : Below w0.heap.size w0 w) (hs : a.eval s = vo) (hk : k < ds.length) (d : α) (hd : ds[k] = d) (b g m cap : Nat) (hvs : vs = .slice (some ⟨g, 0, none⟩) m cap) (hx : a.eval x = .slice (some ⟨b, 0, none⟩) 1 1)
    (hc : ∀ j, j < width → w.cell? ⟨b, j, none⟩ = w0.cell? ⟨g, k * width + j, none⟩) (h1 : ∀ j u, j < width → w0.cell? ⟨g, k * width + j, none⟩ = some u → u.oneCell' = true) (hl : os.length ≤ 1073741824)
    (h : ∀ v' w', OwTr E t width lo w'.heap.size w' vs ds v' (os ++ [d]) (k + 1) → w.grownBy w' vo.ownBlock → wpList Tryz.prog ops Q rest (a.put o.dst v') w') :
    wpList Tryz.prog ops Q (o :: rest) a w := by
  obtain ⟨es0, es, sub, e1, e2, e3, e4, e5, e6, hn, hF, hvo⟩ := hown
  have hln : es.length = ds.length := by rw [← e1]; simp
  have hlo' : (es0 ++ sub).length = os.length := by rw [← e2, List.length_map]
  have hke : k < es.length := by omega
  have hek : es[k].2.1 = d := by rw [← hd]; simp [← e1]
  have hw := (e4 es[k] (List.mem_append.2 (.inr (by simp)))).1
  have hcs : ∀ j u, es[k].1[j]? = some u → w0.cell? ⟨g, k * width + j, none⟩ = some u := by
    intro j u hj
    have hjw : j < width := by rw [← hw]; exact (List.getElem?_eq_some_iff.1 hj).1
    have hlt : k * width + j < es.length * width := by
      have := Nat.mul_le_mul_right width (show k + 1 ≤ es.length by omega)
      rw [Nat.add_mul] at this; omega
    rw [hvs] at e5
    obtain rfl : es.length = m := by
      rcases e5.2 with ⟨hv, _⟩ | ⟨_, _, _, hv, _⟩
      · cases hv
      · injection hv with _ e _; exact e.symm
    rw [e5.cellAt _ hlt, tr_flat_at (fun e he => (e4 e (List.mem_append.2 (.inr he))).1) k hke j hjw, hj]
  have hrow := ownsRow_keep e6 (w' := w) fun b hb => hbel.block b (hvo b hb).2.1
  refine wpList_append_own_at _ hgd s x ts ho 0 t ti z width bytes ht hi hz hsize hby hzs hsz vo _ _ hs hrow ⟨b, 0, none⟩ 1 1 es[k].1 hx (by omega) ?_ ?_ (by unfold maxLen; omega) ?_ (Nat.zero_le _) ?_
  · intro j u hj
    have e : (⟨b, 0, none⟩ : Addr).add j = ⟨b, j, none⟩ := by simp [Addr.add]; intro h; exact h.symm
    have hjw : j < width := by rw [← hw]; exact (List.getElem?_eq_some_iff.1 hj).1
    rw [e, hc j hjw]; exact hcs j u hj
  · intro u hu
    obtain ⟨j, hj, rfl⟩ := List.mem_iff_getElem.1 hu
    exact h1 j _ (by omega) (hcs j _ (List.getElem?_eq_getElem hj))
  · calc ((es0 ++ sub).length + 1) * bytes ≤ 1073741825 * 128 := Nat.mul_le_mul (by omega) hb0
      _ ≤ 140737488355328 := by decide
  · intro v' w' h2 h3 _ h5
    have hsz1 := hbel.size
    have hsz2 := h3.size
    have hblk : ∀ b, b < w0.heap.size → some b ≠ vo.ownBlock → w'.heap[b]? = w0.heap[b]? := fun b hb hne => (h3.block b (by omega) hne).trans (hbel.block b hb)
    have hne : ∀ b ∈ vs.ownBlock.toList ++ ((es0.map (·.2.2)).flatten ++ (es.map (·.2.2)).flatten), some b ≠ vo.ownBlock := fun b hb hv => (hvo b hv.symm).2.2 hb
    refine h v' w' ⟨es0, es, sub ++ [es[k]], e1, ?_, ?_, fun e he => ⟨(e4 e he).1, hE _ _ _ _ _ (e4 e he).2 fun b hbe => ?_⟩, ownsRow_keep e5 fun b hv => ?_, ?_, hn, fun b hb => ⟨(hF b hb).1, by have := (hF b hb).2; omega⟩, fun b hb => ?_⟩ h3
    · rw [← List.append_assoc, List.map_append, e2]
      simp [hek]
    · rw [List.take_succ_eq_append_getElem hke]
      exact List.Sublist.append e3 (List.Sublist.refl _)
    · have hm : b ∈ vs.ownBlock.toList ++ ((es0.map (·.2.2)).flatten ++ (es.map (·.2.2)).flatten) := by
        refine List.mem_append.2 (.inr ?_)
        rcases List.mem_append.1 he with he | he
        · exact List.mem_append.2 (.inl (mem_flat he hbe))
        · exact List.mem_append.2 (.inr (mem_flat he hbe))
      exact hblk b (hF b hm).2 (hne b hm)
    · have hm : b ∈ vs.ownBlock.toList ++ ((es0.map (·.2.2)).flatten ++ (es.map (·.2.2)).flatten) := List.mem_append.2 (.inl (by rw [hv]; simp))
      exact hblk b (hF b hm).2 (hne b hm)
    · rw [← List.append_assoc, List.length_append, List.map_append, List.flatten_append]
      simpa using h2
    · have hlt := (h2.lt b hb).2
      rcases h5 with h5 | h5
      · rw [h5] at hb
        exact ⟨(hvo b hb).1, hlt, (hvo b hb).2.2⟩
      · rw [h5] at hb
        injection hb with hb
        exact ⟨by omega, hlt, fun hm => by have := (hF b hm).2; omega⟩
end Go.Proofs.YtgifhaadfmomcaaGreat
