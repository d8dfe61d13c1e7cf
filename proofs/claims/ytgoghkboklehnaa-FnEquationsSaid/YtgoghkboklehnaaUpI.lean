/- The program's wordsUpTo: the reduced words with up to so many letters. Appending to a list of lists: the old row's cells stay as they were (a loop that ranges over a part of the list that it appends to). A list that takes over elements of another list: those that a test lets pass. -/
import Derived.Test.YtgoghkboklehnaaOwnF
import Derived.Test.YtgoghkboklehnaaLoW
import Derived.Test.YtgoghkboklehnaaCpy
namespace Go.Proofs.Ytgoghkboklehnaa
set_option maxRecDepth 20000
set_option linter.unusedVariables false
set_option linter.unusedSimpArgs false
open Go.RowKit

/-- vs is a list of the elements ds; vo is a row of those among its first k that pass the test: the elements are shared. -/
def OwFil {α : Type} (E : El α) (t : TypeId) (width : Nat) (lo hi : Nat) (w : World) (vs : Value) (ds : List α) (vo : Value) (p : α → Bool) (k : Nat) : Prop :=
  ∃ es : List (List Value × α × List Nat), es.map (·.2.1) = ds ∧ (∀ e ∈ es, e.1.length = width ∧ E w e.1 e.2.1 e.2.2) ∧
    w.ownsRow 0 t width vs es.length (es.map (·.1)).flatten ∧
    w.ownsRow 0 t width vo ((es.take k).filter fun e => p e.2.1).length (((es.take k).filter fun e => p e.2.1).map (·.1)).flatten ∧
    (vs.ownBlock.toList ++ (es.map (·.2.2)).flatten).Nodup ∧ (∀ b ∈ vs.ownBlock.toList ++ (es.map (·.2.2)).flatten, lo ≤ b ∧ b < hi) ∧
    (∀ b, vo.ownBlock = some b → lo ≤ b ∧ b < hi ∧ b ∉ vs.ownBlock.toList ++ (es.map (·.2.2)).flatten)

section
variable {α : Type} {E : El α} {t : TypeId} {width : Nat} {w w' w1 w2 : World} {vs vo vo' : Value} {ds : List α} {lo hi : Nat} {p : α → Bool} {k : Nat}
theorem OwFil.start {lo1 : Nat} (h : OwnL E t width lo1 hi w vs ds) (ho : w.ownsRow 0 t width vo 0 []) (hb : ∀ b, vo.ownBlock = some b → lo ≤ b ∧ b < lo1) (hlo : lo ≤ lo1) (hhi : lo1 ≤ hi) : OwFil E t width lo hi w vs ds vo p 0 := by
  obtain ⟨F, ⟨es, h1, h2, h3, rfl⟩, hn, hF⟩ := h
  refine ⟨es, h1, h2, h3, by simpa using ho, hn, fun b hb' => ⟨Nat.le_trans hlo (hF b hb').1, (hF b hb').2⟩, fun b hb' => ⟨(hb b hb').1, Nat.lt_of_lt_of_le (hb b hb').2 hhi, fun hm => ?_⟩⟩
  have := (hF b hm).1
  have := (hb b hb').2
  omega
theorem OwFil.keep (h : OwFil E t width lo hi w vs ds vo p k) (hE : Stable E) (hb : ∀ b, lo ≤ b → b < hi → w'.heap[b]? = w.heap[b]?) : OwFil E t width lo hi w' vs ds vo p k := by
  obtain ⟨es, h1, h2, h3, h4, hn, hF, ho⟩ := h
  refine ⟨es, h1, fun e he => ⟨(h2 e he).1, hE _ _ _ _ _ (h2 e he).2 fun b hbe => ?_⟩, ownsRow_keep h3 fun b hv => ?_, ownsRow_keep h4 fun b hv => ?_, hn, hF, ho⟩
  · have := hF b (List.mem_append.2 (.inr (List.mem_flatten.2 ⟨e.2.2, List.mem_map.2 ⟨e, he, rfl⟩, hbe⟩)))
    exact hb b this.1 this.2
  · have := hF b (List.mem_append.2 (.inl (by rw [hv]; simp)))
    exact hb b this.1 this.2
  · exact hb b (ho b hv).1 (ho b hv).2.1
theorem OwFil.below (h : OwFil E t width lo w.heap.size w vs ds vo p k) (hE : Stable E) (hb : Below w.heap.size w w') : OwFil E t width lo w'.heap.size w' vs ds vo p k := by
  have h' := h.keep hE fun b _ hlt => hb.block b hlt
  obtain ⟨es, h1, h2, h3, h4, hn, hF, ho⟩ := h'
  have := hb.size
  exact ⟨es, h1, h2, h3, h4, hn, fun b hb => ⟨(hF b hb).1, by have := (hF b hb).2; omega⟩, fun b hb => ⟨(ho b hb).1, by have := (ho b hb).2.1; omega, (ho b hb).2.2⟩⟩
theorem OwFil.src (h : OwFil E t width lo hi w vs ds vo p k) : OwnL E t width lo hi w vs ds := by
  obtain ⟨es, h1, h2, h3, h4, hn, hF, ho⟩ := h
  exact ⟨_, ⟨es, h1, h2, h3, rfl⟩, hn, hF⟩
theorem OwFil.lt {b : Nat} (h : OwFil E t width lo hi w vs ds vo p k) (hb : vo.ownBlock = some b) : lo ≤ b ∧ b < hi := by
  obtain ⟨es, h1, h2, h3, h4, hn, hF, ho⟩ := h
  exact ⟨(ho b hb).1, (ho b hb).2.1⟩
theorem OwFil.skip (h : OwFil E t width lo hi w vs ds vo p k) (hk : k < ds.length) (hp : p ds[k] = false) : OwFil E t width lo hi w vs ds vo p (k + 1) := by
  obtain ⟨es, h1, h2, h3, h4, hn, hF, ho⟩ := h
  have hl : es.length = ds.length := by rw [← h1]; simp
  have hke : k < es.length := by omega
  have he : es[k].2.1 = ds[k] := by simp [← h1]
  have e : (es.take (k + 1)).filter (fun e => p e.2.1) = (es.take k).filter fun e => p e.2.1 := by
    rw [List.take_succ_eq_append_getElem hke, List.filter_append]
    simp [he, hp]
  exact ⟨es, h1, h2, h3, by rw [e]; exact h4, hn, hF, ho⟩
theorem sub_flat {β γ : Type} {l l' : List β} (f : β → List γ) (h : l'.Sublist l) : ((l'.map f).flatten).Sublist (l.map f).flatten := by
  induction h with
  | slnil => exact List.Sublist.refl _
  | cons a _ ih =>
    rw [List.map_cons, List.flatten_cons]
    exact ih.trans (List.sublist_append_right _ _)
  | cons_cons a _ ih =>
    rw [List.map_cons, List.flatten_cons, List.map_cons, List.flatten_cons]
    exact List.Sublist.append (List.Sublist.refl _) ih
theorem OwFil.fin (h : OwFil E t width lo hi w vs ds vo p ds.length) : OwnL E t width lo hi w vo (ds.filter p) := by
  obtain ⟨es, h1, h2, h3, h4, hn, hF, ho⟩ := h
  have hl : es.length = ds.length := by rw [← h1]; simp
  rw [← hl, List.take_length] at h4
  have hs : (((es.filter fun e => p e.2.1).map (·.2.2)).flatten).Sublist (es.map (·.2.2)).flatten := sub_flat _ List.filter_sublist
  refine ⟨_, ⟨es.filter fun e => p e.2.1, ?_, fun e he => h2 e (List.mem_filter.1 he).1, h4, rfl⟩, ?_, fun b hb => ?_⟩
  · rw [← h1, List.filter_map]
    rfl
  · refine List.nodup_append.2 ⟨by cases vo.ownBlock <;> simp, (List.nodup_append.1 hn).2.1.sublist hs, fun a ha b hb hab => ?_⟩
    subst hab
    have ha' : vo.ownBlock = some a := by simpa using ha
    exact (ho a ha').2.2 (List.mem_append.2 (.inr (hs.subset hb)))
  · rcases List.mem_append.1 hb with hb | hb
    · have hb' : vo.ownBlock = some b := by simpa using hb
      exact ⟨(ho b hb').1, (ho b hb').2.1⟩
    · exact hF b (List.mem_append.2 (.inr (hs.subset hb)))
theorem flat_at {es : List (List Value × α × List Nat)} (h : ∀ e ∈ es, e.1.length = width) : ∀ (k : Nat) (hk : k < es.length) (j : Nat), j < width → ((es.map (·.1)).flatten)[k * width + j]? = es[k].1[j]? := by
  induction es with
  | nil => intro k hk; cases hk
  | cons e es ih =>
    intro k hk j hj
    rw [List.map_cons, List.flatten_cons]
    have he := h e (by simp)
    match k with
    | 0 => rw [List.getElem?_append_left (by omega)]; simp
    | k + 1 =>
      rw [List.getElem?_append_right (by rw [he, Nat.add_mul]; omega)]
      have : (k + 1) * width + j - e.1.length = k * width + j := by rw [he, Nat.add_mul]; omega
      rw [this, ih (fun e he => h e (by simp [he])) k (by simpa using hk) j hj]
      rfl
end
/-- 'out = append(out, w)': w the list's element number k, that lies in a new block's one element. -/
theorem push_fil {α : Type} {E : El α} (hE : Stable E) {t ts : TypeId} {ti : TypeInfo} {z : Value} {width bytes lo : Nat} {w0 w : World} {vs vo : Value} {ds : List α} {p : α → Bool} {k : Nat} {ops : Array Oper} {rest : List Oper} {o : Oper} {a : Act} {Q : Exit → Act → World → Prop} (hgd : o.guard = none) (s x : Operand)
    (ho : o.op = .call { callee := .builtin .append, args := #[s, x], argTypes := #[ts, ts] })
    (ht : Try.prog.underlying ts = some (.slice t)) (hi : Try.prog.info? t = some ti) (hz : ti.zero = some z) (hsize : ti.size = width) (hby : ti.bytes = bytes) (hzs : z.cells.size = width) (hsz : 0 < width) (hb0 : bytes ≤ 128)
    (hown : OwFil E t width lo w0.heap.size w0 vs ds vo p k) (hlo : lo ≤ w0.heap.size) (hbel : Below w0.heap.size w0 w) (hs : a.eval s = vo) (hk : k < ds.length) (hp : p ds[k] = true) (b g m cap : Nat) (hvs : vs = .slice (some ⟨g, 0, none⟩) m cap) (hx : a.eval x = .slice (some ⟨b, 0, none⟩) 1 1)
    (hc : ∀ j, j < width → w.cell? ⟨b, j, none⟩ = w0.cell? ⟨g, k * width + j, none⟩) (h1 : ∀ j u, j < width → w0.cell? ⟨g, k * width + j, none⟩ = some u → u.oneCell' = true) (hl : ds.length ≤ 1073741824)
    (h : ∀ v' w', OwFil E t width lo w'.heap.size w' vs ds v' p (k + 1) → w.grownBy w' vo.ownBlock → wpList Try.prog ops Q rest (a.put o.dst v') w') :
    wpList Try.prog ops Q (o :: rest) a w := by
  obtain ⟨es, e1, e2, e3, e4, hn, hF, hvo⟩ := hown
  have hln : es.length = ds.length := by rw [← e1]; simp
  have hke : k < es.length := by omega
  have hek : es[k].2.1 = ds[k] := by simp [← e1]
  have hw := (e2 es[k] (by simp)).1
  have hcs : ∀ j u, es[k].1[j]? = some u → w0.cell? ⟨g, k * width + j, none⟩ = some u := by
    intro j u hj
    have hjw : j < width := by rw [← hw]; exact (List.getElem?_eq_some_iff.1 hj).1
    have hlt : k * width + j < es.length * width := by
      have := Nat.mul_le_mul_right width (show k + 1 ≤ es.length by omega)
      rw [Nat.add_mul] at this; omega
    rw [hvs] at e3
    obtain rfl : es.length = m := by
      rcases e3.2 with ⟨hv, _⟩ | ⟨_, _, _, hv, _⟩
      · cases hv
      · injection hv with _ e _; exact e.symm
    rw [e3.cellAt _ hlt, flat_at (fun e he => (e2 e he).1) k hke j hjw, hj]
  have hrow := ownsRow_keep e4 (w' := w) fun b hb => hbel.block b (hvo b hb).2.1
  have hfl : ((es.take k).filter fun e => p e.2.1).length ≤ 1073741824 := by
    refine Nat.le_trans (List.length_filter_le _ _) ?_
    rw [List.length_take]; omega
  refine wpList_append_own_at _ hgd s x ts ho 0 t ti z width bytes ht hi hz hsize hby hzs hsz vo _ _ hs hrow ⟨b, 0, none⟩ 1 1 es[k].1 hx (by omega) ?_ ?_ (by unfold maxLen; omega) ?_ (Nat.zero_le _) ?_
  · intro j u hj
    have e : (⟨b, 0, none⟩ : Addr).add j = ⟨b, j, none⟩ := by simp [Addr.add]; intro h; exact h.symm
    have hjw : j < width := by rw [← hw]; exact (List.getElem?_eq_some_iff.1 hj).1
    rw [e, hc j hjw]; exact hcs j u hj
  · intro u hu
    obtain ⟨j, hj, rfl⟩ := List.mem_iff_getElem.1 hu
    exact h1 j _ (by omega) (hcs j _ (List.getElem?_eq_getElem hj))
  · calc (((es.take k).filter fun e => p e.2.1).length + 1) * bytes ≤ 1073741825 * 128 := Nat.mul_le_mul (by omega) hb0
      _ ≤ 140737488355328 := by decide
  · intro v' w' h2 h3 _ h5
    have hsz1 := hbel.size
    have hsz2 := h3.size
    have hblk : ∀ b, b < w0.heap.size → some b ≠ vo.ownBlock → w'.heap[b]? = w0.heap[b]? := fun b hb hne => (h3.block b (by omega) hne).trans (hbel.block b hb)
    have hne : ∀ b ∈ vs.ownBlock.toList ++ (es.map (·.2.2)).flatten, some b ≠ vo.ownBlock := fun b hb hv => (hvo b hv.symm).2.2 hb
    refine h v' w' ⟨es, e1, fun e he => ⟨(e2 e he).1, hE _ _ _ _ _ (e2 e he).2 fun b hbe => ?_⟩, ownsRow_keep e3 fun b hv => ?_, ?_, hn, fun b hb => ⟨(hF b hb).1, by have := (hF b hb).2; omega⟩, fun b hb => ?_⟩ h3
    · have hm : b ∈ vs.ownBlock.toList ++ (es.map (·.2.2)).flatten := List.mem_append.2 (.inr (List.mem_flatten.2 ⟨e.2.2, List.mem_map.2 ⟨e, he, rfl⟩, hbe⟩))
      exact hblk b (hF b hm).2 (hne b hm)
    · have hm : b ∈ vs.ownBlock.toList ++ (es.map (·.2.2)).flatten := List.mem_append.2 (.inl (by rw [hv]; simp))
      exact hblk b (hF b hm).2 (hne b hm)
    · have e : (es.take (k + 1)).filter (fun e => p e.2.1) = ((es.take k).filter fun e => p e.2.1) ++ [es[k]] := by
        rw [List.take_succ_eq_append_getElem hke, List.filter_append]
        simp [hek, hp]
      rw [e, List.length_append, List.map_append, List.flatten_append]
      simpa using h2
    · have hlt := (h2.lt b hb).2
      rcases h5 with h5 | h5
      · rw [h5] at hb
        exact ⟨(hvo b hb).1, hlt, (hvo b hb).2.2⟩
      · rw [h5] at hb
        injection hb with hb
        exact ⟨by omega, hlt, fun hm => by have := (hF b hm).2; omega⟩
/-- The same at lists of lists of ints. -/
theorem push_fil_ints {lo : Nat} {w0 w : World} {vs vo : Value} {L : List (List Int)} {p : List Int → Bool} {k : Nat} {ops : Array Oper} {rest : List Oper} {o : Oper} {a : Act} {Q : Exit → Act → World → Prop} (hgd : o.guard = none) (s x : Operand)
    (ho : o.op = .call { callee := .builtin .append, args := #[s, x], argTypes := #[27, 27] })
    (hown : OwFil EI 24 1 lo w0.heap.size w0 vs L vo p k) (hlo : lo ≤ w0.heap.size) (hbel : Below w0.heap.size w0 w) (hs : a.eval s = vo) (hk : k < L.length) (hp : p L[k] = true) (b g m cap : Nat) (hvs : vs = .slice (some ⟨g, 0, none⟩) m cap) (hx : a.eval x = .slice (some ⟨b, 0, none⟩) 1 1)
    (z : Value) (hz : z.oneCell' = true) (hc : w.cell? ⟨b, 0, none⟩ = some z) (hc0 : w0.cell? ⟨g, k, none⟩ = some z) (hl : L.length ≤ 1073741824)
    (h : ∀ v' w', OwFil EI 24 1 lo w'.heap.size w' vs L v' p (k + 1) → w.grownBy w' vo.ownBlock → wpList Try.prog ops Q rest (a.put o.dst v') w') :
    wpList Try.prog ops Q (o :: rest) a w := by
  obtain ⟨i0, hi0, hz0, hz1, hz2⟩ := info_parts ints_info
  refine push_fil EI.stable hgd s x ho Try.underlying27 hi0 hz0 hz1 hz2 rfl (by decide) (by decide) hown hlo hbel hs hk hp b g m cap hvs hx (fun j hj => ?_) (fun j u hj hu => ?_) hl h
  · obtain rfl : j = 0 := by omega
    rw [hc, Nat.mul_one, Nat.add_zero, hc0]
  · obtain rfl : j = 0 := by omega
    rw [Nat.mul_one, Nat.add_zero, hc0] at hu
    injection hu with hu
    rw [← hu]; exact hz
theorem fil_row {lo : Nat} {w : World} {A : Option Addr} {n cap : Nat} {vo : Value} {L : List (List Int)} {p : List Int → Bool} {k : Nat} (h : OwFil EI 24 1 lo w.heap.size w (.slice A n cap) L vo p k) (hk : k < L.length) :
    ∃ g A1 c1, A = some ⟨g, 0, none⟩ ∧ w.cell? ⟨g, k, none⟩ = some (.slice A1 L[k].length c1) ∧ L[k].length ≤ c1 ∧ c1 ≤ maxLen ∧ RdI w (.slice A1 L[k].length c1) L[k] := by
  obtain ⟨A', cap', hv, _, _, _, hg⟩ := OwnL.len h.src
  injection hv with h1 h2 h3
  subst h1 h2 h3
  obtain ⟨g, rfl, _⟩ := hg (by omega)
  obtain ⟨b, off, A1, c1, hA, _, hc, h4, h5, h6⟩ := (OwII.rd h.src).at hk
  injection hA with hA
  injection hA with e1 e2
  subst e1 e2
  rw [Nat.zero_add] at hc
  exact ⟨_, A1, c1, rfl, hc, h4, h5, h6⟩
theorem fil_start {lo hi lo1 : Nat} {w : World} {vs vo : Value} {L : List (List Int)} {p : List Int → Bool} (h : OwII lo1 hi vs L w) (ho : OwII lo lo1 vo [] w) (hlo : lo ≤ lo1) (hhi : lo1 ≤ hi) : OwFil EI 24 1 lo hi w vs L vo p 0 := by
  refine OwFil.start h ?_ (fun b hb => ho.lt hb) hlo hhi
  obtain ⟨F, ⟨es, e1, e2, e3, rfl⟩, _, _⟩ := ho
  obtain rfl : es = [] := by simpa using e1
  refine ⟨by simp, ?_⟩
  rcases e3.2 with h | ⟨g, c, cur, h1, h2, h3⟩
  · exact .inl h
  · exact .inr ⟨g, c, cur, h1, Nat.zero_le _, h3⟩
theorem append_keeps {w w' : World} {base : Nat} {t ty e : TypeId} {i : TypeInfo} {z : Value} {size bytes : Nat} (ht : Try.prog.underlying t = some (.slice e)) (hi : Try.prog.info? e = some i) (hz : i.zero = some z)
    (hsize : i.size = size) (hby : i.bytes = bytes) (hsz : 0 < size) {v v' : Value} {n : Nat} {xs : List Value} (hown : w.ownsRow base e size v n xs)
    {a : Addr} {m c : Nat} {news : List Value} (hl : news.length = m * size) (hnews : ∀ j u, news[j]? = some u → w.cell? (a.add j) = some u) (h1 : ∀ u ∈ news, u.oneCell' = true)
    (h63 : n + m ≤ maxLen) (hbytes : (n + m) * bytes ≤ 140737488355328)
    (hr : (Builtin.append_ #[t, t] ty #[v, .slice (some a) m c]).run Try.prog w = .ok v' w') (h2 : w'.ownsRow base e size v' (n + m) (xs ++ news)) :
    ∀ g j u, v.ownBlock = some g → xs[j]? = some u → w'.cell? ⟨g, j, none⟩ = some u := by
  subst hsize
  subst hby
  intro g j u hg hj
  rcases hown.2 with ⟨rfl, _⟩ | ⟨g', cap, cur, rfl, hbg, hh, hnc, hcm, hcs, htake⟩
  · cases hg
  · injection hg with hg
    subst hg
    have hc0 : w.cell? ⟨g', j, none⟩ = some u := by
      have := hown.cells (g := g') rfl j u hj
      rwa [Addr.add_lit, Nat.zero_add] at this
    by_cases hroom : n + m ≤ cap
    · have hfit : n * i.size + news.length ≤ cur.size := by rw [hl, hcs, ← Nat.add_mul]; exact Nat.mul_le_mul_right _ hroom
      have hr2 := run_append_room (P := Try.prog) w t ty e i ht hi g' n cap cur hh a m c news hl hnews h1 hroom hfit
      rw [hr] at hr2
      injection hr2 with e1 e2
      subst e1
      have := h2.cells (g := g') rfl j u (by rw [List.getElem?_append_left (List.getElem?_eq_some_iff.1 hj).1]; exact hj)
      rwa [Addr.add_lit, Nat.zero_add] at this
    · have holds : ∀ j u, xs[j]? = some u → w.cell? ((⟨g', 0, none⟩ : Addr).add j) = some u := hown.cells (g := g') rfl
      have hsmall : n + m ≤ 9223372036854775807 := by simp only [maxLen] at h63; omega
      have hr2 := run_append_grow (P := Try.prog) w t ty e i z ht hi hz ⟨g', 0, none⟩ n cap xs hown.1 holds a m c news hl hnews (by omega) (by omega) (growslice_fits (by omega) hbytes)
      rw [hr] at hr2
      injection hr2 with e1 e2
      subst e2
      have hlt : g' < w.heap.size := World.block_lt_of_cell? w _ hc0
      rw [World.cell?_of_block (w := w) (Below.heap_alloc w.drew _ g' hlt)]
      exact hc0
/-- 'out = append(out, x)', x a list of ints made since; the old row's cells stay. -/
theorem push_ints_keep {lo : Nat} {w0 w : World} {v : Value} {L : List (List Int)} {ops : Array Oper} {rest : List Oper} {o : Oper} {a : Act} {Q : Exit → Act → World → Prop} (hgd : o.guard = none) (s x : Operand)
    (ho : o.op = .call { callee := .builtin .append, args := #[s, x], argTypes := #[27, 27] })
    (hown : OwII lo w0.heap.size v L w0) (hlo : lo ≤ w0.heap.size) (hbel : Below w0.heap.size w0 w) (hs : a.eval s = v) (b : Nat) (z : Value) (d : List Int) {base : Nat} (hx : a.eval x = .slice (some ⟨b, 0, none⟩) 1 1)
    (hel : OwI w base z d) (hbase : w0.heap.size ≤ base) (hc : w.cell? ⟨b, 0, none⟩ = some z) (hz : z.oneCell' = true) (hl : L.length ≤ 1073741824)
    (h : ∀ v' w', OwII lo w'.heap.size v' (L ++ [d]) w' → w.grownBy w' v.ownBlock → (∀ g j u, v.ownBlock = some g → j < L.length → w.cell? ⟨g, j, none⟩ = some u → w'.cell? ⟨g, j, none⟩ = some u) → (v'.ownBlock = v.ownBlock ∨ v'.ownBlock = some w.heap.size) → wpList Try.prog ops Q rest (a.put o.dst v') w') :
    wpList Try.prog ops Q (o :: rest) a w := by
  obtain ⟨i0, hi0, hz0, hz1, hz2⟩ := info_parts ints_info
  have hown' := hown
  obtain ⟨F, ⟨es, e1, e2, e3, rfl⟩, hnF, hF⟩ := hown'
  have hln : es.length = L.length := by rw [← e1]; simp
  rw [hln] at e3
  have hrow := ownsRow_keep e3 (w' := w) fun b hb => hbel.block b (hown.lt hb).2
  have hnews : ∀ (j : Nat) (u : Value), [z][j]? = some u → w.cell? ((⟨b, 0, none⟩ : Addr).add j) = some u := by
    intro j u hj
    match j, hj with
    | 0, hj => simp at hj; subst hj; rw [Addr.add_lit]; exact hc
  have h1 : ∀ u ∈ [z], u.oneCell' = true := fun u hu => by simp at hu; subst hu; exact hz
  refine wpList_plain hgd fun K hK => ?_
  obtain ⟨v', w', hr, h2, h3, h4, h5⟩ := run_append_own_at (P := Try.prog) w 0 27 o.type 24 i0 _ 1 24 Try.underlying27 hi0 hz0 hz1 hz2 rfl (by decide) v L.length _ hrow ⟨b, 0, none⟩ 1 1 [z] rfl hnews h1 (by unfold maxLen; omega) (by omega) (Nat.zero_le _)
  have hk := append_keeps Try.underlying27 hi0 hz0 hz1 hz2 (by decide) hrow (by rfl) hnews h1 (by unfold maxLen; omega) (by omega) hr h2
  unfold Oper.wp execOp
  simp only [ho, resolve, invoke, builtin, Sem.run_bind, Sem.run_pure, Result.andThen_ok, List.map_toArray, List.map_cons, List.map_nil, hs, hx, hr]
  refine hK _ _ (h v' w' ?_ h3 ?_ h5)
  · refine OwnL.push EI.stable hown hbel (EI.of hel) rfl (by cases z.ownBlock <;> simp) (fun k hk => ?_) hlo ?_ h3 h5 fun b hb => (h2.lt b hb).2
    · have := hel.1.lt k (by simpa using hk)
      omega
    · intro es' he'
      have hflat : es'.flatten = (es.map (·.1)).flatten := by
        rcases he'.2 with ⟨hv, hn⟩ | ⟨g, c, cur, hv, _, hh, _, _, _, hcur⟩
        · have q1 := he'.1
          have q2 := hrow.1
          rw [hn, Nat.zero_mul] at q1 q2
          rw [List.eq_nil_of_length_eq_zero q1, List.eq_nil_of_length_eq_zero q2]
        · rcases hrow.2 with ⟨hv', _⟩ | ⟨g', c', cur', hv', _, hh', _, _, _, hcur'⟩
          · rw [hv] at hv'; cases hv'
          · rw [hv] at hv'
            injection hv' with q1
            injection q1 with q1
            injection q1 with q1
            subst q1
            rw [hh] at hh'
            injection hh' with q2
            injection q2 with q2
            subst q2
            rw [← hcur, ← hcur']
      rw [hflat]
      exact h2
  · intro g j u hg hj hcell
    have hlt : j < ((es.map (·.1)).flatten).length := by rw [hrow.1]; omega
    obtain ⟨A, cap, hv, _⟩ := owns_form hrow
    obtain rfl : A = some ⟨g, 0, none⟩ := by
      obtain ⟨A', cap', hv', _, _, _, hA⟩ := owns_form hrow
      obtain ⟨g', hg', _⟩ := hA (by omega)
      rw [hv'] at hv
      injection hv with q _ _
      rw [hv', hg'] at hg
      have hgg : g' = g := by simpa [Value.ownBlock] using hg
      rw [← q, hg', hgg]
    have := hk g j _ hg (List.getElem?_eq_getElem hlt)
    rw [this]
    rw [hv] at hrow
    rw [World.ownsRow.cellAt hrow j (by omega), List.getElem?_eq_getElem hlt] at hcell
    exact hcell
/-- A part of an old row: its cells hold the values hs, that read as the lists L; these lie in blocks below N, not in the row's. -/
def SegI (N g off : Nat) (w : World) (hs : List Value) (L : List (List Int)) : Prop :=
  hs.length = L.length ∧ ∀ i (h : i < hs.length) (h' : i < L.length), w.cell? ⟨g, off + i, none⟩ = some hs[i] ∧ RdI w hs[i] L[i] ∧ ∀ b, hs[i].ownBlock = some b → b < N ∧ b ≠ g
theorem SegI.below {N g off : Nat} {w w' : World} {hs : List Value} {L : List (List Int)} (h : SegI N g off w hs L) (hb : Below w.heap.size w w') : SegI N g off w' hs L :=
  ⟨h.1, fun i h1 h2 => ⟨(hb.cell (World.block_lt_of_cell? w _ (h.2 i h1 h2).1)).trans (h.2 i h1 h2).1, (h.2 i h1 h2).2.1.below hb, (h.2 i h1 h2).2.2⟩⟩
/-- The list is appended to: its row is the old one, or a new one. -/
theorem SegI.push {N g off : Nat} {w w' : World} {hs : List Value} {L : List (List Int)} {v : Value} {n : Nat} (h : SegI N g off w hs L) (hg : w.grownBy w' v.ownBlock) (hv : v.ownBlock = some g ∨ ∃ b, v.ownBlock = some b ∧ N ≤ b ∧ b ≠ g)
    (hn : off + hs.length ≤ n) (hk : ∀ g j u, v.ownBlock = some g → j < n → w.cell? ⟨g, j, none⟩ = some u → w'.cell? ⟨g, j, none⟩ = some u) : SegI N g off w' hs L := by
  refine ⟨h.1, fun i h1 h2 => ?_⟩
  obtain ⟨c, r, hb⟩ := h.2 i h1 h2
  refine ⟨?_, r.grown hg fun b hb1 hb2 => ?_, hb⟩
  · rcases hv with hv | ⟨b, hv, _, hne⟩
    · exact hk g _ _ hv (by omega) c
    · rw [World.cell?_of_block (w := w) (hg.block g (World.block_lt_of_cell? w _ c) fun e => hne (by rw [hv] at e; injection e with e; exact e.symm))]
      exact c
  · have := hb b hb1
    rcases hv with hv | ⟨b', hv, hN, _⟩
    · rw [hv] at hb2; injection hb2 with e; omega
    · rw [hv] at hb2; injection hb2 with e; omega
/-- A list of one's own, looked at as such a row. -/
theorem OwII.seg {lo N : Nat} {w : World} {g n cap : Nat} {L : List (List Int)} (h : OwII lo N (.slice (some ⟨g, 0, none⟩) n cap) L w) (off : Nat) : ∃ hs, SegI N g off w hs (L.drop off) := by
  obtain ⟨F, ⟨es, h1, h2, h3, rfl⟩, hn, hF⟩ := h
  have hl : es.length = L.length := by rw [← h1]; simp
  obtain ⟨f1, f2⟩ := flat_ones es fun e he => (h2 e he).1
  have hnl : es.length = n := by
    rcases h3.2 with ⟨hv, _⟩ | ⟨_, _, _, hv, _⟩
    · cases hv
    · injection hv with _ e _; exact e.symm
  subst hnl
  refine ⟨((es.map (·.1)).flatten).drop off, by rw [List.length_drop, List.length_drop, f1, hl], fun i hi hi' => ?_⟩
  rw [List.length_drop] at hi hi'
  have hie : off + i < es.length := by omega
  have hif : off + i < ((es.map (·.1)).flatten).length := by omega
  rw [List.getElem_drop, List.getElem_drop]
  obtain ⟨s, hs, ho, hFs⟩ := (h2 es[off + i] (by simp)).2
  have e := f2 (off + i) hie hif
  rw [hs] at e
  injection e with e
  rw [← e]
  have e2 : es[off + i].2.1 = L[off + i] := by simp [← h1]
  rw [← e2]
  refine ⟨?_, ho.rd, fun b hb => ?_⟩
  · rw [World.ownsRow.cellAt h3 (off + i) (by omega), List.getElem?_eq_getElem hif, ← e]
  · have hbm : b ∈ (es.map (·.2.2)).flatten := List.mem_flatten.2 ⟨es[off + i].2.2, List.mem_map.2 ⟨es[off + i], by simp, rfl⟩, by rw [hFs, hb]; simp⟩
    refine ⟨(hF b (List.mem_append.2 (.inr hbm))).2, fun e => ?_⟩
    exact (List.nodup_append.1 hn).2.2 g (by simp [Value.ownBlock]) b hbm e.symm
theorem layW_ne {r : Nat} (h1 : 1 ≤ r) (hr : r ≤ 3) : ∀ n, layW (lettersL r) n ≠ []
  | 0 => by simp [layW]
  | n + 1 => by
    intro h
    unfold layW at h
    rw [List.flatMap_eq_nil_iff] at h
    obtain ⟨w, hw⟩ := List.exists_mem_of_ne_nil _ (layW_ne h1 hr n)
    have h2 := h w hw
    unfold nxtW at h2
    rw [List.map_eq_nil_iff, List.filter_eq_nil_iff] at h2
    have m1 : (1 : Int) ∈ lettersL r := by
      have : r = 1 ∨ r = 2 ∨ r = 3 := by omega
      rcases this with rfl | rfl | rfl <;> decide +kernel
    have m2 : (-1 : Int) ∈ lettersL r := by
      have : r = 1 ∨ r = 2 ∨ r = 3 := by omega
      rcases this with rfl | rfl | rfl <;> decide +kernel
    have a1 := h2 1 m1
    have a2 := h2 (-1) m2
    unfold okW at a1 a2
    simp at a1 a2
    omega
/-- What the inner loops hold: the list that grows, and the part of its old row that is gone through. -/
structure Up2 (lo N g off : Nat) (W wr : World) (hs : List Value) (LK : List (List Int)) (v : Value) (L : List (List Int)) : Prop where
  o : OwII lo wr.heap.size v L wr
  s : SegI N g off wr hs LK
  b : Below lo W wr
  v : v.ownBlock = some g ∨ ∃ b, v.ownBlock = some b ∧ N ≤ b ∧ b ≠ g
  n : off + hs.length ≤ L.length
  hN : N ≤ wr.heap.size
  hlo : lo ≤ N
  hg : g < N
section
variable {lo N g off : Nat} {W wr w0 w' : World} {hs : List Value} {LK L : List (List Int)} {v v' : Value} {d : List Int}
theorem Up2.below (h : Up2 lo N g off W wr hs LK v L) (hb : Below wr.heap.size wr w') : Up2 lo N g off W w' hs LK v L :=
  ⟨(OwnL.keep h.o EI.stable fun b _ hlt => hb.block b hlt).widen (Nat.le_refl _) hb.size, h.s.below hb, h.b.trans (hb.mono (by have := h.hN; have := h.hlo; omega)), h.v, h.n, by have := h.hN; have := hb.size; omega, h.hlo, h.hg⟩
theorem Up2.push (h : Up2 lo N g off W wr hs LK v L) (hb : Below wr.heap.size wr w0) (ho : OwII lo w'.heap.size v' (L ++ [d]) w') (hg : w0.grownBy w' v.ownBlock)
    (hk : ∀ g j u, v.ownBlock = some g → j < L.length → w0.cell? ⟨g, j, none⟩ = some u → w'.cell? ⟨g, j, none⟩ = some u) (hat : v'.ownBlock = v.ownBlock ∨ v'.ownBlock = some w0.heap.size) : Up2 lo N g off W w' hs LK v' (L ++ [d]) := by
  have h1 := h.below hb
  refine ⟨ho, h1.s.push hg h1.v h1.n hk, h1.b.grown hg (by have := h1.hN; have := h1.hlo; omega) fun k hk => (h.o.lt hk).1, ?_, ?_, ?_, h.hlo, h.hg⟩
  · rcases hat with q | q
    · rw [q]; exact h.v
    · have := h1.hN; have := h.hg
      exact .inr ⟨_, q, h1.hN, by omega⟩
  · have := h.n; rw [List.length_append]; omega
  · have := h1.hN; have := hg.size; omega
/-- A row that is no part of the list that grows. -/
theorem row_keep {w3 : World} {gl n c : Nat} {ls : List Int} (h : RdI wr (.slice (some ⟨gl, 0, none⟩) n c) ls) (hb : Below wr.heap.size wr w0) (hg : w0.grownBy w3 v.ownBlock) (hne : ∀ b, v.ownBlock = some b → b ≠ gl) (hgl : gl < wr.heap.size) (hat : v'.ownBlock = v.ownBlock ∨ v'.ownBlock = some w0.heap.size) :
    RdI w3 (.slice (some ⟨gl, 0, none⟩) n c) ls ∧ (∀ b, v'.ownBlock = some b → b ≠ gl) ∧ gl < w3.heap.size := by
  have hs := hg.size
  have hs0 := hb.size
  refine ⟨(h.below hb).grown hg fun b e1 e2 => ?_, fun b hv => ?_, by omega⟩
  · simp [Value.ownBlock] at e1
    exact hne b e2 (by omega)
  · rcases hat with q | q
    · rw [q] at hv; exact hne b hv
    · rw [q] at hv; injection hv with hv; omega
end
set_option maxHeartbeats 1000000 in
theorem wordsUpTo_any (r m : Nat) (w : World) (hr : 1 ≤ r ∧ r ≤ 3) (hm : m ≤ 4) :
    Calls Try.prog 32 #[.int .i64 r, .int .i64 m] w fun e w' => ∃ v, e = .returned v ∧ OwII w.heap.size w'.heap.size v (uptW (lettersL r) m) w' ∧ Below w.heap.size w w' := by
  have hls := lettersL_len r
  have HLN := Lib.hid (layW_ne hr.1 hr.2)
  have HLC := Lib.hid (layW_len (lettersL r) (by rw [hls]; omega))
  have HUC := Lib.hid (uptW_len (lettersL r) (by rw [hls]; omega))
  have HLM := Lib.hid (layW_mem (lettersL r))
  have HL64 := Lib.hid (lettersL_I64 (n := r) (by omega))
  have HLP : Hid (∀ k, uptW (lettersL r) (k + 1) = uptW (lettersL r) k ++ layW (lettersL r) (k + 1)) := Lib.hid fun k => rfl
  have HLG : Hid (∀ k, layW (lettersL r) (k + 1) = (layW (lettersL r) k).flatMap (nxtW (lettersL r))) := Lib.hid fun k => rfl
  have hlm0 : ∀ x ∈ lettersL r, (1 ≤ x ∧ x ≤ (r : Int)) ∨ (1 ≤ -x ∧ -x ≤ (r : Int)) := fun x hx => lettersL_mem hx
  have HLMM := Lib.hid hlm0
  have HOI := Lib.hid (OwII_one w (lo := w.heap.size) (Nat.le_refl _))
  have bz : Below w.heap.size w ((w.alloc (.cells #[] 3)).alloc (.cells #[.slice (some ⟨w.heap.size, 0, none⟩) 0 0] 24)) := (by repeat (first | exact Below.refl _ _ | (refine Below.setCell ?_ (by first | omega | (simp <;> omega)) _) | (refine bel_drewN ?_ _) | (refine Below.drew ?_) | (refine Below.alloc ?_ (by first | omega | (simp <;> omega)) _)))
  have HBZ := Lib.hid bz
  have H0 : Hid (OwII w.heap.size (w.heap.size + 2) (.slice (some ⟨w.heap.size + 1, 0, none⟩) 1 1) (uptW (lettersL r) 0) ((w.alloc (.cells #[] 3)).alloc (.cells #[.slice (some ⟨w.heap.size, 0, none⟩) 0 0] 24))) := HOI
  have HD0 : Hid ((uptW (lettersL r) 0).drop 0 = layW (lettersL r) 0) := Lib.hid rfl
  clear bz hlm0 HOI
  go_enter Try.func32, Try.ntmps32
  go_wp2
  obtain ⟨ls, hls0⟩ : ∃ l, l = lettersL r := ⟨_, rfl⟩
  have HLS : Hid (ls.length = 2 * r) := Lib.hid (by rw [hls0]; exact hls)
  have HLSE := Lib.hid hls0
  have HLT : Hid (∀ W : World, Calls Try.prog 58 #[.int .i64 r] W fun e w' => ∃ r, e = .returned r ∧ OwI w' W.heap.size r ls ∧ Below W.heap.size W w') := Lib.hid fun W => by have := letters_any r W (by omega); rw [hls0]; exact this
  rw [← hls0] at HLN HLC HUC HLM HL64 HLP HLG HLMM H0 HD0
  clear hls0 hls
  go_loopw [5, 6, 7] (fun out from_ i wr => ∃ k f : Nat, k ≤ m ∧ i = .int .i64 k ∧ from_ = .int .i64 f ∧ (uptW ls k).drop f = layW ls k ∧ OwII w.heap.size wr.heap.size out (uptW ls k) wr ∧ Below w.heap.size w wr) (fun _ _ i _ => m - (intOf i).toNat)
  case atStart => exact ⟨0, 0, Nat.zero_le _, rfl, rfl, HD0.out, by simpa using H0.out, HBZ.out⟩
  case round =>
    obtain ⟨k, f, hk, rfl, rfl, hd, ho, hb⟩ := hrel
    have HO := Lib.hid ho
    have HB := Lib.hid hb
    have HD := Lib.hid hd
    obtain ⟨wo, rfl⟩ : ∃ wo : World, wo = wr := ⟨_, rfl⟩
    clear ho hb hd
    by_cases hlt : k < m
    · obtain ⟨A, cap, hly, hcy, hmy, _, hg⟩ := OwnL.len HO.out
      subst hly
      have hfl : f < (uptW ls k).length := by
        have h1 := HLN.out k
        rw [← HD.out] at h1
        refine Nat.lt_of_not_le fun hle => h1 (List.drop_eq_nil_iff.2 hle)
      obtain ⟨g, rfl, hg1, hg2⟩ := hg (by omega)
      obtain ⟨hs, hseg⟩ := HO.out.seg f
      rw [HD.out] at hseg
      have HS := Lib.hid hseg
      have hlen : (layW ls k).length = (uptW ls k).length - f := by rw [← HD.out, List.length_drop]
      have h64 : 6 ^ k ≤ 6 ^ 5 := Nat.pow_le_pow_right (by omega) (by omega)
      have h642 : 6 ^ (k + 1) ≤ 6 ^ 5 := Nat.pow_le_pow_right (by omega) (by omega)
      have hkc := HLC.out k
      have huc := HUC.out k
      unfold maxLen at hmy
      have HMB := Lib.hid (HLM.out k)
      have HP1 := Lib.hid (HLP.out k)
      have HG1 := Lib.hid (HLG.out k)
      obtain ⟨LN, hLN⟩ : ∃ X, X = layW ls (k + 1) := ⟨_, rfl⟩
      obtain ⟨LU, hLU⟩ : ∃ X, X = uptW ls (k + 1) := ⟨_, rfl⟩
      rw [← hLN] at HG1 HP1
      rw [← hLU] at HP1
      have HLNE := Lib.hid hLN
      have HLUE := Lib.hid hLU
      clear hLN hLU hseg
      generalize layW ls k = LK at *
      generalize uptW ls k = U at *
      have hfI : (f : Int) ≤ (U.length : Int) := by omega
      have hf0 : (0 : Int) ≤ (f : Int) := by omega
      have hfc : (U.length : Int) ≤ (cap : Int) := by omega
      have hcf : ¬ cap = f := by omega
      have hkI : (k : Int) < (m : Int) := by omega
      have HLE := Lib.hid hlen
      have hll : LK.length ≤ 7776 := by omega
      clear hlen
      go_wp2
      rw [← HLE.out]
      go_loopw [5, 27] (fun out i wr => ∃ q : Nat, q ≤ LK.length ∧ i = .int .i64 q ∧ Up2 w.heap.size wo.heap.size g f w wr hs LK out (U ++ (LK.take q).flatMap (nxtW ls))) (fun _ i _ => LK.length - (intOf i).toNat)
      case atStart => exact ⟨0, Nat.zero_le _, rfl, by simpa using HO.out, HS.out, HB.out, .inl rfl, by have := HS.out.1; have := HLE.out; simp; omega, Nat.le_refl _, HB.out.size, hg2⟩
      case round =>
        obtain ⟨q, hq, rfl, hI2⟩ := hrel
        have HI2 := Lib.hid hI2
        obtain ⟨wi, rfl⟩ : ∃ wi : World, wi = wr := ⟨_, rfl⟩
        clear hI2
        by_cases hlt2 : q < LK.length
        · have hql : q < hs.length := by have := HS.out.1; omega
          have HSE := Lib.hid (fun W' (h : SegI wo.heap.size g f W' hs LK) => h.2 q hql hlt2)
          obtain ⟨m1, m2⟩ := HMB.out LK[q] (List.getElem_mem hlt2)
          have HM2 := Lib.hid m2
          have HTM := Lib.hid (take_flat (nxtW ls) LK q hlt2)
          have HOK : Hid (∀ x, okW LK[q] x = (decide (LK[q].length = 0) || decide (x ≠ -(LK[q].getD (LK[q].length - 1) 0)))) := Lib.hid fun _ => rfl
          have HNX : Hid (nxtW ls LK[q] = (ls.filter (okW LK[q])).map fun x => LK[q] ++ [x]) := Lib.hid rfl
          have hwl : LK[q].length ≤ 4 := by omega
          clear m2 m1
          obtain ⟨hv, hhv⟩ : ∃ v, v = hs[q] := ⟨_, rfl⟩
          obtain ⟨ws, hws⟩ : ∃ v, v = LK[q] := ⟨_, rfl⟩
          rw [← hhv, ← hws] at HSE
          rw [← hws] at HM2 HTM HNX hwl
          simp only [← hws] at HOK
          clear hhv hws
          obtain ⟨hcell, hrd, _⟩ := HSE.out wi HI2.out.s
          obtain ⟨A1, c1, rfl, hc1, hm1, _⟩ := hrd.arg
          have hqI : (q : Int) < (LK.length : Int) := by omega
          have hg5 : g < wi.heap.size := by have := HI2.out.hN; have := HI2.out.hg; omega
          clear hrd
          go_wp2_with fail
          refine (HLT.out wi).mono ?_
          rintro e w5 ⟨rl, rfl, ol, b5⟩
          have hln := ol.rd.arg
          obtain ⟨Al, cl_, rfl, hcl, hml, _, hfl⟩ := OwI.form ol
          obtain ⟨gl, rfl, hgl1, hgl2⟩ := hfl (by rw [HLS.out]; omega)
          rw [HLS.out] at ol hcl ⊢
          have HL0 : Hid (RdI w5 (.slice (some ⟨gl, 0, none⟩) (2 * r) cl_) ls) := Lib.hid ol.rd
          have HI5 := Lib.hid (HI2.out.below b5)
          have HG5 : Hid (∀ b, u5.ownBlock = some b → b ≠ gl) := Lib.hid fun b hb => by have := (HI2.out.o.lt hb).2; omega
          unfold maxLen at hml hm1
          clear ol b5 hln hfl hcell
          go_wp2
          go_loopw [5, 34] (fun out i wr => ∃ q' : Nat, q' ≤ 2 * r ∧ i = .int .i64 q' ∧ Up2 w.heap.size wo.heap.size g f w wr hs LK out (U ++ (LK.take q).flatMap (nxtW ls) ++ ((ls.take q').filter (okW ws)).map fun x => ws ++ [x]) ∧ RdI wr (.slice (some ⟨gl, 0, none⟩) (2 * r) cl_) ls ∧ (∀ b, out.ownBlock = some b → b ≠ gl) ∧ gl < wr.heap.size) (fun _ i _ => 2 * r - (intOf i).toNat)
          case atStart => exact ⟨0, Nat.zero_le _, rfl, by simpa using HI5.out, HL0.out, HG5.out, hgl2⟩
          case round =>
            obtain ⟨q', hq', rfl, hI3, hl3, hg3', hg3⟩ := hrel
            have HI3 := Lib.hid hI3
            have HL3 := Lib.hid hl3
            have HG3 := Lib.hid hg3'
            obtain ⟨wj, rfl⟩ : ∃ wj : World, wj = wr := ⟨_, rfl⟩
            clear hI3 hl3 hg3'
            by_cases hlt3 : q' < 2 * r
            · have hql' : q' < ls.length := by rw [HLS.out]; exact hlt3
              have hcx : wj.cell? ⟨gl, q', none⟩ = some (.int .i64 ls[q']) := by
                    obtain ⟨b', o', hA, _, hc⟩ := HL3.out.at (show 0 < ls.length by omega)
                    injection hA with hA
                    injection hA with h1 h2
                    subst h1
                    subst h2
                    have := hc q' hql'
                    rwa [Nat.zero_add] at this
              have HTK := Lib.hid (take_filter (okW ws) ls q' hql')
              have HX64 := Lib.hid (HL64.out _ (List.getElem_mem hql'))
              have HOX := Lib.hid (HOK.out ls[q'])
              have hqI' : (q' : Int) < 2 * (r : Int) := by omega
              obtain ⟨x, hx⟩ : ∃ x, x = ls[q'] := ⟨_, rfl⟩
              rw [← hx] at hcx HTK HX64 HOX
              clear hx
              rcases e0 : ((ws.length : Int) == 0) with _ | _
              · have hl0 : ¬ ws.length = 0 := fun e => by rw [e] at e0; simp at e0
                obtain ⟨_, hrd, _⟩ := HSE.out wj HI3.out.s
                obtain ⟨gw, ow, rfl, hgw1⟩ : ∃ gw ow, A1 = some ⟨gw, ow, none⟩ ∧ wj.cell? ⟨gw, ow + (ws.length - 1), none⟩ = some (.int .i64 (ws.getD (ws.length - 1) 0)) := by
                  obtain ⟨b', o', hA, _, hc⟩ := hrd.at (show 0 < ws.length by omega)
                  refine ⟨b', o', hA, ?_⟩
                  rw [hc (ws.length - 1) (by omega)]
                  simp [List.getD, show ws.length - 1 < ws.length by omega]
                clear hrd
                have hwr1 : IntKind.i64.wrap ((ws.length : Int) - 1) = (ws.length : Int) - 1 := by rw [IntKind.wrap_i64]; omega
                have hb1 : (0 : Int) ≤ (ws.length : Int) - 1 := by omega
                have hb2 : (ws.length : Int) - 1 < (ws.length : Int) := by omega
                have htn : ((ws.length : Int) - 1).toNat = ws.length - 1 := by omega
                have hOW2 : okW ws x = decide (x ≠ -(ws.getD (ws.length - 1) 0)) := by rw [HOX.out, decide_eq_false hl0, Bool.false_or]
                have HYB := Lib.hid (HLMM.out _ (HM2.out _ (show ws.getD (ws.length - 1) 0 ∈ ws by rw [List.getD_eq_getElem?_getD, List.getElem?_eq_getElem (by omega)]; exact List.getElem_mem _)))
                obtain ⟨y, hy⟩ : ∃ y, y = ws.getD (ws.length - 1) 0 := ⟨_, rfl⟩
                rw [← hy] at hgw1 hOW2 HYB
                clear hy
                have HY64 : I64 y := by have := HYB.out; unfold I64; omega
                rcases ex : (x == -y) with _ | _
                · have hex : ¬ x = -y := by simpa using ex
                  have HOKX : Hid (okW ws x = true) := Lib.hid (by rw [hOW2]; simp [hex])
                  have HAI : Hid (∀ W : World, Calls Try.prog 59 #[.int .i64 y, .int .i64 x] W fun e w' => e = .returned (.bool false) ∧ W = w') := Lib.hid fun W => by have := areInverse_any y x W HY64; rw [show invB y x = false by unfold invB; rw [ex, Bool.and_false]] at this; exact this
                  clear hex hOW2 ex
                  go_wp2_with (go_at_call 59; refine (HAI.out _).mono ?_; rintro e w' ⟨rfl, rfl⟩)
                  have HE6 : Hid ((ls.take (q' + 1)).filter (okW ws) = (ls.take q').filter (okW ws) ++ [x]) := Lib.hid (by rw [HTK.out, if_pos HOKX.out])
                  have HE7 : Hid (U ++ (LK.take q).flatMap (nxtW ls) ++ ((ls.take (q' + 1)).filter (okW ws)).map (fun x => ws ++ [x]) = (U ++ (LK.take q).flatMap (nxtW ls) ++ ((ls.take q').filter (okW ws)).map fun x => ws ++ [x]) ++ [ws ++ [x]]) := Lib.hid (by rw [HE6.out, List.map_append, ← List.append_assoc]; rfl)
                  have HNL : Hid ((U ++ (LK.take q).flatMap (nxtW ls) ++ ((ls.take q').filter (okW ws)).map fun x => ws ++ [x]).length ≤ 1073741824) := Lib.hid (by
                    have a1 := flat_le (nxtW ls) 6 (fun w => Nat.le_trans (nxtW_len ls w) (by rw [HLS.out]; omega)) (LK.take q)
                    have a2 := List.length_filter_le (okW ws) (ls.take q')
                    rw [List.length_take] at a1 a2
                    have a3 := HLS.out
                    rw [List.length_append, List.length_append, List.length_map]
                    omega)
                  have hlo3 : w.heap.size ≤ wj.heap.size := (by have := HI3.out.hN; have := HI3.out.hlo; omega)
                  clear hcx e0
                  go_wp2_with (first
                    | (go_at_call 60; refine (copyInts_any _ ws _ (HSE.out _ HI3.out.s).2.1 (by omega)).mono ?_; rintro e w1 ⟨r1, rfl, o1, b1⟩; have O1 := Lib.hid o1; have B1 := Lib.hid b1; have hz1 := b1.size; obtain ⟨A3, c3, rfl, _⟩ := OwI.form o1; clear o1 b1)
                    | (at_builtin; refine append_ints rfl (.tmp 54) (.tmp 56) rfl wj.heap.size _ ws (O1.out.alloc _) rfl _ [x] (RdI_new1 _ x HX64.out) rfl (by simp; omega) (by simp; omega) ?_; intro v2 w2 o2 g2 p2; have hb2 := ((B1.out.alloc hz1 (.cells #[.int .i64 x] 3)).grown g2 (by simp; omega) (fun k hk => (O1.out.1.lt k hk).1)); have B2 := Lib.hid hb2; have hz2 := hb2.size; obtain ⟨A2, c2, hv2, _⟩ := OwI.form o2; rw [List.length_append, List.length_singleton] at hv2; subst hv2; have O2 := Lib.hid o2; clear o2 hb2 g2 p2 hz1 B1)
                    | (at_builtin; refine push_ints_keep rfl (.tmp 52) (.tmp 58) rfl HI3.out.o hlo3 (B2.out.alloc hz2 _) rfl _ (.slice A2 (ws.length + 1) c2) (ws ++ [x]) (base := wj.heap.size) rfl (O2.out.alloc _) (Nat.le_refl _) (cell_new1 _ _ _) rfl HNL.out ?_; intro v3 w3 o3 g3 k3 p3; have HI5 := Lib.hid (HI3.out.push (B2.out.alloc hz2 (.cells #[.slice A2 (ws.length + 1) c2] 24)) o3 g3 k3 p3); have HL5 := Lib.hid (row_keep HL3.out (B2.out.alloc hz2 (.cells #[.slice A2 (ws.length + 1) c2] 24)) g3 HG3.out hg3 p3); clear o3 g3 k3 p3))
                  go_roundw
                  case rel => exact ⟨q' + 1, by omega, by go_num, by rw [HE7.out]; exact HI5.out, HL5.out⟩
                  case measure => simp [intOf]; omega
                · have hex : x = -y := by simpa using ex
                  have HOKX : Hid (okW ws x = false) := Lib.hid (by rw [hOW2]; simp [hex])
                  have HAI : Hid (∀ W : World, Calls Try.prog 59 #[.int .i64 y, .int .i64 x] W fun e w' => e = .returned (.bool true) ∧ W = w') := Lib.hid fun W => by have := areInverse_any y x W HY64; rw [show invB y x = true by unfold invB; rw [ex, Bool.and_true]; have := HYB.out; simp; omega] at this; exact this
                  clear hex hOW2 ex
                  go_wp2_with (go_at_call 59; refine (HAI.out _).mono ?_; rintro e w' ⟨rfl, rfl⟩)
                  have HE6 : Hid ((ls.take (q' + 1)).filter (okW ws) = (ls.take q').filter (okW ws)) := Lib.hid (by rw [HTK.out, if_neg (by rw [HOKX.out]; decide)])
                  go_roundw
                  case rel => exact ⟨q' + 1, by omega, by go_num, by rw [HE6.out]; exact HI3.out, HL3.out, HG3.out, hg3⟩
                  case measure => simp [intOf]; omega
              · have hl0 : ws.length = 0 := by simpa using e0
                have HOKX : Hid (okW ws x = true) := Lib.hid (by rw [HOX.out]; simp [hl0])
                clear hl0
                have HE6 : Hid ((ls.take (q' + 1)).filter (okW ws) = (ls.take q').filter (okW ws) ++ [x]) := Lib.hid (by rw [HTK.out, if_pos HOKX.out])
                have HE7 : Hid (U ++ (LK.take q).flatMap (nxtW ls) ++ ((ls.take (q' + 1)).filter (okW ws)).map (fun x => ws ++ [x]) = (U ++ (LK.take q).flatMap (nxtW ls) ++ ((ls.take q').filter (okW ws)).map fun x => ws ++ [x]) ++ [ws ++ [x]]) := Lib.hid (by rw [HE6.out, List.map_append, ← List.append_assoc]; rfl)
                have HNL : Hid ((U ++ (LK.take q).flatMap (nxtW ls) ++ ((ls.take q').filter (okW ws)).map fun x => ws ++ [x]).length ≤ 1073741824) := Lib.hid (by
                  have a1 := flat_le (nxtW ls) 6 (fun w => Nat.le_trans (nxtW_len ls w) (by rw [HLS.out]; omega)) (LK.take q)
                  have a2 := List.length_filter_le (okW ws) (ls.take q')
                  rw [List.length_take] at a1 a2
                  have a3 := HLS.out
                  rw [List.length_append, List.length_append, List.length_map]
                  omega)
                have hlo3 : w.heap.size ≤ wj.heap.size := (by have := HI3.out.hN; have := HI3.out.hlo; omega)
                
                go_wp2_with (first
                  | (go_at_call 60; refine (copyInts_any _ ws _ (HSE.out _ HI3.out.s).2.1 (by omega)).mono ?_; rintro e w1 ⟨r1, rfl, o1, b1⟩; have O1 := Lib.hid o1; have B1 := Lib.hid b1; have hz1 := b1.size; obtain ⟨A3, c3, rfl, _⟩ := OwI.form o1; clear o1 b1)
                  | (at_builtin; refine append_ints rfl (.tmp 54) (.tmp 56) rfl wj.heap.size _ ws (O1.out.alloc _) rfl _ [x] (RdI_new1 _ x HX64.out) rfl (by simp; omega) (by simp; omega) ?_; intro v2 w2 o2 g2 p2; have hb2 := ((B1.out.alloc hz1 (.cells #[.int .i64 x] 3)).grown g2 (by simp; omega) (fun k hk => (O1.out.1.lt k hk).1)); have B2 := Lib.hid hb2; have hz2 := hb2.size; obtain ⟨A2, c2, hv2, _⟩ := OwI.form o2; rw [List.length_append, List.length_singleton] at hv2; subst hv2; have O2 := Lib.hid o2; clear o2 hb2 g2 p2 hz1 B1)
                  | (at_builtin; refine push_ints_keep rfl (.tmp 52) (.tmp 58) rfl HI3.out.o hlo3 (B2.out.alloc hz2 _) rfl _ (.slice A2 (ws.length + 1) c2) (ws ++ [x]) (base := wj.heap.size) rfl (O2.out.alloc _) (Nat.le_refl _) (cell_new1 _ _ _) rfl HNL.out ?_; intro v3 w3 o3 g3 k3 p3; have HI5 := Lib.hid (HI3.out.push (B2.out.alloc hz2 (.cells #[.slice A2 (ws.length + 1) c2] 24)) o3 g3 k3 p3); have HL5 := Lib.hid (row_keep HL3.out (B2.out.alloc hz2 (.cells #[.slice A2 (ws.length + 1) c2] 24)) g3 HG3.out hg3 p3); clear o3 g3 k3 p3))
                go_roundw
                case rel => exact ⟨q' + 1, by omega, by go_num, by rw [HE7.out]; exact HI5.out, HL5.out⟩
                case measure => simp [intOf]; omega
            · obtain rfl : q' = 2 * r := by omega
              have hex2 : ¬ (((2 * r : Nat) : Int) < 2 * (r : Int)) := by omega
              have h1 := HI3.out
              rw [← HLS.out, List.take_length, List.append_assoc, ← HNX.out, ← HTM.out] at h1
              have HI4 := Lib.hid h1
              clear h1
              go_wp2
              go_roundw
              case rel => exact ⟨q + 1, by omega, by go_num, HI4.out⟩
              case measure => simp [intOf]; omega
        · obtain rfl : q = LK.length := by omega
          have h1 := HI2.out.o
          rw [List.take_length, ← HG1.out, ← HP1.out] at h1
          have HI3 := Lib.hid h1
          have HB3 := Lib.hid HI2.out.b
          clear h1
          go_wp2
          go_roundw
          case rel => exact ⟨k + 1, U.length, by omega, by go_num, rfl, by rw [← HLUE.out, ← HLNE.out, HP1.out, List.drop_left], by rw [← HLUE.out]; exact HI3.out, HB3.out⟩
          case measure => simp [intOf]; omega
    · obtain rfl : k = m := by omega
      go_wp2
      go_ret
      exact ⟨_, rfl, by rw [← HLSE.out]; exact HO.out, HB.out⟩
end Go.Proofs.Ytgoghkboklehnaa
