/- Appending to a list of lists: the old row's cells stay as they were (a loop that ranges over a part of the list that it appends to). -/
import Derived.Test.YtbflljcafbneaaaOwnII
namespace Go.Proofs.Ytbflljcafbneaaa
set_option maxRecDepth 20000
set_option linter.unusedVariables false
set_option linter.unusedSimpArgs false
open Go.RowKit

theorem append_keeps {w w' : World} {base : Nat} {t ty e : TypeId} {i : TypeInfo} {z : Value} {size bytes : Nat} (ht : Try.prog.underlying t = some (.slice e)) (hi : Try.prog.info? e = some i) (hz : i.zero = some z)
    (hsize : i.size = size) (hby : i.bytes = bytes) (hsz : 0 < size) {v v' : Value} {n : Nat} {xs : List Value} (hown : w.ownsRow base e size v n xs)
    {a : Addr} {m c : Nat} {news : List Value} (hl : news.length = m * size) (hnews : ∀ j u, news[j]? = some u → w.cell? (a.add j) = some u) (h1 : ∀ u ∈ news, u.oneCell' = true)
    (h63 : n + m ≤ maxLen) (hbytes : (n + m) * bytes ≤ 140737488355328)
    (hr : (Builtin.append_ #[t, t] ty #[v, .slice (some a) m c]).run Try.prog w = .ok v' w') (h2 : w'.ownsRow base e size v' (n + m) (xs ++ news)) :
    ∀ g j u, v.ownBlock = some g → xs[j]? = some u → w'.cell? ⟨g, j, none⟩ = some u := by
  subst hsize
  subst hby
  intro g j u hg hj
  rcases hown.2 with ⟨rfl, _⟩ | ⟨g', cap, cur, rfl, hbg, hh, hnc, hcm, hcs, htake⟩
  · cases hg
  · injection hg with hg
    subst hg
    have hc0 : w.cell? ⟨g', j, none⟩ = some u := by
      have := hown.cells (g := g') rfl j u hj
      rwa [Addr.add_lit, Nat.zero_add] at this
    by_cases hroom : n + m ≤ cap
    · have hfit : n * i.size + news.length ≤ cur.size := by rw [hl, hcs, ← Nat.add_mul]; exact Nat.mul_le_mul_right _ hroom
      have hr2 := run_append_room (P := Try.prog) w t ty e i ht hi g' n cap cur hh a m c news hl hnews h1 hroom hfit
      rw [hr] at hr2
      injection hr2 with e1 e2
      subst e1
      have := h2.cells (g := g') rfl j u (by rw [List.getElem?_append_left (List.getElem?_eq_some_iff.1 hj).1]; exact hj)
      rwa [Addr.add_lit, Nat.zero_add] at this
    · have holds : ∀ j u, xs[j]? = some u → w.cell? ((⟨g', 0, none⟩ : Addr).add j) = some u := hown.cells (g := g') rfl
      have hsmall : n + m ≤ 9223372036854775807 := by simp only [maxLen] at h63; omega
      have hr2 := run_append_grow (P := Try.prog) w t ty e i z ht hi hz ⟨g', 0, none⟩ n cap xs hown.1 holds a m c news hl hnews (by omega) (by omega) (growslice_fits (by omega) hbytes)
      rw [hr] at hr2
      injection hr2 with e1 e2
      subst e2
      have hlt : g' < w.heap.size := World.block_lt_of_cell? w _ hc0
      rw [World.cell?_of_block (w := w) (Below.heap_alloc w.drew _ g' hlt)]
      exact hc0
/-- 'out = append(out, x)', x a list of ints made since; the old row's cells stay. -/
theorem push_ints_keep {lo : Nat} {w0 w : World} {v : Value} {L : List (List Int)} {ops : Array Oper} {rest : List Oper} {o : Oper} {a : Act} {Q : Exit → Act → World → Prop} (hgd : o.guard = none) (s x : Operand)
    (ho : o.op = .call { callee := .builtin .append, args := #[s, x], argTypes := #[23, 23] })
    (hown : OwII lo w0.heap.size v L w0) (hlo : lo ≤ w0.heap.size) (hbel : Below w0.heap.size w0 w) (hs : a.eval s = v) (b : Nat) (z : Value) (d : List Int) {base : Nat} (hx : a.eval x = .slice (some ⟨b, 0, none⟩) 1 1)
    (hel : OwI w base z d) (hbase : w0.heap.size ≤ base) (hc : w.cell? ⟨b, 0, none⟩ = some z) (hz : z.oneCell' = true) (hl : L.length ≤ 1073741824)
    (h : ∀ v' w', OwII lo w'.heap.size v' (L ++ [d]) w' → w.grownBy w' v.ownBlock → (∀ g j u, v.ownBlock = some g → j < L.length → w.cell? ⟨g, j, none⟩ = some u → w'.cell? ⟨g, j, none⟩ = some u) → (v'.ownBlock = v.ownBlock ∨ v'.ownBlock = some w.heap.size) → wpList Try.prog ops Q rest (a.put o.dst v') w') :
    wpList Try.prog ops Q (o :: rest) a w := by
  obtain ⟨i0, hi0, hz0, hz1, hz2⟩ := info_parts ints_info
  have hown' := hown
  obtain ⟨F, ⟨es, e1, e2, e3, rfl⟩, hnF, hF⟩ := hown'
  have hln : es.length = L.length := by rw [← e1]; simp
  rw [hln] at e3
  have hrow := ownsRow_keep e3 (w' := w) fun b hb => hbel.block b (hown.lt hb).2
  have hnews : ∀ (j : Nat) (u : Value), [z][j]? = some u → w.cell? ((⟨b, 0, none⟩ : Addr).add j) = some u := by
    intro j u hj
    match j, hj with
    | 0, hj => simp at hj; subst hj; rw [Addr.add_lit]; exact hc
  have h1 : ∀ u ∈ [z], u.oneCell' = true := fun u hu => by simp at hu; subst hu; exact hz
  refine wpList_plain hgd fun K hK => ?_
  obtain ⟨v', w', hr, h2, h3, h4, h5⟩ := run_append_own_at (P := Try.prog) w 0 23 o.type 22 i0 _ 1 24 Try.underlying23 hi0 hz0 hz1 hz2 rfl (by decide) v L.length _ hrow ⟨b, 0, none⟩ 1 1 [z] rfl hnews h1 (by unfold maxLen; omega) (by omega) (Nat.zero_le _)
  have hk := append_keeps Try.underlying23 hi0 hz0 hz1 hz2 (by decide) hrow (by rfl) hnews h1 (by unfold maxLen; omega) (by omega) hr h2
  unfold Oper.wp execOp
  simp only [ho, resolve, invoke, builtin, Sem.run_bind, Sem.run_pure, Result.andThen_ok, List.map_toArray, List.map_cons, List.map_nil, hs, hx, hr]
  refine hK _ _ (h v' w' ?_ h3 ?_ h5)
  · refine OwnL.push EI.stable hown hbel (EI.of hel) rfl (by cases z.ownBlock <;> simp) (fun k hk => ?_) hlo ?_ h3 h5 fun b hb => (h2.lt b hb).2
    · have := hel.1.lt k (by simpa using hk)
      omega
    · intro es' he'
      have hflat : es'.flatten = (es.map (·.1)).flatten := by
        rcases he'.2 with ⟨hv, hn⟩ | ⟨g, c, cur, hv, _, hh, _, _, _, hcur⟩
        · have q1 := he'.1
          have q2 := hrow.1
          rw [hn, Nat.zero_mul] at q1 q2
          rw [List.eq_nil_of_length_eq_zero q1, List.eq_nil_of_length_eq_zero q2]
        · rcases hrow.2 with ⟨hv', _⟩ | ⟨g', c', cur', hv', _, hh', _, _, _, hcur'⟩
          · rw [hv] at hv'; cases hv'
          · rw [hv] at hv'
            injection hv' with q1
            injection q1 with q1
            injection q1 with q1
            subst q1
            rw [hh] at hh'
            injection hh' with q2
            injection q2 with q2
            subst q2
            rw [← hcur, ← hcur']
      rw [hflat]
      exact h2
  · intro g j u hg hj hcell
    have hlt : j < ((es.map (·.1)).flatten).length := by rw [hrow.1]; omega
    obtain ⟨A, cap, hv, _⟩ := owns_form hrow
    obtain rfl : A = some ⟨g, 0, none⟩ := by
      obtain ⟨A', cap', hv', _, _, _, hA⟩ := owns_form hrow
      obtain ⟨g', hg', _⟩ := hA (by omega)
      rw [hv'] at hv
      injection hv with q _ _
      rw [hv', hg'] at hg
      have hgg : g' = g := by simpa [Value.ownBlock] using hg
      rw [← q, hg', hgg]
    have := hk g j _ hg (List.getElem?_eq_getElem hlt)
    rw [this]
    rw [hv] at hrow
    rw [World.ownsRow.cellAt hrow j (by omega), List.getElem?_eq_getElem hlt] at hcell
    exact hcell
/-- A part of an old row: its cells hold the values hs, that read as the lists L; these lie in blocks below N, not in the row's. -/
def SegI (N g off : Nat) (w : World) (hs : List Value) (L : List (List Int)) : Prop :=
  hs.length = L.length ∧ ∀ i (h : i < hs.length) (h' : i < L.length), w.cell? ⟨g, off + i, none⟩ = some hs[i] ∧ RdI w hs[i] L[i] ∧ ∀ b, hs[i].ownBlock = some b → b < N ∧ b ≠ g
theorem SegI.below {N g off : Nat} {w w' : World} {hs : List Value} {L : List (List Int)} (h : SegI N g off w hs L) (hb : Below w.heap.size w w') : SegI N g off w' hs L :=
  ⟨h.1, fun i h1 h2 => ⟨(hb.cell (World.block_lt_of_cell? w _ (h.2 i h1 h2).1)).trans (h.2 i h1 h2).1, (h.2 i h1 h2).2.1.below hb, (h.2 i h1 h2).2.2⟩⟩
/-- The list is appended to: its row is the old one, or a new one. -/
theorem SegI.push {N g off : Nat} {w w' : World} {hs : List Value} {L : List (List Int)} {v : Value} {n : Nat} (h : SegI N g off w hs L) (hg : w.grownBy w' v.ownBlock) (hv : v.ownBlock = some g ∨ ∃ b, v.ownBlock = some b ∧ N ≤ b ∧ b ≠ g)
    (hn : off + hs.length ≤ n) (hk : ∀ g j u, v.ownBlock = some g → j < n → w.cell? ⟨g, j, none⟩ = some u → w'.cell? ⟨g, j, none⟩ = some u) : SegI N g off w' hs L := by
  refine ⟨h.1, fun i h1 h2 => ?_⟩
  obtain ⟨c, r, hb⟩ := h.2 i h1 h2
  refine ⟨?_, r.grown hg fun b hb1 hb2 => ?_, hb⟩
  · rcases hv with hv | ⟨b, hv, _, hne⟩
    · exact hk g _ _ hv (by omega) c
    · rw [World.cell?_of_block (w := w) (hg.block g (World.block_lt_of_cell? w _ c) fun e => hne (by rw [hv] at e; injection e with e; exact e.symm))]
      exact c
  · have := hb b hb1
    rcases hv with hv | ⟨b', hv, hN, _⟩
    · rw [hv] at hb2; injection hb2 with e; omega
    · rw [hv] at hb2; injection hb2 with e; omega
/-- A list of one's own, looked at as such a row. -/
theorem OwII.seg {lo N : Nat} {w : World} {g n cap : Nat} {L : List (List Int)} (h : OwII lo N (.slice (some ⟨g, 0, none⟩) n cap) L w) (off : Nat) : ∃ hs, SegI N g off w hs (L.drop off) := by
  obtain ⟨F, ⟨es, h1, h2, h3, rfl⟩, hn, hF⟩ := h
  have hl : es.length = L.length := by rw [← h1]; simp
  obtain ⟨f1, f2⟩ := flat_ones es fun e he => (h2 e he).1
  have hnl : es.length = n := by
    rcases h3.2 with ⟨hv, _⟩ | ⟨_, _, _, hv, _⟩
    · cases hv
    · injection hv with _ e _; exact e.symm
  subst hnl
  refine ⟨((es.map (·.1)).flatten).drop off, by rw [List.length_drop, List.length_drop, f1, hl], fun i hi hi' => ?_⟩
  rw [List.length_drop] at hi hi'
  have hie : off + i < es.length := by omega
  have hif : off + i < ((es.map (·.1)).flatten).length := by omega
  rw [List.getElem_drop, List.getElem_drop]
  obtain ⟨s, hs, ho, hFs⟩ := (h2 es[off + i] (by simp)).2
  have e := f2 (off + i) hie hif
  rw [hs] at e
  injection e with e
  rw [← e]
  have e2 : es[off + i].2.1 = L[off + i] := by simp [← h1]
  rw [← e2]
  refine ⟨?_, ho.rd, fun b hb => ?_⟩
  · rw [World.ownsRow.cellAt h3 (off + i) (by omega), List.getElem?_eq_getElem hif, ← e]
  · have hbm : b ∈ (es.map (·.2.2)).flatten := List.mem_flatten.2 ⟨es[off + i].2.2, List.mem_map.2 ⟨es[off + i], by simp, rfl⟩, by rw [hFs, hb]; simp⟩
    refine ⟨(hF b (List.mem_append.2 (.inr hbm))).2, fun e => ?_⟩
    exact (List.nodup_append.1 hn).2.2 g (by simp [Value.ownBlock]) b hbm e.symm
end Go.Proofs.Ytbflljcafbneaaa
