/- Rows of edges appended; graphs copied; an edge put in its place; how many ends a vertex has. -/
import Derived.Test.YtgoghkboklehnaaOrd
import Derived.Test.YtgoghkboklehnaaQuiC
import Derived.Deep.RegionHeld3
namespace Go.Proofs.Ytgoghkboklehnaa
set_option maxRecDepth 20000
set_option linter.unusedVariables false
set_option linter.unusedSimpArgs false
open Go.RowKit

theorem ArgE.cells {w : World} {ad : Addr} {m cap : Nat} {es : List EdD} (h : ArgE w (.slice (some ad) m cap) es) : ∀ j y, (edCs es)[j]? = some y → w.cell? (ad.add j) = some y := by
  intro j y hj
  have hlt : j < es.length * 3 := by
    have := (List.getElem?_eq_some_iff.1 hj).1
    rw [edCs_length] at this
    exact this
  have hk : j / 3 < es.length := by omega
  obtain ⟨b, off, hA, _, c0, c1, c2, _⟩ := h.at hk
  injection hA with hA
  subst hA
  have hg := edCs_get es (j / 3) (j % 3) hk (by omega)
  have e : j / 3 * 3 + j % 3 = j := by omega
  rw [e, hj] at hg
  rw [Addr.add_lit]
  have hr : j % 3 = 0 ∨ j % 3 = 1 ∨ j % 3 = 2 := by omega
  rcases hr with hr | hr | hr
  · rw [hr] at hg
    simp only [edC, List.getElem?_cons_zero] at hg
    rw [hg, ← c0]
    congr 2; omega
  · rw [hr] at hg
    simp only [edC, List.getElem?_cons_zero, List.getElem?_cons_succ] at hg
    rw [hg, ← c1]
    congr 2; omega
  · rw [hr] at hg
    simp only [edC, List.getElem?_cons_zero, List.getElem?_cons_succ] at hg
    rw [hg, ← c2]
    congr 2; omega
/-- 'out = append(out, e)' onto an owned row of edges. -/
theorem push_edge {w : World} {ops : Array Oper} {rest : List Oper} {o : Oper} {a : Act} {Q : Exit → Act → World → Prop} (hgd : o.guard = none) (s x : Operand)
    (ho : o.op = .call { callee := .builtin .append, args := #[s, x], argTypes := #[54, 54] })
    (base : Nat) (v : Value) (es : List EdD) (hown : OwE w base v es) (hs : a.eval s = v) (b : Nat) (e : EdD) (hx : a.eval x = .slice (some ⟨b, 0, none⟩) 1 1)
    (hc : ∀ j u, (edC e)[j]? = some u → w.cell? ⟨b, j, none⟩ = some u) (he : E64 e) (hl : es.length ≤ 1073741824) (hbase : base ≤ w.heap.size)
    (h : ∀ v' w', OwE w' base v' (es ++ [e]) → w.grownBy w' v.ownBlock → (v'.ownBlock = v.ownBlock ∨ v'.ownBlock = some w.heap.size) → wpList Try.prog ops Q rest (a.put o.dst v') w') :
    wpList Try.prog ops Q (o :: rest) a w := by
  obtain ⟨i0, hi0, hz0, hz1, hz2⟩ := info_parts edge_info
  refine wpList_append_own_at _ hgd s x 54 ho base 79 i0 _ 3 24 Try.underlying54 hi0 hz0 hz1 hz2 rfl (by decide) v es.length (edCs es) hs hown.1 ⟨b, 0, none⟩ 1 1 (edC e) hx rfl ?_ ?_ (by unfold maxLen; omega) (by omega) hbase ?_
  · intro j u hj
    rw [Addr.add_lit, Nat.zero_add]
    exact hc j u hj
  · intro u hu
    simp [edC] at hu
    rcases hu with rfl | rfl | rfl <;> rfl
  · intro v' w' h1 h2 h3 h5
    refine h v' w' ⟨?_, E64s_append hown.2 (E64s_one he)⟩ h2 h5
    have e1 : edCs (es ++ [e]) = edCs es ++ edC e := by rw [edCs_append]; simp [edCs]
    rw [e1, List.length_append]
    exact h1
/-- 'append(out, es...)', out an owned row, es a row that is read: at the operation. -/
theorem wp_append_edges {w : World} {o : Oper} {a : Act} {K : Act → World → Prop} {Q : Exit → Act → World → Prop} (s x : Operand)
    (ho : o.op = .call { callee := .builtin .append, args := #[s, x], argTypes := #[54, 54] })
    (base : Nat) (v : Value) (xs : List EdD) (hown : OwE w base v xs) (hs : a.eval s = v) (u : Value) (ys : List EdD) (hr : ArgE w u ys) (hx : a.eval x = u)
    (hl : xs.length + ys.length ≤ 1073741824) (hbase : base ≤ w.heap.size)
    (h : ∀ v' w', OwE w' base v' (xs ++ ys) → w.grownBy w' v.ownBlock → (v'.ownBlock = v.ownBlock ∨ v'.ownBlock = some w.heap.size) → K (a.put o.dst v') w') :
    o.wp Try.prog a w K Q := by
  obtain ⟨i0, hi0, hz0, hz1, hz2⟩ := info_parts edge_info
  have hr0 := hr
  obtain ⟨A, cap, rfl, hc, hm, hn, hE, hb⟩ := hr
  rcases A with _ | ad
  · have h0 : ys = [] := List.eq_nil_of_length_eq_zero (by
      rcases Nat.eq_zero_or_pos ys.length with h0 | h0
      · exact h0
      · obtain ⟨_, _, h, _⟩ := hb h0; cases h)
    subst h0
    obtain rfl := hn rfl
    have hrun := run_append_owned_none (P := Try.prog) w base 54 o.type 79 i0 3 Try.underlying54 hi0 v xs.length (edCs xs) hown.1
    unfold Oper.wp execOp
    simp only [ho, resolve, invoke, builtin, Sem.run_bind, Sem.run_pure, Result.andThen_ok, List.map_toArray, List.map_cons, List.map_nil, hs, hx, List.length_nil, hrun]
    exact h v w (by simpa using hown) (World.grownBy.refl _ _) (.inl rfl)
  · obtain ⟨v', w', hrun, h1, h2, _, h5⟩ := run_append_own_at (P := Try.prog) w base 54 o.type 79 i0 _ 3 24 Try.underlying54 hi0 hz0 hz1 hz2 rfl (by decide) v xs.length (edCs xs) hown.1 ad ys.length cap (edCs ys) (by rw [edCs_length])
      hr0.cells (fun u hu => edCs_one hu) (by unfold maxLen; omega) (by omega) hbase
    unfold Oper.wp execOp
    simp only [ho, resolve, invoke, builtin, Sem.run_bind, Sem.run_pure, Result.andThen_ok, List.map_toArray, List.map_cons, List.map_nil, hs, hx, hrun]
    exact h v' w' ⟨by rw [edCs_append, List.length_append]; exact h1, E64s_append hown.2 hE⟩ h2 h5
theorem append_edges {w : World} {ops : Array Oper} {rest : List Oper} {o : Oper} {a : Act} {Q : Exit → Act → World → Prop} (hgd : o.guard = none) (s x : Operand)
    (ho : o.op = .call { callee := .builtin .append, args := #[s, x], argTypes := #[54, 54] })
    (base : Nat) (v : Value) (xs : List EdD) (hown : OwE w base v xs) (hs : a.eval s = v) (u : Value) (ys : List EdD) (hr : ArgE w u ys) (hx : a.eval x = u)
    (hl : xs.length + ys.length ≤ 1073741824) (hbase : base ≤ w.heap.size)
    (h : ∀ v' w', OwE w' base v' (xs ++ ys) → w.grownBy w' v.ownBlock → (v'.ownBlock = v.ownBlock ∨ v'.ownBlock = some w.heap.size) → wpList Try.prog ops Q rest (a.put o.dst v') w') :
    wpList Try.prog ops Q (o :: rest) a w :=
  wpList_plain hgd fun _ hK => wp_append_edges s x ho base v xs hown hs u ys hr hx hl hbase fun v' w' h1 h2 h3 => hK _ _ (h v' w' h1 h2 h3)
theorem step_append_edges {w : World} {ops : Array Oper} {o : Oper} {a : Act} {K : Act → World → Prop} {Q : Exit → Act → World → Prop} {E : Prop} (hgd : o.guard = none) (s x : Operand)
    (ho : o.op = .call { callee := .builtin .append, args := #[s, x], argTypes := #[54, 54] })
    (base : Nat) (v : Value) (xs : List EdD) (hown : OwE w base v xs) (hs : a.eval s = v) (u : Value) (ys : List EdD) (hr : ArgE w u ys) (hx : a.eval x = u)
    (hl : xs.length + ys.length ≤ 1073741824) (hbase : base ≤ w.heap.size)
    (h : ∀ v' w', OwE w' base v' (xs ++ ys) → w.grownBy w' v.ownBlock → (v'.ownBlock = v.ownBlock ∨ v'.ownBlock = some w.heap.size) → K (a.put o.dst v') w') :
    if Region.wanted o (yielded ops a.tmps) = true then Oper.wp Try.prog o a w K Q else E := by
  have hw : Region.wanted o (yielded ops a.tmps) = true := by simp [Region.wanted, hgd]
  rw [if_pos hw]
  exact wp_append_edges s x ho base v xs hown hs u ys hr hx hl hbase h
theorem OwE_litN (w : World) (N : Nat) (hN : w.heap.size = N) {base : Nat} (hb : base ≤ N) : OwE (w.alloc (.cells #[] 79)) base (.slice (some ⟨N, 0, none⟩) 0 0) [] := by
  subst hN; exact OwE_lit w hb
set_option maxHeartbeats 1000000 in
theorem l4Copy_any (v : Value) (g : GrD) (w : World) (h : ArgG w v g) (hl : g.2.2.length ≤ 1073741824) :
    Calls Try.prog 68 #[v] w fun e w' => ∃ r, e = .returned r ∧ OwG w' w.heap.size r g ∧ Below w.heap.size w w' := by
  obtain ⟨s, rfl, h1, h2, ha⟩ := h
  have H := Lib.hid ha
  obtain ⟨A, cap, rfl⟩ := ha.form
  clear ha
  go_enter Try.func68, Try.ntmps68
  go_wp2_with fail
  go_region_held3 (fun w' => w'.cell? ⟨w.heap.size, 0, none⟩ = some (.int .i64 g.1) ∧ w'.cell? ⟨w.heap.size, 1, none⟩ = some (.int .i64 g.2.1) ∧ w'.cell? ⟨w.heap.size, 2, none⟩ = some (.slice A g.2.2.length cap)) (first | go_keep | (refine ⟨?_, ?_, ?_⟩ <;> (rw [hc _ _ (by omega)]; simp [go_sem])))
    (first | (refine step_append_edges rfl (.tmp 7) (.tmp 9) rfl (w.heap.size + 1 + 1) _ [] (OwE_litN _ (w.heap.size + 1 + 1) (by simp [World.drew, World.drewN]) (Nat.le_refl _)) (by rfl) _ g.2.2 ?_ (by rfl) (by simp; omega) (by simp) ?_; (exact (by repeat (first | exact (Hid.out H) | (refine ArgE.drew ?_) | (refine ArgE.drewN ?_ _) | (refine ArgE.alloc ?_ _)))); intro v1 w1 o1 g1 p1; have O1 := Lib.hid o1; have hb1 := (Below.refl (w.heap.size + 1 + 1) _).grown g1 (by simp) (fun k hk => by simp [Value.ownBlock] at hk; omega); have B1 := Lib.hid hb1; obtain ⟨A1, cap1, rfl, _⟩ := OwE.form o1; obtain ⟨hc, hf⟩ := bcellN hb1; have hz : w.heap.size + 1 + 1 < w1.heap.size := (by have := g1.size; simp at this; omega); clear o1 hb1 g1 p1))
  go_wp2
  refine bodyPost_ret (v := .agg #[.int .i64 g.1, .int .i64 g.2.1, .slice A1 g.2.2.length cap1]) (by simp [results, Try.results68, go_sem, hc, hz]) rfl ⟨_, rfl, ⟨_, rfl, h1, h2, ?_⟩, ?_⟩
  · refine OwE.mono (base := w.heap.size + 1 + 1) ?_ (by omega)
    have O2 : Hid (OwE w1 (w.heap.size + 1 + 1) (.slice A1 g.2.2.length cap1) g.2.2) := Lib.hid (by simpa using O1.out)
    exact (by repeat (first | exact (Hid.out O2) | exact (Hid.out O2).drewN _ | (refine OwE.far ?_ (by first | omega | (simp <;> omega)) _) | (refine OwE.alloc ?_ _) | (refine OwE.drew ?_) | (refine OwE.drewN ?_ _)))
  · exact (by repeat (first | exact Below.refl _ _ | (refine Below.setCell ?_ (by first | omega | (simp <;> omega)) _) | (refine bel_drewN ?_ _) | (refine Below.drew ?_) | (refine Below.alloc ?_ (by first | omega | (simp <;> omega)) _) | (refine Below.trans ?_ (Below.mono (Hid.out B1) (by first | omega | (simp <;> omega))))))
def degE (v : Int) (e : EdD) : Nat := (if e.1 = v then 1 else 0) + (if e.2.2 = v then 1 else 0)
def degL (es : List EdD) (v : Int) : Nat := (es.map (degE v)).sum
theorem degL_succ (es : List EdD) (v : Int) (k : Nat) (h : k < es.length) : degL (es.take (k + 1)) v = degL (es.take k) v + degE v es[k] := by
  unfold degL
  rw [List.take_succ_eq_append_getElem h, List.map_append, List.sum_append]
  simp
theorem degL_le (es : List EdD) (v : Int) (k : Nat) : degL (es.take k) v ≤ 2 * k := by
  have key : ∀ l : List EdD, degL l v ≤ 2 * l.length := by
    intro l
    unfold degL
    induction l with
    | nil => simp
    | cons e l ih =>
      simp only [List.map_cons, List.sum_cons, List.length_cons]
      have : degE v e ≤ 2 := by unfold degE; split <;> split <;> omega
      omega
  have := key (es.take k)
  rw [List.length_take] at this
  omega
end Go.Proofs.Ytgoghkboklehnaa
