/- Lists whose elements hold memory: an element appended, and where the blocks come from. Lists of lists of ints that the caller alone holds. Lists whose elements hold memory of their own: each with its footprint, the list of its blocks. -/
import Derived.Test.YtjmjhhdjlompfaaBase
import Derived.Deep.RegionHeld3
namespace Go.Proofs.Ytjmjhhdjlompfaa
set_option maxRecDepth 20000
set_option linter.unusedVariables false
set_option linter.unusedSimpArgs false
open Go.RowKit

/-- What an element is in memory: its cells, what it reads as, its blocks. It hangs on those blocks alone. -/
abbrev El (α : Type) := World → List Value → α → List Nat → Prop
def Stable {α : Type} (E : El α) : Prop := ∀ w w' cs d F, E w cs d F → (∀ b ∈ F, w'.heap[b]? = w.heap[b]?) → E w' cs d F

/-- v is a row of the elements ds (of type t, 'width' cells each); F: its blocks, the row's own first. -/
def OwLf {α : Type} (E : El α) (t : TypeId) (width : Nat) (w : World) (v : Value) (ds : List α) (F : List Nat) : Prop :=
  ∃ es : List (List Value × α × List Nat), es.map (·.2.1) = ds ∧ (∀ e ∈ es, e.1.length = width ∧ E w e.1 e.2.1 e.2.2) ∧
    w.ownsRow 0 t width v es.length (es.map (·.1)).flatten ∧ F = v.ownBlock.toList ++ (es.map (·.2.2)).flatten

theorem ownsRow_keep {w w' : World} {base : Nat} {e : TypeId} {sz n : Nat} {v : Value} {cs : List Value} (h : w.ownsRow base e sz v n cs) (hb : ∀ b, v.ownBlock = some b → w'.heap[b]? = w.heap[b]?) : w'.ownsRow base e sz v n cs := by
  refine ⟨h.1, ?_⟩
  rcases h.2 with h0 | ⟨g, cap, cur, hv, hg, hh, r⟩
  · exact .inl h0
  · exact .inr ⟨g, cap, cur, hv, hg, by rw [hb g (by rw [hv]; rfl)]; exact hh, r⟩

theorem OwLf.stable {α : Type} {E : El α} (hE : Stable E) {t : TypeId} {width : Nat} {w w' : World} {v : Value} {ds : List α} {F : List Nat}
    (h : OwLf E t width w v ds F) (hb : ∀ b ∈ F, w'.heap[b]? = w.heap[b]?) : OwLf E t width w' v ds F := by
  obtain ⟨es, h1, h2, h3, rfl⟩ := h
  refine ⟨es, h1, fun e he => ⟨(h2 e he).1, hE _ _ _ _ _ (h2 e he).2 fun b hbe => hb b ?_⟩, ownsRow_keep h3 fun b hv => hb b ?_, rfl⟩
  · refine List.mem_append.2 (.inr (List.mem_flatten.2 ⟨e.2.2, List.mem_map.2 ⟨e, he, rfl⟩, hbe⟩))
  · refine List.mem_append.2 (.inl ?_)
    rw [hv]
    simp

theorem stable_list {α : Type} {E : El α} (hE : Stable E) (t : TypeId) (width : Nat) : Stable (fun w cs ds F => ∃ v, cs = [v] ∧ OwLf E t width w v ds F) := by
  rintro w w' cs d F ⟨v, rfl, h⟩ hb
  exact ⟨v, rfl, h.stable hE hb⟩

/-- The list with its blocks from lo on and below hi, each once. -/
def OwnL {α : Type} (E : El α) (t : TypeId) (width : Nat) (lo hi : Nat) (w : World) (v : Value) (ds : List α) : Prop :=
  ∃ F, OwLf E t width w v ds F ∧ F.Nodup ∧ ∀ b ∈ F, lo ≤ b ∧ b < hi

section
variable {α : Type} {E : El α} {t : TypeId} {width : Nat} {w w' w1 w2 : World} {v v' : Value} {ds : List α} {lo hi : Nat}
theorem OwnL.keep (h : OwnL E t width lo hi w v ds) (hE : Stable E) (hb : ∀ b, lo ≤ b → b < hi → w'.heap[b]? = w.heap[b]?) : OwnL E t width lo hi w' v ds := by
  obtain ⟨F, h1, h2, h3⟩ := h
  exact ⟨F, h1.stable hE fun b hbF => hb b (h3 b hbF).1 (h3 b hbF).2, h2, h3⟩
theorem OwnL.widen (h : OwnL E t width lo hi w v ds) {lo' hi' : Nat} (h1 : lo' ≤ lo) (h2 : hi ≤ hi') : OwnL E t width lo' hi' w v ds := by
  obtain ⟨F, a, b, c⟩ := h
  exact ⟨F, a, b, fun x hx => ⟨Nat.le_trans h1 (c x hx).1, Nat.lt_of_lt_of_le (c x hx).2 h2⟩⟩
theorem OwnL.len (h : OwnL E t width lo hi w v ds) : ∃ A cap, v = .slice A ds.length cap ∧ ds.length ≤ cap ∧ cap ≤ maxLen ∧ (A = none → cap = 0) ∧ (0 < ds.length → ∃ g, A = some ⟨g, 0, none⟩ ∧ lo ≤ g ∧ g < hi) := by
  obtain ⟨F, ⟨es, h1, h2, h3, rfl⟩, _, hF⟩ := h
  have hl : es.length = ds.length := by rw [← h1]; simp
  rw [hl] at h3
  obtain ⟨A, cap, hv, a, b, c, d⟩ := owns_form h3
  refine ⟨A, cap, hv, a, b, c, fun h0 => ?_⟩
  obtain ⟨g, hA, _, _⟩ := d h0
  exact ⟨g, hA, hF g (by rw [hv, hA]; simp [Value.ownBlock])⟩
/-- An empty list in a new block, or nil. -/
theorem OwnL.nil (hv : w.ownsRow 0 t width v 0 []) (hb : ∀ b, v.ownBlock = some b → lo ≤ b ∧ b < hi) : OwnL E t width lo hi w v [] := by
  refine ⟨v.ownBlock.toList, ⟨[], rfl, (fun e he => by cases he), by simpa using hv, by simp⟩, ?_, fun b hb' => ?_⟩
  · cases v.ownBlock <;> simp
  · exact hb b (by simpa using hb')
/-- One element more, behind an append. The element was made since w. -/
theorem OwnL.push (hE : Stable E) (h : OwnL E t width lo w.heap.size w v ds) (hbel : Below w.heap.size w w1) {cs : List Value} {d : α} {Fe : List Nat} (hel : E w1 cs d Fe) (hcw : cs.length = width)
    (hnd : Fe.Nodup) (hFe : ∀ b ∈ Fe, w.heap.size ≤ b ∧ b < w1.heap.size) (hlo : lo ≤ w.heap.size)
    (happ : ∀ es : List (List Value), w1.ownsRow 0 t width v ds.length es.flatten → w2.ownsRow 0 t width v' (ds.length + 1) (es.flatten ++ cs)) (hg : w1.grownBy w2 v.ownBlock)
    (hat : v'.ownBlock = v.ownBlock ∨ v'.ownBlock = some w1.heap.size) (hlt : ∀ b, v'.ownBlock = some b → b < w2.heap.size) : OwnL E t width lo w2.heap.size w2 v' (ds ++ [d]) := by
  obtain ⟨F, ⟨es, h1, h2, h3, rfl⟩, hnF, hF⟩ := h
  have hsz := hbel.size
  have hsz2 := hg.size
  have hl : es.length = ds.length := by rw [← h1]; simp
  have hvb : ∀ b, v.ownBlock = some b → lo ≤ b ∧ b < w.heap.size := fun b hb => hF b (by rw [hb]; simp)
  have hmem : ∀ e ∈ es, ∀ b ∈ e.2.2, b ∈ (es.map (·.2.2)).flatten := fun e he b hb => List.mem_flatten.2 ⟨e.2.2, List.mem_map.2 ⟨e, he, rfl⟩, hb⟩
  have hapart : ∀ b ∈ (es.map (·.2.2)).flatten, some b ≠ v.ownBlock := by
    intro b hb hv
    rw [← hv] at hnF
    simp at hnF
    obtain ⟨h, _⟩ := hnF
    obtain ⟨l, hl', hbl⟩ := List.mem_flatten.1 hb
    obtain ⟨e, he, rfl⟩ := List.mem_map.1 hl'
    obtain ⟨a1, a2, a3⟩ := e
    exact h a3 a1 a2 he hbl
  refine ⟨v'.ownBlock.toList ++ ((es.map (·.2.2)).flatten ++ Fe), ⟨es ++ [(cs, d, Fe)], by simp [h1], ?_, ?_, by simp⟩, ?_, ?_⟩
  · intro e he
    rcases List.mem_append.1 he with he | he
    · refine ⟨(h2 e he).1, hE _ _ _ _ _ (h2 e he).2 fun b hb => ?_⟩
      have hlt' := (hF b (List.mem_append.2 (.inr (hmem e he b hb)))).2
      rw [hg.block b (by omega) (hapart b (hmem e he b hb)), hbel.block b hlt']
    · simp at he
      subst he
      refine ⟨hcw, hE _ _ _ _ _ hel fun b hb => hg.block b (hFe b hb).2 fun hv => ?_⟩
      have := hvb b hv.symm
      have := hFe b hb
      omega
  · have h3' := happ (es.map (·.1)) (by rw [hl] at h3; exact ownsRow_keep h3 fun b hb => hbel.block b (hvb b hb).2)
    simpa [hl] using h3'
  · have n1 : ((es.map (·.2.2)).flatten).Nodup := (List.nodup_append.1 hnF).2.1
    have n2 : ((es.map (·.2.2)).flatten ++ Fe).Nodup := by
      refine List.nodup_append.2 ⟨n1, hnd, fun a ha b hb hab => ?_⟩
      have := (hF a (List.mem_append.2 (.inr ha))).2
      have := (hFe b hb).1
      omega
    refine List.nodup_append.2 ⟨?_, n2, fun a ha b hb hab => ?_⟩
    · cases v'.ownBlock <;> simp
    · subst hab
      have ha' : v'.ownBlock = some a := by simpa using ha
      rcases hat with hat | hat
      · rw [hat] at ha'
        rcases List.mem_append.1 hb with hb | hb
        · exact hapart a hb ha'.symm
        · have := hvb a ha'; have := hFe a hb; omega
      · rw [hat] at ha'
        injection ha' with ha'
        rcases List.mem_append.1 hb with hb | hb
        · have := (hF a (List.mem_append.2 (.inr hb))).2; omega
        · have := hFe a hb; omega
  · intro b hb
    rcases List.mem_append.1 hb with hb | hb
    · have hb' : v'.ownBlock = some b := by simpa using hb
      refine ⟨?_, hlt b hb'⟩
      rcases hat with hat | hat
      · rw [hat] at hb'; exact (hvb b hb').1
      · rw [hat] at hb'; injection hb' with hb'; omega
    · rcases List.mem_append.1 hb with hb | hb
      · have := hF b (List.mem_append.2 (.inr hb)); omega
      · have := hFe b hb; omega
/-- An element of the list: its cells lie there; and what becomes of the list where this element alone is changed. -/
theorem OwnL.focus {A : Option Addr} {m cap : Nat} (h : OwnL E t width lo hi w (.slice A m cap) ds) (hE : Stable E) {k : Nat} (hk : k < ds.length) :
    ∃ g cs Fe, A = some ⟨g, 0, none⟩ ∧ lo ≤ g ∧ g < hi ∧ E w cs ds[k] Fe ∧ cs.length = width ∧ (∀ b ∈ Fe, lo ≤ b ∧ b < hi ∧ b ≠ g) ∧ Fe.Nodup ∧ (∀ j (hj : j < cs.length), w.cell? ⟨g, k * width + j, none⟩ = some cs[j]) ∧
      (∀ j, w.frozen? ⟨g, j, none⟩ = false) ∧ g < w.heap.size ∧
      ∀ w' cs' d', (∀ pre post, pre.length = k * width → w.ownsRow 0 t width (.slice A m cap) ds.length (pre ++ cs ++ post) → w'.ownsRow 0 t width (.slice A m cap) ds.length (pre ++ cs' ++ post)) → cs'.length = width → E w' cs' d' Fe →
        (∀ b, b < hi → b ≠ g → b ∉ Fe → w'.heap[b]? = w.heap[b]?) → OwnL E t width lo hi w' (.slice A m cap) (ds.set k d') := by
  obtain ⟨F, ⟨es, h1, h2, h3, rfl⟩, hnF, hF⟩ := h
  have hl : es.length = ds.length := by rw [← h1]; simp
  rw [hl] at h3
  obtain ⟨p, x, q, rfl, hp⟩ : ∃ p x q, es = p ++ x :: q ∧ p.length = k := ⟨es.take k, es[k], es.drop (k + 1), by rw [← List.drop_eq_getElem_cons (by omega), List.take_append_drop], by simp; omega⟩
  obtain ⟨A', cap', hv, _, _, _, hg⟩ := owns_form h3
  obtain ⟨g, hA, hge, _⟩ := hg (by omega)
  injection hv with e1 e2 e3
  subst e1 e2 e3 hA
  obtain ⟨cs, d, Fe⟩ := x
  have hgF := hF g (by simp [Value.ownBlock])
  have hd : ds[k] = d := by simp [← h1, ← hp]
  have hx := h2 (cs, d, Fe) (by simp)
  simp only [List.map_append, List.map_cons, List.flatten_append, List.flatten_cons, Value.ownBlock, Option.toList_some] at h3 hnF hF
  have hpl : ((p.map (·.1)).flatten).length = k * width := by
    have : ∀ l : List (List Value × α × List Nat), (∀ e ∈ l, e.1.length = width) → ((l.map (·.1)).flatten).length = l.length * width := by
      intro l hl
      induction l with
      | nil => simp
      | cons e l ih =>
        simp only [List.map_cons, List.flatten_cons, List.length_append, List.length_cons, ih fun e he => hl e (by simp [he]), hl e (by simp), Nat.add_mul]
        omega
    rw [this p fun e he => (h2 e (by simp [he])).1, hp]
  have hng := (List.nodup_append.1 hnF).2.2 g (by simp)
  have hn2 := (List.nodup_append.1 hnF).2.1
  obtain ⟨np, nq, npq⟩ := List.nodup_append.1 hn2
  obtain ⟨nF, nq2, nFq⟩ := List.nodup_append.1 nq
  have hlen := h3.1
  have hx1 : cs.length = width := hx.1
  simp only [List.length_append, hpl, hx1] at hlen
  refine ⟨g, cs, Fe, rfl, hgF.1, hgF.2, by rw [hd]; exact hx.2, hx.1, fun b hb => ?_, nF, fun j hj => ?_, fun j => h3.frozenAt j, ?_, ?_⟩
  · have hb' := hF b (by simp [hb])
    exact ⟨hb'.1, hb'.2, fun e => hng b (by simp [hb]) e.symm⟩
  · have hj' : k * width + j < ds.length * width := by omega
    rw [h3.cellAt _ hj', List.getElem?_append_right (by omega), hpl, Nat.add_sub_cancel_left, List.getElem?_append_left hj, List.getElem?_eq_getElem hj]
  · exact (h3.lt g rfl).2
  · intro w' cs' d' hrow hcs' hE' hoth
    have hmem : ∀ e, e ∈ p ∨ e ∈ q → ∀ b ∈ e.2.2, b < hi ∧ b ≠ g ∧ b ∉ Fe := by
      intro e he b hb
      have hbm : b ∈ (p.map (·.2.2)).flatten ∨ b ∈ (q.map (·.2.2)).flatten := by
        rcases he with he | he
        · exact .inl (List.mem_flatten.2 ⟨e.2.2, List.mem_map.2 ⟨e, he, rfl⟩, hb⟩)
        · exact .inr (List.mem_flatten.2 ⟨e.2.2, List.mem_map.2 ⟨e, he, rfl⟩, hb⟩)
      refine ⟨(hF b ?_).2, fun e' => hng b ?_ e'.symm, fun hbF => ?_⟩
      · refine List.mem_append.2 (.inr ?_)
        rcases hbm with hbm | hbm
        · exact List.mem_append.2 (.inl hbm)
        · exact List.mem_append.2 (.inr (List.mem_append.2 (.inr hbm)))
      · rcases hbm with hbm | hbm
        · exact List.mem_append.2 (.inl hbm)
        · exact List.mem_append.2 (.inr (List.mem_append.2 (.inr hbm)))
      · rcases hbm with hbm | hbm
        · exact npq b hbm b (List.mem_append.2 (.inl hbF)) rfl
        · exact nFq b hbF b hbm rfl
    refine ⟨g :: ((p.map (·.2.2)).flatten ++ (Fe ++ (q.map (·.2.2)).flatten)), ⟨p ++ (cs', d', Fe) :: q, ?_, ?_, ?_, ?_⟩, ?_, ?_⟩
    · rw [← h1]
      simp only [List.map_append, List.map_cons]
      rw [List.set_append_right _ _ (by simp [hp]), List.length_map, hp, Nat.sub_self, List.set_cons_zero]
    · intro e he
      simp only [List.mem_append, List.mem_cons] at he
      rcases he with he | rfl | he
      · exact ⟨(h2 e (by simp [he])).1, hE _ _ _ _ _ (h2 e (by simp [he])).2 fun b hb => hoth b (hmem e (.inl he) b hb).1 (hmem e (.inl he) b hb).2.1 (hmem e (.inl he) b hb).2.2⟩
      · exact ⟨hcs', hE'⟩
      · exact ⟨(h2 e (by simp [he])).1, hE _ _ _ _ _ (h2 e (by simp [he])).2 fun b hb => hoth b (hmem e (.inr he) b hb).1 (hmem e (.inr he) b hb).2.1 (hmem e (.inr he) b hb).2.2⟩
    · have := hrow (p.map (·.1)).flatten (q.map (·.1)).flatten hpl (by simpa using h3)
      simp only [List.map_append, List.map_cons, List.flatten_append, List.flatten_cons, List.length_append, List.length_cons, List.append_assoc] at this hl ⊢
      rw [hl]
      exact this
    · simp [Value.ownBlock]
    · simpa using hnF
    · intro b hb
      exact hF b (by simpa using hb)
theorem OwnL.lt {b : Nat} (h : OwnL E t width lo hi w v ds) (hb : v.ownBlock = some b) : lo ≤ b ∧ b < hi := by
  obtain ⟨F, ⟨es, h1, h2, h3, rfl⟩, hnF, hF⟩ := h
  exact hF b (by rw [hb]; simp)
theorem bel_own {B : Nat} {w0 w3 : World} (hb : Below B w0 w1) (ho : OwnL E t width lo hi w v ds) (hlo : B ≤ lo) (hs : B ≤ w1.heap.size) (hg : w1.grownBy w3 v.ownBlock) : Below B w0 w3 :=
  hb.grown hg hs fun k hk => Nat.le_trans hlo (ho.lt hk).1
/-- A store into a cell of the row, as focus wants it. -/
theorem row_store {g n m cap j k : Nat} {pre cs post : List Value} {u : Value} (h : w.ownsRow 0 t width (.slice (some ⟨g, 0, none⟩) m cap) n (pre ++ cs ++ post)) (hp : pre.length = k * width) (hj : j < cs.length) :
    (w.setCell ⟨g, k * width + j, none⟩ u).ownsRow 0 t width (.slice (some ⟨g, 0, none⟩) m cap) n (pre ++ cs.set j u ++ post) := by
  obtain rfl : n = m := by
    rcases h.2 with ⟨hv, _⟩ | ⟨_, _, _, hv, _⟩
    · cases hv
    · injection hv with _ e _; exact e.symm
  have := (h.stored (k * width + j) u).1
  rw [List.append_assoc, List.set_append_right _ _ (by omega), hp, Nat.add_sub_cancel_left, List.set_append_left _ _ hj, ← List.append_assoc] at this
  exact this
end
/-- An element appended to a list of its own. -/
theorem push_own {α : Type} {E : El α} (hE : Stable E) {t ts : TypeId} {ti : TypeInfo} {z : Value} {width bytes lo : Nat} {w0 w : World} {v : Value} {ds : List α} {ops : Array Oper} {rest : List Oper} {o : Oper} {a : Act} {Q : Exit → Act → World → Prop} (hgd : o.guard = none) (s x : Operand)
    (ho : o.op = .call { callee := .builtin .append, args := #[s, x], argTypes := #[ts, ts] })
    (ht : Try.prog.underlying ts = some (.slice t)) (hi : Try.prog.info? t = some ti) (hz : ti.zero = some z) (hsize : ti.size = width) (hby : ti.bytes = bytes) (hzs : z.cells.size = width) (hsz : 0 < width) (hb0 : bytes ≤ 128)
    (hown : OwnL E t width lo w0.heap.size w0 v ds) (hlo : lo ≤ w0.heap.size) (hbel : Below w0.heap.size w0 w) (hs : a.eval s = v) (b : Nat) (cs : List Value) (d : α) (Fe : List Nat) (hx : a.eval x = .slice (some ⟨b, 0, none⟩) 1 1)
    (hel : E w cs d Fe) (hcs : cs.length = width) (hnd : Fe.Nodup) (hFe : ∀ b ∈ Fe, w0.heap.size ≤ b ∧ b < w.heap.size) (hc : ∀ j u, cs[j]? = some u → w.cell? ⟨b, j, none⟩ = some u) (h1 : ∀ u ∈ cs, u.oneCell' = true) (hl : ds.length ≤ 1073741824)
    (h : ∀ v' w', OwnL E t width lo w'.heap.size w' v' (ds ++ [d]) → w.grownBy w' v.ownBlock → wpList Try.prog ops Q rest (a.put o.dst v') w') :
    wpList Try.prog ops Q (o :: rest) a w := by
  have hown' := hown
  obtain ⟨F, ⟨es, e1, e2, e3, rfl⟩, hnF, hF⟩ := hown'
  have hln : es.length = ds.length := by rw [← e1]; simp
  rw [hln] at e3
  have hrow := ownsRow_keep e3 (w' := w) fun b hb => hbel.block b (hown.lt hb).2
  refine wpList_append_own_at _ hgd s x ts ho 0 t ti z width bytes ht hi hz hsize hby hzs hsz v ds.length _ hs hrow ⟨b, 0, none⟩ 1 1 cs hx (by omega) ?_ h1 (by unfold maxLen; omega) ?_ (Nat.zero_le _) ?_
  · intro j u hj
    have e : (⟨b, 0, none⟩ : Addr).add j = ⟨b, j, none⟩ := by simp [Addr.add]; intro h; exact h.symm
    rw [e]; exact hc j u hj
  · calc (ds.length + 1) * bytes ≤ 1073741825 * 128 := Nat.mul_le_mul (by omega) hb0
      _ ≤ 140737488355328 := by decide
  · intro v' w' h2 h3 _ h5
    refine h v' w' (OwnL.push hE hown hbel hel hcs hnd hFe hlo ?_ h3 h5 fun b hb => (h2.lt b hb).2) h3
    intro es' he'
    obtain ⟨v2, w2, q⟩ : ∃ v2 w2, v2 = v' ∧ w2 = w' := ⟨_, _, rfl, rfl⟩
    have hflat : es'.flatten = (es.map (·.1)).flatten := by
      rcases he'.2 with ⟨hv, hn⟩ | ⟨g, c, cur, hv, _, hh, _, _, _, hcur⟩
      · have q1 := he'.1
        have q2 := hrow.1
        rw [hn, Nat.zero_mul] at q1 q2
        rw [List.eq_nil_of_length_eq_zero q1, List.eq_nil_of_length_eq_zero q2]
      · rcases hrow.2 with ⟨hv', _⟩ | ⟨g', c', cur', hv', _, hh', _, _, _, hcur'⟩
        · rw [hv] at hv'; cases hv'
        · rw [hv] at hv'
          injection hv' with q1
          injection q1 with q1
          injection q1 with q1
          subst q1
          rw [hh] at hh'
          injection hh' with q2
          injection q2 with q2
          subst q2
          rw [← hcur, ← hcur']
    rw [hflat]
    exact h2
theorem RdI_new1 (w : World) (z : Int) (hz : I64 z) : RdI (w.alloc (.cells #[.int .i64 z] 3)) (.slice (some ⟨w.heap.size, 0, none⟩) 1 1) [z] :=
  (OwI_lit w [z] (fun x hx => by simp at hx; subst hx; exact hz) (by simp) (Nat.le_refl _)).rd
def EI : El (List Int) := fun w cs d F => ∃ s, cs = [s] ∧ OwI w 0 s d ∧ F = s.ownBlock.toList
theorem EI.stable : Stable EI := by
  rintro w w' cs d F ⟨s, rfl, ho, rfl⟩ hb
  exact ⟨s, rfl, ⟨ownsRow_keep ho.1 fun b h => hb b (by rw [h]; simp), ho.2⟩, rfl⟩
theorem EI.of {w : World} {s : Value} {xs : List Int} {base : Nat} (h : OwI w base s xs) : EI w [s] xs s.ownBlock.toList := ⟨s, rfl, h.mono (Nat.zero_le _), rfl⟩
abbrev OwII (lo hi : Nat) (v : Value) (L : List (List Int)) (w : World) : Prop := OwnL EI 30 1 lo hi w v L
theorem OwII_lit (w : World) {lo : Nat} (h : lo ≤ w.heap.size) : OwII lo (w.heap.size + 1) (.slice (some ⟨w.heap.size, 0, none⟩) 0 0) [] (w.alloc (.cells #[] 30)) := by
  refine OwnL.nil ?_ fun b hb => ?_
  · have := World.ownsRow_lit (e := 30) (size := 1) (base := 0) w #[] 0 (Nat.zero_le _) (by unfold maxLen; omega) (by simp)
    simpa using this
  · simp [Value.ownBlock] at hb; omega
theorem flat_ones (es : List (List Value × List Int × List Nat)) (h : ∀ e ∈ es, e.1.length = 1) : ((es.map (·.1)).flatten).length = es.length ∧ ∀ i (hi : i < es.length) (hi' : i < ((es.map (·.1)).flatten).length), es[i].1 = [((es.map (·.1)).flatten)[i]] := by
  induction es with
  | nil => exact ⟨rfl, fun i hi => by simp at hi⟩
  | cons e es ih =>
    have he := h e (by simp)
    obtain ⟨x, hx⟩ : ∃ x, e.1 = [x] := by
      match hh : e.1 with
      | [] => rw [hh] at he; simp at he
      | [x] => exact ⟨x, rfl⟩
      | a :: b :: l => rw [hh] at he; simp at he
    obtain ⟨i1, i2⟩ := ih fun e' he' => h e' (by simp [he'])
    have e3 : ((e :: es).map (·.1)).flatten = x :: (es.map (·.1)).flatten := by simp [hx]
    refine ⟨by rw [e3]; simp [i1], fun i hi hi' => ?_⟩
    match i with
    | 0 => simp [e3, hx]
    | j + 1 =>
      have := i2 j (by simpa using hi) (by simp [i1]; simpa using hi)
      simp only [e3, List.getElem_cons_succ]
      exact this
/-- It reads as the list. -/
theorem OwII.rd {lo hi : Nat} {v : Value} {L : List (List Int)} {w : World} (h : OwII lo hi v L w) : RdII w v L := by
  obtain ⟨F, ⟨es, h1, h2, h3, rfl⟩, _, _⟩ := h
  have hl : es.length = L.length := by rw [← h1]; simp
  rw [hl] at h3
  obtain ⟨f1, f2⟩ := flat_ones es fun e he => (h2 e he).1
  refine ⟨(es.map (·.1)).flatten, by rw [f1, hl], RdV.of_own h3, fun i hi hi' => ?_⟩
  have hie : i < es.length := by omega
  obtain ⟨s, hs, ho, _⟩ := (h2 es[i] (by simp)).2
  have e := f2 i hie hi'
  rw [hs] at e
  injection e with e
  rw [← e]
  have e2 : es[i].2.1 = L[i] := by simp [← h1]
  rw [← e2]
  exact ho.rd
/-- 'out = append(out, x)', x a list of ints made since. -/
theorem push_ints {lo : Nat} {w0 w : World} {v : Value} {L : List (List Int)} {ops : Array Oper} {rest : List Oper} {o : Oper} {a : Act} {Q : Exit → Act → World → Prop} (hgd : o.guard = none) (s x : Operand)
    (ho : o.op = .call { callee := .builtin .append, args := #[s, x], argTypes := #[24, 24] })
    (hown : OwII lo w0.heap.size v L w0) (hlo : lo ≤ w0.heap.size) (hbel : Below w0.heap.size w0 w) (hs : a.eval s = v) (b : Nat) (z : Value) (d : List Int) {base : Nat} (hx : a.eval x = .slice (some ⟨b, 0, none⟩) 1 1)
    (hel : OwI w base z d) (hbase : w0.heap.size ≤ base) (hc : w.cell? ⟨b, 0, none⟩ = some z) (hz : z.oneCell' = true) (hl : L.length ≤ 1073741824)
    (h : ∀ v' w', OwII lo w'.heap.size v' (L ++ [d]) w' → w.grownBy w' v.ownBlock → wpList Try.prog ops Q rest (a.put o.dst v') w') :
    wpList Try.prog ops Q (o :: rest) a w := by
  obtain ⟨i0, hi0, hz0, hz1, hz2⟩ := info_parts ints_info
  refine push_own EI.stable hgd s x ho Try.underlying24 hi0 hz0 hz1 hz2 rfl (by decide) (by decide) hown hlo hbel hs b [z] d _ hx (EI.of hel) rfl ?_ ?_ ?_ ?_ hl h
  · cases z.ownBlock <;> simp
  · intro k hk
    have := hel.1.lt k (by simpa using hk)
    omega
  · intro j u hj
    match j, hj with
    | 0, hj => simp at hj; subst hj; exact hc
  · intro u hu; simp at hu; subst hu; exact hz
theorem slice_one (A : Option Addr) (n c : Nat) : (Value.slice A n c).oneCell' = true := rfl
theorem OwLf.mem {α : Type} {E : El α} {t : TypeId} {width : Nat} {w : World} {v : Value} {ds : List α} {F : List Nat} (h : OwLf E t width w v ds F) {b : Nat} (hb : v.ownBlock = some b) : b ∈ F := by
  obtain ⟨es, h1, h2, h3, rfl⟩ := h
  rw [hb]; simp
/-- An element appended; where the blocks come from is told. -/
theorem push_ownF {α : Type} {E : El α} (hE : Stable E) {t ts : TypeId} {ti : TypeInfo} {z : Value} {width bytes : Nat} {w0 w : World} {v : Value} {ds : List α} {F : List Nat} {ops : Array Oper} {rest : List Oper} {o : Oper} {a : Act} {Q : Exit → Act → World → Prop} (hgd : o.guard = none) (s x : Operand)
    (ho : o.op = .call { callee := .builtin .append, args := #[s, x], argTypes := #[ts, ts] })
    (ht : Try.prog.underlying ts = some (.slice t)) (hi : Try.prog.info? t = some ti) (hz : ti.zero = some z) (hsize : ti.size = width) (hby : ti.bytes = bytes) (hzs : z.cells.size = width) (hsz : 0 < width) (hb0 : bytes ≤ 128)
    (hown : OwLf E t width w0 v ds F) (hnF : F.Nodup) (hF : ∀ b ∈ F, b < w0.heap.size) (hbel : Below w0.heap.size w0 w) (hs : a.eval s = v) (b : Nat) (cs : List Value) (d : α) (Fe : List Nat) (hx : a.eval x = .slice (some ⟨b, 0, none⟩) 1 1)
    (hel : E w cs d Fe) (hcs : cs.length = width) (hnd : Fe.Nodup) (hFe : ∀ b ∈ Fe, w0.heap.size ≤ b ∧ b < w.heap.size) (hc : ∀ j u, cs[j]? = some u → w.cell? ⟨b, j, none⟩ = some u) (h1 : ∀ u ∈ cs, u.oneCell' = true) (hl : ds.length ≤ 1073741824)
    (h : ∀ v' w' F', OwLf E t width w' v' (ds ++ [d]) F' → F'.Nodup → (∀ b ∈ F', (b ∈ F ∨ w0.heap.size ≤ b) ∧ b < w'.heap.size) → w.grownBy w' v.ownBlock → wpList Try.prog ops Q rest (a.put o.dst v') w') :
    wpList Try.prog ops Q (o :: rest) a w := by
  obtain ⟨es, e1, e2, e3, rfl⟩ := hown
  have hln : es.length = ds.length := by rw [← e1]; simp
  have hvb : ∀ b, v.ownBlock = some b → b < w0.heap.size := fun b hb => hF b (by rw [hb]; simp)
  rw [hln] at e3
  have hrow := ownsRow_keep e3 (w' := w) fun b hb => hbel.block b (hvb b hb)
  refine wpList_append_own_at _ hgd s x ts ho 0 t ti z width bytes ht hi hz hsize hby hzs hsz v ds.length _ hs hrow ⟨b, 0, none⟩ 1 1 cs hx (by omega) ?_ h1 (by unfold maxLen; omega) ?_ (Nat.zero_le _) ?_
  · intro j u hj
    have e : (⟨b, 0, none⟩ : Addr).add j = ⟨b, j, none⟩ := by simp [Addr.add]; intro h; exact h.symm
    rw [e]; exact hc j u hj
  · calc (ds.length + 1) * bytes ≤ 1073741825 * 128 := Nat.mul_le_mul (by omega) hb0
      _ ≤ 140737488355328 := by decide
  · intro v' w' h2 hg _ hat
    have hsz := hbel.size
    have hsz2 := hg.size
    have hmem : ∀ e ∈ es, ∀ b ∈ e.2.2, b ∈ (es.map (·.2.2)).flatten := fun e he b hb => List.mem_flatten.2 ⟨e.2.2, List.mem_map.2 ⟨e, he, rfl⟩, hb⟩
    have hapart : ∀ b ∈ (es.map (·.2.2)).flatten, some b ≠ v.ownBlock := by
      intro b hb hv
      rw [← hv] at hnF
      exact (List.nodup_append.1 hnF).2.2 b (by simp) b hb rfl
    refine h v' w' (v'.ownBlock.toList ++ ((es.map (·.2.2)).flatten ++ Fe)) ⟨es ++ [(cs, d, Fe)], by simp [e1], ?_, ?_, by simp⟩ ?_ ?_ hg
    · intro e he
      rcases List.mem_append.1 he with he | he
      · refine ⟨(e2 e he).1, hE _ _ _ _ _ (e2 e he).2 fun b hb => ?_⟩
        have hlt' := hF b (List.mem_append.2 (.inr (hmem e he b hb)))
        rw [hg.block b (by omega) (hapart b (hmem e he b hb)), hbel.block b hlt']
      · simp at he
        subst he
        refine ⟨hcs, hE _ _ _ _ _ hel fun b hb => hg.block b (hFe b hb).2 fun hv => ?_⟩
        have := hvb b hv.symm
        have := hFe b hb
        omega
    · simpa [hln] using h2
    · have n1 : ((es.map (·.2.2)).flatten).Nodup := (List.nodup_append.1 hnF).2.1
      have n2 : ((es.map (·.2.2)).flatten ++ Fe).Nodup := by
        refine List.nodup_append.2 ⟨n1, hnd, fun a ha b hb hab => ?_⟩
        have := hF a (List.mem_append.2 (.inr ha))
        have := (hFe b hb).1
        omega
      refine List.nodup_append.2 ⟨?_, n2, fun a ha b hb hab => ?_⟩
      · cases v'.ownBlock <;> simp
      · subst hab
        have ha' : v'.ownBlock = some a := by simpa using ha
        rcases hat with hat | hat
        · rw [hat] at ha'
          rcases List.mem_append.1 hb with hb | hb
          · exact hapart a hb ha'.symm
          · have := hvb a ha'; have := hFe a hb; omega
        · rw [hat] at ha'
          injection ha' with ha'
          rcases List.mem_append.1 hb with hb | hb
          · have := hF a (List.mem_append.2 (.inr hb)); omega
          · have := hFe a hb; omega
    · intro b hb
      rcases List.mem_append.1 hb with hb | hb
      · have hb' : v'.ownBlock = some b := by simpa using hb
        refine ⟨?_, (h2.lt b hb').2⟩
        rcases hat with hat | hat
        · rw [hat] at hb'; exact .inl (List.mem_append.2 (.inl (by rw [hb']; simp)))
        · rw [hat] at hb'; injection hb' with hb'; exact .inr (by omega)
      · rcases List.mem_append.1 hb with hb | hb
        · have := hF b (List.mem_append.2 (.inr hb)); exact ⟨.inl (List.mem_append.2 (.inr hb)), by omega⟩
        · have := hFe b hb; exact ⟨.inr (by omega), by omega⟩
theorem wp_push_ownF {α : Type} {E : El α} (hE : Stable E) {t ts : TypeId} {ti : TypeInfo} {z : Value} {width bytes : Nat} {w0 w : World} {v : Value} {ds : List α} {F : List Nat} {o : Oper} {a : Act} {K : Act → World → Prop} {Q : Exit → Act → World → Prop} (s x : Operand)
    (ho : o.op = .call { callee := .builtin .append, args := #[s, x], argTypes := #[ts, ts] })
    (ht : Try.prog.underlying ts = some (.slice t)) (hi : Try.prog.info? t = some ti) (hz : ti.zero = some z) (hsize : ti.size = width) (hby : ti.bytes = bytes) (hzs : z.cells.size = width) (hsz : 0 < width) (hb0 : bytes ≤ 128)
    (hown : OwLf E t width w0 v ds F) (hnF : F.Nodup) (hF : ∀ b ∈ F, b < w0.heap.size) (hbel : Below w0.heap.size w0 w) (hs : a.eval s = v) (b : Nat) (cs : List Value) (d : α) (Fe : List Nat) (hx : a.eval x = .slice (some ⟨b, 0, none⟩) 1 1)
    (hel : E w cs d Fe) (hcs : cs.length = width) (hnd : Fe.Nodup) (hFe : ∀ b ∈ Fe, w0.heap.size ≤ b ∧ b < w.heap.size) (hc : ∀ j u, cs[j]? = some u → w.cell? ⟨b, j, none⟩ = some u) (h1 : ∀ u ∈ cs, u.oneCell' = true) (hl : ds.length ≤ 1073741824)
    (h : ∀ v' w' F', OwLf E t width w' v' (ds ++ [d]) F' → F'.Nodup → (∀ b ∈ F', (b ∈ F ∨ w0.heap.size ≤ b) ∧ b < w'.heap.size) → w.grownBy w' v.ownBlock → (v'.ownBlock = v.ownBlock ∨ v'.ownBlock = some w.heap.size) → K (a.put o.dst v') w') :
    o.wp Try.prog a w K Q := by
  obtain ⟨es, e1, e2, e3, rfl⟩ := hown
  have hln : es.length = ds.length := by rw [← e1]; simp
  have hvb : ∀ b, v.ownBlock = some b → b < w0.heap.size := fun b hb => hF b (by rw [hb]; simp)
  rw [hln] at e3
  have hrow := ownsRow_keep e3 (w' := w) fun b hb => hbel.block b (hvb b hb)
  have hcc : ∀ j u, cs[j]? = some u → w.cell? ((⟨b, 0, none⟩ : Addr).add j) = some u := fun j u hj => by
    have e : (⟨b, 0, none⟩ : Addr).add j = ⟨b, j, none⟩ := by simp [Addr.add]; intro h; exact h.symm
    rw [e]; exact hc j u hj
  have hroom : (ds.length + 1) * bytes ≤ 140737488355328 := by
    calc (ds.length + 1) * bytes ≤ 1073741825 * 128 := Nat.mul_le_mul (by omega) hb0
      _ ≤ 140737488355328 := by decide
  obtain ⟨v', w', hrun, h2, hg, _, hat⟩ := run_append_own_at (P := Try.prog) w 0 ts o.type t ti z width bytes ht hi hz hsize hby hzs hsz v ds.length _ hrow ⟨b, 0, none⟩ 1 1 cs (by omega) hcc h1 (by unfold maxLen; omega) hroom (Nat.zero_le _)
  unfold Oper.wp execOp
  simp only [ho, resolve, invoke, builtin, Sem.run_bind, Sem.run_pure, Result.andThen_ok, List.map_toArray, List.map_cons, List.map_nil, hs, hx, hrun]
  show K (a.put o.dst v') w'
  have hsz := hbel.size
  have hsz2 := hg.size
  have hmem : ∀ e ∈ es, ∀ b ∈ e.2.2, b ∈ (es.map (·.2.2)).flatten := fun e he b hb => List.mem_flatten.2 ⟨e.2.2, List.mem_map.2 ⟨e, he, rfl⟩, hb⟩
  have hapart : ∀ b ∈ (es.map (·.2.2)).flatten, some b ≠ v.ownBlock := by
    intro b hb hv
    rw [← hv] at hnF
    exact (List.nodup_append.1 hnF).2.2 b (by simp) b hb rfl
  refine h v' w' (v'.ownBlock.toList ++ ((es.map (·.2.2)).flatten ++ Fe)) ⟨es ++ [(cs, d, Fe)], by simp [e1], ?_, ?_, by simp⟩ ?_ ?_ hg hat
  · intro e he
    rcases List.mem_append.1 he with he | he
    · refine ⟨(e2 e he).1, hE _ _ _ _ _ (e2 e he).2 fun b hb => ?_⟩
      have hlt' := hF b (List.mem_append.2 (.inr (hmem e he b hb)))
      rw [hg.block b (by omega) (hapart b (hmem e he b hb)), hbel.block b hlt']
    · simp at he
      subst he
      refine ⟨hcs, hE _ _ _ _ _ hel fun b hb => hg.block b (hFe b hb).2 fun hv => ?_⟩
      have := hvb b hv.symm
      have := hFe b hb
      omega
  · simpa [hln] using h2
  · have n1 : ((es.map (·.2.2)).flatten).Nodup := (List.nodup_append.1 hnF).2.1
    have n2 : ((es.map (·.2.2)).flatten ++ Fe).Nodup := by
      refine List.nodup_append.2 ⟨n1, hnd, fun a ha b hb hab => ?_⟩
      have := hF a (List.mem_append.2 (.inr ha))
      have := (hFe b hb).1
      omega
    refine List.nodup_append.2 ⟨?_, n2, fun a ha b hb hab => ?_⟩
    · cases v'.ownBlock <;> simp
    · subst hab
      have ha' : v'.ownBlock = some a := by simpa using ha
      rcases hat with hat | hat
      · rw [hat] at ha'
        rcases List.mem_append.1 hb with hb | hb
        · exact hapart a hb ha'.symm
        · have := hvb a ha'; have := hFe a hb; omega
      · rw [hat] at ha'
        injection ha' with ha'
        rcases List.mem_append.1 hb with hb | hb
        · have := hF a (List.mem_append.2 (.inr hb)); omega
        · have := hFe a hb; omega
  · intro b hb
    rcases List.mem_append.1 hb with hb | hb
    · have hb' : v'.ownBlock = some b := by simpa using hb
      refine ⟨?_, (h2.lt b hb').2⟩
      rcases hat with hat | hat
      · rw [hat] at hb'; exact .inl (List.mem_append.2 (.inl (by rw [hb']; simp)))
      · rw [hat] at hb'; injection hb' with hb'; exact .inr (by omega)
    · rcases List.mem_append.1 hb with hb | hb
      · have := hF b (List.mem_append.2 (.inr hb)); exact ⟨.inl (List.mem_append.2 (.inr hb)), by omega⟩
      · have := hFe b hb; exact ⟨.inr (by omega), by omega⟩
/-- 'out = append(out, row)' in a drawn region; where the blocks come from is told. -/
theorem step_push_ints {w0 w : World} {v : Value} {L : List (List Int)} {F : List Nat} {ops : Array Oper} {o : Oper} {a : Act} {K : Act → World → Prop} {Q : Exit → Act → World → Prop} {E : Prop} (hgd : o.guard = none) (s x : Operand)
    (ho : o.op = .call { callee := .builtin .append, args := #[s, x], argTypes := #[24, 24] })
    (hown : OwLf EI 30 1 w0 v L F) (hnF : F.Nodup) (hF : ∀ b ∈ F, b < w0.heap.size) (hbel : Below w0.heap.size w0 w) (hs : a.eval s = v) (b : Nat) (z : Value) (d : List Int) {base : Nat} (hx : a.eval x = .slice (some ⟨b, 0, none⟩) 1 1)
    (hel : OwI w base z d) (hbase : w0.heap.size ≤ base) (hc : w.cell? ⟨b, 0, none⟩ = some z) (hz : z.oneCell' = true) (hl : L.length ≤ 1073741824)
    (h : ∀ v' w' F', OwLf EI 30 1 w' v' (L ++ [d]) F' → F'.Nodup → (∀ b ∈ F', (b ∈ F ∨ w0.heap.size ≤ b) ∧ b < w'.heap.size) → w.grownBy w' v.ownBlock → (v'.ownBlock = v.ownBlock ∨ v'.ownBlock = some w.heap.size) → K (a.put o.dst v') w') :
    if Region.wanted o (yielded ops a.tmps) = true then Oper.wp Try.prog o a w K Q else E := by
  have hw : Region.wanted o (yielded ops a.tmps) = true := by simp [Region.wanted, hgd]
  rw [if_pos hw]
  obtain ⟨i0, hi0, hz0, hz1, hz2⟩ := info_parts ints_info
  refine wp_push_ownF EI.stable s x ho Try.underlying24 hi0 hz0 hz1 hz2 rfl (by decide) (by decide) hown hnF hF hbel hs b [z] d _ hx (EI.of hel) rfl ?_ ?_ ?_ ?_ hl h
  · cases z.ownBlock <;> simp
  · intro k hk
    have := hel.1.lt k (by simpa using hk)
    omega
  · intro j u hj
    match j, hj with
    | 0, hj => simp at hj; subst hj; exact hc
  · intro u hu; simp at hu; subst hu; exact hz
theorem three_rd {w : World} {u v t : Value} {xs ys zs : List Int} (h : RdI w u xs) (h' : RdI w v ys) (h'' : RdI w t zs) : RdII (w.alloc (.cells #[u, v, t] 30)) (.slice (some ⟨w.heap.size, 0, none⟩) 3 3) [xs, ys, zs] := by
  have hr := World.ownsRow_lit (e := 30) (size := 1) (base := 0) w #[u, v, t] 3 (Nat.zero_le _) (by unfold maxLen; omega) (by simp)
  refine ⟨[u, v, t], rfl, RdV.of_own (by simpa using hr), fun i hi hi' => ?_⟩
  match i, hi with
  | 0, _ => exact h.alloc _
  | 1, _ => exact h'.alloc _
  | 2, _ => exact h''.alloc _
end Go.Proofs.Ytjmjhhdjlompfaa
