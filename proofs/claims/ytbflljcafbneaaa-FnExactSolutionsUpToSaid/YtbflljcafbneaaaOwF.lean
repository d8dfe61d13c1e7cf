/- Several lists of lists at once: their blocks are told apart by name. -/
import Derived.Test.YtbflljcafbneaaaOwnII
namespace Go.Proofs.Ytbflljcafbneaaa
set_option maxRecDepth 20000
set_option linter.unusedVariables false
set_option linter.unusedSimpArgs false
open Go.RowKit

theorem OwLf.mem {α : Type} {E : El α} {t : TypeId} {width : Nat} {w : World} {v : Value} {ds : List α} {F : List Nat} (h : OwLf E t width w v ds F) {b : Nat} (hb : v.ownBlock = some b) : b ∈ F := by
  obtain ⟨es, h1, h2, h3, rfl⟩ := h
  rw [hb]; simp
/-- An element appended; where the blocks come from is told. -/
theorem push_ownF {α : Type} {E : El α} (hE : Stable E) {t ts : TypeId} {ti : TypeInfo} {z : Value} {width bytes : Nat} {w0 w : World} {v : Value} {ds : List α} {F : List Nat} {ops : Array Oper} {rest : List Oper} {o : Oper} {a : Act} {Q : Exit → Act → World → Prop} (hgd : o.guard = none) (s x : Operand)
    (ho : o.op = .call { callee := .builtin .append, args := #[s, x], argTypes := #[ts, ts] })
    (ht : Try.prog.underlying ts = some (.slice t)) (hi : Try.prog.info? t = some ti) (hz : ti.zero = some z) (hsize : ti.size = width) (hby : ti.bytes = bytes) (hzs : z.cells.size = width) (hsz : 0 < width) (hb0 : bytes ≤ 128)
    (hown : OwLf E t width w0 v ds F) (hnF : F.Nodup) (hF : ∀ b ∈ F, b < w0.heap.size) (hbel : Below w0.heap.size w0 w) (hs : a.eval s = v) (b : Nat) (cs : List Value) (d : α) (Fe : List Nat) (hx : a.eval x = .slice (some ⟨b, 0, none⟩) 1 1)
    (hel : E w cs d Fe) (hcs : cs.length = width) (hnd : Fe.Nodup) (hFe : ∀ b ∈ Fe, w0.heap.size ≤ b ∧ b < w.heap.size) (hc : ∀ j u, cs[j]? = some u → w.cell? ⟨b, j, none⟩ = some u) (h1 : ∀ u ∈ cs, u.oneCell' = true) (hl : ds.length ≤ 1073741824)
    (h : ∀ v' w' F', OwLf E t width w' v' (ds ++ [d]) F' → F'.Nodup → (∀ b ∈ F', (b ∈ F ∨ w0.heap.size ≤ b) ∧ b < w'.heap.size) → w.grownBy w' v.ownBlock → wpList Try.prog ops Q rest (a.put o.dst v') w') :
    wpList Try.prog ops Q (o :: rest) a w := by
  obtain ⟨es, e1, e2, e3, rfl⟩ := hown
  have hln : es.length = ds.length := by rw [← e1]; simp
  have hvb : ∀ b, v.ownBlock = some b → b < w0.heap.size := fun b hb => hF b (by rw [hb]; simp)
  rw [hln] at e3
  have hrow := ownsRow_keep e3 (w' := w) fun b hb => hbel.block b (hvb b hb)
  refine wpList_append_own_at _ hgd s x ts ho 0 t ti z width bytes ht hi hz hsize hby hzs hsz v ds.length _ hs hrow ⟨b, 0, none⟩ 1 1 cs hx (by omega) ?_ h1 (by unfold maxLen; omega) ?_ (Nat.zero_le _) ?_
  · intro j u hj
    have e : (⟨b, 0, none⟩ : Addr).add j = ⟨b, j, none⟩ := by simp [Addr.add]; intro h; exact h.symm
    rw [e]; exact hc j u hj
  · calc (ds.length + 1) * bytes ≤ 1073741825 * 128 := Nat.mul_le_mul (by omega) hb0
      _ ≤ 140737488355328 := by decide
  · intro v' w' h2 hg _ hat
    have hsz := hbel.size
    have hsz2 := hg.size
    have hmem : ∀ e ∈ es, ∀ b ∈ e.2.2, b ∈ (es.map (·.2.2)).flatten := fun e he b hb => List.mem_flatten.2 ⟨e.2.2, List.mem_map.2 ⟨e, he, rfl⟩, hb⟩
    have hapart : ∀ b ∈ (es.map (·.2.2)).flatten, some b ≠ v.ownBlock := by
      intro b hb hv
      rw [← hv] at hnF
      exact (List.nodup_append.1 hnF).2.2 b (by simp) b hb rfl
    refine h v' w' (v'.ownBlock.toList ++ ((es.map (·.2.2)).flatten ++ Fe)) ⟨es ++ [(cs, d, Fe)], by simp [e1], ?_, ?_, by simp⟩ ?_ ?_ hg
    · intro e he
      rcases List.mem_append.1 he with he | he
      · refine ⟨(e2 e he).1, hE _ _ _ _ _ (e2 e he).2 fun b hb => ?_⟩
        have hlt' := hF b (List.mem_append.2 (.inr (hmem e he b hb)))
        rw [hg.block b (by omega) (hapart b (hmem e he b hb)), hbel.block b hlt']
      · simp at he
        subst he
        refine ⟨hcs, hE _ _ _ _ _ hel fun b hb => hg.block b (hFe b hb).2 fun hv => ?_⟩
        have := hvb b hv.symm
        have := hFe b hb
        omega
    · simpa [hln] using h2
    · have n1 : ((es.map (·.2.2)).flatten).Nodup := (List.nodup_append.1 hnF).2.1
      have n2 : ((es.map (·.2.2)).flatten ++ Fe).Nodup := by
        refine List.nodup_append.2 ⟨n1, hnd, fun a ha b hb hab => ?_⟩
        have := hF a (List.mem_append.2 (.inr ha))
        have := (hFe b hb).1
        omega
      refine List.nodup_append.2 ⟨?_, n2, fun a ha b hb hab => ?_⟩
      · cases v'.ownBlock <;> simp
      · subst hab
        have ha' : v'.ownBlock = some a := by simpa using ha
        rcases hat with hat | hat
        · rw [hat] at ha'
          rcases List.mem_append.1 hb with hb | hb
          · exact hapart a hb ha'.symm
          · have := hvb a ha'; have := hFe a hb; omega
        · rw [hat] at ha'
          injection ha' with ha'
          rcases List.mem_append.1 hb with hb | hb
          · have := hF a (List.mem_append.2 (.inr hb)); omega
          · have := hFe a hb; omega
    · intro b hb
      rcases List.mem_append.1 hb with hb | hb
      · have hb' : v'.ownBlock = some b := by simpa using hb
        refine ⟨?_, (h2.lt b hb').2⟩
        rcases hat with hat | hat
        · rw [hat] at hb'; exact .inl (List.mem_append.2 (.inl (by rw [hb']; simp)))
        · rw [hat] at hb'; injection hb' with hb'; exact .inr (by omega)
      · rcases List.mem_append.1 hb with hb | hb
        · have := hF b (List.mem_append.2 (.inr hb)); exact ⟨.inl (List.mem_append.2 (.inr hb)), by omega⟩
        · have := hFe b hb; exact ⟨.inr (by omega), by omega⟩
/-- Three lists of lists, apart from each other, in blocks from lo on. -/
def Ow3 (lo : Nat) (w : World) (v1 : Value) (L1 : List (List Int)) (v2 : Value) (L2 : List (List Int)) (v3 : Value) (L3 : List (List Int)) : Prop :=
  ∃ F1 F2 F3, OwLf EI 22 1 w v1 L1 F1 ∧ OwLf EI 22 1 w v2 L2 F2 ∧ OwLf EI 22 1 w v3 L3 F3 ∧ (F1 ++ (F2 ++ F3)).Nodup ∧ ∀ b ∈ F1 ++ (F2 ++ F3), lo ≤ b ∧ b < w.heap.size
section
variable {lo : Nat} {w w' w0 : World} {v1 v2 v3 : Value} {L1 L2 L3 : List (List Int)}
theorem Ow3.below (h : Ow3 lo w v1 L1 v2 L2 v3 L3) (hb : Below w.heap.size w w') : Ow3 lo w' v1 L1 v2 L2 v3 L3 := by
  obtain ⟨F1, F2, F3, h1, h2, h3, hn, hF⟩ := h
  have hs := hb.size
  refine ⟨F1, F2, F3, h1.stable EI.stable fun b hb' => hb.block b (hF b (by simp [hb'])).2, h2.stable EI.stable fun b hb' => hb.block b (hF b (by simp [hb'])).2, h3.stable EI.stable fun b hb' => hb.block b (hF b (by simp [hb'])).2, hn, fun b hb' => ?_⟩
  have := hF b hb'
  omega
theorem Ow3.one (h : Ow3 lo w v1 L1 v2 L2 v3 L3) : OwII lo w.heap.size v1 L1 w := by
  obtain ⟨F1, F2, F3, h1, h2, h3, hn, hF⟩ := h
  exact ⟨F1, h1, (List.nodup_append.1 hn).1, fun b hb => hF b (by simp [hb])⟩
theorem Ow3.three (h : Ow3 lo w v1 L1 v2 L2 v3 L3) : OwII lo w.heap.size v3 L3 w := by
  obtain ⟨F1, F2, F3, h1, h2, h3, hn, hF⟩ := h
  exact ⟨F3, h3, (List.nodup_append.1 (List.nodup_append.1 hn).2.1).2.1, fun b hb => hF b (by simp [hb])⟩
theorem Ow3.two (h : Ow3 lo w v1 L1 v2 L2 v3 L3) : OwII lo w.heap.size v2 L2 w := by
  obtain ⟨F1, F2, F3, h1, h2, h3, hn, hF⟩ := h
  exact ⟨F2, h2, (List.nodup_append.1 (List.nodup_append.1 hn).2.1).1, fun b hb => hF b (by simp [hb])⟩
/-- The second becomes the third; the second begins anew. -/
theorem Ow3.roll (h : Ow3 lo w v1 L1 v2 L2 v3 L3) (hlo : lo ≤ w.heap.size) : Ow3 lo (w.alloc (.cells #[] 22)) v1 L1 (.slice (some ⟨w.heap.size, 0, none⟩) 0 0) [] v2 L2 := by
  have hA := h.below ((Below.refl _ _).alloc (Nat.le_refl _) (.cells #[] 22))
  obtain ⟨F1, F2, F3, h1, h2, h3, hn, hF⟩ := h
  obtain ⟨G, hg1, hg2, hg3⟩ := OwII_lit w (Nat.le_refl w.heap.size)
  have hbl : Below w.heap.size w (w.alloc (.cells #[] 22)) := (Below.refl _ _).alloc (Nat.le_refl _) _
  obtain ⟨n1, n23, n4⟩ := List.nodup_append.1 hn
  refine ⟨F1, G, F2, h1.stable EI.stable fun b hb' => hbl.block b (hF b (by simp [hb'])).2, hg1, h2.stable EI.stable fun b hb' => hbl.block b (hF b (by simp [hb'])).2, ?_, fun b hb => ?_⟩
  · refine List.nodup_append.2 ⟨n1, List.nodup_append.2 ⟨hg2, (List.nodup_append.1 n23).1, fun a ha b hb hab => ?_⟩, fun a ha b hb hab => ?_⟩
    · have := (hg3 a ha).1
      have := (hF b (by simp [hb])).2
      omega
    · subst hab
      rcases List.mem_append.1 hb with hb | hb
      · have := (hg3 a hb).1
        have := (hF a (by simp [ha])).2
        omega
      · exact n4 a ha a (by simp [hb]) rfl
  · have hsz : (w.alloc (.cells #[] 22)).heap.size = w.heap.size + 1 := by simp
    rw [hsz]
    rcases List.mem_append.1 hb with hb | hb
    · have := hF b (by simp [hb]); omega
    · rcases List.mem_append.1 hb with hb | hb
      · have := hg3 b hb; omega
      · have := hF b (by simp [hb]); omega
end
/-- Appending to the first of the three. -/
theorem push3_1 {lo : Nat} {w0 w : World} {v1 v2 v3 : Value} {L1 L2 L3 : List (List Int)} {ops : Array Oper} {rest : List Oper} {o : Oper} {a : Act} {Q : Exit → Act → World → Prop} (hgd : o.guard = none) (s x : Operand)
    (ho : o.op = .call { callee := .builtin .append, args := #[s, x], argTypes := #[23, 23] })
    (hown : Ow3 lo w0 v1 L1 v2 L2 v3 L3) (hlo : lo ≤ w0.heap.size) (hbel : Below w0.heap.size w0 w) (hs : a.eval s = v1) (b : Nat) (z : Value) (d : List Int) {base : Nat} (hx : a.eval x = .slice (some ⟨b, 0, none⟩) 1 1)
    (hel : OwI w base z d) (hbase : w0.heap.size ≤ base) (hc : w.cell? ⟨b, 0, none⟩ = some z) (hz : z.oneCell' = true) (hl : L1.length ≤ 1073741824)
    (h : ∀ v' w', Ow3 lo w' v' (L1 ++ [d]) v2 L2 v3 L3 → Below lo w w' → wpList Try.prog ops Q rest (a.put o.dst v') w') :
    wpList Try.prog ops Q (o :: rest) a w := by
  obtain ⟨F1, F2, F3, h1, h2, h3, hn, hF⟩ := hown
  obtain ⟨n1, n23, n4⟩ := List.nodup_append.1 hn
  obtain ⟨i0, hi0, hz0, hz1, hz2⟩ := info_parts ints_info
  refine push_ownF EI.stable hgd s x ho Try.underlying23 hi0 hz0 hz1 hz2 rfl (by decide) (by decide) h1 n1 (fun b hb => (hF b (by simp [hb])).2) hbel hs b [z] d _ hx (EI.of hel) rfl ?_ ?_ ?_ ?_ hl ?_
  · cases z.ownBlock <;> simp
  · intro k hk
    have := hel.1.lt k (by simpa using hk)
    omega
  · intro j u hj
    match j, hj with
    | 0, hj => simp at hj; subst hj; exact hc
  · intro u hu; simp at hu; subst hu; exact hz
  · intro v' w' F' h1' hn' hF' hg
    have hs1 := hbel.size
    have hs2 := hg.size
    have hoth : ∀ b, b ∈ F2 ++ F3 → w'.heap[b]? = w0.heap[b]? := fun b hb => by
      have hlt := (hF b (List.mem_append.2 (.inr hb))).2
      rw [hg.block b (by omega) fun hv => n4 b (h1.mem hv.symm) b hb rfl, hbel.block b hlt]
    refine h v' w' ⟨F', F2, F3, h1', h2.stable EI.stable fun b hb => hoth b (by simp [hb]), h3.stable EI.stable fun b hb => hoth b (by simp [hb]), ?_, fun b hb => ?_⟩ ((Below.refl lo w).grown hg (by omega) fun k hk => (hF k (by simp [h1.mem hk])).1)
    · refine List.nodup_append.2 ⟨hn', n23, fun a ha b hb hab => ?_⟩
      subst hab
      rcases (hF' a ha).1 with h | h
      · exact n4 a h a hb rfl
      · have := (hF a (List.mem_append.2 (.inr hb))).2; omega
    · rcases List.mem_append.1 hb with hb | hb
      · obtain ⟨q1, q2⟩ := hF' b hb
        rcases q1 with q1 | q1
        · exact ⟨(hF b (by simp [q1])).1, q2⟩
        · exact ⟨by omega, q2⟩
      · have := hF b (List.mem_append.2 (.inr hb)); omega
theorem Ow3.swap {lo : Nat} {w : World} {v1 v2 v3 : Value} {L1 L2 L3 : List (List Int)} (h : Ow3 lo w v1 L1 v2 L2 v3 L3) : Ow3 lo w v2 L2 v1 L1 v3 L3 := by
  obtain ⟨F1, F2, F3, h1, h2, h3, hn, hF⟩ := h
  obtain ⟨n1, n23, n4⟩ := List.nodup_append.1 hn
  obtain ⟨n2, n3, n5⟩ := List.nodup_append.1 n23
  refine ⟨F2, F1, F3, h2, h1, h3, List.nodup_append.2 ⟨n2, List.nodup_append.2 ⟨n1, n3, fun a ha b hb => n4 a ha b (by simp [hb])⟩, fun a ha b hb hab => ?_⟩, fun b hb => hF b ?_⟩
  rotate_left
  · simp only [List.mem_append] at hb ⊢
    exact hb.elim (fun h => .inr (.inl h)) fun h => h.elim .inl fun h => .inr (.inr h)
  subst hab
  rcases List.mem_append.1 hb with hb | hb
  · exact n4 a hb a (by simp [ha]) rfl
  · exact n5 a ha a hb rfl
/-- Appending to the second of the three. -/
theorem push3_2 {lo : Nat} {w0 w : World} {v1 v2 v3 : Value} {L1 L2 L3 : List (List Int)} {ops : Array Oper} {rest : List Oper} {o : Oper} {a : Act} {Q : Exit → Act → World → Prop} (hgd : o.guard = none) (s x : Operand)
    (ho : o.op = .call { callee := .builtin .append, args := #[s, x], argTypes := #[23, 23] })
    (hown : Ow3 lo w0 v1 L1 v2 L2 v3 L3) (hlo : lo ≤ w0.heap.size) (hbel : Below w0.heap.size w0 w) (hs : a.eval s = v2) (b : Nat) (z : Value) (d : List Int) {base : Nat} (hx : a.eval x = .slice (some ⟨b, 0, none⟩) 1 1)
    (hel : OwI w base z d) (hbase : w0.heap.size ≤ base) (hc : w.cell? ⟨b, 0, none⟩ = some z) (hz : z.oneCell' = true) (hl : L2.length ≤ 1073741824)
    (h : ∀ v' w', Ow3 lo w' v1 L1 v' (L2 ++ [d]) v3 L3 → Below lo w w' → wpList Try.prog ops Q rest (a.put o.dst v') w') :
    wpList Try.prog ops Q (o :: rest) a w :=
  push3_1 hgd s x ho hown.swap hlo hbel hs b z d hx hel hbase hc hz hl fun v' w' h1 h2 => h v' w' h1.swap h2
end Go.Proofs.Ytbflljcafbneaaa
