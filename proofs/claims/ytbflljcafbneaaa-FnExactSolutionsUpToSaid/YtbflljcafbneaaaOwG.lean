/- Appending to one of three lists of lists, in a drawn region. -/
import Derived.Test.YtbflljcafbneaaaOwF
namespace Go.Proofs.Ytbflljcafbneaaa
set_option maxRecDepth 20000
set_option linter.unusedVariables false
set_option linter.unusedSimpArgs false
open Go.RowKit

theorem wp_push_ownF {α : Type} {E : El α} (hE : Stable E) {t ts : TypeId} {ti : TypeInfo} {z : Value} {width bytes : Nat} {w0 w : World} {v : Value} {ds : List α} {F : List Nat} {o : Oper} {a : Act} {K : Act → World → Prop} {Q : Exit → Act → World → Prop} (s x : Operand)
    (ho : o.op = .call { callee := .builtin .append, args := #[s, x], argTypes := #[ts, ts] })
    (ht : Try.prog.underlying ts = some (.slice t)) (hi : Try.prog.info? t = some ti) (hz : ti.zero = some z) (hsize : ti.size = width) (hby : ti.bytes = bytes) (hzs : z.cells.size = width) (hsz : 0 < width) (hb0 : bytes ≤ 128)
    (hown : OwLf E t width w0 v ds F) (hnF : F.Nodup) (hF : ∀ b ∈ F, b < w0.heap.size) (hbel : Below w0.heap.size w0 w) (hs : a.eval s = v) (b : Nat) (cs : List Value) (d : α) (Fe : List Nat) (hx : a.eval x = .slice (some ⟨b, 0, none⟩) 1 1)
    (hel : E w cs d Fe) (hcs : cs.length = width) (hnd : Fe.Nodup) (hFe : ∀ b ∈ Fe, w0.heap.size ≤ b ∧ b < w.heap.size) (hc : ∀ j u, cs[j]? = some u → w.cell? ⟨b, j, none⟩ = some u) (h1 : ∀ u ∈ cs, u.oneCell' = true) (hl : ds.length ≤ 1073741824)
    (h : ∀ v' w' F', OwLf E t width w' v' (ds ++ [d]) F' → F'.Nodup → (∀ b ∈ F', (b ∈ F ∨ w0.heap.size ≤ b) ∧ b < w'.heap.size) → w.grownBy w' v.ownBlock → (v'.ownBlock = v.ownBlock ∨ v'.ownBlock = some w.heap.size) → K (a.put o.dst v') w') :
    o.wp Try.prog a w K Q := by
  obtain ⟨es, e1, e2, e3, rfl⟩ := hown
  have hln : es.length = ds.length := by rw [← e1]; simp
  have hvb : ∀ b, v.ownBlock = some b → b < w0.heap.size := fun b hb => hF b (by rw [hb]; simp)
  rw [hln] at e3
  have hrow := ownsRow_keep e3 (w' := w) fun b hb => hbel.block b (hvb b hb)
  have hcc : ∀ j u, cs[j]? = some u → w.cell? ((⟨b, 0, none⟩ : Addr).add j) = some u := fun j u hj => by
    have e : (⟨b, 0, none⟩ : Addr).add j = ⟨b, j, none⟩ := by simp [Addr.add]; intro h; exact h.symm
    rw [e]; exact hc j u hj
  have hroom : (ds.length + 1) * bytes ≤ 140737488355328 := by
    calc (ds.length + 1) * bytes ≤ 1073741825 * 128 := Nat.mul_le_mul (by omega) hb0
      _ ≤ 140737488355328 := by decide
  obtain ⟨v', w', hrun, h2, hg, _, hat⟩ := run_append_own_at (P := Try.prog) w 0 ts o.type t ti z width bytes ht hi hz hsize hby hzs hsz v ds.length _ hrow ⟨b, 0, none⟩ 1 1 cs (by omega) hcc h1 (by unfold maxLen; omega) hroom (Nat.zero_le _)
  unfold Oper.wp execOp
  simp only [ho, resolve, invoke, builtin, Sem.run_bind, Sem.run_pure, Result.andThen_ok, List.map_toArray, List.map_cons, List.map_nil, hs, hx, hrun]
  show K (a.put o.dst v') w'
  have hsz := hbel.size
  have hsz2 := hg.size
  have hmem : ∀ e ∈ es, ∀ b ∈ e.2.2, b ∈ (es.map (·.2.2)).flatten := fun e he b hb => List.mem_flatten.2 ⟨e.2.2, List.mem_map.2 ⟨e, he, rfl⟩, hb⟩
  have hapart : ∀ b ∈ (es.map (·.2.2)).flatten, some b ≠ v.ownBlock := by
    intro b hb hv
    rw [← hv] at hnF
    exact (List.nodup_append.1 hnF).2.2 b (by simp) b hb rfl
  refine h v' w' (v'.ownBlock.toList ++ ((es.map (·.2.2)).flatten ++ Fe)) ⟨es ++ [(cs, d, Fe)], by simp [e1], ?_, ?_, by simp⟩ ?_ ?_ hg hat
  · intro e he
    rcases List.mem_append.1 he with he | he
    · refine ⟨(e2 e he).1, hE _ _ _ _ _ (e2 e he).2 fun b hb => ?_⟩
      have hlt' := hF b (List.mem_append.2 (.inr (hmem e he b hb)))
      rw [hg.block b (by omega) (hapart b (hmem e he b hb)), hbel.block b hlt']
    · simp at he
      subst he
      refine ⟨hcs, hE _ _ _ _ _ hel fun b hb => hg.block b (hFe b hb).2 fun hv => ?_⟩
      have := hvb b hv.symm
      have := hFe b hb
      omega
  · simpa [hln] using h2
  · have n1 : ((es.map (·.2.2)).flatten).Nodup := (List.nodup_append.1 hnF).2.1
    have n2 : ((es.map (·.2.2)).flatten ++ Fe).Nodup := by
      refine List.nodup_append.2 ⟨n1, hnd, fun a ha b hb hab => ?_⟩
      have := hF a (List.mem_append.2 (.inr ha))
      have := (hFe b hb).1
      omega
    refine List.nodup_append.2 ⟨?_, n2, fun a ha b hb hab => ?_⟩
    · cases v'.ownBlock <;> simp
    · subst hab
      have ha' : v'.ownBlock = some a := by simpa using ha
      rcases hat with hat | hat
      · rw [hat] at ha'
        rcases List.mem_append.1 hb with hb | hb
        · exact hapart a hb ha'.symm
        · have := hvb a ha'; have := hFe a hb; omega
      · rw [hat] at ha'
        injection ha' with ha'
        rcases List.mem_append.1 hb with hb | hb
        · have := hF a (List.mem_append.2 (.inr hb)); omega
        · have := hFe a hb; omega
  · intro b hb
    rcases List.mem_append.1 hb with hb | hb
    · have hb' : v'.ownBlock = some b := by simpa using hb
      refine ⟨?_, (h2.lt b hb').2⟩
      rcases hat with hat | hat
      · rw [hat] at hb'; exact .inl (List.mem_append.2 (.inl (by rw [hb']; simp)))
      · rw [hat] at hb'; injection hb' with hb'; exact .inr (by omega)
    · rcases List.mem_append.1 hb with hb | hb
      · have := hF b (List.mem_append.2 (.inr hb)); exact ⟨.inl (List.mem_append.2 (.inr hb)), by omega⟩
      · have := hFe b hb; exact ⟨.inr (by omega), by omega⟩
theorem wp_push3_1 {lo : Nat} {w0 w : World} {v1 v2 v3 : Value} {L1 L2 L3 : List (List Int)} {o : Oper} {a : Act} {K : Act → World → Prop} {Q : Exit → Act → World → Prop} (s x : Operand)
    (ho : o.op = .call { callee := .builtin .append, args := #[s, x], argTypes := #[23, 23] })
    (hown : Ow3 lo w0 v1 L1 v2 L2 v3 L3) (hlo : lo ≤ w0.heap.size) (hbel : Below w0.heap.size w0 w) (hs : a.eval s = v1) (b : Nat) (z : Value) (d : List Int) {base : Nat} (hx : a.eval x = .slice (some ⟨b, 0, none⟩) 1 1)
    (hel : OwI w base z d) (hbase : w0.heap.size ≤ base) (hc : w.cell? ⟨b, 0, none⟩ = some z) (hz : z.oneCell' = true) (hl : L1.length ≤ 1073741824)
    (h : ∀ v' w', Ow3 lo w' v' (L1 ++ [d]) v2 L2 v3 L3 → Below lo w w' → w.grownBy w' v1.ownBlock → (v'.ownBlock = v1.ownBlock ∨ v'.ownBlock = some w.heap.size) → K (a.put o.dst v') w') :
    o.wp Try.prog a w K Q := by
  obtain ⟨F1, F2, F3, h1, h2, h3, hn, hF⟩ := hown
  obtain ⟨n1, n23, n4⟩ := List.nodup_append.1 hn
  obtain ⟨i0, hi0, hz0, hz1, hz2⟩ := info_parts ints_info
  refine wp_push_ownF EI.stable s x ho Try.underlying23 hi0 hz0 hz1 hz2 rfl (by decide) (by decide) h1 n1 (fun b hb => (hF b (by simp [hb])).2) hbel hs b [z] d _ hx (EI.of hel) rfl ?_ ?_ ?_ ?_ hl ?_
  · cases z.ownBlock <;> simp
  · intro k hk
    have := hel.1.lt k (by simpa using hk)
    omega
  · intro j u hj
    match j, hj with
    | 0, hj => simp at hj; subst hj; exact hc
  · intro u hu; simp at hu; subst hu; exact hz
  · intro v' w' F' h1' hn' hF' hg hat
    have hs1 := hbel.size
    have hs2 := hg.size
    have hoth : ∀ b, b ∈ F2 ++ F3 → w'.heap[b]? = w0.heap[b]? := fun b hb => by
      have hlt := (hF b (List.mem_append.2 (.inr hb))).2
      rw [hg.block b (by omega) fun hv => n4 b (h1.mem hv.symm) b hb rfl, hbel.block b hlt]
    refine h v' w' ⟨F', F2, F3, h1', h2.stable EI.stable fun b hb => hoth b (by simp [hb]), h3.stable EI.stable fun b hb => hoth b (by simp [hb]), ?_, fun b hb => ?_⟩ ((Below.refl lo w).grown hg (by omega) fun k hk => (hF k (by simp [h1.mem hk])).1) hg hat
    · refine List.nodup_append.2 ⟨hn', n23, fun a ha b hb hab => ?_⟩
      subst hab
      rcases (hF' a ha).1 with h | h
      · exact n4 a h a hb rfl
      · have := (hF a (List.mem_append.2 (.inr hb))).2; omega
    · rcases List.mem_append.1 hb with hb | hb
      · obtain ⟨q1, q2⟩ := hF' b hb
        rcases q1 with q1 | q1
        · exact ⟨(hF b (by simp [q1])).1, q2⟩
        · exact ⟨by omega, q2⟩
      · have := hF b (List.mem_append.2 (.inr hb)); omega
theorem step_push3_1 {lo : Nat} {w0 w : World} {v1 v2 v3 : Value} {L1 L2 L3 : List (List Int)} {ops : Array Oper} {o : Oper} {a : Act} {K : Act → World → Prop} {Q : Exit → Act → World → Prop} {E : Prop} (hgd : o.guard = none) (s x : Operand)
    (ho : o.op = .call { callee := .builtin .append, args := #[s, x], argTypes := #[23, 23] })
    (hown : Ow3 lo w0 v1 L1 v2 L2 v3 L3) (hlo : lo ≤ w0.heap.size) (hbel : Below w0.heap.size w0 w) (hs : a.eval s = v1) (b : Nat) (z : Value) (d : List Int) {base : Nat} (hx : a.eval x = .slice (some ⟨b, 0, none⟩) 1 1)
    (hel : OwI w base z d) (hbase : w0.heap.size ≤ base) (hc : w.cell? ⟨b, 0, none⟩ = some z) (hz : z.oneCell' = true) (hl : L1.length ≤ 1073741824)
    (h : ∀ v' w', Ow3 lo w' v' (L1 ++ [d]) v2 L2 v3 L3 → Below lo w w' → w.grownBy w' v1.ownBlock → (v'.ownBlock = v1.ownBlock ∨ v'.ownBlock = some w.heap.size) → K (a.put o.dst v') w') :
    if Region.wanted o (yielded ops a.tmps) = true then Oper.wp Try.prog o a w K Q else E := by
  have hw : Region.wanted o (yielded ops a.tmps) = true := by simp [Region.wanted, hgd]
  rw [if_pos hw]
  exact wp_push3_1 s x ho hown hlo hbel hs b z d hx hel hbase hc hz hl h
theorem step_push3_2 {lo : Nat} {w0 w : World} {v1 v2 v3 : Value} {L1 L2 L3 : List (List Int)} {ops : Array Oper} {o : Oper} {a : Act} {K : Act → World → Prop} {Q : Exit → Act → World → Prop} {E : Prop} (hgd : o.guard = none) (s x : Operand)
    (ho : o.op = .call { callee := .builtin .append, args := #[s, x], argTypes := #[23, 23] })
    (hown : Ow3 lo w0 v1 L1 v2 L2 v3 L3) (hlo : lo ≤ w0.heap.size) (hbel : Below w0.heap.size w0 w) (hs : a.eval s = v2) (b : Nat) (z : Value) (d : List Int) {base : Nat} (hx : a.eval x = .slice (some ⟨b, 0, none⟩) 1 1)
    (hel : OwI w base z d) (hbase : w0.heap.size ≤ base) (hc : w.cell? ⟨b, 0, none⟩ = some z) (hz : z.oneCell' = true) (hl : L2.length ≤ 1073741824)
    (h : ∀ v' w', Ow3 lo w' v1 L1 v' (L2 ++ [d]) v3 L3 → Below lo w w' → w.grownBy w' v2.ownBlock → (v'.ownBlock = v2.ownBlock ∨ v'.ownBlock = some w.heap.size) → K (a.put o.dst v') w') :
    if Region.wanted o (yielded ops a.tmps) = true then Oper.wp Try.prog o a w K Q else E :=
  step_push3_1 hgd s x ho hown.swap hlo hbel hs b z d hx hel hbase hc hz hl fun v' w' h1 h2 h3 h4 => h v' w' h1.swap h2 h3 h4
theorem push3x_1 {lo : Nat} {w0 w : World} {v1 v2 v3 : Value} {L1 L2 L3 : List (List Int)} {ops : Array Oper} {rest : List Oper} {o : Oper} {a : Act} {Q : Exit → Act → World → Prop} (hgd : o.guard = none) (s x : Operand)
    (ho : o.op = .call { callee := .builtin .append, args := #[s, x], argTypes := #[23, 23] })
    (hown : Ow3 lo w0 v1 L1 v2 L2 v3 L3) (hlo : lo ≤ w0.heap.size) (hbel : Below w0.heap.size w0 w) (hs : a.eval s = v1) (b : Nat) (z : Value) (d : List Int) {base : Nat} (hx : a.eval x = .slice (some ⟨b, 0, none⟩) 1 1)
    (hel : OwI w base z d) (hbase : w0.heap.size ≤ base) (hc : w.cell? ⟨b, 0, none⟩ = some z) (hz : z.oneCell' = true) (hl : L1.length ≤ 1073741824)
    (h : ∀ v' w', Ow3 lo w' v' (L1 ++ [d]) v2 L2 v3 L3 → Below lo w w' → w.grownBy w' v1.ownBlock → (v'.ownBlock = v1.ownBlock ∨ v'.ownBlock = some w.heap.size) → wpList Try.prog ops Q rest (a.put o.dst v') w') :
    wpList Try.prog ops Q (o :: rest) a w :=
  wpList_plain hgd fun _ hK => wp_push3_1 s x ho hown hlo hbel hs b z d hx hel hbase hc hz hl fun v' w' h1 h2 h3 h4 => hK _ _ (h v' w' h1 h2 h3 h4)
end Go.Proofs.Ytbflljcafbneaaa
