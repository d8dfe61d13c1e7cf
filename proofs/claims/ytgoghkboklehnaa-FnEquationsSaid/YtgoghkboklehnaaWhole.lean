/- The reference's NewGraph, AddEdge and WholeGroup. Appending to one of three lists of lists, in a drawn region. Several lists of lists at once: their blocks are told apart by name. -/
import Derived.Test.YtgoghkboklehnaaOwnF
import Derived.Test.YtgoghkboklehnaaGrH
import Derived.Test.YtgoghkboklehnaaGrG
import Derived.Test.YtgoghkboklehnaaGrB
import Derived.Test.YtgoghkboklehnaaUpW
import Derived.Deep.RegionHeld3
namespace Go.Proofs.Ytgoghkboklehnaa
set_option maxRecDepth 20000
set_option linter.unusedVariables false
set_option linter.unusedSimpArgs false
open Go.RowKit

/-- Three lists of lists, apart from each other, in blocks from lo on. -/
def Ow3 (lo : Nat) (w : World) (v1 : Value) (L1 : List (List Int)) (v2 : Value) (L2 : List (List Int)) (v3 : Value) (L3 : List (List Int)) : Prop :=
  ∃ F1 F2 F3, OwLf EI 24 1 w v1 L1 F1 ∧ OwLf EI 24 1 w v2 L2 F2 ∧ OwLf EI 24 1 w v3 L3 F3 ∧ (F1 ++ (F2 ++ F3)).Nodup ∧ ∀ b ∈ F1 ++ (F2 ++ F3), lo ≤ b ∧ b < w.heap.size
section
variable {lo : Nat} {w w' w0 : World} {v1 v2 v3 : Value} {L1 L2 L3 : List (List Int)}
theorem Ow3.below (h : Ow3 lo w v1 L1 v2 L2 v3 L3) (hb : Below w.heap.size w w') : Ow3 lo w' v1 L1 v2 L2 v3 L3 := by
  obtain ⟨F1, F2, F3, h1, h2, h3, hn, hF⟩ := h
  have hs := hb.size
  refine ⟨F1, F2, F3, h1.stable EI.stable fun b hb' => hb.block b (hF b (by simp [hb'])).2, h2.stable EI.stable fun b hb' => hb.block b (hF b (by simp [hb'])).2, h3.stable EI.stable fun b hb' => hb.block b (hF b (by simp [hb'])).2, hn, fun b hb' => ?_⟩
  have := hF b hb'
  omega
theorem Ow3.one (h : Ow3 lo w v1 L1 v2 L2 v3 L3) : OwII lo w.heap.size v1 L1 w := by
  obtain ⟨F1, F2, F3, h1, h2, h3, hn, hF⟩ := h
  exact ⟨F1, h1, (List.nodup_append.1 hn).1, fun b hb => hF b (by simp [hb])⟩
theorem Ow3.three (h : Ow3 lo w v1 L1 v2 L2 v3 L3) : OwII lo w.heap.size v3 L3 w := by
  obtain ⟨F1, F2, F3, h1, h2, h3, hn, hF⟩ := h
  exact ⟨F3, h3, (List.nodup_append.1 (List.nodup_append.1 hn).2.1).2.1, fun b hb => hF b (by simp [hb])⟩
theorem Ow3.two (h : Ow3 lo w v1 L1 v2 L2 v3 L3) : OwII lo w.heap.size v2 L2 w := by
  obtain ⟨F1, F2, F3, h1, h2, h3, hn, hF⟩ := h
  exact ⟨F2, h2, (List.nodup_append.1 (List.nodup_append.1 hn).2.1).1, fun b hb => hF b (by simp [hb])⟩
/-- The second becomes the third; the second begins anew. -/
theorem Ow3.roll (h : Ow3 lo w v1 L1 v2 L2 v3 L3) (hlo : lo ≤ w.heap.size) : Ow3 lo (w.alloc (.cells #[] 24)) v1 L1 (.slice (some ⟨w.heap.size, 0, none⟩) 0 0) [] v2 L2 := by
  have hA := h.below ((Below.refl _ _).alloc (Nat.le_refl _) (.cells #[] 24))
  obtain ⟨F1, F2, F3, h1, h2, h3, hn, hF⟩ := h
  obtain ⟨G, hg1, hg2, hg3⟩ := OwII_lit w (Nat.le_refl w.heap.size)
  have hbl : Below w.heap.size w (w.alloc (.cells #[] 24)) := (Below.refl _ _).alloc (Nat.le_refl _) _
  obtain ⟨n1, n23, n4⟩ := List.nodup_append.1 hn
  refine ⟨F1, G, F2, h1.stable EI.stable fun b hb' => hbl.block b (hF b (by simp [hb'])).2, hg1, h2.stable EI.stable fun b hb' => hbl.block b (hF b (by simp [hb'])).2, ?_, fun b hb => ?_⟩
  · refine List.nodup_append.2 ⟨n1, List.nodup_append.2 ⟨hg2, (List.nodup_append.1 n23).1, fun a ha b hb hab => ?_⟩, fun a ha b hb hab => ?_⟩
    · have := (hg3 a ha).1
      have := (hF b (by simp [hb])).2
      omega
    · subst hab
      rcases List.mem_append.1 hb with hb | hb
      · have := (hg3 a hb).1
        have := (hF a (by simp [ha])).2
        omega
      · exact n4 a ha a (by simp [hb]) rfl
  · have hsz : (w.alloc (.cells #[] 24)).heap.size = w.heap.size + 1 := by simp
    rw [hsz]
    rcases List.mem_append.1 hb with hb | hb
    · have := hF b (by simp [hb]); omega
    · rcases List.mem_append.1 hb with hb | hb
      · have := hg3 b hb; omega
      · have := hF b (by simp [hb]); omega
end
/-- Appending to the first of the three. -/
theorem push3_1 {lo : Nat} {w0 w : World} {v1 v2 v3 : Value} {L1 L2 L3 : List (List Int)} {ops : Array Oper} {rest : List Oper} {o : Oper} {a : Act} {Q : Exit → Act → World → Prop} (hgd : o.guard = none) (s x : Operand)
    (ho : o.op = .call { callee := .builtin .append, args := #[s, x], argTypes := #[27, 27] })
    (hown : Ow3 lo w0 v1 L1 v2 L2 v3 L3) (hlo : lo ≤ w0.heap.size) (hbel : Below w0.heap.size w0 w) (hs : a.eval s = v1) (b : Nat) (z : Value) (d : List Int) {base : Nat} (hx : a.eval x = .slice (some ⟨b, 0, none⟩) 1 1)
    (hel : OwI w base z d) (hbase : w0.heap.size ≤ base) (hc : w.cell? ⟨b, 0, none⟩ = some z) (hz : z.oneCell' = true) (hl : L1.length ≤ 1073741824)
    (h : ∀ v' w', Ow3 lo w' v' (L1 ++ [d]) v2 L2 v3 L3 → Below lo w w' → wpList Try.prog ops Q rest (a.put o.dst v') w') :
    wpList Try.prog ops Q (o :: rest) a w := by
  obtain ⟨F1, F2, F3, h1, h2, h3, hn, hF⟩ := hown
  obtain ⟨n1, n23, n4⟩ := List.nodup_append.1 hn
  obtain ⟨i0, hi0, hz0, hz1, hz2⟩ := info_parts ints_info
  refine push_ownF EI.stable hgd s x ho Try.underlying27 hi0 hz0 hz1 hz2 rfl (by decide) (by decide) h1 n1 (fun b hb => (hF b (by simp [hb])).2) hbel hs b [z] d _ hx (EI.of hel) rfl ?_ ?_ ?_ ?_ hl ?_
  · cases z.ownBlock <;> simp
  · intro k hk
    have := hel.1.lt k (by simpa using hk)
    omega
  · intro j u hj
    match j, hj with
    | 0, hj => simp at hj; subst hj; exact hc
  · intro u hu; simp at hu; subst hu; exact hz
  · intro v' w' F' h1' hn' hF' hg
    have hs1 := hbel.size
    have hs2 := hg.size
    have hoth : ∀ b, b ∈ F2 ++ F3 → w'.heap[b]? = w0.heap[b]? := fun b hb => by
      have hlt := (hF b (List.mem_append.2 (.inr hb))).2
      rw [hg.block b (by omega) fun hv => n4 b (h1.mem hv.symm) b hb rfl, hbel.block b hlt]
    refine h v' w' ⟨F', F2, F3, h1', h2.stable EI.stable fun b hb => hoth b (by simp [hb]), h3.stable EI.stable fun b hb => hoth b (by simp [hb]), ?_, fun b hb => ?_⟩ ((Below.refl lo w).grown hg (by omega) fun k hk => (hF k (by simp [h1.mem hk])).1)
    · refine List.nodup_append.2 ⟨hn', n23, fun a ha b hb hab => ?_⟩
      subst hab
      rcases (hF' a ha).1 with h | h
      · exact n4 a h a hb rfl
      · have := (hF a (List.mem_append.2 (.inr hb))).2; omega
    · rcases List.mem_append.1 hb with hb | hb
      · obtain ⟨q1, q2⟩ := hF' b hb
        rcases q1 with q1 | q1
        · exact ⟨(hF b (by simp [q1])).1, q2⟩
        · exact ⟨by omega, q2⟩
      · have := hF b (List.mem_append.2 (.inr hb)); omega
theorem Ow3.swap {lo : Nat} {w : World} {v1 v2 v3 : Value} {L1 L2 L3 : List (List Int)} (h : Ow3 lo w v1 L1 v2 L2 v3 L3) : Ow3 lo w v2 L2 v1 L1 v3 L3 := by
  obtain ⟨F1, F2, F3, h1, h2, h3, hn, hF⟩ := h
  obtain ⟨n1, n23, n4⟩ := List.nodup_append.1 hn
  obtain ⟨n2, n3, n5⟩ := List.nodup_append.1 n23
  refine ⟨F2, F1, F3, h2, h1, h3, List.nodup_append.2 ⟨n2, List.nodup_append.2 ⟨n1, n3, fun a ha b hb => n4 a ha b (by simp [hb])⟩, fun a ha b hb hab => ?_⟩, fun b hb => hF b ?_⟩
  rotate_left
  · simp only [List.mem_append] at hb ⊢
    exact hb.elim (fun h => .inr (.inl h)) fun h => h.elim .inl fun h => .inr (.inr h)
  subst hab
  rcases List.mem_append.1 hb with hb | hb
  · exact n4 a hb a (by simp [ha]) rfl
  · exact n5 a ha a hb rfl
/-- Appending to the second of the three. -/
theorem push3_2 {lo : Nat} {w0 w : World} {v1 v2 v3 : Value} {L1 L2 L3 : List (List Int)} {ops : Array Oper} {rest : List Oper} {o : Oper} {a : Act} {Q : Exit → Act → World → Prop} (hgd : o.guard = none) (s x : Operand)
    (ho : o.op = .call { callee := .builtin .append, args := #[s, x], argTypes := #[27, 27] })
    (hown : Ow3 lo w0 v1 L1 v2 L2 v3 L3) (hlo : lo ≤ w0.heap.size) (hbel : Below w0.heap.size w0 w) (hs : a.eval s = v2) (b : Nat) (z : Value) (d : List Int) {base : Nat} (hx : a.eval x = .slice (some ⟨b, 0, none⟩) 1 1)
    (hel : OwI w base z d) (hbase : w0.heap.size ≤ base) (hc : w.cell? ⟨b, 0, none⟩ = some z) (hz : z.oneCell' = true) (hl : L2.length ≤ 1073741824)
    (h : ∀ v' w', Ow3 lo w' v1 L1 v' (L2 ++ [d]) v3 L3 → Below lo w w' → wpList Try.prog ops Q rest (a.put o.dst v') w') :
    wpList Try.prog ops Q (o :: rest) a w :=
  push3_1 hgd s x ho hown.swap hlo hbel hs b z d hx hel hbase hc hz hl fun v' w' h1 h2 => h v' w' h1.swap h2
theorem wp_push3_1 {lo : Nat} {w0 w : World} {v1 v2 v3 : Value} {L1 L2 L3 : List (List Int)} {o : Oper} {a : Act} {K : Act → World → Prop} {Q : Exit → Act → World → Prop} (s x : Operand)
    (ho : o.op = .call { callee := .builtin .append, args := #[s, x], argTypes := #[27, 27] })
    (hown : Ow3 lo w0 v1 L1 v2 L2 v3 L3) (hlo : lo ≤ w0.heap.size) (hbel : Below w0.heap.size w0 w) (hs : a.eval s = v1) (b : Nat) (z : Value) (d : List Int) {base : Nat} (hx : a.eval x = .slice (some ⟨b, 0, none⟩) 1 1)
    (hel : OwI w base z d) (hbase : w0.heap.size ≤ base) (hc : w.cell? ⟨b, 0, none⟩ = some z) (hz : z.oneCell' = true) (hl : L1.length ≤ 1073741824)
    (h : ∀ v' w', Ow3 lo w' v' (L1 ++ [d]) v2 L2 v3 L3 → Below lo w w' → w.grownBy w' v1.ownBlock → (v'.ownBlock = v1.ownBlock ∨ v'.ownBlock = some w.heap.size) → K (a.put o.dst v') w') :
    o.wp Try.prog a w K Q := by
  obtain ⟨F1, F2, F3, h1, h2, h3, hn, hF⟩ := hown
  obtain ⟨n1, n23, n4⟩ := List.nodup_append.1 hn
  obtain ⟨i0, hi0, hz0, hz1, hz2⟩ := info_parts ints_info
  refine wp_push_ownF EI.stable s x ho Try.underlying27 hi0 hz0 hz1 hz2 rfl (by decide) (by decide) h1 n1 (fun b hb => (hF b (by simp [hb])).2) hbel hs b [z] d _ hx (EI.of hel) rfl ?_ ?_ ?_ ?_ hl ?_
  · cases z.ownBlock <;> simp
  · intro k hk
    have := hel.1.lt k (by simpa using hk)
    omega
  · intro j u hj
    match j, hj with
    | 0, hj => simp at hj; subst hj; exact hc
  · intro u hu; simp at hu; subst hu; exact hz
  · intro v' w' F' h1' hn' hF' hg hat
    have hs1 := hbel.size
    have hs2 := hg.size
    have hoth : ∀ b, b ∈ F2 ++ F3 → w'.heap[b]? = w0.heap[b]? := fun b hb => by
      have hlt := (hF b (List.mem_append.2 (.inr hb))).2
      rw [hg.block b (by omega) fun hv => n4 b (h1.mem hv.symm) b hb rfl, hbel.block b hlt]
    refine h v' w' ⟨F', F2, F3, h1', h2.stable EI.stable fun b hb => hoth b (by simp [hb]), h3.stable EI.stable fun b hb => hoth b (by simp [hb]), ?_, fun b hb => ?_⟩ ((Below.refl lo w).grown hg (by omega) fun k hk => (hF k (by simp [h1.mem hk])).1) hg hat
    · refine List.nodup_append.2 ⟨hn', n23, fun a ha b hb hab => ?_⟩
      subst hab
      rcases (hF' a ha).1 with h | h
      · exact n4 a h a hb rfl
      · have := (hF a (List.mem_append.2 (.inr hb))).2; omega
    · rcases List.mem_append.1 hb with hb | hb
      · obtain ⟨q1, q2⟩ := hF' b hb
        rcases q1 with q1 | q1
        · exact ⟨(hF b (by simp [q1])).1, q2⟩
        · exact ⟨by omega, q2⟩
      · have := hF b (List.mem_append.2 (.inr hb)); omega
theorem step_push3_1 {lo : Nat} {w0 w : World} {v1 v2 v3 : Value} {L1 L2 L3 : List (List Int)} {ops : Array Oper} {o : Oper} {a : Act} {K : Act → World → Prop} {Q : Exit → Act → World → Prop} {E : Prop} (hgd : o.guard = none) (s x : Operand)
    (ho : o.op = .call { callee := .builtin .append, args := #[s, x], argTypes := #[27, 27] })
    (hown : Ow3 lo w0 v1 L1 v2 L2 v3 L3) (hlo : lo ≤ w0.heap.size) (hbel : Below w0.heap.size w0 w) (hs : a.eval s = v1) (b : Nat) (z : Value) (d : List Int) {base : Nat} (hx : a.eval x = .slice (some ⟨b, 0, none⟩) 1 1)
    (hel : OwI w base z d) (hbase : w0.heap.size ≤ base) (hc : w.cell? ⟨b, 0, none⟩ = some z) (hz : z.oneCell' = true) (hl : L1.length ≤ 1073741824)
    (h : ∀ v' w', Ow3 lo w' v' (L1 ++ [d]) v2 L2 v3 L3 → Below lo w w' → w.grownBy w' v1.ownBlock → (v'.ownBlock = v1.ownBlock ∨ v'.ownBlock = some w.heap.size) → K (a.put o.dst v') w') :
    if Region.wanted o (yielded ops a.tmps) = true then Oper.wp Try.prog o a w K Q else E := by
  have hw : Region.wanted o (yielded ops a.tmps) = true := by simp [Region.wanted, hgd]
  rw [if_pos hw]
  exact wp_push3_1 s x ho hown hlo hbel hs b z d hx hel hbase hc hz hl h
theorem step_push3_2 {lo : Nat} {w0 w : World} {v1 v2 v3 : Value} {L1 L2 L3 : List (List Int)} {ops : Array Oper} {o : Oper} {a : Act} {K : Act → World → Prop} {Q : Exit → Act → World → Prop} {E : Prop} (hgd : o.guard = none) (s x : Operand)
    (ho : o.op = .call { callee := .builtin .append, args := #[s, x], argTypes := #[27, 27] })
    (hown : Ow3 lo w0 v1 L1 v2 L2 v3 L3) (hlo : lo ≤ w0.heap.size) (hbel : Below w0.heap.size w0 w) (hs : a.eval s = v2) (b : Nat) (z : Value) (d : List Int) {base : Nat} (hx : a.eval x = .slice (some ⟨b, 0, none⟩) 1 1)
    (hel : OwI w base z d) (hbase : w0.heap.size ≤ base) (hc : w.cell? ⟨b, 0, none⟩ = some z) (hz : z.oneCell' = true) (hl : L2.length ≤ 1073741824)
    (h : ∀ v' w', Ow3 lo w' v1 L1 v' (L2 ++ [d]) v3 L3 → Below lo w w' → w.grownBy w' v2.ownBlock → (v'.ownBlock = v2.ownBlock ∨ v'.ownBlock = some w.heap.size) → K (a.put o.dst v') w') :
    if Region.wanted o (yielded ops a.tmps) = true then Oper.wp Try.prog o a w K Q else E :=
  step_push3_1 hgd s x ho hown.swap hlo hbel hs b z d hx hel hbase hc hz hl fun v' w' h1 h2 h3 h4 => h v' w' h1.swap h2 h3 h4
theorem push3x_1 {lo : Nat} {w0 w : World} {v1 v2 v3 : Value} {L1 L2 L3 : List (List Int)} {ops : Array Oper} {rest : List Oper} {o : Oper} {a : Act} {Q : Exit → Act → World → Prop} (hgd : o.guard = none) (s x : Operand)
    (ho : o.op = .call { callee := .builtin .append, args := #[s, x], argTypes := #[27, 27] })
    (hown : Ow3 lo w0 v1 L1 v2 L2 v3 L3) (hlo : lo ≤ w0.heap.size) (hbel : Below w0.heap.size w0 w) (hs : a.eval s = v1) (b : Nat) (z : Value) (d : List Int) {base : Nat} (hx : a.eval x = .slice (some ⟨b, 0, none⟩) 1 1)
    (hel : OwI w base z d) (hbase : w0.heap.size ≤ base) (hc : w.cell? ⟨b, 0, none⟩ = some z) (hz : z.oneCell' = true) (hl : L1.length ≤ 1073741824)
    (h : ∀ v' w', Ow3 lo w' v' (L1 ++ [d]) v2 L2 v3 L3 → Below lo w w' → w.grownBy w' v1.ownBlock → (v'.ownBlock = v1.ownBlock ∨ v'.ownBlock = some w.heap.size) → wpList Try.prog ops Q rest (a.put o.dst v') w') :
    wpList Try.prog ops Q (o :: rest) a w :=
  wpList_plain hgd fun _ hK => wp_push3_1 s x ho hown hlo hbel hs b z d hx hel hbase hc hz hl fun v' w' h1 h2 h3 h4 => hK _ _ (h v' w' h1 h2 h3 h4)
theorem cells3 {W : World} {b : Nat} {u0 u1 u2 : Value} (x y z : Value) (h0 : W.cell? ⟨b, 0, none⟩ = some u0) (h1 : W.cell? ⟨b, 1, none⟩ = some u1) (h2 : W.cell? ⟨b, 2, none⟩ = some u2) :
    (((W.setCell ⟨b, 0, none⟩ x).setCell ⟨b, 1, none⟩ y).setCell ⟨b, 2, none⟩ z).cell? ⟨b, 0, none⟩ = some x ∧ (((W.setCell ⟨b, 0, none⟩ x).setCell ⟨b, 1, none⟩ y).setCell ⟨b, 2, none⟩ z).cell? ⟨b, 1, none⟩ = some y ∧ (((W.setCell ⟨b, 0, none⟩ x).setCell ⟨b, 1, none⟩ y).setCell ⟨b, 2, none⟩ z).cell? ⟨b, 2, none⟩ = some z :=
  ⟨by rw [World.cell?_setCell_other _ _ _ _ (by simp), World.cell?_setCell_other _ _ _ _ (by simp), World.cell?_setCell_same _ _ _ h0],
   by rw [World.cell?_setCell_other _ _ _ _ (by simp)]; exact World.cell?_setCell_same _ _ _ ((World.cell?_setCell_other _ _ _ _ (by simp)).trans h1),
   World.cell?_setCell_same _ _ _ ((World.cell?_setCell_other _ _ _ _ (by simp)).trans ((World.cell?_setCell_other _ _ _ _ (by simp)).trans h2))⟩
set_option maxHeartbeats 400000 in
theorem specNewGraph_any (n : Int) (w : World) (hn : I64 n) :
    Calls Try.prog 61 #[.int .i64 n] w fun x w' => x = .returned (.tuple #[if inB n 1 3 = true then .agg #[.int .i64 n, .int .i64 1, .slice none 0 0] else .agg #[.int .i64 0, .int .i64 0, .slice none 0 0], .bool (inB n 1 3)]) ∧ Below w.heap.size w w' := by
  rcases e1 : inB n 1 3 with _ | _
  · go_enter Try.func61, Try.ntmps61
    go_wp2_with (go_at_call 33; refine (l1In_any _ _ _ _).mono ?_; rintro e w' ⟨rfl, rfl⟩)
    exact bodyPost_ret (v := .tuple #[.agg #[.int .i64 0, .int .i64 0, .slice none 0 0], .bool false]) (by simp [results, Try.results61, go_sem]) rfl ⟨rfl, (by repeat (first | exact Below.refl _ _ | (refine Below.setCell ?_ (by first | omega | (simp <;> omega)) _) | (refine bel_drewN ?_ _) | (refine Below.drew ?_) | (refine Below.alloc ?_ (by first | omega | (simp <;> omega)) _)))⟩
  · go_enter Try.func61, Try.ntmps61
    go_wp2_with (go_at_call 33; refine (l1In_any _ _ _ _).mono ?_; rintro e w' ⟨rfl, rfl⟩)
    exact bodyPost_ret (v := .tuple #[.agg #[.int .i64 n, .int .i64 1, .slice none 0 0], .bool true]) (by simp [results, Try.results61, go_sem]) rfl ⟨rfl, (by repeat (first | exact Below.refl _ _ | (refine Below.setCell ?_ (by first | omega | (simp <;> omega)) _) | (refine bel_drewN ?_ _) | (refine Below.drew ?_) | (refine Below.alloc ?_ (by first | omega | (simp <;> omega)) _)))⟩
set_option maxHeartbeats 1000000 in
theorem specAddEdge_any (v : Value) (g : GrD) (e : EdD) (w : World) (h : ArgG w v g) (he : E64 e) (hg : grB g = true) (hok : edgeOk g.1 g.2.1 e = true) (hl : g.2.2.length < 120) :
    Calls Try.prog 62 #[v, edV e] w fun x w' => ∃ r, x = .returned (.tuple #[r, .bool (decide (g.2.2.length < (insF cmpE g.2.2 e).length))]) ∧ OwG w' w.heap.size r (g.1, g.2.1, insF cmpE g.2.2 e) ∧ Below w.heap.size w w' := by
  have HG := Lib.hid h
  obtain ⟨r, n, es⟩ := g
  have HGR := Lib.hid hg
  have HOK := Lib.hid hok
  have HE64 := Lib.hid he
  simp only at hl
  obtain ⟨A, cap, rfl, HE⟩ : ∃ A cap, v = .agg #[.int .i64 r, .int .i64 n, .slice A es.length cap] ∧ Hid (ArgE w (.slice A es.length cap) es) := by
    obtain ⟨s, hv, _, _, ha⟩ := HG.out
    obtain ⟨A, cap, rfl⟩ := ha.form
    exact ⟨A, cap, hv, Lib.hid ha⟩
  obtain ⟨e1, e2, e3⟩ := e
  clear h hg hok he
  have bx : Below w.heap.size w (((w.alloc (Obj.cells #[Value.int IntKind.i64 r, Value.int IntKind.i64 n, .slice A es.length cap] 56)).alloc (Obj.cells #[.int .i64 e1, .int .i64 e2, .int .i64 e3] 79)).alloc (Obj.cells #[Value.int IntKind.i64 0, Value.int IntKind.i64 0, .slice none 0 0] 56)) := (by repeat (first | exact Below.refl _ _ | (refine Below.setCell ?_ (by first | omega | (simp <;> omega)) _) | (refine bel_drewN ?_ _) | (refine Below.drew ?_) | (refine Below.alloc ?_ (by first | omega | (simp <;> omega)) _)))
  unfold edV
  go_enter Try.func62, Try.ntmps62
  go_wp2_with fail
  obtain ⟨W0, hW0⟩ : ∃ W, W = (((w.alloc (Obj.cells #[Value.int IntKind.i64 r, Value.int IntKind.i64 n, .slice A es.length cap] 56)).alloc (Obj.cells #[.int .i64 e1, .int .i64 e2, .int .i64 e3] 79)).alloc (Obj.cells #[Value.int IntKind.i64 0, Value.int IntKind.i64 0, .slice none 0 0] 56)) := ⟨_, rfl⟩
  rw [← hW0] at bx ⊢
  have hsW : W0.heap.size = w.heap.size + 3 := by rw [hW0]; simp
  have P0 : Hid (W0.cell? ⟨w.heap.size, 0, none⟩ = some (.int .i64 r)) := Lib.hid (by rw [hW0]; simp [go_sem])
  have P1 : Hid (W0.cell? ⟨w.heap.size, 1, none⟩ = some (.int .i64 n)) := Lib.hid (by rw [hW0]; simp [go_sem])
  have P2 : Hid (W0.cell? ⟨w.heap.size, 2, none⟩ = some (.slice A es.length cap)) := Lib.hid (by rw [hW0]; simp [go_sem])
  have E0 : Hid (W0.cell? ⟨w.heap.size + 1, 0, none⟩ = some (.int .i64 e1)) := Lib.hid (by rw [hW0]; simp [go_sem])
  have E1 : Hid (W0.cell? ⟨w.heap.size + 1, 1, none⟩ = some (.int .i64 e2)) := Lib.hid (by rw [hW0]; simp [go_sem])
  have E2 : Hid (W0.cell? ⟨w.heap.size + 1, 2, none⟩ = some (.int .i64 e3)) := Lib.hid (by rw [hW0]; simp [go_sem])
  have R0 : Hid (∃ u, W0.cell? ⟨w.heap.size + 2, 0, none⟩ = some u) := Lib.hid ⟨.int .i64 0, by rw [hW0]; simp [go_sem]⟩
  have R1 : Hid (∃ u, W0.cell? ⟨w.heap.size + 2, 1, none⟩ = some u) := Lib.hid ⟨.int .i64 0, by rw [hW0]; simp [go_sem]⟩
  have R2 : Hid (∃ u, W0.cell? ⟨w.heap.size + 2, 2, none⟩ = some u) := Lib.hid ⟨.slice none 0 0, by rw [hW0]; simp [go_sem]⟩
  have RF : Hid (∀ j, W0.frozen? ⟨w.heap.size + 2, j, none⟩ = false) := Lib.hid fun j => by rw [hW0]; simp [go_sem]
  clear hW0
  have BX := Lib.hid bx
  have HCP := Lib.hid (l4Copy_any _ (r, n, es) W0 (HG.out.below bx) (show es.length ≤ 1073741824 by omega))
  clear bx
  refine HCP.out.mono ?_
  rintro x w1 ⟨r1, rfl, o1, b1⟩
  obtain ⟨s1, rfl, i1, i2, os1⟩ := o1
  obtain ⟨A1, c1, rfl, _⟩ := OwE.form os1
  have hs1 := b1.size
  have HB1 := Lib.hid b1
  have bz : Below W0.heap.size W0 (w1.alloc (Obj.cells #[Value.int IntKind.i64 r, Value.int IntKind.i64 n, .slice A1 es.length c1] 56)) := b1.alloc hs1 _
  clear HCP b1 os1
  have k0 := (bz.cell (p := ⟨w.heap.size, 0, none⟩) (by show w.heap.size < _; omega)).trans P0.out
  have k1 := (bz.cell (p := ⟨w.heap.size, 1, none⟩) (by show w.heap.size < _; omega)).trans P1.out
  have k2 := (bz.cell (p := ⟨w.heap.size, 2, none⟩) (by show w.heap.size < _; omega)).trans P2.out
  go_wp2_with fail
  clear k0 k1 k2
  obtain ⟨W1, hW1⟩ : ∃ W, W = w1.alloc (Obj.cells #[Value.int IntKind.i64 r, Value.int IntKind.i64 n, .slice A1 es.length c1] 56) := ⟨_, rfl⟩
  rw [← hW1] at bz ⊢
  have hsW1 : W1.heap.size = w1.heap.size + 1 := by rw [hW1]; simp
  have X0 : Hid (W1.cell? ⟨w1.heap.size, 0, none⟩ = some (.int .i64 r)) := Lib.hid (by rw [hW1]; simp [go_sem])
  have X1 : Hid (W1.cell? ⟨w1.heap.size, 1, none⟩ = some (.int .i64 n)) := Lib.hid (by rw [hW1]; simp [go_sem])
  have X2 : Hid (W1.cell? ⟨w1.heap.size, 2, none⟩ = some (.slice A1 es.length c1)) := Lib.hid (by rw [hW1]; simp [go_sem])
  have XF : Hid (∀ j, W1.frozen? ⟨w1.heap.size, j, none⟩ = false) := Lib.hid fun j => by rw [hW1]; simp [go_sem]
  have BZ := Lib.hid bz
  clear hW1 bz HB1
  have HIG := Lib.hid (specIsGraph_any _ (r, n, es) W1 (HG.out.below (BX.out.trans (BZ.out.mono BX.out.size))))
  rw [HGR.out] at HIG
  refine HIG.out.mono ?_
  rintro x w2 ⟨rfl, b2⟩
  have hs2 := b2.size
  have B2 := Lib.hid (BZ.out.trans (b2.mono BZ.out.size))
  have B2W := Lib.hid b2
  clear b2 HIG
  have k0 := (B2.out.cell (p := ⟨w.heap.size, 0, none⟩) (by show w.heap.size < _; omega)).trans P0.out
  have k1 := (B2.out.cell (p := ⟨w.heap.size, 1, none⟩) (by show w.heap.size < _; omega)).trans P1.out
  have k2 := (B2.out.cell (p := ⟨w.heap.size, 2, none⟩) (by show w.heap.size < _; omega)).trans P2.out
  have m0 := (B2.out.cell (p := ⟨w.heap.size + 1, 0, none⟩) (by show w.heap.size + 1 < _; omega)).trans E0.out
  have m1 := (B2.out.cell (p := ⟨w.heap.size + 1, 1, none⟩) (by show w.heap.size + 1 < _; omega)).trans E1.out
  have m2 := (B2.out.cell (p := ⟨w.heap.size + 1, 2, none⟩) (by show w.heap.size + 1 < _; omega)).trans E2.out
  have HED := Lib.hid (l4Edge_any r n A es.length cap (e1, e2, e3) w2)
  rw [HOK.out] at HED
  unfold edV at HED
  go_wp2_with fail
  refine HED.out.mono ?_
  rintro x w3 ⟨rfl, b3⟩
  have hs3 := b3.size
  have B3 := Lib.hid (B2.out.trans (b3.mono B2.out.size))
  have B3W := Lib.hid (B2W.out.trans (b3.mono B2W.out.size))
  clear b3 k0 k1 k2 m0 m1 m2 HED
  have k2 := (B3.out.cell (p := ⟨w.heap.size, 2, none⟩) (by show w.heap.size < _; omega)).trans P2.out
  have m0 := (B3.out.cell (p := ⟨w.heap.size + 1, 0, none⟩) (by show w.heap.size + 1 < _; omega)).trans E0.out
  have m1 := (B3.out.cell (p := ⟨w.heap.size + 1, 1, none⟩) (by show w.heap.size + 1 < _; omega)).trans E1.out
  have m2 := (B3.out.cell (p := ⟨w.heap.size + 1, 2, none⟩) (by show w.heap.size + 1 < _; omega)).trans E2.out
  have HPU := Lib.hid (l4Put_any _ es (e1, e2, e3) w3 ((HE.out.below BX.out).below B3.out) HE64.out (by omega))
  unfold edV at HPU
  have hlI : ((es.length : Int) ≥ 120) = False := by simp; omega
  go_wp2_with fail
  refine HPU.out.mono ?_
  rintro x w4 ⟨r4, rfl, o4, b4⟩
  have hs4 := b4.size
  have B4 := Lib.hid (B3.out.trans (b4.mono B3.out.size))
  have B4W := Lib.hid (B3W.out.trans (b4.mono B3W.out.size))
  clear b4 k2 m0 m1 m2 HPU
  obtain ⟨L, hL⟩ : ∃ L, L = insF cmpE es (e1, e2, e3) := ⟨_, rfl⟩
  rw [← hL] at o4
  have HLL := Lib.hid hL
  clear hL
  obtain ⟨A4, c4, rfl, _⟩ := OwE.form o4
  have O4 := Lib.hid o4
  have x0 := (B4W.out.cell (p := ⟨w1.heap.size, 0, none⟩) (by show w1.heap.size < _; omega)).trans X0.out
  have x1 := (B4W.out.cell (p := ⟨w1.heap.size, 1, none⟩) (by show w1.heap.size < _; omega)).trans X1.out
  have x2 := (B4W.out.cell (p := ⟨w1.heap.size, 2, none⟩) (by show w1.heap.size < _; omega)).trans X2.out
  have xf := (B4W.out.frozen (p := ⟨w1.heap.size, 2, none⟩) (by show w1.heap.size < _; omega)).trans (XF.out 2)
  clear o4
  go_wp2_with fail
  obtain ⟨w5, hw5⟩ : ∃ W, W = w4.setCell ⟨w1.heap.size, 2, none⟩ (.slice A4 L.length c4) := ⟨_, rfl⟩
  have y0 : w5.cell? ⟨w1.heap.size, 0, none⟩ = some (.int .i64 r) := by rw [hw5, World.cell?_setCell_other _ _ _ _ (by simp)]; exact x0
  have y1 : w5.cell? ⟨w1.heap.size, 1, none⟩ = some (.int .i64 n) := by rw [hw5, World.cell?_setCell_other _ _ _ _ (by simp)]; exact x1
  have y2 : w5.cell? ⟨w1.heap.size, 2, none⟩ = some (.slice A4 L.length c4) := by rw [hw5]; exact World.cell?_setCell_same _ _ _ x2
  have B5 : Hid (Below W0.heap.size W0 w5) := Lib.hid (by rw [hw5]; exact B4.out.setCell (by show _ ≤ w1.heap.size; omega) _)
  have O5 : Hid (OwE w5 W1.heap.size (.slice A4 L.length c4) L) := Lib.hid (by rw [hw5]; exact (O4.out.mono (by omega)).far (by show w1.heap.size < _; omega) _)
  rw [← hw5]
  clear hw5 x0 x1 x2 xf
  have k2 := (B5.out.cell (p := ⟨w.heap.size, 2, none⟩) (by show w.heap.size < _; omega)).trans P2.out
  obtain ⟨u0, hu0⟩ := R0.out
  obtain ⟨u1, hu1⟩ := R1.out
  obtain ⟨u2, hu2⟩ := R2.out
  have r0 := (B5.out.cell (p := ⟨w.heap.size + 2, 0, none⟩) (by show w.heap.size + 2 < _; omega)).trans hu0
  have r1 := (B5.out.cell (p := ⟨w.heap.size + 2, 1, none⟩) (by show w.heap.size + 2 < _; omega)).trans hu1
  have r2 := (B5.out.cell (p := ⟨w.heap.size + 2, 2, none⟩) (by show w.heap.size + 2 < _; omega)).trans hu2
  have rf0 := (B5.out.frozen (p := ⟨w.heap.size + 2, 0, none⟩) (by show w.heap.size + 2 < _; omega)).trans (RF.out 0)
  have rf1 := (B5.out.frozen (p := ⟨w.heap.size + 2, 1, none⟩) (by show w.heap.size + 2 < _; omega)).trans (RF.out 1)
  have rf2 := (B5.out.frozen (p := ⟨w.heap.size + 2, 2, none⟩) (by show w.heap.size + 2 < _; omega)).trans (RF.out 2)
  have hs5 : w.heap.size + 3 ≤ w5.heap.size := by have := B5.out.size; omega
  clear hu0 hu1 hu2 hlI
  go_region
  have c0 : (((w5.setCell ⟨w.heap.size + 1 + 1, 0, none⟩ (.int .i64 r)).setCell ⟨w.heap.size + 1 + 1, 1, none⟩ (.int .i64 n)).setCell ⟨w.heap.size + 1 + 1, 2, none⟩ (.slice A4 L.length c4)).drew.cell? ⟨w.heap.size + 1 + 1, 0, none⟩ = some (.int .i64 r) := by
    show (((w5.setCell ⟨w.heap.size + 1 + 1, 0, none⟩ (.int .i64 r)).setCell ⟨w.heap.size + 1 + 1, 1, none⟩ (.int .i64 n)).setCell ⟨w.heap.size + 1 + 1, 2, none⟩ (.slice A4 L.length c4)).cell? ⟨w.heap.size + 1 + 1, 0, none⟩ = some (.int .i64 r)
    rw [World.cell?_setCell_other _ _ _ _ (by simp), World.cell?_setCell_other _ _ _ _ (by simp), World.cell?_setCell_same _ _ _ r0]
  have c1' : (((w5.setCell ⟨w.heap.size + 1 + 1, 0, none⟩ (.int .i64 r)).setCell ⟨w.heap.size + 1 + 1, 1, none⟩ (.int .i64 n)).setCell ⟨w.heap.size + 1 + 1, 2, none⟩ (.slice A4 L.length c4)).drew.cell? ⟨w.heap.size + 1 + 1, 1, none⟩ = some (.int .i64 n) := by
    show (((w5.setCell ⟨w.heap.size + 1 + 1, 0, none⟩ (.int .i64 r)).setCell ⟨w.heap.size + 1 + 1, 1, none⟩ (.int .i64 n)).setCell ⟨w.heap.size + 1 + 1, 2, none⟩ (.slice A4 L.length c4)).cell? ⟨w.heap.size + 1 + 1, 1, none⟩ = some (.int .i64 n)
    rw [World.cell?_setCell_other _ _ _ _ (by simp)]
    exact World.cell?_setCell_same _ _ _ ((World.cell?_setCell_other _ _ _ _ (by simp)).trans r1)
  have c2 : (((w5.setCell ⟨w.heap.size + 1 + 1, 0, none⟩ (.int .i64 r)).setCell ⟨w.heap.size + 1 + 1, 1, none⟩ (.int .i64 n)).setCell ⟨w.heap.size + 1 + 1, 2, none⟩ (.slice A4 L.length c4)).drew.cell? ⟨w.heap.size + 1 + 1, 2, none⟩ = some (.slice A4 L.length c4) := by
    show (((w5.setCell ⟨w.heap.size + 1 + 1, 0, none⟩ (.int .i64 r)).setCell ⟨w.heap.size + 1 + 1, 1, none⟩ (.int .i64 n)).setCell ⟨w.heap.size + 1 + 1, 2, none⟩ (.slice A4 L.length c4)).cell? ⟨w.heap.size + 1 + 1, 2, none⟩ = some (.slice A4 L.length c4)
    exact World.cell?_setCell_same _ _ _ ((World.cell?_setCell_other _ _ _ _ (by simp)).trans ((World.cell?_setCell_other _ _ _ _ (by simp)).trans r2))
  have B5W : Hid (Below w.heap.size w w5) := Lib.hid (BX.out.trans (B5.out.mono BX.out.size))
  have bw : Below w.heap.size w (((w5.setCell ⟨w.heap.size + 1 + 1, 0, none⟩ (.int .i64 r)).setCell ⟨w.heap.size + 1 + 1, 1, none⟩ (.int .i64 n)).setCell ⟨w.heap.size + 1 + 1, 2, none⟩ (.slice A4 L.length c4)).drew := (by repeat (first | exact Below.refl _ _ | (refine Below.setCell ?_ (by first | omega | (simp <;> omega)) _) | (refine bel_drewN ?_ _) | (refine Below.drew ?_) | (refine Below.alloc ?_ (by first | omega | (simp <;> omega)) _) | (refine Below.trans ?_ (Below.mono (Hid.out B5W) (by first | omega | (simp <;> omega))))))
  have ow : OwE (((w5.setCell ⟨w.heap.size + 1 + 1, 0, none⟩ (.int .i64 r)).setCell ⟨w.heap.size + 1 + 1, 1, none⟩ (.int .i64 n)).setCell ⟨w.heap.size + 1 + 1, 2, none⟩ (.slice A4 L.length c4)).drew W1.heap.size (.slice A4 L.length c4) L :=
    (((O5.out.far (by show w.heap.size + 1 + 1 < _; omega) _).far (by show w.heap.size + 1 + 1 < _; omega) _).far (by show w.heap.size + 1 + 1 < _; omega) _).drew
  generalize (((w5.setCell ⟨w.heap.size + 1 + 1, 0, none⟩ (.int .i64 r)).setCell ⟨w.heap.size + 1 + 1, 1, none⟩ (.int .i64 n)).setCell ⟨w.heap.size + 1 + 1, 2, none⟩ (.slice A4 L.length c4)).drew = wf at *
  clear r0 r1 r2 y0 y1 y2 k2 rf0 rf1 rf2
  go_wp2
  have hL := HLL.out
  clear HLL
  subst hL
  refine bodyPost_ret (v := .tuple #[.agg #[.int .i64 r, .int .i64 n, .slice A4 (insF cmpE es (e1, e2, e3)).length c4], .bool (decide (es.length < (insF cmpE es (e1, e2, e3)).length))]) (by simp [results, Try.results62, go_sem, c0, c1', c2]) rfl ⟨_, rfl, ⟨.slice A4 (insF cmpE es (e1, e2, e3)).length c4, rfl, i1, i2, ow.mono (base' := w.heap.size) (by omega)⟩, bw⟩
/-- The graph with loops for the first letters. -/
theorem whole_gr : ∀ (r i : Nat), 1 ≤ r → r ≤ 3 → i ≤ r → grB ((r : Int), 1, wholeE i) = true ∧ (i < r → edgeOk r 1 (0, (i : Int) + 1, 0) = true ∧ insF cmpE (wholeE i) (0, (i : Int) + 1, 0) = wholeE (i + 1)) := by
  intro r i h1 h2 h3
  have hr : r = 1 ∨ r = 2 ∨ r = 3 := by omega
  have hi : i = 0 ∨ i = 1 ∨ i = 2 ∨ i = 3 := by omega
  rcases hr with rfl | rfl | rfl <;> rcases hi with rfl | rfl | rfl | rfl <;> first | omega | decide +kernel
theorem whole_len (i : Nat) : (wholeE i).length = i := by simp [wholeE]
theorem whole_64 (i : Nat) (h : i ≤ 3) : E64s (wholeE i) := by
  intro e he
  unfold wholeE at he
  obtain ⟨j, hj, rfl⟩ := List.mem_map.1 he
  have := List.mem_range.1 hj
  exact ⟨⟨by simp only; omega, by simp only; omega⟩, ⟨by simp only; omega, by simp only; omega⟩, ⟨by simp only; omega, by simp only; omega⟩⟩
set_option maxHeartbeats 1000000 in
theorem specWholeGroup_any (n : Int) (w : World) (hn : I64 n) :
    Calls Try.prog 34 #[.int .i64 n] w fun x w' => (inB n 1 3 = false → ∃ r, x = .returned (.tuple #[r, .bool false]) ∧ r = .agg #[.int .i64 0, .int .i64 0, .slice none 0 0]) ∧ (inB n 1 3 = true → ∃ r, x = .returned (.tuple #[r, .bool true]) ∧ ArgG w' r (wholeG n.toNat)) ∧ Below w.heap.size w w' := by
  have HNG := Lib.hid (specNewGraph_any n (w.alloc (Obj.cells #[Value.int IntKind.i64 0, Value.int IntKind.i64 0, .slice none 0 0] 56)) hn)
  have bx : Below w.heap.size w (w.alloc (Obj.cells #[Value.int IntKind.i64 0, Value.int IntKind.i64 0, .slice none 0 0] 56)) := (by repeat (first | exact Below.refl _ _ | (refine Below.setCell ?_ (by first | omega | (simp <;> omega)) _) | (refine bel_drewN ?_ _) | (refine Below.drew ?_) | (refine Below.alloc ?_ (by first | omega | (simp <;> omega)) _)))
  go_enter Try.func34, Try.ntmps34
  go_wp2_with fail
  obtain ⟨W0, hW0⟩ : ∃ W, W = w.alloc (Obj.cells #[Value.int IntKind.i64 0, Value.int IntKind.i64 0, .slice none 0 0] 56) := ⟨_, rfl⟩
  rw [← hW0] at bx HNG ⊢
  have hsW : W0.heap.size = w.heap.size + 1 := by rw [hW0]; simp
  have R0 : Hid (W0.cell? ⟨w.heap.size, 0, none⟩ = some (.int .i64 0)) := Lib.hid (by rw [hW0]; simp [go_sem])
  have R1 : Hid (W0.cell? ⟨w.heap.size, 1, none⟩ = some (.int .i64 0)) := Lib.hid (by rw [hW0]; simp [go_sem])
  have R2 : Hid (W0.cell? ⟨w.heap.size, 2, none⟩ = some (.slice none 0 0)) := Lib.hid (by rw [hW0]; simp [go_sem])
  have RF : Hid (∀ j, W0.frozen? ⟨w.heap.size, j, none⟩ = false) := Lib.hid fun j => by rw [hW0]; simp [go_sem]
  have BX := Lib.hid bx
  clear hW0 bx
  refine HNG.out.mono ?_
  rintro x w1 ⟨rfl, b1⟩
  have hs1 := b1.size
  have B1 := Lib.hid b1
  clear b1 HNG
  have HB1 : Hid (Below w.heap.size w w1) := Lib.hid (BX.out.trans (B1.out.mono BX.out.size))
  have r0 := (B1.out.cell (p := ⟨w.heap.size, 0, none⟩) (by show w.heap.size < _; omega)).trans R0.out
  have r1 := (B1.out.cell (p := ⟨w.heap.size, 1, none⟩) (by show w.heap.size < _; omega)).trans R1.out
  have r2 := (B1.out.cell (p := ⟨w.heap.size, 2, none⟩) (by show w.heap.size < _; omega)).trans R2.out
  have RF1 : Hid (∀ j, w1.frozen? ⟨w.heap.size, j, none⟩ = false) := Lib.hid fun j => (B1.out.frozen (p := ⟨w.heap.size, j, none⟩) (by show w.heap.size < _; omega)).trans (RF.out j)
  have R0' := Lib.hid r0
  have R1' := Lib.hid r1
  have R2' := Lib.hid r2
  clear r0 r1 r2 R0 R1 R2 RF
  have hsw : w.heap.size < w1.heap.size := by omega
  rcases ek : inB n 1 3 with _ | _
  · simp only [Bool.false_eq_true, if_false]
    go_wp2
    go_loop [6] (fun i => i = .int .i64 1) (fun _ => 0)
    case atStart => rfl
    case round =>
      obtain rfl := hrel
      have bz : Below w1.heap.size w1 (w1.alloc (Obj.cells #[Value.int IntKind.i64 0, Value.int IntKind.i64 0, .slice none 0 0] 56)) := (Below.refl _ _).alloc (Nat.le_refl _) _
      obtain ⟨W2, hW2⟩ : ∃ W, W = w1.alloc (Obj.cells #[Value.int IntKind.i64 0, Value.int IntKind.i64 0, .slice none 0 0] 56) := ⟨_, rfl⟩
      rw [← hW2] at bz ⊢
      have K0 := (bz.cell (p := ⟨w.heap.size, 0, none⟩) hsw).trans R0'.out
      have K1 := (bz.cell (p := ⟨w.heap.size, 1, none⟩) hsw).trans R1'.out
      have K2 := (bz.cell (p := ⟨w.heap.size, 2, none⟩) hsw).trans R2'.out
      have F0 := (bz.frozen (p := ⟨w.heap.size, 0, none⟩) hsw).trans (RF1.out 0)
      have F1 := (bz.frozen (p := ⟨w.heap.size, 1, none⟩) hsw).trans (RF1.out 1)
      have F2 := (bz.frozen (p := ⟨w.heap.size, 2, none⟩) hsw).trans (RF1.out 2)
      have B0 : W2.cell? ⟨w1.heap.size, 0, none⟩ = some (.int .i64 0) := by rw [hW2]; simp [go_sem]
      have B1' : W2.cell? ⟨w1.heap.size, 1, none⟩ = some (.int .i64 0) := by rw [hW2]; simp [go_sem]
      have B2 : W2.cell? ⟨w1.heap.size, 2, none⟩ = some (.slice none 0 0) := by rw [hW2]; simp [go_sem]
      have HB2 : Hid (Below w.heap.size w W2) := Lib.hid (HB1.out.trans (bz.mono HB1.out.size))
      have hs2 : w1.heap.size < W2.heap.size := by rw [hW2]; simp
      have hs3 : w.heap.size < W2.heap.size := by omega
      clear hW2 bz
      rcases ej : decide ((1 : Int) ≤ n) with _ | _
      all_goals
        go_wp2
        obtain ⟨c0, c1, c2⟩ := cells3 (.int .i64 0) (.int .i64 0) (.slice none 0 0) K0 K1 K2
        have bw : Below w.heap.size w (((W2.setCell ⟨w.heap.size, 0, none⟩ (.int .i64 0)).setCell ⟨w.heap.size, 1, none⟩ (.int .i64 0)).setCell ⟨w.heap.size, 2, none⟩ (.slice none 0 0)) := (by repeat (first | exact Below.refl _ _ | (refine Below.setCell ?_ (by first | omega | (simp <;> omega)) _) | (refine bel_drewN ?_ _) | (refine Below.drew ?_) | (refine Below.alloc ?_ (by first | omega | (simp <;> omega)) _) | (refine Below.trans ?_ (Below.mono (Hid.out HB2) (by first | omega | (simp <;> omega))))))
        generalize ((W2.setCell ⟨w.heap.size, 0, none⟩ (.int .i64 0)).setCell ⟨w.heap.size, 1, none⟩ (.int .i64 0)).setCell ⟨w.heap.size, 2, none⟩ (.slice none 0 0) = wf at *
        exact bodyPost_ret (v := .tuple #[.agg #[.int .i64 0, .int .i64 0, .slice none 0 0], .bool false]) (by simp [results, Try.results34, go_sem, c0, c1, c2]) rfl ⟨by first | rfl | exact ⟨_, rfl, rfl⟩ | simp, bw⟩
  · simp only [if_true]
    obtain ⟨hn1, hn3⟩ := inB_iff.1 ek
    obtain ⟨N, rfl⟩ : ∃ N : Nat, n = (N : Int) := ⟨n.toNat, by omega⟩
    have hN1 : 1 ≤ N := by omega
    have hN3 : N ≤ 3 := by omega
    have HEK := Lib.hid ek
    clear ek hn hn1 hn3
    obtain ⟨W2, hW2⟩ : ∃ W, W = w1.alloc (Obj.cells #[Value.int IntKind.i64 N, Value.int IntKind.i64 1, .slice none 0 0] 56) := ⟨_, rfl⟩
    have bz : Below w1.heap.size w1 (w1.alloc (Obj.cells #[Value.int IntKind.i64 N, Value.int IntKind.i64 1, .slice none 0 0] 56)) := (Below.refl _ _).alloc (Nat.le_refl _) _
    go_wp2_with fail
    rw [← hW2] at bz ⊢
    have HB2 : Hid (Below w.heap.size w W2) := Lib.hid (HB1.out.trans (bz.mono HB1.out.size))
    have HBZ := Lib.hid bz
    have hs2 : w1.heap.size < W2.heap.size := by rw [hW2]; simp
    have x0 : W2.cell? ⟨w1.heap.size, 0, none⟩ = some (.int .i64 N) := by rw [hW2]; simp [go_sem]
    have x1 : W2.cell? ⟨w1.heap.size, 1, none⟩ = some (.int .i64 1) := by rw [hW2]; simp [go_sem]
    have x2 : W2.cell? ⟨w1.heap.size, 2, none⟩ = some (.slice none 0 0) := by rw [hW2]; simp [go_sem]
    have xf : ∀ j, W2.frozen? ⟨w1.heap.size, j, none⟩ = false := fun j => by rw [hW2]; simp [go_sem]
    have X0 := Lib.hid x0
    have X1 := Lib.hid x1
    have X2 := Lib.hid x2
    have XF := Lib.hid xf
    clear hW2 bz x0 x1 x2 xf
    go_loopw [6] (fun i wr => ∃ (k : Nat) (A : Option Addr) (cap : Nat), k ≤ N ∧ i = .int .i64 (k + 1) ∧ wr.cell? ⟨w1.heap.size, 0, none⟩ = some (.int .i64 N) ∧ wr.cell? ⟨w1.heap.size, 1, none⟩ = some (.int .i64 1) ∧ wr.cell? ⟨w1.heap.size, 2, none⟩ = some (.slice A k cap) ∧
        OwE wr W2.heap.size (.slice A k cap) (wholeE k) ∧ (∀ j, wr.frozen? ⟨w1.heap.size, j, none⟩ = false) ∧ Below w1.heap.size W2 wr) (fun i _ => N + 1 - (intOf i).toNat)
    case atStart => exact ⟨0, none, 0, Nat.zero_le _, rfl, X0.out, X1.out, X2.out, OwE.nil, XF.out, Below.refl _ _⟩
    case round =>
      obtain ⟨k, A, cap, hk, rfl, k0, k1, k2, hO, hf, hb⟩ := hrel
      have K0 := Lib.hid k0
      have K1 := Lib.hid k1
      have K2 := Lib.hid k2
      have HO := Lib.hid hO
      have HF := Lib.hid hf
      have HB := Lib.hid hb
      have hsr := hb.size
      clear hO hf hb
      have hg1 : w1.heap.size < wr.heap.size := by omega
      by_cases hlt : k < N
      · obtain ⟨hgr, hst⟩ := whole_gr N k hN1 hN3 hk
        obtain ⟨hed, hins⟩ := hst hlt
        have HAD := Lib.hid (specAddEdge_any (.agg #[.int .i64 N, .int .i64 1, .slice A k cap]) (N, 1, wholeE k) (0, (k : Int) + 1, 0) wr ⟨_, rfl, ⟨by show _ ≤ (N : Int); omega, by show (N : Int) ≤ _; omega⟩, ⟨by show (-9223372036854775808 : Int) ≤ 1; omega, by show (1 : Int) ≤ _; omega⟩, HO.out.arg⟩
          ⟨⟨by simp only; omega, by simp only; omega⟩, ⟨by simp only; omega, by simp only; omega⟩, ⟨by simp only; omega, by simp only; omega⟩⟩ hgr hed (by simp only; rw [whole_len]; omega))
        simp only [hins, whole_len] at HAD
        unfold edV at HAD
        simp only at HAD
        have HLK : Hid ((wholeE (k + 1)).length = k + 1) := Lib.hid (whole_len _)
        clear hgr hst hed hins
        go_wp2_with fail
        refine HAD.out.mono ?_
        rintro x w3 ⟨r3, rfl, o3, b3⟩
        obtain ⟨s3, rfl, _, _, os3⟩ := o3
        obtain ⟨A3, c3, rfl, _⟩ := OwE.form os3
        have hs3 := b3.size
        have o3' : OwE w3 W2.heap.size (.slice A3 (wholeE (k + 1)).length c3) (wholeE (k + 1)) := os3.mono (by omega)
        rw [HLK.out] at o3'
        have O3 := Lib.hid o3'
        clear o3'
        simp only [HLK.out]
        have bq : Below wr.heap.size wr (w3.alloc (Obj.cells #[Value.int IntKind.i64 N, Value.int IntKind.i64 1, .slice A3 (k + 1) c3] 56)) := b3.alloc hs3 _
        have j0 := (bq.cell (p := ⟨w1.heap.size, 0, none⟩) hg1).trans K0.out
        have j1 := (bq.cell (p := ⟨w1.heap.size, 1, none⟩) hg1).trans K1.out
        have j2 := (bq.cell (p := ⟨w1.heap.size, 2, none⟩) hg1).trans K2.out
        have f0 := (bq.frozen (p := ⟨w1.heap.size, 0, none⟩) hg1).trans (HF.out 0)
        have f1 := (bq.frozen (p := ⟨w1.heap.size, 1, none⟩) hg1).trans (HF.out 1)
        have f2 := (bq.frozen (p := ⟨w1.heap.size, 2, none⟩) hg1).trans (HF.out 2)
        have hsz3 : (w3.alloc (Obj.cells #[Value.int IntKind.i64 N, Value.int IntKind.i64 1, .slice A3 (k + 1) c3] 56)).heap.size = w3.heap.size + 1 := by simp
        have BQ := Lib.hid bq
        clear os3 b3 k0 k1 k2 bq
        have O4 := Lib.hid (O3.out.alloc (Obj.cells #[Value.int IntKind.i64 N, Value.int IntKind.i64 1, .slice A3 (k + 1) c3] 56))
        have C3 := Lib.hid (cells3 (.int .i64 N) (.int .i64 1) (.slice A3 (k + 1) c3) j0 j1 j2)
        have F3 : Hid (∀ j, (w3.alloc (Obj.cells #[Value.int IntKind.i64 N, Value.int IntKind.i64 1, .slice A3 (k + 1) c3] 56)).frozen? ⟨w1.heap.size, j, none⟩ = false) := Lib.hid fun j => (BQ.out.frozen (p := ⟨w1.heap.size, j, none⟩) hg1).trans (HF.out j)
        have B4 : Hid (Below w1.heap.size W2 (w3.alloc (Obj.cells #[Value.int IntKind.i64 N, Value.int IntKind.i64 1, .slice A3 (k + 1) c3] 56))) := Lib.hid (HB.out.trans (BQ.out.mono (by omega)))
        go_wp2
        generalize w3.alloc (Obj.cells #[Value.int IntKind.i64 N, Value.int IntKind.i64 1, .slice A3 (k + 1) c3] 56) = w4 at *
        go_roundw
        all_goals first
          | exact ⟨k + 1, A3, c3, by omega, by go_num, C3.out.1, C3.out.2.1, C3.out.2.2, ((O4.out.far (by show w1.heap.size < _; omega) _).far (by show w1.heap.size < _; omega) _).far (by show w1.heap.size < _; omega) _, fun j => by rw [World.frozen?_setCell, World.frozen?_setCell, World.frozen?_setCell]; exact F3.out j, ((B4.out.setCell (Nat.le_refl _) _).setCell (Nat.le_refl _) _).setCell (Nat.le_refl _) _⟩
          | exact ⟨⟨k + 1, A3, c3, by omega, by go_num, C3.out.1, C3.out.2.1, C3.out.2.2, ((O4.out.far (by show w1.heap.size < _; omega) _).far (by show w1.heap.size < _; omega) _).far (by show w1.heap.size < _; omega) _, fun j => by rw [World.frozen?_setCell, World.frozen?_setCell, World.frozen?_setCell]; exact F3.out j, ((B4.out.setCell (Nat.le_refl _) _).setCell (Nat.le_refl _) _).setCell (Nat.le_refl _) _⟩, by simp [intOf]; omega⟩
          | (simp [intOf]; omega)
      · obtain rfl : k = N := by omega
        have HB1R : Hid (Below w1.heap.size w1 wr) := Lib.hid (HBZ.out.trans HB.out)
        have K0' := (HB1R.out.cell (p := ⟨w.heap.size, 0, none⟩) hsw).trans R0'.out
        have K1' := (HB1R.out.cell (p := ⟨w.heap.size, 1, none⟩) hsw).trans R1'.out
        have K2' := (HB1R.out.cell (p := ⟨w.heap.size, 2, none⟩) hsw).trans R2'.out
        have F0 := (HB1R.out.frozen (p := ⟨w.heap.size, 0, none⟩) hsw).trans (RF1.out 0)
        have F1 := (HB1R.out.frozen (p := ⟨w.heap.size, 1, none⟩) hsw).trans (RF1.out 1)
        have F2 := (HB1R.out.frozen (p := ⟨w.heap.size, 2, none⟩) hsw).trans (RF1.out 2)
        have hs3 : w.heap.size < wr.heap.size := by omega
        go_wp2
        obtain ⟨c0, c1, c2⟩ := cells3 (.int .i64 k) (.int .i64 1) (.slice A k cap) K0' K1' K2'
        have HBR : Hid (Below w.heap.size w wr) := Lib.hid (HB1.out.trans (HB1R.out.mono HB1.out.size))
        have bw : Below w.heap.size w (((wr.setCell ⟨w.heap.size, 0, none⟩ (.int .i64 k)).setCell ⟨w.heap.size, 1, none⟩ (.int .i64 1)).setCell ⟨w.heap.size, 2, none⟩ (.slice A k cap)) := (by repeat (first | exact Below.refl _ _ | (refine Below.setCell ?_ (by first | omega | (simp <;> omega)) _) | (refine bel_drewN ?_ _) | (refine Below.drew ?_) | (refine Below.alloc ?_ (by first | omega | (simp <;> omega)) _) | (refine Below.trans ?_ (Below.mono (Hid.out HBR) (by first | omega | (simp <;> omega))))))
        have ow := ((HO.out.far (p := ⟨w.heap.size, 0, none⟩) (by show w.heap.size < _; omega) (.int .i64 k)).far (p := ⟨w.heap.size, 1, none⟩) (by show w.heap.size < _; omega) (.int .i64 1)).far (p := ⟨w.heap.size, 2, none⟩) (by show w.heap.size < _; omega) (.slice A k cap)
        generalize ((wr.setCell ⟨w.heap.size, 0, none⟩ (.int .i64 k)).setCell ⟨w.heap.size, 1, none⟩ (.int .i64 1)).setCell ⟨w.heap.size, 2, none⟩ (.slice A k cap) = wf at *
        refine bodyPost_ret (v := .tuple #[.agg #[.int .i64 k, .int .i64 1, .slice A k cap], .bool true]) (by simp [results, Try.results34, go_sem, c0, c1, c2]) rfl ⟨fun h => absurd (h.symm.trans HEK.out) (by decide), fun _ => ⟨_, rfl, ⟨_, rfl, ?_, ?_, ?_⟩⟩, bw⟩
        · show I64 (((k : Int)).toNat : Int)
          rw [Int.toNat_natCast]
          unfold I64
          omega
        · show I64 1
          unfold I64
          omega
        · show ArgE wf _ (wholeE (k : Int).toNat)
          rw [Int.toNat_natCast]
          exact ow.arg
end Go.Proofs.Ytgoghkboklehnaa
