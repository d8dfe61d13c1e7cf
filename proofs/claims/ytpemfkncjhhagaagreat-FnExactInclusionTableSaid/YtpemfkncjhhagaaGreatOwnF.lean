/- Lists whose elements hold memory: an element appended, and where the blocks come from. Lists of lists of ints that the caller alone holds. -/
import Derived.Test.YtpemfkncjhhagaaGreatOwn
import Derived.Deep.RegionHeld3
namespace Go.Proofs.YtpemfkncjhhagaaGreat
set_option maxRecDepth 20000
set_option linter.unusedVariables false
set_option linter.unusedSimpArgs false
open Go.RowKit

def EI : El (List Int) := fun w cs d F => ∃ s, cs = [s] ∧ OwI w 0 s d ∧ F = s.ownBlock.toList
theorem EI.stable : Stable EI := by
  rintro w w' cs d F ⟨s, rfl, ho, rfl⟩ hb
  exact ⟨s, rfl, ⟨ownsRow_keep ho.1 fun b h => hb b (by rw [h]; simp), ho.2⟩, rfl⟩
theorem EI.of {w : World} {s : Value} {xs : List Int} {base : Nat} (h : OwI w base s xs) : EI w [s] xs s.ownBlock.toList := ⟨s, rfl, h.mono (Nat.zero_le _), rfl⟩
abbrev OwII (lo hi : Nat) (v : Value) (L : List (List Int)) (w : World) : Prop := OwnL EI 33 1 lo hi w v L
theorem OwII_lit (w : World) {lo : Nat} (h : lo ≤ w.heap.size) : OwII lo (w.heap.size + 1) (.slice (some ⟨w.heap.size, 0, none⟩) 0 0) [] (w.alloc (.cells #[] 33)) := by
  refine OwnL.nil ?_ fun b hb => ?_
  · have := World.ownsRow_lit (e := 33) (size := 1) (base := 0) w #[] 0 (Nat.zero_le _) (by unfold maxLen; omega) (by simp)
    simpa using this
  · simp [Value.ownBlock] at hb; omega
theorem flat_ones (es : List (List Value × List Int × List Nat)) (h : ∀ e ∈ es, e.1.length = 1) : ((es.map (·.1)).flatten).length = es.length ∧ ∀ i (hi : i < es.length) (hi' : i < ((es.map (·.1)).flatten).length), es[i].1 = [((es.map (·.1)).flatten)[i]] := by
  induction es with
  | nil => exact ⟨rfl, fun i hi => by simp at hi⟩
  | cons e es ih =>
    have he := h e (by simp)
    obtain ⟨x, hx⟩ : ∃ x, e.1 = [x] := by
      match hh : e.1 with
      | [] => rw [hh] at he; simp at he
      | [x] => exact ⟨x, rfl⟩
      | a :: b :: l => rw [hh] at he; simp at he
    obtain ⟨i1, i2⟩ := ih fun e' he' => h e' (by simp [he'])
    have e3 : ((e :: es).map (·.1)).flatten = x :: (es.map (·.1)).flatten := by simp [hx]
    refine ⟨by rw [e3]; simp [i1], fun i hi hi' => ?_⟩
    match i with
    | 0 => simp [e3, hx]
    | j + 1 =>
      have := i2 j (by simpa using hi) (by simp [i1]; simpa using hi)
      simp only [e3, List.getElem_cons_succ]
      exact this
/-- It reads as the list. -/
theorem OwII.rd {lo hi : Nat} {v : Value} {L : List (List Int)} {w : World} (h : OwII lo hi v L w) : RdII w v L := by
  obtain ⟨F, ⟨es, h1, h2, h3, rfl⟩, _, _⟩ := h
  have hl : es.length = L.length := by rw [← h1]; simp
  rw [hl] at h3
  obtain ⟨f1, f2⟩ := flat_ones es fun e he => (h2 e he).1
  refine ⟨(es.map (·.1)).flatten, by rw [f1, hl], RdV.of_own h3, fun i hi hi' => ?_⟩
  have hie : i < es.length := by omega
  obtain ⟨s, hs, ho, _⟩ := (h2 es[i] (by simp)).2
  have e := f2 i hie hi'
  rw [hs] at e
  injection e with e
  rw [← e]
  have e2 : es[i].2.1 = L[i] := by simp [← h1]
  rw [← e2]
  exact ho.rd
/-- 'out = append(out, x)', x a list of ints made since. -/
theorem push_ints {lo : Nat} {w0 w : World} {v : Value} {L : List (List Int)} {ops : Array Oper} {rest : List Oper} {o : Oper} {a : Act} {Q : Exit → Act → World → Prop} (hgd : o.guard = none) (s x : Operand)
    (ho : o.op = .call { callee := .builtin .append, args := #[s, x], argTypes := #[41, 41] })
    (hown : OwII lo w0.heap.size v L w0) (hlo : lo ≤ w0.heap.size) (hbel : Below w0.heap.size w0 w) (hs : a.eval s = v) (b : Nat) (z : Value) (d : List Int) {base : Nat} (hx : a.eval x = .slice (some ⟨b, 0, none⟩) 1 1)
    (hel : OwI w base z d) (hbase : w0.heap.size ≤ base) (hc : w.cell? ⟨b, 0, none⟩ = some z) (hz : z.oneCell' = true) (hl : L.length ≤ 1073741824)
    (h : ∀ v' w', OwII lo w'.heap.size v' (L ++ [d]) w' → w.grownBy w' v.ownBlock → wpList Tryz.prog ops Q rest (a.put o.dst v') w') :
    wpList Tryz.prog ops Q (o :: rest) a w := by
  obtain ⟨i0, hi0, hz0, hz1, hz2⟩ := info_parts ints_info
  refine push_own EI.stable hgd s x ho Tryz.underlying41 hi0 hz0 hz1 hz2 rfl (by decide) (by decide) hown hlo hbel hs b [z] d _ hx (EI.of hel) rfl ?_ ?_ ?_ ?_ hl h
  · cases z.ownBlock <;> simp
  · intro k hk
    have := hel.1.lt k (by simpa using hk)
    omega
  · intro j u hj
    match j, hj with
    | 0, hj => simp at hj; subst hj; exact hc
  · intro u hu; simp at hu; subst hu; exact hz
theorem slice_one (A : Option Addr) (n c : Nat) : (Value.slice A n c).oneCell' = true := rfl
theorem OwLf.mem {α : Type} {E : El α} {t : TypeId} {width : Nat} {w : World} {v : Value} {ds : List α} {F : List Nat} (h : OwLf E t width w v ds F) {b : Nat} (hb : v.ownBlock = some b) : b ∈ F := by
  obtain ⟨es, h1, h2, h3, rfl⟩ := h
  rw [hb]; simp
/-- An element appended; where the blocks come from is told. -/
theorem push_ownF {α : Type} {E : El α} (hE : Stable E) {t ts : TypeId} {ti : TypeInfo} {z : Value} {width bytes : Nat} {w0 w : World} {v : Value} {ds : List α} {F : List Nat} {ops : Array Oper} {rest : List Oper} {o : Oper} {a : Act} {Q : Exit → Act → World → Prop} (hgd : o.guard = none) (s x : Operand)
    (ho : o.op = .call { callee := .builtin .append, args := #[s, x], argTypes := #[ts, ts] })
    (ht : Tryz.prog.underlying ts = some (.slice t)) (hi : Tryz.prog.info? t = some ti) (hz : ti.zero = some z) (hsize : ti.size = width) (hby : ti.bytes = bytes) (hzs : z.cells.size = width) (hsz : 0 < width) (hb0 : bytes ≤ 128)
    (hown : OwLf E t width w0 v ds F) (hnF : F.Nodup) (hF : ∀ b ∈ F, b < w0.heap.size) (hbel : Below w0.heap.size w0 w) (hs : a.eval s = v) (b : Nat) (cs : List Value) (d : α) (Fe : List Nat) (hx : a.eval x = .slice (some ⟨b, 0, none⟩) 1 1)
    (hel : E w cs d Fe) (hcs : cs.length = width) (hnd : Fe.Nodup) (hFe : ∀ b ∈ Fe, w0.heap.size ≤ b ∧ b < w.heap.size) (hc : ∀ j u, cs[j]? = some u → w.cell? ⟨b, j, none⟩ = some u) (h1 : ∀ u ∈ cs, u.oneCell' = true) (hl : ds.length ≤ 1073741824)
    (h : ∀ v' w' F', OwLf E t width w' v' (ds ++ [d]) F' → F'.Nodup → (∀ b ∈ F', (b ∈ F ∨ w0.heap.size ≤ b) ∧ b < w'.heap.size) → w.grownBy w' v.ownBlock → wpList Tryz.prog ops Q rest (a.put o.dst v') w') :
    wpList Tryz.prog ops Q (o :: rest) a w := by
  obtain ⟨es, e1, e2, e3, rfl⟩ := hown
  have hln : es.length = ds.length := by rw [← e1]; simp
  have hvb : ∀ b, v.ownBlock = some b → b < w0.heap.size := fun b hb => hF b (by rw [hb]; simp)
  rw [hln] at e3
  have hrow := ownsRow_keep e3 (w' := w) fun b hb => hbel.block b (hvb b hb)
  refine wpList_append_own_at _ hgd s x ts ho 0 t ti z width bytes ht hi hz hsize hby hzs hsz v ds.length _ hs hrow ⟨b, 0, none⟩ 1 1 cs hx (by omega) ?_ h1 (by unfold maxLen; omega) ?_ (Nat.zero_le _) ?_
  · intro j u hj
    have e : (⟨b, 0, none⟩ : Addr).add j = ⟨b, j, none⟩ := by simp [Addr.add]; intro h; exact h.symm
    rw [e]; exact hc j u hj
  · calc (ds.length + 1) * bytes ≤ 1073741825 * 128 := Nat.mul_le_mul (by omega) hb0
      _ ≤ 140737488355328 := by decide
  · intro v' w' h2 hg _ hat
    have hsz := hbel.size
    have hsz2 := hg.size
    have hmem : ∀ e ∈ es, ∀ b ∈ e.2.2, b ∈ (es.map (·.2.2)).flatten := fun e he b hb => List.mem_flatten.2 ⟨e.2.2, List.mem_map.2 ⟨e, he, rfl⟩, hb⟩
    have hapart : ∀ b ∈ (es.map (·.2.2)).flatten, some b ≠ v.ownBlock := by
      intro b hb hv
      rw [← hv] at hnF
      exact (List.nodup_append.1 hnF).2.2 b (by simp) b hb rfl
    refine h v' w' (v'.ownBlock.toList ++ ((es.map (·.2.2)).flatten ++ Fe)) ⟨es ++ [(cs, d, Fe)], by simp [e1], ?_, ?_, by simp⟩ ?_ ?_ hg
    · intro e he
      rcases List.mem_append.1 he with he | he
      · refine ⟨(e2 e he).1, hE _ _ _ _ _ (e2 e he).2 fun b hb => ?_⟩
        have hlt' := hF b (List.mem_append.2 (.inr (hmem e he b hb)))
        rw [hg.block b (by omega) (hapart b (hmem e he b hb)), hbel.block b hlt']
      · simp at he
        subst he
        refine ⟨hcs, hE _ _ _ _ _ hel fun b hb => hg.block b (hFe b hb).2 fun hv => ?_⟩
        have := hvb b hv.symm
        have := hFe b hb
        omega
    · simpa [hln] using h2
    · have n1 : ((es.map (·.2.2)).flatten).Nodup := (List.nodup_append.1 hnF).2.1
      have n2 : ((es.map (·.2.2)).flatten ++ Fe).Nodup := by
        refine List.nodup_append.2 ⟨n1, hnd, fun a ha b hb hab => ?_⟩
        have := hF a (List.mem_append.2 (.inr ha))
        have := (hFe b hb).1
        omega
      refine List.nodup_append.2 ⟨?_, n2, fun a ha b hb hab => ?_⟩
      · cases v'.ownBlock <;> simp
      · subst hab
        have ha' : v'.ownBlock = some a := by simpa using ha
        rcases hat with hat | hat
        · rw [hat] at ha'
          rcases List.mem_append.1 hb with hb | hb
          · exact hapart a hb ha'.symm
          · have := hvb a ha'; have := hFe a hb; omega
        · rw [hat] at ha'
          injection ha' with ha'
          rcases List.mem_append.1 hb with hb | hb
          · have := hF a (List.mem_append.2 (.inr hb)); omega
          · have := hFe a hb; omega
    · intro b hb
      rcases List.mem_append.1 hb with hb | hb
      · have hb' : v'.ownBlock = some b := by simpa using hb
        refine ⟨?_, (h2.lt b hb').2⟩
        rcases hat with hat | hat
        · rw [hat] at hb'; exact .inl (List.mem_append.2 (.inl (by rw [hb']; simp)))
        · rw [hat] at hb'; injection hb' with hb'; exact .inr (by omega)
      · rcases List.mem_append.1 hb with hb | hb
        · have := hF b (List.mem_append.2 (.inr hb)); exact ⟨.inl (List.mem_append.2 (.inr hb)), by omega⟩
        · have := hFe b hb; exact ⟨.inr (by omega), by omega⟩
theorem wp_push_ownF {α : Type} {E : El α} (hE : Stable E) {t ts : TypeId} {ti : TypeInfo} {z : Value} {width bytes : Nat} {w0 w : World} {v : Value} {ds : List α} {F : List Nat} {o : Oper} {a : Act} {K : Act → World → Prop} {Q : Exit → Act → World → Prop} (s x : Operand)
    (ho : o.op = .call { callee := .builtin .append, args := #[s, x], argTypes := #[ts, ts] })
    (ht : Tryz.prog.underlying ts = some (.slice t)) (hi : Tryz.prog.info? t = some ti) (hz : ti.zero = some z) (hsize : ti.size = width) (hby : ti.bytes = bytes) (hzs : z.cells.size = width) (hsz : 0 < width) (hb0 : bytes ≤ 128)
    (hown : OwLf E t width w0 v ds F) (hnF : F.Nodup) (hF : ∀ b ∈ F, b < w0.heap.size) (hbel : Below w0.heap.size w0 w) (hs : a.eval s = v) (b : Nat) (cs : List Value) (d : α) (Fe : List Nat) (hx : a.eval x = .slice (some ⟨b, 0, none⟩) 1 1)
    (hel : E w cs d Fe) (hcs : cs.length = width) (hnd : Fe.Nodup) (hFe : ∀ b ∈ Fe, w0.heap.size ≤ b ∧ b < w.heap.size) (hc : ∀ j u, cs[j]? = some u → w.cell? ⟨b, j, none⟩ = some u) (h1 : ∀ u ∈ cs, u.oneCell' = true) (hl : ds.length ≤ 1073741824)
    (h : ∀ v' w' F', OwLf E t width w' v' (ds ++ [d]) F' → F'.Nodup → (∀ b ∈ F', (b ∈ F ∨ w0.heap.size ≤ b) ∧ b < w'.heap.size) → w.grownBy w' v.ownBlock → (v'.ownBlock = v.ownBlock ∨ v'.ownBlock = some w.heap.size) → K (a.put o.dst v') w') :
    o.wp Tryz.prog a w K Q := by
  obtain ⟨es, e1, e2, e3, rfl⟩ := hown
  have hln : es.length = ds.length := by rw [← e1]; simp
  have hvb : ∀ b, v.ownBlock = some b → b < w0.heap.size := fun b hb => hF b (by rw [hb]; simp)
  rw [hln] at e3
  have hrow := ownsRow_keep e3 (w' := w) fun b hb => hbel.block b (hvb b hb)
  have hcc : ∀ j u, cs[j]? = some u → w.cell? ((⟨b, 0, none⟩ : Addr).add j) = some u := fun j u hj => by
    have e : (⟨b, 0, none⟩ : Addr).add j = ⟨b, j, none⟩ := by simp [Addr.add]; intro h; exact h.symm
    rw [e]; exact hc j u hj
  have hroom : (ds.length + 1) * bytes ≤ 140737488355328 := by
    calc (ds.length + 1) * bytes ≤ 1073741825 * 128 := Nat.mul_le_mul (by omega) hb0
      _ ≤ 140737488355328 := by decide
  obtain ⟨v', w', hrun, h2, hg, _, hat⟩ := run_append_own_at (P := Tryz.prog) w 0 ts o.type t ti z width bytes ht hi hz hsize hby hzs hsz v ds.length _ hrow ⟨b, 0, none⟩ 1 1 cs (by omega) hcc h1 (by unfold maxLen; omega) hroom (Nat.zero_le _)
  unfold Oper.wp execOp
  simp only [ho, resolve, invoke, builtin, Sem.run_bind, Sem.run_pure, Result.andThen_ok, List.map_toArray, List.map_cons, List.map_nil, hs, hx, hrun]
  show K (a.put o.dst v') w'
  have hsz := hbel.size
  have hsz2 := hg.size
  have hmem : ∀ e ∈ es, ∀ b ∈ e.2.2, b ∈ (es.map (·.2.2)).flatten := fun e he b hb => List.mem_flatten.2 ⟨e.2.2, List.mem_map.2 ⟨e, he, rfl⟩, hb⟩
  have hapart : ∀ b ∈ (es.map (·.2.2)).flatten, some b ≠ v.ownBlock := by
    intro b hb hv
    rw [← hv] at hnF
    exact (List.nodup_append.1 hnF).2.2 b (by simp) b hb rfl
  refine h v' w' (v'.ownBlock.toList ++ ((es.map (·.2.2)).flatten ++ Fe)) ⟨es ++ [(cs, d, Fe)], by simp [e1], ?_, ?_, by simp⟩ ?_ ?_ hg hat
  · intro e he
    rcases List.mem_append.1 he with he | he
    · refine ⟨(e2 e he).1, hE _ _ _ _ _ (e2 e he).2 fun b hb => ?_⟩
      have hlt' := hF b (List.mem_append.2 (.inr (hmem e he b hb)))
      rw [hg.block b (by omega) (hapart b (hmem e he b hb)), hbel.block b hlt']
    · simp at he
      subst he
      refine ⟨hcs, hE _ _ _ _ _ hel fun b hb => hg.block b (hFe b hb).2 fun hv => ?_⟩
      have := hvb b hv.symm
      have := hFe b hb
      omega
  · simpa [hln] using h2
  · have n1 : ((es.map (·.2.2)).flatten).Nodup := (List.nodup_append.1 hnF).2.1
    have n2 : ((es.map (·.2.2)).flatten ++ Fe).Nodup := by
      refine List.nodup_append.2 ⟨n1, hnd, fun a ha b hb hab => ?_⟩
      have := hF a (List.mem_append.2 (.inr ha))
      have := (hFe b hb).1
      omega
    refine List.nodup_append.2 ⟨?_, n2, fun a ha b hb hab => ?_⟩
    · cases v'.ownBlock <;> simp
    · subst hab
      have ha' : v'.ownBlock = some a := by simpa using ha
      rcases hat with hat | hat
      · rw [hat] at ha'
        rcases List.mem_append.1 hb with hb | hb
        · exact hapart a hb ha'.symm
        · have := hvb a ha'; have := hFe a hb; omega
      · rw [hat] at ha'
        injection ha' with ha'
        rcases List.mem_append.1 hb with hb | hb
        · have := hF a (List.mem_append.2 (.inr hb)); omega
        · have := hFe a hb; omega
  · intro b hb
    rcases List.mem_append.1 hb with hb | hb
    · have hb' : v'.ownBlock = some b := by simpa using hb
      refine ⟨?_, (h2.lt b hb').2⟩
      rcases hat with hat | hat
      · rw [hat] at hb'; exact .inl (List.mem_append.2 (.inl (by rw [hb']; simp)))
      · rw [hat] at hb'; injection hb' with hb'; exact .inr (by omega)
    · rcases List.mem_append.1 hb with hb | hb
      · have := hF b (List.mem_append.2 (.inr hb)); exact ⟨.inl (List.mem_append.2 (.inr hb)), by omega⟩
      · have := hFe b hb; exact ⟨.inr (by omega), by omega⟩
/-- 'out = append(out, row)' in a drawn region; where the blocks come from is told. -/
theorem step_push_ints {w0 w : World} {v : Value} {L : List (List Int)} {F : List Nat} {ops : Array Oper} {o : Oper} {a : Act} {K : Act → World → Prop} {Q : Exit → Act → World → Prop} {E : Prop} (hgd : o.guard = none) (s x : Operand)
    (ho : o.op = .call { callee := .builtin .append, args := #[s, x], argTypes := #[41, 41] })
    (hown : OwLf EI 33 1 w0 v L F) (hnF : F.Nodup) (hF : ∀ b ∈ F, b < w0.heap.size) (hbel : Below w0.heap.size w0 w) (hs : a.eval s = v) (b : Nat) (z : Value) (d : List Int) {base : Nat} (hx : a.eval x = .slice (some ⟨b, 0, none⟩) 1 1)
    (hel : OwI w base z d) (hbase : w0.heap.size ≤ base) (hc : w.cell? ⟨b, 0, none⟩ = some z) (hz : z.oneCell' = true) (hl : L.length ≤ 1073741824)
    (h : ∀ v' w' F', OwLf EI 33 1 w' v' (L ++ [d]) F' → F'.Nodup → (∀ b ∈ F', (b ∈ F ∨ w0.heap.size ≤ b) ∧ b < w'.heap.size) → w.grownBy w' v.ownBlock → (v'.ownBlock = v.ownBlock ∨ v'.ownBlock = some w.heap.size) → K (a.put o.dst v') w') :
    if Region.wanted o (yielded ops a.tmps) = true then Oper.wp Tryz.prog o a w K Q else E := by
  have hw : Region.wanted o (yielded ops a.tmps) = true := by simp [Region.wanted, hgd]
  rw [if_pos hw]
  obtain ⟨i0, hi0, hz0, hz1, hz2⟩ := info_parts ints_info
  refine wp_push_ownF EI.stable s x ho Tryz.underlying41 hi0 hz0 hz1 hz2 rfl (by decide) (by decide) hown hnF hF hbel hs b [z] d _ hx (EI.of hel) rfl ?_ ?_ ?_ ?_ hl h
  · cases z.ownBlock <;> simp
  · intro k hk
    have := hel.1.lt k (by simpa using hk)
    omega
  · intro j u hj
    match j, hj with
    | 0, hj => simp at hj; subst hj; exact hc
  · intro u hu; simp at hu; subst hu; exact hz
theorem three_rd {w : World} {u v t : Value} {xs ys zs : List Int} (h : RdI w u xs) (h' : RdI w v ys) (h'' : RdI w t zs) : RdII (w.alloc (.cells #[u, v, t] 33)) (.slice (some ⟨w.heap.size, 0, none⟩) 3 3) [xs, ys, zs] := by
  have hr := World.ownsRow_lit (e := 33) (size := 1) (base := 0) w #[u, v, t] 3 (Nat.zero_le _) (by unfold maxLen; omega) (by simp)
  refine ⟨[u, v, t], rfl, RdV.of_own (by simpa using hr), fun i hi hi' => ?_⟩
  match i, hi with
  | 0, _ => exact h.alloc _
  | 1, _ => exact h'.alloc _
  | 2, _ => exact h''.alloc _
end Go.Proofs.YtpemfkncjhhagaaGreat
