/- Lists of lists of ints that the caller alone holds. -/
import Derived.Test.YtbflljcafbneaaaGreatOwn
namespace Go.Proofs.YtbflljcafbneaaaGreat
set_option maxRecDepth 20000
set_option linter.unusedVariables false
set_option linter.unusedSimpArgs false
open Go.RowKit

def EI : El (List Int) := fun w cs d F => ∃ s, cs = [s] ∧ OwI w 0 s d ∧ F = s.ownBlock.toList
theorem EI.stable : Stable EI := by
  rintro w w' cs d F ⟨s, rfl, ho, rfl⟩ hb
  exact ⟨s, rfl, ⟨ownsRow_keep ho.1 fun b h => hb b (by rw [h]; simp), ho.2⟩, rfl⟩
theorem EI.of {w : World} {s : Value} {xs : List Int} {base : Nat} (h : OwI w base s xs) : EI w [s] xs s.ownBlock.toList := ⟨s, rfl, h.mono (Nat.zero_le _), rfl⟩
abbrev OwII (lo hi : Nat) (v : Value) (L : List (List Int)) (w : World) : Prop := OwnL EI 44 1 lo hi w v L
theorem OwII_lit (w : World) {lo : Nat} (h : lo ≤ w.heap.size) : OwII lo (w.heap.size + 1) (.slice (some ⟨w.heap.size, 0, none⟩) 0 0) [] (w.alloc (.cells #[] 44)) := by
  refine OwnL.nil ?_ fun b hb => ?_
  · have := World.ownsRow_lit (e := 44) (size := 1) (base := 0) w #[] 0 (Nat.zero_le _) (by unfold maxLen; omega) (by simp)
    simpa using this
  · simp [Value.ownBlock] at hb; omega
theorem flat_ones (es : List (List Value × List Int × List Nat)) (h : ∀ e ∈ es, e.1.length = 1) : ((es.map (·.1)).flatten).length = es.length ∧ ∀ i (hi : i < es.length) (hi' : i < ((es.map (·.1)).flatten).length), es[i].1 = [((es.map (·.1)).flatten)[i]] := by
  induction es with
  | nil => exact ⟨rfl, fun i hi => by simp at hi⟩
  | cons e es ih =>
    have he := h e (by simp)
    obtain ⟨x, hx⟩ : ∃ x, e.1 = [x] := by
      match hh : e.1 with
      | [] => rw [hh] at he; simp at he
      | [x] => exact ⟨x, rfl⟩
      | a :: b :: l => rw [hh] at he; simp at he
    obtain ⟨i1, i2⟩ := ih fun e' he' => h e' (by simp [he'])
    have e3 : ((e :: es).map (·.1)).flatten = x :: (es.map (·.1)).flatten := by simp [hx]
    refine ⟨by rw [e3]; simp [i1], fun i hi hi' => ?_⟩
    match i with
    | 0 => simp [e3, hx]
    | j + 1 =>
      have := i2 j (by simpa using hi) (by simp [i1]; simpa using hi)
      simp only [e3, List.getElem_cons_succ]
      exact this
/-- It reads as the list. -/
theorem OwII.rd {lo hi : Nat} {v : Value} {L : List (List Int)} {w : World} (h : OwII lo hi v L w) : RdII w v L := by
  obtain ⟨F, ⟨es, h1, h2, h3, rfl⟩, _, _⟩ := h
  have hl : es.length = L.length := by rw [← h1]; simp
  rw [hl] at h3
  obtain ⟨f1, f2⟩ := flat_ones es fun e he => (h2 e he).1
  refine ⟨(es.map (·.1)).flatten, by rw [f1, hl], RdV.of_own h3, fun i hi hi' => ?_⟩
  have hie : i < es.length := by omega
  obtain ⟨s, hs, ho, _⟩ := (h2 es[i] (by simp)).2
  have e := f2 i hie hi'
  rw [hs] at e
  injection e with e
  rw [← e]
  have e2 : es[i].2.1 = L[i] := by simp [← h1]
  rw [← e2]
  exact ho.rd
/-- 'out = append(out, x)', x a list of ints made since. -/
theorem push_ints {lo : Nat} {w0 w : World} {v : Value} {L : List (List Int)} {ops : Array Oper} {rest : List Oper} {o : Oper} {a : Act} {Q : Exit → Act → World → Prop} (hgd : o.guard = none) (s x : Operand)
    (ho : o.op = .call { callee := .builtin .append, args := #[s, x], argTypes := #[26, 26] })
    (hown : OwII lo w0.heap.size v L w0) (hlo : lo ≤ w0.heap.size) (hbel : Below w0.heap.size w0 w) (hs : a.eval s = v) (b : Nat) (z : Value) (d : List Int) {base : Nat} (hx : a.eval x = .slice (some ⟨b, 0, none⟩) 1 1)
    (hel : OwI w base z d) (hbase : w0.heap.size ≤ base) (hc : w.cell? ⟨b, 0, none⟩ = some z) (hz : z.oneCell' = true) (hl : L.length ≤ 1073741824)
    (h : ∀ v' w', OwII lo w'.heap.size v' (L ++ [d]) w' → w.grownBy w' v.ownBlock → wpList Tryz.prog ops Q rest (a.put o.dst v') w') :
    wpList Tryz.prog ops Q (o :: rest) a w := by
  obtain ⟨i0, hi0, hz0, hz1, hz2⟩ := info_parts ints_info
  refine push_own EI.stable hgd s x ho Tryz.underlying26 hi0 hz0 hz1 hz2 rfl (by decide) (by decide) hown hlo hbel hs b [z] d _ hx (EI.of hel) rfl ?_ ?_ ?_ ?_ hl h
  · cases z.ownBlock <;> simp
  · intro k hk
    have := hel.1.lt k (by simpa using hk)
    omega
  · intro j u hj
    match j, hj with
    | 0, hj => simp at hj; subst hj; exact hc
  · intro u hu; simp at hu; subst hu; exact hz
theorem slice_one (A : Option Addr) (n c : Nat) : (Value.slice A n c).oneCell' = true := rfl
end Go.Proofs.YtbflljcafbneaaaGreat
