/- A map from the texts of words: which words it holds. -/
import Derived.Test.YtnmkbkpegkchpaaSrtW
import Derived.Maps.OwnSet
import Derived.Maps.OwnOps
import Derived.StringKeys
namespace Go.Proofs.Ytnmkbkpegkchpaa
set_option maxRecDepth 20000
set_option linter.unusedVariables false
set_option linter.unusedSimpArgs false
open Go.RowKit

theorem lt_code {x : Int} {c : UInt8} (h : lt x = [c]) : c ≠ 49 := by
  rcases lt_cases x with ⟨_, e⟩ | ⟨_, e⟩ | ⟨_, e⟩ | ⟨_, e⟩ | ⟨_, e⟩ | ⟨_, e⟩ | ⟨_, e⟩ <;> rw [e] at h <;> first | (injection h with h; subst h; decide) | cases h
def okT (y : List Int) : Prop := ∀ x ∈ y, lt x ≠ []
theorem fmtW_T {y : List Int} (h : okT y) : fmtW y = if y = [] then [49] else y.flatMap lt := by
  unfold fmtW
  rw [okL_ok fun j hj => h _ (List.getElem_mem hj), if_pos rfl]
theorem fmtW_inj {a b : List Int} (ha : okT a) (hb : okT b) (h : fmtW a = fmtW b) : a = b := by
  rw [fmtW_T ha, fmtW_T hb] at h
  have key : ∀ y : List Int, okT y → y ≠ [] → [49] ≠ y.flatMap lt := fun y hy hn e => by
    match y, hn with
    | x :: l, _ =>
      obtain ⟨c, hc⟩ := lt_one x (hy x (by simp))
      simp only [List.flatMap_cons, hc, List.cons_append, List.nil_append, List.cons.injEq] at e
      exact lt_code hc e.1.symm
  by_cases h1 : a = []
  · by_cases h2 : b = []
    · rw [h1, h2]
    · rw [if_pos h1, if_neg h2] at h
      exact absurd h (key b hb h2)
  · by_cases h2 : b = []
    · rw [if_neg h1, if_pos h2] at h
      exact absurd h.symm (key a ha h1)
    · rw [if_neg h1, if_neg h2] at h
      exact flat_inj ha hb h
theorem fmtW_len (y : List Int) : (fmtW y).length ≤ y.length + 1 := by
  unfold fmtW
  have := flatL_len y
  repeat' split
  all_goals first | omega | simp
theorem let_okT {r : Int} (hr : inB r 1 3 = true) {w : List Int} (h : ∀ x ∈ w, letB r x = true) : okT w := fun x hx => by
  have h1 := let_small hr h x hx
  have hb := inB_iff.1 hr
  have h2 := (letB_iff hr).1 (h x hx)
  rcases lt_cases x with ⟨_, e⟩ | ⟨_, e⟩ | ⟨_, e⟩ | ⟨_, e⟩ | ⟨_, e⟩ | ⟨_, e⟩ | ⟨h, e⟩
  all_goals first | (exfalso; omega) | (rw [e]; simp)
theorem strK : Go.Maps.Keyed Try.prog 9 := Go.Maps.string_keyed Try.underlying9
theorem zeroI (w : World) : (zeroValue 3).run Try.prog w = .ok (.int .i64 0) w := by kernel_rfl
theorem strK_key {y : List Int} (h : y.length ≤ 1000) : keyOf Try.prog 9 (.string ⟨(fmtW y).toArray⟩) = some (.string (fmtW y)) := by
  have := Go.WideMaps.keyOf_string_mk (P := Try.prog) (k := 9) Try.underlying9 (s := ⟨(fmtW y).toArray⟩) (by
    have := fmtW_len y
    show ((fmtW y).toArray).size ≤ maxLen
    rw [List.size_toArray]
    unfold maxLen
    omega)
  simpa using this
theorem strK_lit {y : List Int} (h : y.length ≤ 1000) : WideAt.IsKeyLit (.string (fmtW y)) := strK.key (strK_key h)
/-- The map D holds 1 at the words of q, and 0 at all others. -/
structure MapQ (D : DataW Unit) (q : List (List Int)) : Prop where
  im : Go.Maps.IsMap D
  at_ : ∀ y, okT y → D.atKey (.string (fmtW y)) (.lit (.int .i64 0)) = .lit (.int .i64 (if y ∈ q then 1 else 0))
theorem MapQ.nil : MapQ (.map []) [] := ⟨Go.Maps.isMap_empty, fun y _ => by rfl⟩
theorem MapQ.put {D : DataW Unit} {q : List (List Int)} (h : MapQ D q) {y : List Int} (hy : okT y) (hl : y.length ≤ 1000) : MapQ (D.put (.string (fmtW y)) (.lit (.int .i64 1))) (q ++ [y]) := by
  refine ⟨h.im.put _ _, fun z hz => ?_⟩
  by_cases e : z = y
  · subst e
    rw [Go.Maps.atKey_put_same h.im (strK_lit hl)]
    simp
  · have hne : (Lit.string (fmtW z)) ≠ .string (fmtW y) := fun h => by
      injection h with h
      exact e (fmtW_inj hz hy h)
    rw [Go.Maps.atKey_put_other hne, h.at_ z hz]
    simp [e]
/-- A map's literal lays one entry. -/
theorem wp_insert {P : Program} (w : World) {ops : Array Oper} {rest : List Oper} {o : Oper} {a : Act} {Q : Exit → Act → World → Prop}
    (hg : o.guard = none) (m x v : Operand) (t : TypeId) (hop : o.op = Op.insert t m x v)
    (k e : TypeId) (K : Go.Maps.Keyed P k) (ht : P.underlying t = some (.map k e)) (R : Value → Option (DataW Unit × List MemPlace)) (b n : Nat) (D : DataW Unit)
    (hm : a.eval m = .map (some b)) (hown : w.ownsMap P k R b n D) (hn : n < maxLen) (key val : Value) (kl : Lit) (hx : a.eval x = key) (hv : a.eval v = val) (hkey : keyOf P k key = some kl)
    (d : DataW Unit) (ps : List MemPlace) (hval : R val = some (d, ps))
    (hK : ∀ w', w'.ownsMap P k R b (n + 1) (D.put kl d) → w.grownBy w' (some b) → wpList P ops Q rest (a.put o.dst undef) w') : wpList P ops Q (o :: rest) a w := by
  refine wpList_plain hg fun K' hK' => ?_
  obtain ⟨w', hrun, r1, r2⟩ := hown.update K ht hn hkey hval
  unfold Oper.wp
  simp [execOp, hop, hm, hx, hv, hrun, Result.andThen]
  exact hK' _ _ (hK w' r1 r2)
end Go.Proofs.Ytnmkbkpegkchpaa
