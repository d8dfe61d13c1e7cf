/- A region that draws its order, whose operations are quiet but for the last, a call whose result nobody reads. -/
import Derived.Test.YtnnckojpmnpgbaaQuiC
namespace Go.Proofs.Ytnnckojpmnpgbaa
set_option maxRecDepth 20000
set_option linter.unusedVariables false
set_option linter.unusedSimpArgs false
open Go.RowKit

/-- Every operation waits for earlier ones alone; each but the last is waited for; the last is not guarded. -/
def lastD (ops : Array Oper) (n : Nat) : Bool :=
  (List.range ops.size).all (fun i => match ops[i]? with | some o => o.after.all (fun e => !Region.binds .any e || decide (e.on < i)) | none => true) &&
  (List.range n).all (fun i => (List.range ops.size).any fun j => decide (i < j) && match ops[j]? with | some o => o.after.any (fun e => Region.binds .any e && e.on == i) | none => false) &&
  match ops[n]? with | some o => o.guard.isNone | none => false

section
variable {P : Program} {ops ops' : Array Oper} {n : Nat} {C : World → Prop}

structure LastOd (ops ops' : Array Oper) (n : Nat) (st st' : Oper) : Prop where
  size : ops.size = n + 1
  size' : ops'.size = n + 1
  like : ∀ j, j < n → (ops'[j]?).map (·.after) = (ops[j]?).map (·.after) ∧ (ops'[j]?).bind (·.dst) = (ops[j]?).bind (·.dst)
  hst : ops[n]? = some st
  hst' : ops'[n]? = some st'
  after : st'.after = st.after
  dst : st'.dst = st.dst
  guard : st.guard = none
  guard' : st'.guard = none
  back : ∀ i o, ops[i]? = some o → ∀ e ∈ o.after, Region.binds .any e = true → e.on < i
  chain : ∀ i, i < n → ∃ j o, i < j ∧ ops[j]? = some o ∧ ∃ e ∈ o.after, Region.binds .any e = true ∧ e.on = i

variable {st st' : Oper}

theorem LastOd.get (h : LastOd ops ops' n st st') (j : Nat) : (ops'[j]?).map (·.after) = (ops[j]?).map (·.after) ∧ (ops'[j]?).bind (·.dst) = (ops[j]?).bind (·.dst) := by
  rcases Nat.lt_trichotomy j n with hj | rfl | hj
  · exact h.like j hj
  · rw [h.hst, h.hst']; simp [h.after, h.dst]
  · rw [Array.getElem?_eq_none (by rw [h.size']; omega), Array.getElem?_eq_none (by rw [h.size]; omega)]; exact ⟨rfl, rfl⟩
theorem LastOd.ready (h : LastOd ops ops' n st st') (listed : Array Bool) : Region.ready .any ops' listed = Region.ready .any ops listed := by
  unfold Region.ready
  rw [h.size, h.size']
  refine List.filter_congr fun i _ => ?_
  have := (h.get i).1
  congr 1
  cases e1 : ops'[i]? <;> cases e2 : ops[i]? <;> rw [e1, e2] at this <;> simp at this ⊢
  rw [this]
theorem LastOd.yielded (h : LastOd ops ops' n st st') (t : Array Value) : yielded ops' t = yielded ops t := by
  funext j
  unfold Go.yielded
  rw [(h.get j).2]

theorem LastOd.all (h : LastOd ops ops' n st st') {listed : Array Bool} (hc : Cl ops listed) (hr : n ∈ Region.ready .any ops listed) :
    ∀ (d i : Nat), n - i = d → i < n → listed.getD i false = true := by
  intro d
  induction d using Nat.strongRecOn with
  | _ d ih =>
    intro i hd hi
    obtain ⟨j, o, hij, ho, e, he, hb, rfl⟩ := h.chain i hi
    have hj : j < n + 1 := by rw [← h.size]; exact (Array.getElem?_eq_some_iff.1 ho).1
    by_cases hjn : j = n
    · subst hjn
      obtain ⟨_, o', ho', hall⟩ := mem_ready.1 hr
      rw [ho] at ho'
      injection ho' with ho'
      subst ho'
      exact hall e he hb
    · exact hc.2 j o ho (ih (n - j) (by omega) j rfl (by omega)) e he hb
theorem LastOd.done (h : LastOd ops ops' n st st') {listed : Array Bool} (hc : Cl ops listed) (hr : n ∈ Region.ready .any ops listed) :
    Region.ready .any ops (listed.setIfInBounds n true) = [] := by
  rw [List.eq_nil_iff_forall_not_mem]
  intro j hj
  obtain ⟨h0, o, ho, _⟩ := mem_ready.1 hj
  have hjn : j < n + 1 := by rw [← h.size]; exact (Array.getElem?_eq_some_iff.1 ho).1
  have hs : listed.size = n + 1 := hc.1.trans h.size
  by_cases e : n = j
  · subst e
    simp [hs] at h0
  · rw [getD_set_ne true e, getD_tf (by omega), h.all hc hr _ j rfl (by omega)] at h0
    cases h0
theorem LastOd.stuck (h : LastOd ops ops' n st st') {listed : Array Bool} (hs : listed.size = ops.size) : ∀ i, i < ops.size → listed.getD i true = false → Region.ready .any ops listed ≠ [] := by
  intro i
  induction i using Nat.strongRecOn with
  | _ i ih =>
    intro hi hl
    have ho : ops[i]? = some ops[i] := by simp [hi]
    by_cases hall : ∀ e ∈ ops[i].after, Region.binds .any e = true → listed.getD e.on false = true
    · exact List.ne_nil_of_mem (mem_ready.2 ⟨hl, _, ho, hall⟩)
    · simp only [Classical.not_forall] at hall
      obtain ⟨e, he, hb, hn⟩ := hall
      have hlt := h.back i _ ho e he hb
      exact ih e.on hlt (by omega) (by rw [getD_tf (by omega)]; simpa using hn)

theorem wpAny_of_lastD (h : LastOd ops ops' n st st') (hsame : ∀ j, j < n → ops'[j]? = ops[j]?) {Q : Act → Prop} {Q' : Exit → Act → World → Prop}
    (hQ : ∀ a w, C w → (∃ v, Q (a.put st.dst v)) → st.wp P a w (fun a w => Q' .normal a w) Q' ∨ (st.asks P a w ∧ LetsOut Q')) :
    ∀ (fuel : Nat) (listed : Array Bool) (a : Act) (w : World), C w → Cl ops listed → listed.getD n true = false →
    wpAnyQ P .any ops' C Q fuel listed a → wpAny P .any ops Q' fuel listed a w := by
  intro fuel
  induction fuel with
  | zero =>
    intro listed a w hw hc hn hh
    have := hh.1
    rw [h.ready] at this
    exact absurd this (h.stuck hc.1 n (by rw [h.size]; omega) hn)
  | succ fuel ih =>
    intro listed a w hw hc hn hh
    refine ⟨fun h0 => absurd h0 (h.stuck hc.1 n (by rw [h.size]; omega) hn), fun i hi => ?_⟩
    have hq := hh.2 i (by rw [h.ready]; exact hi)
    by_cases hin : i = n
    · subst hin
      have hd := h.done hc hi
      unfold wpOp
      unfold qOp at hq
      simp only [h.hst, h.hst'] at hq ⊢
      have w1 : Region.wanted st (Go.yielded ops a.tmps) = true := by unfold Region.wanted; rw [h.guard]
      have w2 : Region.wanted st' (Go.yielded ops' a.tmps) = true := by unfold Region.wanted; rw [h.guard']
      rw [if_pos w1]
      rw [if_pos w2] at hq
      obtain ⟨v, _, hK⟩ := hq
      rw [h.dst] at hK
      have hQa : ∃ v, Q (a.put st.dst v) := ⟨v, by
        cases fuel with
        | zero => exact hK.2
        | succ _ => exact hK.1 (by rw [h.ready]; exact hd)⟩
      exact (hQ a w hw hQa).imp (Oper.wp_mono fun a' w' hn' => wpAny_done hd hn' fuel) id
    · have hs := h.size
      obtain ⟨_, o, ho, _⟩ := mem_ready.1 hi
      have hlt : i < n := by have := (Array.getElem?_eq_some_iff.1 ho).1; omega
      have e : wpOp P ops Q' i (wpAny P .any ops Q' fuel (listed.setIfInBounds i true)) a w = wpOp P ops' Q' i (wpAny P .any ops Q' fuel (listed.setIfInBounds i true)) a w := by
        unfold wpOp
        rw [hsame i hlt, h.yielded]
      rw [e]
      exact wpOp_of_qOp hw (fun a' w' hw' hk => ih _ a' w' hw' (hc.set hi) (by rw [getD_set_ne true hin]; exact hn) hk) hq
end


theorem lastOd_of {l : List Oper} {n : Nat} (hl : l.length = n + 1) (hB : lastD l.toArray n = true) : ∃ st, lastL l = [st] ∧ LastOd l.toArray (dumL l).toArray n st { st with op := .move (.const (.bool false)) } := by
  obtain ⟨st, h1, h2, h3⟩ := dumL_last l n hl
  refine ⟨st, h2, ?_⟩
  unfold lastD at hB
  simp only [Bool.and_eq_true, List.all_eq_true, List.mem_range, List.any_eq_true, decide_eq_true_eq] at hB
  obtain ⟨⟨hb, hc⟩, hg⟩ := hB
  have hst : l.toArray[n]? = some st := by simpa using h1
  rw [hst] at hg
  simp only [Option.isNone_iff_eq_none] at hg
  have hlk : ∀ j, j < n → ((dumL l).toArray[j]?).map (·.after) = (l.toArray[j]?).map (·.after) ∧ ((dumL l).toArray[j]?).bind (·.dst) = (l.toArray[j]?).bind (·.dst) := fun j hj => by
    have e : (dumL l).toArray[j]? = l.toArray[j]? := by simpa using dumL_get l j (by omega)
    rw [e]; exact ⟨rfl, rfl⟩
  refine ⟨by simpa using hl, by simpa [dumL_len] using hl, fun j hj => hlk j hj, hst, by simpa using h3, rfl, rfl, hg, hg, fun i o ho e he hbd => ?_, fun i hi => ?_⟩
  · have hi := (Array.getElem?_eq_some_iff.1 ho).1
    have := hb i hi
    rw [ho] at this
    have := Array.all_eq_true_iff_forall_mem.1 this e he
    rw [hbd] at this
    simpa using this
  · obtain ⟨j, _, hij, hm⟩ := hc i hi
    cases ho : l.toArray[j]? with
    | none => rw [ho] at hm; cases hm
    | some o =>
      rw [ho] at hm
      obtain ⟨e, he, hb'⟩ := Array.any_eq_true'.1 hm
      simp only [Bool.and_eq_true, beq_iff_eq] at hb'
      exact ⟨j, o, hij, ho, e, he, hb'⟩


theorem put_back (a : Act) (d : Option Tmp) (v : Value) : ∃ u, (a.put d v).put d u = a := by
  cases d with
  | none => exact ⟨v, rfl⟩
  | some i =>
    refine ⟨a.tmps.getD i undef, ?_⟩
    have e : ((a.tmps.setIfInBounds i v).setIfInBounds i (a.tmps.getD i undef)) = a.tmps := by
      refine Array.ext (by simp) fun j h1 h2 => ?_
      rw [Array.getElem_setIfInBounds (by simpa using h2)]
      split
      · rename_i e; subst e; simp [h2]
      · rename_i e; rw [Array.getElem_setIfInBounds h2, if_neg e]
    show ({ a with tmps := (a.tmps.setIfInBounds i v).setIfInBounds i (a.tmps.getD i undef) } : Act) = a
    rw [e]
/-- One walk in the text's order, the call last. -/
theorem wp_region_quiet_callD {P : Program} {id : Nat} {Q : Exit → Act → World → Prop} {a : Act} {w : World} {l : List Oper} (n : Nat) (d : Option Tmp) (hm : P.follows .mixedOrders = true) (hl : l.length = n + 1) (hd : (lastL l).map (·.dst) = [d]) (hB : Region.lexB .any (dumL l).toArray = true) (hL : lastD l.toArray n = true)
    (h : wpQuiet P (dumL l).toArray (fun w' => ∃ p : BelW w, w' = p.W) (fun a' => ∀ u w', (∃ p : BelW w, w' = p.W) → wpList P (lastL l).toArray Q (lastL l) (a'.put d u) w') (dumL l) a) : (Code.region id l.toArray true).wp P Q a w := by
  obtain ⟨st, e, hok⟩ := lastOd_of hl hL
  have hgd := hok.guard
  rw [e] at hd
  obtain rfl : st.dst = d := by simpa using hd
  simp only [Region.lexB, Bool.and_eq_true] at hB
  refine wp_region_any hm (wpAny_of_lastD (C := fun w' => ∃ p : BelW w, w' = p.W) hok (fun j hj => by simpa using dumL_get l j (by omega)) (Q := fun a' => ∀ u w', (∃ p : BelW w, w' = p.W) → wpList P (lastL l).toArray Q (lastL l) (a'.put st.dst u) w') (fun a' w' hw' hq => ?_) _ _ _ _ ⟨⟨w.drew, (Below.refl _ _).drew⟩, rfl⟩ ⟨by simp, ?_⟩ ?_ ?_)
  · obtain ⟨v, hq⟩ := hq
    obtain ⟨u, hu⟩ := put_back a' st.dst v
    have := hq u w' hw'
    rw [hu, e] at this
    unfold wpList at this
    rw [if_pos (by unfold Region.wanted; rw [hgd])] at this
    exact this
  · intro j o ho hj
    exfalso
    rw [getD_replicate_false'] at hj
    cases hj
  · rw [getD_tf (by simp [hl]), getD_replicate_false']
  · have := wpAnyQ_lex (P := P) (C := fun w' => ∃ p : BelW w, w' = p.W) (md := .any) hB.1 (dumL l) 0 (Array.replicate (dumL l).toArray.size false) a (by simp) (by simpa using hB.2) h
    simpa [dumL_len] using this
end Go.Proofs.Ytnnckojpmnpgbaa
