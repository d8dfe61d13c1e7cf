/- A region that draws its order and ends in 'cell = f(..)': quiet operations, a call, the cell's address, the store. A region that draws its order, whose operations are quiet but for the last, a store that waits for all others. A region that draws its order, whose operations read and whose callees leave alone what was there: one walk, in the text's order. -/
import Derived.Test.YtjmjhhdjlompfaaBase
namespace Go.Proofs.Ytjmjhhdjlompfaa
set_option maxRecDepth 20000
set_option linter.unusedVariables false
set_option linter.unusedSimpArgs false
open Go.RowKit

/-- A world in which all that lay in w lies unturned. -/
structure BelW (w : World) where
  W : World
  h : Below w.heap.size w W
instance (w : World) : Inhabited (BelW w) := ⟨⟨w, Below.refl _ _⟩⟩
theorem wp_region_quiet_bel {P : Program} {id : Nat} {Q : Exit → Act → World → Prop} {a : Act} {w : World} {l : List Oper} (hm : P.follows .mixedOrders = true) (hB : Region.lexB .any l.toArray = true)
    (h : wpQuiet P l.toArray (fun w' => ∃ p : BelW w, w' = p.W) (fun a' => ∀ w', (∃ p : BelW w, w' = p.W) → Q .normal a' w') l a) : (Code.region id l.toArray true).wp P Q a w :=
  wp_region_quiet (C := fun w' => ∃ p : BelW w, w' = p.W) hm hB ⟨⟨w.drew, (Below.refl _ _).drew⟩, rfl⟩ (by simpa using h)
theorem Calls.bel_of {P : Program} {f : FuncId} {args : Array Value} {w : World} {p : BelW w} {v : Value}
    (h : Calls P f args p.W fun e w' => e = .returned v ∧ Below p.W.heap.size p.W w') : Calls P f args p.W fun e w'' => e = .returned v ∧ ∃ q : BelW w, w'' = q.W :=
  h.mono fun _ w' ⟨he, hb⟩ => ⟨he, ⟨w', p.h.trans (hb.mono p.h.size)⟩, rfl⟩
theorem Calls.bel_same {P : Program} {f : FuncId} {args : Array Value} {w : World} {p : BelW w} {v : Value}
    (h : Calls P f args p.W fun e w' => e = .returned v ∧ p.W = w') : Calls P f args p.W fun e w'' => e = .returned v ∧ ∃ q : BelW w, w'' = q.W :=
  h.mono fun _ w' ⟨he, hb⟩ => ⟨he, p, hb.symm⟩
theorem Calls.bel_drew {P : Program} {f : FuncId} {args : Array Value} {w : World} {p : BelW w} {v : Value}
    (h : Calls P f args p.W fun e w' => e = .returned v ∧ ∃ n, w' = p.W.drewN n) : Calls P f args p.W fun e w'' => e = .returned v ∧ ∃ q : BelW w, w'' = q.W :=
  h.mono fun _ w' ⟨he, n, hn⟩ => ⟨he, ⟨w', by rw [hn]; exact bel_drewN p.h n⟩, rfl⟩
theorem BelW.cell {w : World} {b o : Nat} {v : Value} (h : w.cell? ⟨b, o, none⟩ = some v) (hlt : b < w.heap.size) (p : BelW w) : p.W.cell? ⟨b, o, none⟩ = some v :=
  (p.h.cell (p := ⟨b, o, none⟩) hlt).trans h
/-- The last operation made quiet. -/
def dumL : List Oper → List Oper
  | [] => []
  | [o] => [{ o with op := .move (.const (.bool false)) }]
  | o :: o' :: r => o :: dumL (o' :: r)
def lastL : List Oper → List Oper
  | [] => []
  | [o] => [o]
  | _ :: o' :: r => lastL (o' :: r)
theorem dumL_len : ∀ l : List Oper, (dumL l).length = l.length
  | [] => rfl
  | [_] => rfl
  | _ :: o' :: r => by show (dumL (o' :: r)).length + 1 = _; rw [dumL_len (o' :: r)]; rfl
theorem dumL_get : ∀ (l : List Oper) (j : Nat), j + 1 < l.length → (dumL l)[j]? = l[j]?
  | [], _, h => by simp at h
  | [_], j, h => by simp at h
  | _ :: _ :: _, 0, _ => rfl
  | _ :: o' :: r, j + 1, h => by
    show (dumL (o' :: r))[j]? = (o' :: r)[j]?
    exact dumL_get (o' :: r) j (by simp at h ⊢; omega)
theorem dumL_last : ∀ (l : List Oper) (n : Nat), l.length = n + 1 → ∃ st, l[n]? = some st ∧ lastL l = [st] ∧ (dumL l)[n]? = some { st with op := .move (.const (.bool false)) }
  | [], n, h => by simp at h
  | [o], n, h => by obtain rfl : n = 0 := by simpa using h.symm
                    exact ⟨o, rfl, rfl, rfl⟩
  | _ :: o' :: r, 0, h => by simp at h
  | _ :: o' :: r, n + 1, h => by
    obtain ⟨st, h1, h2, h3⟩ := dumL_last (o' :: r) n (by simpa using h)
    exact ⟨st, h1, h2, h3⟩

/-- Every operation waits for earlier ones alone; each but the last is waited for; the last keeps no result and is not guarded. -/
def lastB (ops : Array Oper) (n : Nat) : Bool :=
  (List.range ops.size).all (fun i => match ops[i]? with | some o => o.after.all (fun e => !Region.binds .any e || decide (e.on < i)) | none => true) &&
  (List.range n).all (fun i => (List.range ops.size).any fun j => decide (i < j) && match ops[j]? with | some o => o.after.any (fun e => Region.binds .any e && e.on == i) | none => false) &&
  match ops[n]? with | some o => o.dst.isNone && o.guard.isNone | none => false

section
variable {P : Program} {ops ops' : Array Oper} {n : Nat} {C : World → Prop}

structure LastOk (ops ops' : Array Oper) (n : Nat) (st st' : Oper) : Prop where
  size : ops.size = n + 1
  size' : ops'.size = n + 1
  like : ∀ j, j < n → (ops'[j]?).map (·.after) = (ops[j]?).map (·.after) ∧ (ops'[j]?).bind (·.dst) = (ops[j]?).bind (·.dst)
  hst : ops[n]? = some st
  hst' : ops'[n]? = some st'
  after : st'.after = st.after
  dst : st.dst = none
  dst' : st'.dst = none
  guard : st.guard = none
  guard' : st'.guard = none
  back : ∀ i o, ops[i]? = some o → ∀ e ∈ o.after, Region.binds .any e = true → e.on < i
  chain : ∀ i, i < n → ∃ j o, i < j ∧ ops[j]? = some o ∧ ∃ e ∈ o.after, Region.binds .any e = true ∧ e.on = i

variable {st st' : Oper}

theorem LastOk.get (h : LastOk ops ops' n st st') (j : Nat) : (ops'[j]?).map (·.after) = (ops[j]?).map (·.after) ∧ (ops'[j]?).bind (·.dst) = (ops[j]?).bind (·.dst) := by
  rcases Nat.lt_trichotomy j n with hj | rfl | hj
  · exact h.like j hj
  · rw [h.hst, h.hst']; simp [h.after, h.dst, h.dst']
  · rw [Array.getElem?_eq_none (by rw [h.size']; omega), Array.getElem?_eq_none (by rw [h.size]; omega)]; exact ⟨rfl, rfl⟩
theorem LastOk.ready (h : LastOk ops ops' n st st') (listed : Array Bool) : Region.ready .any ops' listed = Region.ready .any ops listed := by
  unfold Region.ready
  rw [h.size, h.size']
  refine List.filter_congr fun i _ => ?_
  have := (h.get i).1
  congr 1
  cases e1 : ops'[i]? <;> cases e2 : ops[i]? <;> rw [e1, e2] at this <;> simp at this ⊢
  rw [this]
theorem LastOk.yielded (h : LastOk ops ops' n st st') (t : Array Value) : yielded ops' t = yielded ops t := by
  funext j
  unfold Go.yielded
  rw [(h.get j).2]

/-- What is listed has all behind it that it waits for. -/
def Cl (ops : Array Oper) (listed : Array Bool) : Prop :=
  listed.size = ops.size ∧ ∀ j o, ops[j]? = some o → listed.getD j false = true → ∀ e ∈ o.after, Region.binds .any e = true → listed.getD e.on false = true
theorem getD_tf {l : Array Bool} {i : Nat} (hi : i < l.size) : l.getD i true = l.getD i false := by simp [hi]
theorem Cl.set {listed : Array Bool} (h : Cl ops listed) {i : Nat} (hi : i ∈ Region.ready .any ops listed) : Cl ops (listed.setIfInBounds i true) := by
  refine ⟨by rw [Array.size_setIfInBounds]; exact h.1, fun j o ho hl e he hb => ?_⟩
  by_cases hij : i = j
  · subst hij
    obtain ⟨_, o', ho', hall⟩ := mem_ready.1 hi
    rw [ho] at ho'
    injection ho' with ho'
    subst ho'
    exact getD_set_true (hall e he hb)
  · rw [getD_set_ne false hij] at hl
    exact getD_set_true (h.2 j o ho hl e he hb)
theorem LastOk.all (h : LastOk ops ops' n st st') {listed : Array Bool} (hc : Cl ops listed) (hr : n ∈ Region.ready .any ops listed) :
    ∀ (d i : Nat), n - i = d → i < n → listed.getD i false = true := by
  intro d
  induction d using Nat.strongRecOn with
  | _ d ih =>
    intro i hd hi
    obtain ⟨j, o, hij, ho, e, he, hb, rfl⟩ := h.chain i hi
    have hj : j < n + 1 := by rw [← h.size]; exact (Array.getElem?_eq_some_iff.1 ho).1
    by_cases hjn : j = n
    · subst hjn
      obtain ⟨_, o', ho', hall⟩ := mem_ready.1 hr
      rw [ho] at ho'
      injection ho' with ho'
      subst ho'
      exact hall e he hb
    · exact hc.2 j o ho (ih (n - j) (by omega) j rfl (by omega)) e he hb
theorem LastOk.done (h : LastOk ops ops' n st st') {listed : Array Bool} (hc : Cl ops listed) (hr : n ∈ Region.ready .any ops listed) :
    Region.ready .any ops (listed.setIfInBounds n true) = [] := by
  rw [List.eq_nil_iff_forall_not_mem]
  intro j hj
  obtain ⟨h0, o, ho, _⟩ := mem_ready.1 hj
  have hjn : j < n + 1 := by rw [← h.size]; exact (Array.getElem?_eq_some_iff.1 ho).1
  have hs : listed.size = n + 1 := hc.1.trans h.size
  by_cases e : n = j
  · subst e
    simp [hs] at h0
  · rw [getD_set_ne true e, getD_tf (by omega), h.all hc hr _ j rfl (by omega)] at h0
    cases h0
theorem LastOk.stuck (h : LastOk ops ops' n st st') {listed : Array Bool} (hs : listed.size = ops.size) : ∀ i, i < ops.size → listed.getD i true = false → Region.ready .any ops listed ≠ [] := by
  intro i
  induction i using Nat.strongRecOn with
  | _ i ih =>
    intro hi hl
    have ho : ops[i]? = some ops[i] := by simp [hi]
    by_cases hall : ∀ e ∈ ops[i].after, Region.binds .any e = true → listed.getD e.on false = true
    · exact List.ne_nil_of_mem (mem_ready.2 ⟨hl, _, ho, hall⟩)
    · simp only [Classical.not_forall] at hall
      obtain ⟨e, he, hb, hn⟩ := hall
      have hlt := h.back i _ ho e he hb
      exact ih e.on hlt (by omega) (by rw [getD_tf (by omega)]; simpa using hn)

theorem wpAny_of_last (h : LastOk ops ops' n st st') (hsame : ∀ j, j < n → ops'[j]? = ops[j]?) {Q : Act → Prop} {Q' : Exit → Act → World → Prop}
    (hQ : ∀ a w, C w → Q a → st.wp P a w (fun a w => Q' .normal a w) Q' ∨ (st.asks P a w ∧ LetsOut Q')) :
    ∀ (fuel : Nat) (listed : Array Bool) (a : Act) (w : World), C w → Cl ops listed → listed.getD n true = false →
    wpAnyQ P .any ops' C Q fuel listed a → wpAny P .any ops Q' fuel listed a w := by
  intro fuel
  induction fuel with
  | zero =>
    intro listed a w hw hc hn hh
    have := hh.1
    rw [h.ready] at this
    exact absurd this (h.stuck hc.1 n (by rw [h.size]; omega) hn)
  | succ fuel ih =>
    intro listed a w hw hc hn hh
    refine ⟨fun h0 => absurd h0 (h.stuck hc.1 n (by rw [h.size]; omega) hn), fun i hi => ?_⟩
    have hq := hh.2 i (by rw [h.ready]; exact hi)
    by_cases hin : i = n
    · subst hin
      have hd := h.done hc hi
      unfold wpOp
      unfold qOp at hq
      simp only [h.hst, h.hst'] at hq ⊢
      have w1 : Region.wanted st (Go.yielded ops a.tmps) = true := by unfold Region.wanted; rw [h.guard]
      have w2 : Region.wanted st' (Go.yielded ops' a.tmps) = true := by unfold Region.wanted; rw [h.guard']
      rw [if_pos w1]
      rw [if_pos w2] at hq
      obtain ⟨v, _, hK⟩ := hq
      rw [h.dst'] at hK
      have hQa : Q a := by
        cases fuel with
        | zero => exact hK.2
        | succ _ => exact hK.1 (by rw [h.ready]; exact hd)
      exact (hQ a w hw hQa).imp (Oper.wp_mono fun a' w' hn' => wpAny_done hd hn' fuel) id
    · have hs := h.size
      obtain ⟨_, o, ho, _⟩ := mem_ready.1 hi
      have hlt : i < n := by have := (Array.getElem?_eq_some_iff.1 ho).1; omega
      have e : wpOp P ops Q' i (wpAny P .any ops Q' fuel (listed.setIfInBounds i true)) a w = wpOp P ops' Q' i (wpAny P .any ops Q' fuel (listed.setIfInBounds i true)) a w := by
        unfold wpOp
        rw [hsame i hlt, h.yielded]
      rw [e]
      exact wpOp_of_qOp hw (fun a' w' hw' hk => ih _ a' w' hw' (hc.set hi) (by rw [getD_set_ne true hin]; exact hn) hk) hq
end

theorem lastOk_of {l : List Oper} {n : Nat} (hl : l.length = n + 1) (hB : lastB l.toArray n = true) : ∃ st, lastL l = [st] ∧ LastOk l.toArray (dumL l).toArray n st { st with op := .move (.const (.bool false)) } := by
  obtain ⟨st, h1, h2, h3⟩ := dumL_last l n hl
  refine ⟨st, h2, ?_⟩
  unfold lastB at hB
  simp only [Bool.and_eq_true, List.all_eq_true, List.mem_range, List.any_eq_true, decide_eq_true_eq] at hB
  obtain ⟨⟨hb, hc⟩, hg⟩ := hB
  have hst : l.toArray[n]? = some st := by simpa using h1
  rw [hst] at hg
  simp only [Bool.and_eq_true, Option.isNone_iff_eq_none] at hg
  have hlk : ∀ j, j < n → ((dumL l).toArray[j]?).map (·.after) = (l.toArray[j]?).map (·.after) ∧ ((dumL l).toArray[j]?).bind (·.dst) = (l.toArray[j]?).bind (·.dst) := fun j hj => by
    have e : (dumL l).toArray[j]? = l.toArray[j]? := by simpa using dumL_get l j (by omega)
    rw [e]; exact ⟨rfl, rfl⟩
  refine ⟨by simpa using hl, by simpa [dumL_len] using hl, fun j hj => hlk j hj, hst, by simpa using h3, rfl, hg.1, hg.1, hg.2, hg.2, fun i o ho e he hbd => ?_, fun i hi => ?_⟩
  · have hi := (Array.getElem?_eq_some_iff.1 ho).1
    have := hb i hi
    rw [ho] at this
    have := Array.all_eq_true_iff_forall_mem.1 this e he
    rw [hbd] at this
    simpa using this
  · obtain ⟨j, _, hij, hm⟩ := hc i hi
    cases ho : l.toArray[j]? with
    | none => rw [ho] at hm; cases hm
    | some o =>
      rw [ho] at hm
      obtain ⟨e, he, hb'⟩ := Array.any_eq_true'.1 hm
      simp only [Bool.and_eq_true, beq_iff_eq] at hb'
      exact ⟨j, o, hij, ho, e, he, hb'⟩

theorem getD_replicate_false' (n i : Nat) : (Array.replicate n false).getD i false = false := by
  by_cases h : i < n <;> simp [h]
/-- One walk in the text's order, the store last. -/
theorem wp_region_quiet_last {P : Program} {id : Nat} {Q : Exit → Act → World → Prop} {a : Act} {w : World} {l : List Oper} (n : Nat) (hm : P.follows .mixedOrders = true) (hl : l.length = n + 1) (hB : Region.lexB .any (dumL l).toArray = true) (hL : lastB l.toArray n = true)
    (h : wpQuiet P (dumL l).toArray (fun w' => ∃ p : BelW w, w' = p.W) (fun a' => ∀ w', (∃ p : BelW w, w' = p.W) → wpList P (lastL l).toArray Q (lastL l) a' w') (dumL l) a) : (Code.region id l.toArray true).wp P Q a w := by
  obtain ⟨st, e, hok⟩ := lastOk_of hl hL
  have hgd := hok.guard
  simp only [Region.lexB, Bool.and_eq_true] at hB
  refine wp_region_any hm (wpAny_of_last (C := fun w' => ∃ p : BelW w, w' = p.W) hok (fun j hj => by simpa using dumL_get l j (by omega)) (Q := fun a' => ∀ w', (∃ p : BelW w, w' = p.W) → wpList P (lastL l).toArray Q (lastL l) a' w') (fun a' w' hw' hq => ?_) _ _ _ _ ⟨⟨w.drew, (Below.refl _ _).drew⟩, rfl⟩ ⟨by simp, ?_⟩ ?_ ?_)
  · have := hq w' hw'
    rw [e] at this
    unfold wpList at this
    rw [if_pos (by unfold Region.wanted; rw [hgd])] at this
    exact this
  · intro j o ho hj
    exfalso
    rw [getD_replicate_false'] at hj
    cases hj
  · rw [getD_tf (by simp [hl]), getD_replicate_false']
  · have := wpAnyQ_lex (P := P) (C := fun w' => ∃ p : BelW w, w' = p.W) (md := .any) hB.1 (dumL l) 0 (Array.replicate (dumL l).toArray.size false) a (by simp) (by simpa using hB.2) h
    simpa [dumL_len] using this
def dumO (o : Oper) : Oper := { o with op := .move (.const (.bool false)) }
/-- The call and the store made quiet. -/
def dum3 : List Oper → List Oper
  | a :: b :: c :: d :: r => a :: dum3 (b :: c :: d :: r)
  | [oc, om, st] => [dumO oc, om, dumO st]
  | l => l
def tail3 : List Oper → List Oper
  | _ :: b :: c :: d :: r => tail3 (b :: c :: d :: r)
  | l => l
theorem dum3_len : ∀ l : List Oper, (dum3 l).length = l.length
  | _ :: b :: c :: d :: r => by show (dum3 (b :: c :: d :: r)).length + 1 = _; rw [dum3_len (b :: c :: d :: r)]; rfl
  | [_, _, _] => rfl
  | [] => rfl
  | [_] => rfl
  | [_, _] => rfl
theorem dum3_spec : ∀ (l : List Oper) (c : Nat), l.length = c + 3 → ∃ oc om st, l[c]? = some oc ∧ l[c + 1]? = some om ∧ l[c + 2]? = some st ∧ tail3 l = [oc, om, st] ∧ (dum3 l)[c]? = some (dumO oc) ∧ (dum3 l)[c + 1]? = some om ∧ (dum3 l)[c + 2]? = some (dumO st) ∧ ∀ j, j < c → (dum3 l)[j]? = l[j]?
  | a :: b :: x :: d :: r, 0, h => by simp at h
  | a :: b :: x :: d :: r, c + 1, h => by
    obtain ⟨oc, om, st, h1, h2, h3, h4, h5, h6, h7, h8⟩ := dum3_spec (b :: x :: d :: r) c (by simpa using h)
    refine ⟨oc, om, st, h1, h2, h3, h4, h5, h6, h7, fun j hj => ?_⟩
    cases j with
    | zero => rfl
    | succ j => exact h8 j (by omega)
  | [oc, om, st], c, h => by
    obtain rfl : c = 0 := by simpa using h.symm
    exact ⟨oc, om, st, rfl, rfl, rfl, rfl, rfl, rfl, rfl, fun j hj => by omega⟩
  | [], c, h => by simp at h
  | [_], c, h => by simp at h
  | [_, _], c, h => by simp at h

def waitsB (ops : Array Oper) (j i : Nat) : Bool := match ops[j]? with | some o => o.after.any (fun e => Region.binds .any e && e.on == i) | none => false
theorem waitsB_spec {ops : Array Oper} {j i : Nat} (h : waitsB ops j i = true) : ∃ o, ops[j]? = some o ∧ ∃ e ∈ o.after, Region.binds .any e = true ∧ e.on = i := by
  unfold waitsB at h
  cases ho : ops[j]? with
  | none => rw [ho] at h; cases h
  | some o =>
    rw [ho] at h
    obtain ⟨e, he, hb'⟩ := Array.any_eq_true'.1 h
    simp only [Bool.and_eq_true, beq_iff_eq] at hb'
    exact ⟨o, rfl, e, he, hb'⟩
def call3B (ops : Array Oper) (c : Nat) : Bool :=
  lastB ops (c + 2) && (List.range c).all (fun i => (List.range (c + 1)).any fun j => decide (i < j) && waitsB ops j i) &&
  match ops[c]?, ops[c + 1]? with
  | some oc, some om => oc.guard.isNone && om.guard.isNone && oc.apart ops om && (match oc.dst with | some d => !(oc.looksAt ops).contains d | none => false) && (match om.dst with | some d => !(om.looksAt ops).contains d | none => false) && (match oc.op with | .select _ _ => false | _ => true) && (match om.op with | .select _ _ => false | _ => true)
  | _, _ => false

structure C3 (ops ops' : Array Oper) (c : Nat) (oc om st : Oper) (d tm : Tmp) : Prop where
  ok : LastOk ops ops' (c + 2) st (dumO st)
  getc : ops[c]? = some oc
  getc' : ops'[c]? = some (dumO oc)
  getm : ops[c + 1]? = some om
  getm' : ops'[c + 1]? = some om
  gc : oc.guard = none
  gm : om.guard = none
  dc : oc.dst = some d
  dm : om.dst = some tm
  ap : oc.apart ops om = true
  self : d ∉ oc.looksAt ops
  selfm : tm ∉ om.looksAt ops
  sc : ∀ cs b, oc.op ≠ .select cs b
  sm : ∀ cs b, om.op ≠ .select cs b
  sink : ∀ i, i < c → ∃ j o, i < j ∧ j ≤ c ∧ ops[j]? = some o ∧ ∃ e ∈ o.after, Region.binds .any e = true ∧ e.on = i

section
variable {P : Program} {ops ops' : Array Oper} {c : Nat} {oc om st : Oper} {d tm : Tmp}

theorem wanted_none {o : Oper} (h : o.guard = none) (y : Nat → Option Bool) : Region.wanted o y = true := by unfold Region.wanted; rw [h]
theorem C3.head (h : C3 ops ops' c oc om st d tm) {listed : Array Bool} (hc : Cl ops listed) (hr : c ∈ Region.ready .any ops listed) :
    ∀ (x i : Nat), c - i = x → i < c → listed.getD i false = true := by
  intro x
  induction x using Nat.strongRecOn with
  | _ x ih =>
    intro i hd hi
    obtain ⟨j, o, hij, hjc, ho, e, he, hb, rfl⟩ := h.sink i hi
    by_cases hjn : j = c
    · subst hjn
      obtain ⟨_, o', ho', hall⟩ := mem_ready.1 hr
      rw [ho] at ho'
      injection ho' with ho'
      subst ho'
      exact hall e he hb
    · exact hc.2 j o ho (ih (c - j) (by omega) j rfl (by omega)) e he hb
/-- All but the store are listed. -/
def Near (c : Nat) (listed : Array Bool) : Prop := listed.getD (c + 2) true = false ∧ ∀ i, i < c + 2 → listed.getD i false = true
theorem C3.only (h : C3 ops ops' c oc om st d tm) {listed : Array Bool} (hc : Cl ops listed) (hn : Near c listed) : Region.ready .any ops listed ≠ [] ∧ ∀ i ∈ Region.ready .any ops listed, i = c + 2 := by
  have hs : listed.size = c + 3 := hc.1.trans h.ok.size
  refine ⟨h.ok.stuck hc.1 (c + 2) (by rw [h.ok.size]; omega) hn.1, fun i hi => ?_⟩
  obtain ⟨h0, o, ho, _⟩ := mem_ready.1 hi
  have hlt : i < c + 3 := by rw [← h.ok.size]; exact (Array.getElem?_eq_some_iff.1 ho).1
  by_cases hi2 : i < c + 2
  · rw [getD_tf (by omega), hn.2 i hi2] at h0
    cases h0
  · omega
theorem C3.getQ (h : C3 ops ops' c oc om st d tm) {C : World → Prop} {Q : Act → Prop} {listed : Array Bool} (hc : Cl ops listed) (hn : Near c listed) :
    ∀ {fuel : Nat} {b : Act}, wpAnyQ P .any ops' C Q fuel listed b → Q b := by
  intro fuel b hh
  obtain ⟨hne, hall⟩ := h.only hc hn
  obtain ⟨i, hi⟩ := List.exists_mem_of_ne_nil _ hne
  have hin := hall i hi
  subst hin
  cases fuel with
  | zero => have h1 := hh.1; rw [h.ok.ready] at h1; exact absurd h1 hne
  | succ f =>
    have hq := hh.2 (c + 2) (by rw [h.ok.ready]; exact hi)
    unfold qOp at hq
    simp only [h.ok.hst'] at hq
    rw [if_pos (wanted_none h.ok.guard' _)] at hq
    obtain ⟨v, _, hK⟩ := hq
    rw [h.ok.dst'] at hK
    have hd := h.ok.done hc hi
    cases f with
    | zero => exact hK.2
    | succ _ => exact hK.1 (by rw [h.ok.ready]; exact hd)
theorem C3.fin (h : C3 ops ops' c oc om st d tm) {Q' : Exit → Act → World → Prop} {listed : Array Bool} (hc : Cl ops listed) (hn : Near c listed) {a : Act} {w : World}
    (hw : wpList P #[st] Q' [st] a w) : ∀ fuel, wpAny P .any ops Q' (fuel + 1) listed a w := by
  intro fuel
  obtain ⟨hne, hall⟩ := h.only hc hn
  refine ⟨fun h0 => absurd h0 hne, fun i hi => ?_⟩
  have hin := hall i hi
  subst hin
  unfold wpOp
  simp only [h.ok.hst]
  rw [if_pos (wanted_none h.ok.guard _)]
  unfold wpList at hw
  rw [if_pos (wanted_none h.ok.guard _)] at hw
  exact hw.imp (Oper.wp_mono fun a' w' hn' => wpAny_done (h.ok.done hc hi) hn' fuel) id

/-- What is asked when all but the call and the store have come up. -/
def CallAsk (P : Program) (C : World → Prop) (Q' : Exit → Act → World → Prop) (oc om st : Oper) (d : Tmp) (b : Act) : Prop :=
  (∃ vm, ∀ w2, (execOp b.eval om).run P w2 = .ok (.value vm) w2) ∧
  ∀ wx, C wx → ∃ f args, (execOp b.eval oc).run P wx = .ok (.enter f args) wx ∧ Calls P f args wx fun e w2 => ∃ v, e = .returned v ∧ wpList P #[st] Q' [st] (b.put (some d) v) w2

theorem put_put (a : Act) (d : Tmp) (u v : Value) : (a.put (some d) u).put (some d) v = a.put (some d) v := by
  simp [Act.put, Array.setIfInBounds_setIfInBounds]

theorem C3.main (h : C3 ops ops' c oc om st d tm) {C : World → Prop} {Q' : Exit → Act → World → Prop} (hsame : ∀ j, j < c → ops'[j]? = ops[j]?) :
    ∀ (fuel : Nat) (listed : Array Bool) (a : Act) (w : World), C w → Cl ops listed → listed.getD c true = false → listed.getD (c + 2) true = false →
    wpAnyQ P .any ops' C (CallAsk P C Q' oc om st d) fuel listed a → wpAny P .any ops Q' fuel listed a w := by
  intro fuel
  have apx := Oper.apart_spec h.ap
  have hdm : some d ≠ some tm := fun e => apx.2.1 d h.dc (by rw [h.dm, e])
  have e_c : ∀ (a : Act) v, execOp (a.put (some d) v).eval oc = execOp a.eval oc := fun a v => execOp_put (ops := ops) oc h.sc a (some d) v fun x hx => by injection hx with hx; subst hx; exact h.self
  have e_cm : ∀ (a : Act) v, execOp (a.put (some tm) v).eval oc = execOp a.eval oc := fun a v => execOp_put (ops := ops) oc h.sc a (some tm) v fun x hx => apx.2.2 x (by rw [h.dm, hx])
  have e_m : ∀ (a : Act) v, execOp (a.put (some d) v).eval om = execOp a.eval om := fun a v => execOp_put (ops := ops) om h.sm a (some d) v fun x hx => apx.1 x (by rw [h.dc, hx])
  have e_mm : ∀ (a : Act) v, execOp (a.put (some tm) v).eval om = execOp a.eval om := fun a v => execOp_put (ops := ops) om h.sm a (some tm) v fun x hx => by injection hx with hx; subst hx; exact h.selfm
  induction fuel with
  | zero =>
    intro listed a w hw hc hcn hn hh
    have := hh.1
    rw [h.ok.ready] at this
    exact absurd this (h.ok.stuck hc.1 (c + 2) (by rw [h.ok.size]; omega) hn)
  | succ fuel ih =>
    intro listed a w hw hc hcn hn hh
    have hs : listed.size = c + 3 := hc.1.trans h.ok.size
    refine ⟨fun h0 => absurd h0 (h.ok.stuck hc.1 (c + 2) (by rw [h.ok.size]; omega) hn), fun i hi => ?_⟩
    have hq := hh.2 i (by rw [h.ok.ready]; exact hi)
    obtain ⟨hi0, o, ho, _⟩ := mem_ready.1 hi
    have hlt : i < c + 3 := by rw [← h.ok.size]; exact (Array.getElem?_eq_some_iff.1 ho).1
    have hin : i ≠ c + 2 := by
      intro e
      subst e
      have := h.ok.all hc hi _ c rfl (by omega)
      rw [getD_tf (by omega), this] at hcn
      cases hcn
    by_cases hic : i = c
    · subst hic
      have hc' := hc.set hi
      have hhead := h.head hc hi
      unfold wpOp
      unfold qOp at hq
      simp only [h.getc, h.getc'] at hq ⊢
      rw [if_pos (wanted_none h.gc _)]
      rw [if_pos (wanted_none (show (dumO oc).guard = none from h.gc) _)] at hq
      obtain ⟨v0, _, hK⟩ := hq
      rw [show (dumO oc).dst = some d from h.dc] at hK
      refine .inl ?_
      unfold Oper.wp
      have hn' : (listed.setIfInBounds i true).getD (i + 2) true = false := by rw [getD_set_ne true (by omega)]; exact hn
      by_cases hml : listed.getD (i + 1) false = true
      · have near : Near i (listed.setIfInBounds i true) := ⟨hn', fun j hj => by
          by_cases e : i = j
          · subst e; simp [hs]
          · rw [getD_set_ne false e]
            by_cases e1 : j = i + 1
            · subst e1; exact hml
            · exact hhead _ j rfl (by omega)⟩
        obtain ⟨_, hB⟩ := h.getQ hc' near hK
        obtain ⟨f, args, hr, hcl⟩ := hB w hw
        rw [e_c] at hr
        rw [hr]
        simp only [Oper.upon]
        refine hcl.mono fun e w2 he => ?_
        obtain ⟨v, rfl, hl⟩ := he
        rw [put_put] at hl
        show wpAny P .any ops Q' fuel (listed.setIfInBounds i true) (a.put oc.dst v) w2
        rw [h.dc]
        cases fuel with
        | zero => have h1 := hK.1; rw [h.ok.ready] at h1; exact absurd h1 (h.only hc' near).1
        | succ f => exact h.fin hc' near hl f
      · have hml' : listed.getD (i + 1) true = false := by rw [getD_tf (by omega)]; simpa using hml
        have hml2 : (listed.setIfInBounds i true).getD (i + 1) true = false := by rw [getD_set_ne true (by omega)]; exact hml'
        have honly : ∀ j ∈ Region.ready .any ops (listed.setIfInBounds i true), j = i + 1 := fun j hj => by
          obtain ⟨hj0, oj, hoj, _⟩ := mem_ready.1 hj
          have hjlt : j < i + 3 := by rw [← h.ok.size]; exact (Array.getElem?_eq_some_iff.1 hoj).1
          by_cases e2 : j = i + 2
          · subst e2
            have := h.ok.all hc' hj _ (i + 1) rfl (by omega)
            rw [getD_tf (by simp [hs]), this] at hml2
            cases hml2
          · by_cases e0 : i = j
            · subst e0; simp [hs] at hj0
            · by_cases e1 : j = i + 1
              · exact e1
              · rw [getD_set_ne true e0, getD_tf (by omega), hhead _ j rfl (by omega)] at hj0
                cases hj0
        have hne := h.ok.stuck hc'.1 (i + 1) (by rw [h.ok.size]; omega) hml2
        have hmr : i + 1 ∈ Region.ready .any ops (listed.setIfInBounds i true) := by
          obtain ⟨j, hj⟩ := List.exists_mem_of_ne_nil _ hne
          have := honly j hj
          subst this
          exact hj
        cases fuel with
        | zero => have h1 := hK.1; rw [h.ok.ready] at h1; exact absurd h1 hne
        | succ f =>
          have hq2 := hK.2 (i + 1) (by rw [h.ok.ready]; exact hmr)
          unfold qOp at hq2
          simp only [h.getm'] at hq2
          rw [if_pos (wanted_none h.gm _)] at hq2
          obtain ⟨um, hum, hK2⟩ := hq2
          rw [h.dm] at hK2
          have hc2 := hc'.set hmr
          have near : Near i ((listed.setIfInBounds i true).setIfInBounds (i + 1) true) := ⟨by rw [getD_set_ne true (by omega)]; exact hn', fun j hj => by
            by_cases e1 : i + 1 = j
            · subst e1; simp [hs]
            · rw [getD_set_ne false e1]
              by_cases e : i = j
              · subst e; simp [hs]
              · rw [getD_set_ne false e]
                exact hhead _ j rfl (by omega)⟩
          obtain ⟨⟨vm, hvm⟩, hB⟩ := h.getQ hc2 near hK2
          have hu := hum w hw
          unfold Oper.quietAt at hu
          rw [e_mm] at hvm
          rw [hvm w] at hu
          obtain ⟨_, hu⟩ := hu
          obtain ⟨f2, args, hr, hcl⟩ := hB w hw
          rw [e_cm, e_c] at hr
          rw [hr]
          simp only [Oper.upon]
          refine hcl.mono fun e w2 he => ?_
          obtain ⟨v, rfl, hl⟩ := he
          rw [Act.put_comm (a.put (some d) v0) um v (fun x hx => by injection hx with hx; subst hx; exact hdm), put_put, ← hu] at hl
          show wpAny P .any ops Q' (f + 1) (listed.setIfInBounds i true) (a.put oc.dst v) w2
          rw [h.dc]
          refine ⟨fun h0 => absurd h0 hne, fun j hj => ?_⟩
          have hj1 := honly j hj
          subst hj1
          unfold wpOp
          simp only [h.getm]
          rw [if_pos (wanted_none h.gm _)]
          refine .inl ?_
          unfold Oper.wp
          rw [e_m, ← e_m a v0, hvm w2]
          show wpAny P .any ops Q' f _ ((a.put (some d) v).put om.dst vm) w2
          rw [h.dm]
          cases f with
          | zero => have h1 := hK2.1; rw [h.ok.ready] at h1; exact absurd h1 (h.only hc2 near).1
          | succ f => exact h.fin hc2 near hl f
    · have hw2 : wpOp P ops Q' i (wpAny P .any ops Q' fuel (listed.setIfInBounds i true)) a w = wpOp P ops' Q' i (wpAny P .any ops Q' fuel (listed.setIfInBounds i true)) a w := by
        unfold wpOp
        rw [h.ok.yielded]
        by_cases e1 : i = c + 1
        · subst e1; rw [h.getm, h.getm']
        · rw [hsame i (by omega)]
      rw [hw2]
      exact wpOp_of_qOp hw (fun a' w' hw' hk => ih _ a' w' hw' (hc.set hi) (by rw [getD_set_ne true hic]; exact hcn) (by rw [getD_set_ne true hin]; exact hn) hk) hq
end

theorem c3_of {l : List Oper} {c : Nat} (hl : l.length = c + 3) (hB : call3B l.toArray c = true) : ∃ oc om st d tm, tail3 l = [oc, om, st] ∧ C3 l.toArray (dum3 l).toArray c oc om st d tm ∧ ∀ j, j < c → (dum3 l).toArray[j]? = l.toArray[j]? := by
  obtain ⟨oc, om, st, h1, h2, h3, h4, h5, h6, h7, h8⟩ := dum3_spec l c hl
  unfold call3B at hB
  simp only [Bool.and_eq_true, List.all_eq_true, List.mem_range, List.any_eq_true, decide_eq_true_eq] at hB
  obtain ⟨⟨hL, hS⟩, hM⟩ := hB
  have e1 : l.toArray[c]? = some oc := by simpa using h1
  have e2 : l.toArray[c + 1]? = some om := by simpa using h2
  have e3 : l.toArray[c + 2]? = some st := by simpa using h3
  have f1 : (dum3 l).toArray[c]? = some (dumO oc) := by simpa using h5
  have f2 : (dum3 l).toArray[c + 1]? = some om := by simpa using h6
  have f3 : (dum3 l).toArray[c + 2]? = some (dumO st) := by simpa using h7
  have f4 : ∀ j, j < c → (dum3 l).toArray[j]? = l.toArray[j]? := fun j hj => by simpa using h8 j hj
  rw [e1, e2] at hM
  simp only [Bool.and_eq_true, Option.isNone_iff_eq_none] at hM
  obtain ⟨⟨⟨⟨⟨⟨gc, gm⟩, ap⟩, sd⟩, sm⟩, nsc⟩, nsm⟩ := hM
  obtain ⟨d, dc⟩ : ∃ d, oc.dst = some d := by
    cases h : oc.dst with
    | none => rw [h] at sd; cases sd
    | some d => exact ⟨d, rfl⟩
  obtain ⟨tm, dm⟩ : ∃ d, om.dst = some d := by
    cases h : om.dst with
    | none => rw [h] at sm; cases sm
    | some d => exact ⟨d, rfl⟩
  rw [dc] at sd
  rw [dm] at sm
  refine ⟨oc, om, st, d, tm, h4, ?_, f4⟩
  unfold lastB at hL
  simp only [Bool.and_eq_true, List.all_eq_true, List.mem_range, List.any_eq_true, decide_eq_true_eq] at hL
  obtain ⟨⟨hb, hc⟩, hg⟩ := hL
  rw [e3] at hg
  simp only [Bool.and_eq_true, Option.isNone_iff_eq_none] at hg
  have hlk : ∀ j, j < c + 2 → ((dum3 l).toArray[j]?).map (·.after) = (l.toArray[j]?).map (·.after) ∧ ((dum3 l).toArray[j]?).bind (·.dst) = (l.toArray[j]?).bind (·.dst) := fun j hj => by
    rcases Nat.lt_or_ge j c with h | h
    · rw [f4 j h]; exact ⟨rfl, rfl⟩
    · rcases (show j = c ∨ j = c + 1 by omega) with rfl | rfl
      · rw [e1, f1]; exact ⟨rfl, rfl⟩
      · rw [e2, f2]; exact ⟨rfl, rfl⟩
  have ok : LastOk l.toArray (dum3 l).toArray (c + 2) st (dumO st) := by
    refine ⟨by simpa using hl, by simpa [dum3_len] using hl, hlk, e3, f3, rfl, hg.1, hg.1, hg.2, hg.2, fun i o ho e he hbd => ?_, fun i hi => ?_⟩
    · have hi := (Array.getElem?_eq_some_iff.1 ho).1
      have := hb i hi
      rw [ho] at this
      have := Array.all_eq_true_iff_forall_mem.1 this e he
      rw [hbd] at this
      simpa using this
    · obtain ⟨j, _, hij, hm⟩ := hc i hi
      obtain ⟨o, ho, h⟩ := waitsB_spec (ops := l.toArray) (j := j) (i := i) hm
      exact ⟨j, o, hij, ho, h⟩
  refine ⟨ok, e1, f1, e2, f2, gc, gm, dc, dm, ap, by simpa using sd, by simpa using sm, fun cs b h => (by rw [h] at nsc; cases nsc), fun cs b h => (by rw [h] at nsm; cases nsm), fun i hi => ?_⟩
  obtain ⟨j, hj, hij, hw⟩ := hS i hi
  obtain ⟨o, ho, h⟩ := waitsB_spec hw
  exact ⟨j, o, hij, by omega, ho, h⟩

/-- One walk in the text's order; the call behind it, then the store. -/
theorem wp_region_call3 {P : Program} {id : Nat} {Q : Exit → Act → World → Prop} {a : Act} {w : World} {l : List Oper} {oc om st : Oper} {d : Tmp} (c : Nat) (hm : P.follows .mixedOrders = true) (hl : l.length = c + 3) (hB : Region.lexB .any (dum3 l).toArray = true) (hL : call3B l.toArray c = true)
    (h3 : tail3 l = [oc, om, st]) (hd : oc.dst = some d)
    (h : wpQuiet P (dum3 l).toArray (fun w' => ∃ p : BelW w, w' = p.W) (CallAsk P (fun w' => ∃ p : BelW w, w' = p.W) Q oc om st d) (dum3 l) a) : (Code.region id l.toArray true).wp P Q a w := by
  obtain ⟨oc', om', st', d', tm, e, hok, hs⟩ := c3_of hl hL
  rw [h3] at e
  injection e with x1 e
  injection e with x2 e
  injection e with x3 _
  subst x1 x2 x3
  have hdd : d = d' := by have := hok.dc; rw [hd] at this; injection this
  subst hdd
  simp only [Region.lexB, Bool.and_eq_true] at hB
  refine wp_region_any hm (hok.main (C := fun w' => ∃ p : BelW w, w' = p.W) hs _ _ _ _ ⟨⟨w.drew, (Below.refl _ _).drew⟩, rfl⟩ ⟨by simp, ?_⟩ ?_ ?_ ?_)
  · intro j o ho hj
    exfalso
    rw [getD_replicate_false'] at hj
    cases hj
  · rw [getD_tf (by simp [hl]), getD_replicate_false']
  · rw [getD_tf (by simp [hl]), getD_replicate_false']
  · have := wpAnyQ_lex (P := P) (C := fun w' => ∃ p : BelW w, w' = p.W) (md := .any) hB.1 (dum3 l) 0 (Array.replicate (dum3 l).toArray.size false) a (by simp) (by simpa using hB.2) h
    simpa [dum3_len] using this
end Go.Proofs.Ytjmjhhdjlompfaa
