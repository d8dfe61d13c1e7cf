/- A region that draws its order and ends in 'x[i] = f(..)': the two moves of x and i first, quiet operations, the call, the address, the store. -/
import Derived.Test.YtnnckojpmnpgbaaQuiC
import Derived.Deep.RegionHeld3
namespace Go.Proofs.Ytnnckojpmnpgbaa
set_option maxRecDepth 20000
set_option linter.unusedVariables false
set_option linter.unusedSimpArgs false
open Go.RowKit

def call3eB (ops : Array Oper) (e c : Nat) : Bool :=
  lastB ops (c + 2) && (List.range c).all (fun i => decide (i < e) || (List.range (c + 1)).any fun j => decide (i < j) && waitsB ops j i) &&
  match ops[c]?, ops[c + 1]? with
  | some oc, some om => oc.guard.isNone && om.guard.isNone && oc.apart ops om && (match oc.dst with | some d => !(oc.looksAt ops).contains d | none => false) && (match om.dst with | some d => !(om.looksAt ops).contains d | none => false) && (match oc.op with | .select _ _ => false | _ => true) && (match om.op with | .select _ _ => false | _ => true)
  | _, _ => false

structure C3E (ops ops' : Array Oper) (e c : Nat) (oc om st : Oper) (d tm : Tmp) : Prop where
  ok : LastOk ops ops' (c + 2) st (dumO st)
  getc : ops[c]? = some oc
  getc' : ops'[c]? = some (dumO oc)
  getm : ops[c + 1]? = some om
  getm' : ops'[c + 1]? = some om
  gc : oc.guard = none
  gm : om.guard = none
  dc : oc.dst = some d
  dm : om.dst = some tm
  ap : oc.apart ops om = true
  self : d ∉ oc.looksAt ops
  selfm : tm ∉ om.looksAt ops
  sc : ∀ cs b, oc.op ≠ .select cs b
  sm : ∀ cs b, om.op ≠ .select cs b
  sink : ∀ i, i < c → i < e ∨ ∃ j o, i < j ∧ j ≤ c ∧ ops[j]? = some o ∧ ∃ e ∈ o.after, Region.binds .any e = true ∧ e.on = i


section
variable {P : Program} {ops ops' : Array Oper} {e c : Nat} {oc om st : Oper} {d tm : Tmp}

theorem C3E.head (h : C3E ops ops' e c oc om st d tm) {listed : Array Bool} (hc : Cl ops listed) (hr : c ∈ Region.ready .any ops listed) (hE : ∀ i, i < e → listed.getD i false = true) :
    ∀ (x i : Nat), c - i = x → i < c → listed.getD i false = true := by
  intro x
  induction x using Nat.strongRecOn with
  | _ x ih =>
    intro i hd hi
    rcases h.sink i hi with hie | ⟨j, o, hij, hjc, ho, e', he, hb, rfl⟩
    · exact hE i hie
    by_cases hjn : j = c
    · subst hjn
      obtain ⟨_, o', ho', hall⟩ := mem_ready.1 hr
      rw [ho] at ho'
      injection ho' with ho'
      subst ho'
      exact hall e' he hb
    · exact hc.2 j o ho (ih (c - j) (by omega) j rfl (by omega)) e' he hb
theorem C3E.only (h : C3E ops ops' e c oc om st d tm) {listed : Array Bool} (hc : Cl ops listed) (hn : Near c listed) : Region.ready .any ops listed ≠ [] ∧ ∀ i ∈ Region.ready .any ops listed, i = c + 2 := by
  have hs : listed.size = c + 3 := hc.1.trans h.ok.size
  refine ⟨h.ok.stuck hc.1 (c + 2) (by rw [h.ok.size]; omega) hn.1, fun i hi => ?_⟩
  obtain ⟨h0, o, ho, _⟩ := mem_ready.1 hi
  have hlt : i < c + 3 := by rw [← h.ok.size]; exact (Array.getElem?_eq_some_iff.1 ho).1
  by_cases hi2 : i < c + 2
  · rw [getD_tf (by omega), hn.2 i hi2] at h0
    cases h0
  · omega
theorem C3E.getQ (h : C3E ops ops' e c oc om st d tm) {C : World → Prop} {Q : Act → Prop} {listed : Array Bool} (hc : Cl ops listed) (hn : Near c listed) :
    ∀ {fuel : Nat} {b : Act}, wpAnyQ P .any ops' C Q fuel listed b → Q b := by
  intro fuel b hh
  obtain ⟨hne, hall⟩ := h.only hc hn
  obtain ⟨i, hi⟩ := List.exists_mem_of_ne_nil _ hne
  have hin := hall i hi
  subst hin
  cases fuel with
  | zero => have h1 := hh.1; rw [h.ok.ready] at h1; exact absurd h1 hne
  | succ f =>
    have hq := hh.2 (c + 2) (by rw [h.ok.ready]; exact hi)
    unfold qOp at hq
    simp only [h.ok.hst'] at hq
    rw [if_pos (wanted_none h.ok.guard' _)] at hq
    obtain ⟨v, _, hK⟩ := hq
    rw [h.ok.dst'] at hK
    have hd := h.ok.done hc hi
    cases f with
    | zero => exact hK.2
    | succ _ => exact hK.1 (by rw [h.ok.ready]; exact hd)
theorem C3E.fin (h : C3E ops ops' e c oc om st d tm) {Q' : Exit → Act → World → Prop} {listed : Array Bool} (hc : Cl ops listed) (hn : Near c listed) {a : Act} {w : World}
    (hw : wpList P #[st] Q' [st] a w) : ∀ fuel, wpAny P .any ops Q' (fuel + 1) listed a w := by
  intro fuel
  obtain ⟨hne, hall⟩ := h.only hc hn
  refine ⟨fun h0 => absurd h0 hne, fun i hi => ?_⟩
  have hin := hall i hi
  subst hin
  unfold wpOp
  simp only [h.ok.hst]
  rw [if_pos (wanted_none h.ok.guard _)]
  unfold wpList at hw
  rw [if_pos (wanted_none h.ok.guard _)] at hw
  exact hw.imp (Oper.wp_mono fun a' w' hn' => wpAny_done (h.ok.done hc hi) hn' fuel) id

theorem C3E.main (h : C3E ops ops' e c oc om st d tm) {C : World → Prop} {Q' : Exit → Act → World → Prop} (hsame : ∀ j, j < c → ops'[j]? = ops[j]?) :
    ∀ (fuel : Nat) (listed : Array Bool) (a : Act) (w : World), C w → Cl ops listed → (∀ i, i < e → listed.getD i false = true) → listed.getD c true = false → listed.getD (c + 2) true = false →
    wpAnyQ P .any ops' C (CallAsk P C Q' oc om st d) fuel listed a → wpAny P .any ops Q' fuel listed a w := by
  intro fuel
  have apx := Oper.apart_spec h.ap
  have hdm : some d ≠ some tm := fun e => apx.2.1 d h.dc (by rw [h.dm, e])
  have e_c : ∀ (a : Act) v, execOp (a.put (some d) v).eval oc = execOp a.eval oc := fun a v => execOp_put (ops := ops) oc h.sc a (some d) v fun x hx => by injection hx with hx; subst hx; exact h.self
  have e_cm : ∀ (a : Act) v, execOp (a.put (some tm) v).eval oc = execOp a.eval oc := fun a v => execOp_put (ops := ops) oc h.sc a (some tm) v fun x hx => apx.2.2 x (by rw [h.dm, hx])
  have e_m : ∀ (a : Act) v, execOp (a.put (some d) v).eval om = execOp a.eval om := fun a v => execOp_put (ops := ops) om h.sm a (some d) v fun x hx => apx.1 x (by rw [h.dc, hx])
  have e_mm : ∀ (a : Act) v, execOp (a.put (some tm) v).eval om = execOp a.eval om := fun a v => execOp_put (ops := ops) om h.sm a (some tm) v fun x hx => by injection hx with hx; subst hx; exact h.selfm
  induction fuel with
  | zero =>
    intro listed a w hw hc hE hcn hn hh
    have := hh.1
    rw [h.ok.ready] at this
    exact absurd this (h.ok.stuck hc.1 (c + 2) (by rw [h.ok.size]; omega) hn)
  | succ fuel ih =>
    intro listed a w hw hc hE hcn hn hh
    have hs : listed.size = c + 3 := hc.1.trans h.ok.size
    refine ⟨fun h0 => absurd h0 (h.ok.stuck hc.1 (c + 2) (by rw [h.ok.size]; omega) hn), fun i hi => ?_⟩
    have hq := hh.2 i (by rw [h.ok.ready]; exact hi)
    obtain ⟨hi0, o, ho, _⟩ := mem_ready.1 hi
    have hlt : i < c + 3 := by rw [← h.ok.size]; exact (Array.getElem?_eq_some_iff.1 ho).1
    have hin : i ≠ c + 2 := by
      intro e
      subst e
      have := h.ok.all hc hi _ c rfl (by omega)
      rw [getD_tf (by omega), this] at hcn
      cases hcn
    by_cases hic : i = c
    · subst hic
      have hc' := hc.set hi
      have hhead := h.head hc hi hE
      unfold wpOp
      unfold qOp at hq
      simp only [h.getc, h.getc'] at hq ⊢
      rw [if_pos (wanted_none h.gc _)]
      rw [if_pos (wanted_none (show (dumO oc).guard = none from h.gc) _)] at hq
      obtain ⟨v0, _, hK⟩ := hq
      rw [show (dumO oc).dst = some d from h.dc] at hK
      refine .inl ?_
      unfold Oper.wp
      have hn' : (listed.setIfInBounds i true).getD (i + 2) true = false := by rw [getD_set_ne true (by omega)]; exact hn
      by_cases hml : listed.getD (i + 1) false = true
      · have near : Near i (listed.setIfInBounds i true) := ⟨hn', fun j hj => by
          by_cases e : i = j
          · subst e; simp [hs]
          · rw [getD_set_ne false e]
            by_cases e1 : j = i + 1
            · subst e1; exact hml
            · exact hhead _ j rfl (by omega)⟩
        obtain ⟨_, hB⟩ := h.getQ hc' near hK
        obtain ⟨f, args, hr, hcl⟩ := hB w hw
        rw [e_c] at hr
        rw [hr]
        simp only [Oper.upon]
        refine hcl.mono fun e w2 he => ?_
        obtain ⟨v, rfl, hl⟩ := he
        rw [put_put] at hl
        show wpAny P .any ops Q' fuel (listed.setIfInBounds i true) (a.put oc.dst v) w2
        rw [h.dc]
        cases fuel with
        | zero => have h1 := hK.1; rw [h.ok.ready] at h1; exact absurd h1 (h.only hc' near).1
        | succ f => exact h.fin hc' near hl f
      · have hml' : listed.getD (i + 1) true = false := by rw [getD_tf (by omega)]; simpa using hml
        have hml2 : (listed.setIfInBounds i true).getD (i + 1) true = false := by rw [getD_set_ne true (by omega)]; exact hml'
        have honly : ∀ j ∈ Region.ready .any ops (listed.setIfInBounds i true), j = i + 1 := fun j hj => by
          obtain ⟨hj0, oj, hoj, _⟩ := mem_ready.1 hj
          have hjlt : j < i + 3 := by rw [← h.ok.size]; exact (Array.getElem?_eq_some_iff.1 hoj).1
          by_cases e2 : j = i + 2
          · subst e2
            have := h.ok.all hc' hj _ (i + 1) rfl (by omega)
            rw [getD_tf (by simp [hs]), this] at hml2
            cases hml2
          · by_cases e0 : i = j
            · subst e0; simp [hs] at hj0
            · by_cases e1 : j = i + 1
              · exact e1
              · rw [getD_set_ne true e0, getD_tf (by omega), hhead _ j rfl (by omega)] at hj0
                cases hj0
        have hne := h.ok.stuck hc'.1 (i + 1) (by rw [h.ok.size]; omega) hml2
        have hmr : i + 1 ∈ Region.ready .any ops (listed.setIfInBounds i true) := by
          obtain ⟨j, hj⟩ := List.exists_mem_of_ne_nil _ hne
          have := honly j hj
          subst this
          exact hj
        cases fuel with
        | zero => have h1 := hK.1; rw [h.ok.ready] at h1; exact absurd h1 hne
        | succ f =>
          have hq2 := hK.2 (i + 1) (by rw [h.ok.ready]; exact hmr)
          unfold qOp at hq2
          simp only [h.getm'] at hq2
          rw [if_pos (wanted_none h.gm _)] at hq2
          obtain ⟨um, hum, hK2⟩ := hq2
          rw [h.dm] at hK2
          have hc2 := hc'.set hmr
          have near : Near i ((listed.setIfInBounds i true).setIfInBounds (i + 1) true) := ⟨by rw [getD_set_ne true (by omega)]; exact hn', fun j hj => by
            by_cases e1 : i + 1 = j
            · subst e1; simp [hs]
            · rw [getD_set_ne false e1]
              by_cases e : i = j
              · subst e; simp [hs]
              · rw [getD_set_ne false e]
                exact hhead _ j rfl (by omega)⟩
          obtain ⟨⟨vm, hvm⟩, hB⟩ := h.getQ hc2 near hK2
          have hu := hum w hw
          unfold Oper.quietAt at hu
          rw [e_mm] at hvm
          rw [hvm w] at hu
          obtain ⟨_, hu⟩ := hu
          obtain ⟨f2, args, hr, hcl⟩ := hB w hw
          rw [e_cm, e_c] at hr
          rw [hr]
          simp only [Oper.upon]
          refine hcl.mono fun e w2 he => ?_
          obtain ⟨v, rfl, hl⟩ := he
          rw [Act.put_comm (a.put (some d) v0) um v (fun x hx => by injection hx with hx; subst hx; exact hdm), put_put, ← hu] at hl
          show wpAny P .any ops Q' (f + 1) (listed.setIfInBounds i true) (a.put oc.dst v) w2
          rw [h.dc]
          refine ⟨fun h0 => absurd h0 hne, fun j hj => ?_⟩
          have hj1 := honly j hj
          subst hj1
          unfold wpOp
          simp only [h.getm]
          rw [if_pos (wanted_none h.gm _)]
          refine .inl ?_
          unfold Oper.wp
          rw [e_m, ← e_m a v0, hvm w2]
          show wpAny P .any ops Q' f _ ((a.put (some d) v).put om.dst vm) w2
          rw [h.dm]
          cases f with
          | zero => have h1 := hK2.1; rw [h.ok.ready] at h1; exact absurd h1 (h.only hc2 near).1
          | succ f => exact h.fin hc2 near hl f
    · have hw2 : wpOp P ops Q' i (wpAny P .any ops Q' fuel (listed.setIfInBounds i true)) a w = wpOp P ops' Q' i (wpAny P .any ops Q' fuel (listed.setIfInBounds i true)) a w := by
        unfold wpOp
        rw [h.ok.yielded]
        by_cases e1 : i = c + 1
        · subst e1; rw [h.getm, h.getm']
        · rw [hsame i (by omega)]
      rw [hw2]
      exact wpOp_of_qOp hw (fun a' w' hw' hk => ih _ a' w' hw' (hc.set hi) (fun x hx => getD_set_true (hE x hx)) (by rw [getD_set_ne true hic]; exact hcn) (by rw [getD_set_ne true hin]; exact hn) hk) hq
end

theorem c3e_of {l : List Oper} {e c : Nat} (hl : l.length = c + 3) (hB : call3eB l.toArray e c = true) : ∃ oc om st d tm, tail3 l = [oc, om, st] ∧ C3E l.toArray (dum3 l).toArray e c oc om st d tm ∧ ∀ j, j < c → (dum3 l).toArray[j]? = l.toArray[j]? := by
  obtain ⟨oc, om, st, h1, h2, h3, h4, h5, h6, h7, h8⟩ := dum3_spec l c hl
  unfold call3eB at hB
  simp only [Bool.and_eq_true, List.all_eq_true, List.mem_range, Bool.or_eq_true, List.any_eq_true, decide_eq_true_eq] at hB
  obtain ⟨⟨hL, hS⟩, hM⟩ := hB
  have e1 : l.toArray[c]? = some oc := by simpa using h1
  have e2 : l.toArray[c + 1]? = some om := by simpa using h2
  have e3 : l.toArray[c + 2]? = some st := by simpa using h3
  have f1 : (dum3 l).toArray[c]? = some (dumO oc) := by simpa using h5
  have f2 : (dum3 l).toArray[c + 1]? = some om := by simpa using h6
  have f3 : (dum3 l).toArray[c + 2]? = some (dumO st) := by simpa using h7
  have f4 : ∀ j, j < c → (dum3 l).toArray[j]? = l.toArray[j]? := fun j hj => by simpa using h8 j hj
  rw [e1, e2] at hM
  simp only [Bool.and_eq_true, Option.isNone_iff_eq_none] at hM
  obtain ⟨⟨⟨⟨⟨⟨gc, gm⟩, ap⟩, sd⟩, sm⟩, nsc⟩, nsm⟩ := hM
  obtain ⟨d, dc⟩ : ∃ d, oc.dst = some d := by
    cases h : oc.dst with
    | none => rw [h] at sd; cases sd
    | some d => exact ⟨d, rfl⟩
  obtain ⟨tm, dm⟩ : ∃ d, om.dst = some d := by
    cases h : om.dst with
    | none => rw [h] at sm; cases sm
    | some d => exact ⟨d, rfl⟩
  rw [dc] at sd
  rw [dm] at sm
  refine ⟨oc, om, st, d, tm, h4, ?_, f4⟩
  unfold lastB at hL
  simp only [Bool.and_eq_true, List.all_eq_true, List.mem_range, List.any_eq_true, decide_eq_true_eq] at hL
  obtain ⟨⟨hb, hc⟩, hg⟩ := hL
  rw [e3] at hg
  simp only [Bool.and_eq_true, Option.isNone_iff_eq_none] at hg
  have hlk : ∀ j, j < c + 2 → ((dum3 l).toArray[j]?).map (·.after) = (l.toArray[j]?).map (·.after) ∧ ((dum3 l).toArray[j]?).bind (·.dst) = (l.toArray[j]?).bind (·.dst) := fun j hj => by
    rcases Nat.lt_or_ge j c with h | h
    · rw [f4 j h]; exact ⟨rfl, rfl⟩
    · rcases (show j = c ∨ j = c + 1 by omega) with rfl | rfl
      · rw [e1, f1]; exact ⟨rfl, rfl⟩
      · rw [e2, f2]; exact ⟨rfl, rfl⟩
  have ok : LastOk l.toArray (dum3 l).toArray (c + 2) st (dumO st) := by
    refine ⟨by simpa using hl, by simpa [dum3_len] using hl, hlk, e3, f3, rfl, hg.1, hg.1, hg.2, hg.2, fun i o ho e he hbd => ?_, fun i hi => ?_⟩
    · have hi := (Array.getElem?_eq_some_iff.1 ho).1
      have := hb i hi
      rw [ho] at this
      have := Array.all_eq_true_iff_forall_mem.1 this e he
      rw [hbd] at this
      simpa using this
    · obtain ⟨j, _, hij, hm⟩ := hc i hi
      obtain ⟨o, ho, h⟩ := waitsB_spec (ops := l.toArray) (j := j) (i := i) hm
      exact ⟨j, o, hij, ho, h⟩
  refine ⟨ok, e1, f1, e2, f2, gc, gm, dc, dm, ap, by simpa using sd, by simpa using sm, fun cs b h => (by rw [h] at nsc; cases nsc), fun cs b h => (by rw [h] at nsm; cases nsm), fun i hi => ?_⟩
  rcases hS i hi with hie | ⟨j, hj, hij, hw⟩
  · exact .inl hie
  · obtain ⟨o, ho, h⟩ := waitsB_spec hw
    exact .inr ⟨j, o, hij, by omega, ho, h⟩

def clB2 (ops : Array Oper) (listed : Array Bool) : Bool :=
  decide (listed.size = ops.size) && (List.range ops.size).all fun j => !listed.getD j false || match ops[j]? with
    | some o => o.after.all fun e => !Region.binds .any e || listed.getD e.on false
    | none => true
theorem cl_of2 {ops : Array Oper} {listed : Array Bool} (h : clB2 ops listed = true) : Cl ops listed := by
  unfold clB2 at h
  simp only [Bool.and_eq_true, decide_eq_true_eq, List.all_eq_true, List.mem_range, Bool.or_eq_true, Bool.not_eq_true'] at h
  refine ⟨h.1, fun j o ho hl e he hb => ?_⟩
  have hj := (Array.getElem?_eq_some_iff.1 ho).1
  rcases h.2 j hj with h1 | h1
  · rw [hl] at h1; cases h1
  · rw [ho] at h1
    have := Array.all_eq_true_iff_forall_mem.1 h1 e he
    rw [hb] at this
    simpa using this
theorem dum3_two {o0 o1 : Oper} {l : List Oper} {n : Nat} (h : l.length = n + 3) : dum3 (o0 :: o1 :: l) = o0 :: o1 :: dum3 l ∧ tail3 (o0 :: o1 :: l) = tail3 l := by
  match l, h with
  | a :: b :: c :: r, _ => exact ⟨rfl, rfl⟩
/-- The two moves first; one walk in the text's order; the call behind it, then the store. -/
theorem wp_region_call3e {P : Program} {id : Nat} {Q : Exit → Act → World → Prop} {a : Act} {w : World} {l : List Oper} {oc om st o0 o1 : Oper} {d : Tmp} {v0 v1 : Value} (c : Nat) (hm : P.follows .mixedOrders = true) (hl : l.length = c + 3)
    (hB : Region.lexFrom .any (dum3 (o0 :: o1 :: l)).toArray (c + 3) 2 (((Array.replicate (c + 5) false).setIfInBounds 0 true).setIfInBounds 1 true) = true) (hN : Region.noSelect (dum3 (o0 :: o1 :: l)).toArray = true) (hN' : Region.noSelect (o0 :: o1 :: l).toArray = true) (hL : call3eB (o0 :: o1 :: l).toArray 2 (c + 2) = true)
    (hf0 : Region.free .any (o0 :: o1 :: l).toArray (Array.replicate (c + 5) false) 0 = true) (hr0 : (Region.ready .any (o0 :: o1 :: l).toArray (Array.replicate (c + 5) false)).contains 0 = true)
    (hf1 : Region.free .any (o0 :: o1 :: l).toArray ((Array.replicate (c + 5) false).setIfInBounds 0 true) 1 = true) (hr1 : (Region.ready .any (o0 :: o1 :: l).toArray ((Array.replicate (c + 5) false).setIfInBounds 0 true)).contains 1 = true) (hc : clB2 (o0 :: o1 :: l).toArray (((Array.replicate (c + 5) false).setIfInBounds 0 true).setIfInBounds 1 true) = true)
    (h3 : tail3 l = [oc, om, st]) (hd : oc.dst = some d)
    (y0 : Yields P (o0 :: o1 :: l).toArray o0 v0 a) (y1 : Yields P (o0 :: o1 :: l).toArray o1 v1 (a.put o0.dst v0))
    (h : wpQuiet P (dum3 (o0 :: o1 :: l)).toArray (fun w' => ∃ p : BelW w, w' = p.W) (CallAsk P (fun w' => ∃ p : BelW w, w' = p.W) (NoPanic Q) oc om st d) (dum3 l) ((a.put o0.dst v0).put o1.dst v1)) : (Code.region id (o0 :: o1 :: l).toArray true).wp P Q a w := by
  have hll : (o0 :: o1 :: l).length = (c + 2) + 3 := by simp [hl]
  obtain ⟨oc', om', st', d', tm, e, hok, hs⟩ := c3e_of hll hL
  rw [(dum3_two hl).2, h3] at e
  injection e with x1 e
  injection e with x2 e
  injection e with x3 _
  subst x1 x2 x3
  have hdd : d = d' := by have := hok.dc; rw [hd] at this; injection this
  subst hdd
  have hsz : (o0 :: o1 :: l).toArray.size = c + 5 := by simp [hl]
  refine wp_region_noPanic (wp_region_any hm ?_)
  rw [hsz]
  refine wpAny_take (fuel := c + 4) (i := 0) (oi := o0) (v := v0) rfl hN' hf0 hr0 (fun _ _ _ h => h) y0 (wpAny_take (fuel := c + 3) (i := 1) (oi := o1) (v := v1) rfl hN' hf1 hr1 (fun _ _ _ h => h) y1 ?_)
  refine hok.main (C := fun w' => ∃ p : BelW w, w' = p.W) hs _ _ _ _ ⟨⟨w.drew, (Below.refl _ _).drew⟩, rfl⟩ (cl_of2 hc) (fun i hi => ?_) ?_ ?_ ?_
  · rcases (show i = 0 ∨ i = 1 by omega) with rfl | rfl
    · rw [getD_set_ne false (by decide)]; simp
    · simp
  · rw [getD_set_ne true (by omega), getD_set_ne true (by omega)]; simp
  · rw [getD_set_ne true (by omega), getD_set_ne true (by omega)]; simp
  · have hlen : (dum3 l).length = c + 3 := by rw [dum3_len, hl]
    have := wpAnyQ_lex (P := P) (C := fun w' => ∃ p : BelW w, w' = p.W) (md := .any) (ops := (dum3 (o0 :: o1 :: l)).toArray) hN (dum3 l) 2 (((Array.replicate (c + 5) false).setIfInBounds 0 true).setIfInBounds 1 true) _ (by intro j; rw [(dum3_two hl).1]; simp [Nat.add_comm 2 j]) (by rw [hlen]; exact hB) h
    rw [hlen] at this
    exact this
end Go.Proofs.Ytnnckojpmnpgbaa
