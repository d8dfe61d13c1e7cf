/- Steps of a drawn region whose last operation, a store, waits for all others and may hit what they read (for seats without graphs). -/
import Derived.Test.YtnmkbkpegkchpaaQuiC
import Derived.OrdersHeld
import Derived.Deep.RegionHeld3
namespace Go.Proofs.Ytnmkbkpegkchpaa
set_option maxRecDepth 20000
set_option linter.unusedVariables false
set_option linter.unusedSimpArgs false
open Go.RowKit

section
variable {P : Program} {ops : Array Oper} {Q : Exit → Act → World → Prop} {S : World → Prop} {n : Nat}

/-- S is asked behind each operation but the last. -/
def wpAnyT (P : Program) (ops : Array Oper) (Q : Exit → Act → World → Prop) (S : World → Prop) (n : Nat) : Nat → Array Bool → Act → World → Prop
  | 0, listed, a, w => Region.ready .any ops listed = [] ∧ Q .normal a w
  | f + 1, listed, a, w => (Region.ready .any ops listed = [] → Q .normal a w) ∧
    ∀ i, i ∈ Region.ready .any ops listed → wpOp P ops Q i (fun a' w' => (i ≠ n → S w') ∧ wpAnyT P ops Q S n f (listed.setIfInBounds i true) a' w') a w
theorem wpAny_of_T : ∀ (f : Nat) (listed : Array Bool) (a : Act) (w : World), wpAnyT P ops Q S n f listed a w → wpAny P .any ops Q f listed a w := by
  intro f
  induction f with
  | zero => intro listed a w h; exact h
  | succ f ih => intro listed a w h; exact ⟨h.1, fun i hi => wpOp_mono (fun a' w' hk => ih _ a' w' hk.2) (h.2 i hi)⟩

theorem wpAnyT_first {st : Oper} (hok : LastOk ops ops n st st) {i : Nat} {oi : Oper} {v : Value} (hi : ops[i]? = some oi) (hin : i < n) (hsel : Region.noSelect ops = true)
    (hQ : ∀ c a w, Q (.panic c) (a.put oi.dst v) w → Q (.panic c) a w) :
    ∀ (f : Nat) (listed : Array Bool) (a : Act) (w : World), Cl ops listed →
      (∀ j oj, ops[j]? = some oj → j ≠ i → listed.getD j true = false → (∀ e ∈ oj.after, Region.binds .any e = true → e.on ≠ i) → oi.apart ops oj = true) →
      i ∈ Region.ready .any ops listed → YieldsIf P ops S oi v a → S w →
      wpAnyT P ops Q S n f (listed.setIfInBounds i true) (a.put oi.dst v) w → wpAnyT P ops Q S n (f + 1) listed a w := by
  have hs := Region.noSelect_spec hsel
  intro f
  induction f with
  | zero =>
    intro listed a w _ _ hr hy hS H
    refine ⟨fun h0 => (by rw [h0] at hr; cases hr), fun j hj => ?_⟩
    by_cases e : j = i
    · subst e
      exact hy.wpOp hi hS ⟨fun _ => hS, H⟩
    · have := ready_mono hj e
      rw [H.1] at this
      cases this
  | succ f ih =>
    intro listed a w hc hfree hr hy hS H
    refine ⟨fun h0 => (by rw [h0] at hr; cases hr), fun j hj => ?_⟩
    by_cases e : j = i
    · subst e
      exact hy.wpOp hi hS ⟨fun _ => hS, H⟩
    · have hiu := (mem_ready.1 hr).1
      have hsz : listed.size = n + 1 := hc.1.trans hok.size
      have hjn : j ≠ n := fun e' => by
        subst e'
        have := hok.all hc hj _ i rfl hin
        rw [getD_tf (by omega), this] at hiu
        cases hiu
      have h1 := H.2 j (ready_mono hj e)
      obtain ⟨hju, oj, hoj, hall⟩ := mem_ready.1 hj
      have hno : ∀ e ∈ oj.after, Region.binds .any e = true → e.on ≠ i := fun e he hb h => by
        have h2 := hall e he hb
        rw [h] at h2
        rw [getD_tf (by omega), h2] at hiu
        cases hiu
      have h2 := wpOp_putIf hoj (hfree j oj hoj e hju hno) (fun cs b => hs i oi cs b hi) (fun cs b => hs j oj cs b hoj) hQ hy h1
      refine wpOp_mono (fun a' w' hk => ?_) h2
      obtain ⟨hy', hS', hk⟩ := hk
      refine ⟨fun _ => hS' hjn, ih _ a' w' (hc.set hj) (fun k ok hk' hki hun hno' => ?_) (ready_mono hr (Ne.symm e)) hy' (hS' hjn) ?_⟩
      · refine hfree k ok hk' hki ?_ hno'
        by_cases hjk : j = k
        · subst hjk; exact hju
        · rwa [getD_set_ne true hjk] at hun
      · rw [Array.setIfInBounds_comm _ _ e]
        exact hk

def clB (ops : Array Oper) (listed : Array Bool) : Bool :=
  decide (listed.size = ops.size) && (List.range ops.size).all fun j => !listed.getD j false || match ops[j]? with
    | some o => o.after.all fun e => !Region.binds .any e || listed.getD e.on false
    | none => true
theorem cl_of {listed : Array Bool} (h : clB ops listed = true) : Cl ops listed := by
  unfold clB at h
  simp only [Bool.and_eq_true, decide_eq_true_eq, List.all_eq_true, List.mem_range, Bool.or_eq_true, Bool.not_eq_true'] at h
  refine ⟨h.1, fun j o ho hl e he hb => ?_⟩
  have hj := (Array.getElem?_eq_some_iff.1 ho).1
  rcases h.2 j hj with h1 | h1
  · rw [hl] at h1; cases h1
  · rw [ho] at h1
    have := Array.all_eq_true_iff_forall_mem.1 h1 e he
    rw [hb] at this
    simpa using this
/-- Take a reader first. -/
theorem wpAnyT_take {l : List Oper} {i f : Nat} {oi : Oper} {v : Value} {listed : Array Bool} {a : Act} {w : World} (hl : l.length = n + 1) (hL : lastB l.toArray n = true)
    (hi : l.toArray[i]? = some oi) (hin : i < n) (hs : Region.noSelect l.toArray = true) (hc : clB l.toArray listed = true) (hf : Region.free .any l.toArray listed i = true) (hr : (Region.ready .any l.toArray listed).contains i = true)
    (hQ : ∀ c a w, Q (.panic c) (a.put oi.dst v) w → Q (.panic c) a w) (hy : YieldsIf P l.toArray S oi v a) (hS : S w)
    (h : wpAnyT P l.toArray Q S n f (listed.setIfInBounds i true) (a.put oi.dst v) w) : wpAnyT P l.toArray Q S n (f + 1) listed a w := by
  obtain ⟨st, _, hok⟩ := lastOk_of hl hL
  have hok2 : LastOk l.toArray l.toArray n st st := ⟨hok.size, hok.size, fun _ _ => ⟨rfl, rfl⟩, hok.hst, hok.hst, rfl, hok.dst, hok.dst, hok.guard, hok.guard, hok.back, hok.chain⟩
  exact wpAnyT_first hok2 hi hin hs hQ f listed a w (cl_of hc) (Region.free_spec hi hf) (by simpa using hr) hy hS h
/-- One alone may come up: it comes up. -/
theorem wpAnyT_one {i f : Nat} {listed : Array Bool} {a : Act} {w : World} (hr : Region.ready .any ops listed = [i])
    (h : wpOp P ops Q i (fun a' w' => (i ≠ n → S w') ∧ wpAnyT P ops Q S n f (listed.setIfInBounds i true) a' w') a w) : wpAnyT P ops Q S n (f + 1) listed a w := by
  refine ⟨fun h0 => (by rw [hr] at h0; cases h0), fun j hj => ?_⟩
  rw [hr, List.mem_singleton] at hj
  subst hj
  exact h
theorem wpAnyT_done {listed : Array Bool} {a : Act} {w : World} (hr : Region.ready .any ops listed = []) (h : Q .normal a w) : ∀ f, wpAnyT P ops Q S n f listed a w
  | 0 => ⟨hr, h⟩
  | _ + 1 => ⟨fun _ => h, fun i hi => by rw [hr] at hi; cases hi⟩
theorem wp_region_T {id : Nat} {a : Act} {w : World} (hm : P.follows .mixedOrders = true) (h : wpAnyT P ops Q S n ops.size (Array.replicate ops.size false) a w.drew) : (Code.region id ops true).wp P Q a w :=
  wp_region_any hm (wpAny_of_T _ _ _ _ h)
end
section
variable {P : Program} {ops : Array Oper} {Q : Exit → Act → World → Prop} {S : World → Prop} {n : Nat}
/-- One alone may come up, and it is not the last: it is run, and S is shown anew. -/
theorem wpAnyT_step {i f : Nat} {o : Oper} {listed : Array Bool} {a : Act} {w : World} (hr : Region.ready .any ops listed = [i]) (ho : ops[i]? = some o)
    (h : ∀ K' : Act → World → Prop, Shut (∀ a' w', S w' → (S w' → wpAnyT P ops Q S n f (listed.setIfInBounds i true) a' w') → K' a' w') → if Region.wanted o (yielded ops a.tmps) = true then Oper.wp P o a w K' Q else K' (a.put o.dst undef) w) :
    wpAnyT P ops Q S n (f + 1) listed a w :=
  wpAnyT_one hr (wpOp_step ho fun K' hK => h K' (fun a' w' hS hW => hK a' w' ⟨fun _ => hS, hW hS⟩))
/-- The last one. -/
theorem wpAnyT_last {f : Nat} {o : Oper} {listed : Array Bool} {a : Act} {w : World} (hr : Region.ready .any ops listed = [n]) (ho : ops[n]? = some o) (hd : Region.ready .any ops (listed.setIfInBounds n true) = [])
    (h : ∀ K' : Act → World → Prop, Shut (∀ a' w', Q .normal a' w' → K' a' w') → if Region.wanted o (yielded ops a.tmps) = true then Oper.wp P o a w K' Q else K' (a.put o.dst undef) w) :
    wpAnyT P ops Q S n (f + 1) listed a w :=
  wpAnyT_one hr (wpOp_step ho fun K' hK => h K' (fun a' w' hQ => hK a' w' ⟨fun hn => absurd rfl hn, wpAnyT_done hd hQ f⟩))
theorem wp_region_T' {id m : Nat} {a : Act} {w : World} (hm : P.follows .mixedOrders = true) (hz : ops.size = m) (hS : S w.drew) (h : S w.drew → wpAnyT P ops Q S n m (Array.replicate m false) a w.drew) : (Code.region id ops true).wp P Q a w :=
  wp_region_T hm (by rw [hz]; exact h hS)
end
end Go.Proofs.Ytnmkbkpegkchpaa
