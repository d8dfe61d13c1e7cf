/- The program's part: a graph's vertices in another order . Steps of a drawn region behind the readers that were taken first. A region whose last operation, a store, waits for all others and may hit what they read: readers may be taken first. -/
import Derived.Test.YtfadnkjlilhneaaGreatQuiC
import Derived.OrdersHeld
import Derived.Test.YtfadnkjlilhneaaGreatGrG
import Derived.Deep.RegionHeld3
import Derived.Test.YtfadnkjlilhneaaGreatRenQ
import Derived.Test.YtfadnkjlilhneaaGreatRen
import Derived.Test.YtfadnkjlilhneaaGreatDup
namespace Go.Proofs.YtfadnkjlilhneaaGreat
set_option maxRecDepth 20000
set_option linter.unusedVariables false
set_option linter.unusedSimpArgs false
open Go.RowKit

section
variable {P : Program} {ops : Array Oper} {Q : Exit → Act → World → Prop} {S : World → Prop} {n : Nat}

def wpAnyT (P : Program) (ops : Array Oper) (Q : Exit → Act → World → Prop) (S : World → Prop) (n : Nat) : Nat → Array Bool → Act → World → Prop
 | 0, listed, a, w => Region.ready .any ops listed = [] ∧ Q .normal a w
 | f + 1, listed, a, w => (Region.ready .any ops listed = [] → Q .normal a w) ∧
   ∀ i, i ∈ Region.ready .any ops listed → wpOp P ops Q i (fun a' w' => (i ≠ n → S w') ∧ wpAnyT P ops Q S n f (listed.setIfInBounds i true) a' w') a w
theorem wpAny_of_T : ∀ (f : Nat) (listed : Array Bool) (a : Act) (w : World), wpAnyT P ops Q S n f listed a w → wpAny P .any ops Q f listed a w := by
 intro f
 induction f with
 | zero => intro listed a w h; exact h
 | succ f ih => intro listed a w h; exact ⟨h.1, fun i hi => wpOp_mono (fun a' w' hk => ih _ a' w' hk.2) (h.2 i hi)⟩

theorem wpAnyT_first {st : Oper} (hok : LastOk ops ops n st st) {i : Nat} {oi : Oper} {v : Value} (hi : ops[i]? = some oi) (hin : i < n) (hsel : Region.noSelect ops = true)
  (hQ : ∀ c a w, Q (.panic c) (a.put oi.dst v) w → Q (.panic c) a w) :
  ∀ (f : Nat) (listed : Array Bool) (a : Act) (w : World), Cl ops listed →
   (∀ j oj, ops[j]? = some oj → j ≠ i → listed.getD j true = false → (∀ e ∈ oj.after, Region.binds .any e = true → e.on ≠ i) → oi.apart ops oj = true) →
   i ∈ Region.ready .any ops listed → YieldsIf P ops S oi v a → S w →
   wpAnyT P ops Q S n f (listed.setIfInBounds i true) (a.put oi.dst v) w → wpAnyT P ops Q S n (f + 1) listed a w := by
 have hs := Region.noSelect_spec hsel
 intro f
 induction f with
 | zero =>
   intro listed a w _ _ hr hy hS H
   refine ⟨fun h0 => (by rw [h0] at hr; cases hr), fun j hj => ?_⟩
   by_cases e : j = i
   ·subst e
    exact hy.wpOp hi hS ⟨fun _ => hS, H⟩
   ·have := ready_mono hj e
    rw [H.1] at this
    cases this
 | succ f ih =>
   intro listed a w hc hfree hr hy hS H
   refine ⟨fun h0 => (by rw [h0] at hr; cases hr), fun j hj => ?_⟩
   by_cases e : j = i
   ·subst e
    exact hy.wpOp hi hS ⟨fun _ => hS, H⟩
   ·have hiu := (mem_ready.1 hr).1
    have hsz : listed.size = n + 1 := hc.1.trans hok.size
    have hjn : j ≠ n := fun e' => by
     subst e'
     have := hok.all hc hj _ i rfl hin
     rw [getD_tf (by omega), this] at hiu
     cases hiu
    have h1 := H.2 j (ready_mono hj e)
    obtain ⟨hju, oj, hoj, hall⟩ := mem_ready.1 hj
    have hno : ∀ e ∈ oj.after, Region.binds .any e = true → e.on ≠ i := fun e he hb h => by
     have h2 := hall e he hb
     rw [h] at h2
     rw [getD_tf (by omega), h2] at hiu
     cases hiu
    have h2 := wpOp_putIf hoj (hfree j oj hoj e hju hno) (fun cs b => hs i oi cs b hi) (fun cs b => hs j oj cs b hoj) hQ hy h1
    refine wpOp_mono (fun a' w' hk => ?_) h2
    obtain ⟨hy', hS', hk⟩ := hk
    refine ⟨fun _ => hS' hjn, ih _ a' w' (hc.set hj) (fun k ok hk' hki hun hno' => ?_) (ready_mono hr (Ne.symm e)) hy' (hS' hjn) ?_⟩
    ·refine hfree k ok hk' hki ?_ hno'
     by_cases hjk : j = k
     ·subst hjk; exact hju
     ·rwa [getD_set_ne true hjk] at hun
    ·rw [Array.setIfInBounds_comm _ _ e]
     exact hk

def clB (ops : Array Oper) (listed : Array Bool) : Bool :=
 decide (listed.size = ops.size) && (List.range ops.size).all fun j => !listed.getD j false || match ops[j]? with
  | some o => o.after.all fun e => !Region.binds .any e || listed.getD e.on false
  | none => true
theorem cl_of {listed : Array Bool} (h : clB ops listed = true) : Cl ops listed := by
 unfold clB at h
 simp only [Bool.and_eq_true, decide_eq_true_eq, List.all_eq_true, List.mem_range, Bool.or_eq_true, Bool.not_eq_true'] at h
 refine ⟨h.1, fun j o ho hl e he hb => ?_⟩
 have hj := (Array.getElem?_eq_some_iff.1 ho).1
 rcases h.2 j hj with h1 | h1
 ·rw [hl] at h1; cases h1
 ·rw [ho] at h1
  have := Array.all_eq_true_iff_forall_mem.1 h1 e he
  rw [hb] at this
  simpa using this
theorem wpAnyT_take {l : List Oper} {i f : Nat} {oi : Oper} {v : Value} {listed : Array Bool} {a : Act} {w : World} (hl : l.length = n + 1) (hL : lastB l.toArray n = true)
  (hi : l.toArray[i]? = some oi) (hin : i < n) (hs : Region.noSelect l.toArray = true) (hc : clB l.toArray listed = true) (hf : Region.free .any l.toArray listed i = true) (hr : (Region.ready .any l.toArray listed).contains i = true)
  (hQ : ∀ c a w, Q (.panic c) (a.put oi.dst v) w → Q (.panic c) a w) (hy : YieldsIf P l.toArray S oi v a) (hS : S w)
  (h : wpAnyT P l.toArray Q S n f (listed.setIfInBounds i true) (a.put oi.dst v) w) : wpAnyT P l.toArray Q S n (f + 1) listed a w := by
 obtain ⟨st, _, hok⟩ := lastOk_of hl hL
 have hok2 : LastOk l.toArray l.toArray n st st := ⟨hok.size, hok.size, fun _ _ => ⟨rfl, rfl⟩, hok.hst, hok.hst, rfl, hok.dst, hok.dst, hok.guard, hok.guard, hok.back, hok.chain⟩
 exact wpAnyT_first hok2 hi hin hs hQ f listed a w (cl_of hc) (Region.free_spec hi hf) (by simpa using hr) hy hS h
theorem wpAnyT_one {i f : Nat} {listed : Array Bool} {a : Act} {w : World} (hr : Region.ready .any ops listed = [i])
  (h : wpOp P ops Q i (fun a' w' => (i ≠ n → S w') ∧ wpAnyT P ops Q S n f (listed.setIfInBounds i true) a' w') a w) : wpAnyT P ops Q S n (f + 1) listed a w := by
 refine ⟨fun h0 => (by rw [hr] at h0; cases h0), fun j hj => ?_⟩
 rw [hr, List.mem_singleton] at hj
 subst hj
 exact h
theorem wpAnyT_done {listed : Array Bool} {a : Act} {w : World} (hr : Region.ready .any ops listed = []) (h : Q .normal a w) : ∀ f, wpAnyT P ops Q S n f listed a w
 | 0 => ⟨hr, h⟩
 | _ + 1 => ⟨fun _ => h, fun i hi => by rw [hr] at hi; cases hi⟩
theorem wp_region_T {id : Nat} {a : Act} {w : World} (hm : P.follows .mixedOrders = true) (h : wpAnyT P ops Q S n ops.size (Array.replicate ops.size false) a w.drew) : (Code.region id ops true).wp P Q a w :=
 wp_region_any hm (wpAny_of_T _ _ _ _ h)
end
section
variable {P : Program} {ops : Array Oper} {Q : Exit → Act → World → Prop} {S : World → Prop} {n : Nat}
theorem wpAnyT_step {i f : Nat} {o : Oper} {listed : Array Bool} {a : Act} {w : World} (hr : Region.ready .any ops listed = [i]) (ho : ops[i]? = some o)
  (h : ∀ K' : Act → World → Prop, Shut (∀ a' w', S w' → (S w' → wpAnyT P ops Q S n f (listed.setIfInBounds i true) a' w') → K' a' w') → if Region.wanted o (yielded ops a.tmps) = true then Oper.wp P o a w K' Q else K' (a.put o.dst undef) w) :
  wpAnyT P ops Q S n (f + 1) listed a w :=
 wpAnyT_one hr (wpOp_step ho fun K' hK => h K' (fun a' w' hS hW => hK a' w' ⟨fun _ => hS, hW hS⟩))
theorem wpAnyT_last {f : Nat} {o : Oper} {listed : Array Bool} {a : Act} {w : World} (hr : Region.ready .any ops listed = [n]) (ho : ops[n]? = some o) (hd : Region.ready .any ops (listed.setIfInBounds n true) = [])
  (h : ∀ K' : Act → World → Prop, Shut (∀ a' w', Q .normal a' w' → K' a' w') → if Region.wanted o (yielded ops a.tmps) = true then Oper.wp P o a w K' Q else K' (a.put o.dst undef) w) :
  wpAnyT P ops Q S n (f + 1) listed a w :=
 wpAnyT_one hr (wpOp_step ho fun K' hK => h K' (fun a' w' hQ => hK a' w' ⟨fun hn => absurd rfl hn, wpAnyT_done hd hQ f⟩))
theorem wp_region_T' {id m : Nat} {a : Act} {w : World} (hm : P.follows .mixedOrders = true) (hz : ops.size = m) (hS : S w.drew) (h : S w.drew → wpAnyT P ops Q S n m (Array.replicate m false) a w.drew) : (Code.region id ops true).wp P Q a w :=
 wp_region_T hm (by rw [hz]; exact h hS)
end
theorem wp_push_edge {w : World} {o : Oper} {a : Act} {K : Act → World → Prop} {Q : Exit → Act → World → Prop} (s x : Operand)
  (ho : o.op = .call { callee := .builtin .append, args := #[s, x], argTypes := #[29, 29] })
  (base : Nat) (v : Value) (es : List EdD) (hown : OwE w base v es) (hs : a.eval s = v) (b : Nat) (e : EdD) (hx : a.eval x = .slice (some ⟨b, 0, none⟩) 1 1)
  (hc : ∀ j u, (edC e)[j]? = some u → w.cell? ⟨b, j, none⟩ = some u) (he : E64 e) (hl : es.length ≤ 1073741824) (hbase : base ≤ w.heap.size)
  (h : ∀ v' w', OwE w' base v' (es ++ [e]) → w.grownBy w' v.ownBlock → (v'.ownBlock = v.ownBlock ∨ v'.ownBlock = some w.heap.size) → K (a.put o.dst v') w') :
  o.wp Tryz.prog a w K Q := by
 obtain ⟨i0, hi0, hz0, hz1, hz2⟩ := info_parts edge_info
 obtain ⟨v', w', hrun, h1, h2, _, h5⟩ := run_append_own_at (P := Tryz.prog) w base 29 o.type 54 i0 _ 3 24 Tryz.underlying29 hi0 hz0 hz1 hz2 rfl (by decide) v es.length (edCs es) hown.1 ⟨b, 0, none⟩ 1 1 (edC e) rfl
  (fun j u hj => by rw [Addr.add_lit, Nat.zero_add]; exact hc j u hj) (by intro u hu; simp [edC] at hu; rcases hu with rfl | rfl | rfl <;> rfl) (by unfold maxLen; omega) (by omega) hbase
 unfold Oper.wp execOp
 simp only [ho, resolve, invoke, builtin, Sem.run_bind, Sem.run_pure, Result.andThen_ok, List.map_toArray, List.map_cons, List.map_nil, hs, hx, hrun]
 refine h v' w' ⟨?_, E64s_append hown.2 (E64s_one he)⟩ h2 h5
 have e1 : edCs (es ++ [e]) = edCs es ++ edC e := by rw [edCs_append]; simp [edCs]
 rw [e1, List.length_append]
 exact h1
theorem set_minus (N k : Nat) (h : k < N) : ((List.replicate k (-1 : Int)) ++ List.replicate (N - k) 0).set k (-1) = List.replicate (k + 1) (-1) ++ List.replicate (N - (k + 1)) 0 := by
 obtain ⟨m, hm⟩ : ∃ m, N - k = m + 1 := ⟨N - k - 1, by omega⟩
 rw [hm, show N - (k + 1) = m by omega, List.set_append_right _ _ (by simp), List.length_replicate, Nat.sub_self, List.replicate_succ, List.set_cons_zero, List.replicate_succ']
 simp
set_option maxHeartbeats 1000000 in
theorem part_anyN (v vo : Value) (g : GrD) (o : List Int) (w : World) (h : ArgG w v g) (ho : RdI w vo o) (hg : grB g = true) (hok : OrdN g.2.1 o) :
  Calls Tryz.prog 102 #[v, vo] w fun e w' => ∃ r, e = .returned r ∧ OwG w' w.heap.size r (rnG g o) ∧ Below w.heap.size w w' := by
 have HG := Lib.hid h
 have HOK := Lib.hid hok
 have HOR := Lib.hid ho
 obtain ⟨hr13, hsz40, hl120, _⟩ := grB_parts hg
 have HED := Lib.hid (fun e he => edge_of_gr hg (e := e) he)
 have HND := Lib.hid hok.1
 have HNDE := Lib.hid (gr_nodup hg).2
 obtain ⟨r, n, es⟩ := g
 simp only at hr13 hsz40 hl120 HG HED hok HOK HNDE
 obtain ⟨N, rfl⟩ : ∃ N : Nat, n = (N : Int) := ⟨n.toNat, by omega⟩
 have hN1 : 1 ≤ N := by omega
 have hN2 : N ≤ 40 := by omega
 have hol : o.length ≤ N := nodup_len N o hok.1 fun y hy => by have := hok.2.1 y hy; omega
 have HRANGE : Hid (∀ k (hk : k < o.length), ∃ u : Nat, o[k] = (u : Int) ∧ u < N) := Lib.hid fun k hk => by
  have := hok.2.1 o[k] (by simp)
  exact ⟨o[k].toNat, by omega, by omega⟩
 clear hsz40 hg hok h
 obtain ⟨A, cap, rfl, HE⟩ : ∃ A cap, v = .agg #[.int .i64 r, .int .i64 N, .slice A es.length cap] ∧ Hid (ArgE w (.slice A es.length cap) es) := by
  obtain ⟨s, hv, _, _, ha⟩ := HG.out
  obtain ⟨A, cap, rfl⟩ := ha.form
  exact ⟨A, cap, hv, Lib.hid ha⟩
 obtain ⟨Ao, capo, rfl, hco, hmo, _⟩ := ho.arg
 have hbndE : es.length ≤ cap ∧ cap ≤ maxLen := by
  obtain ⟨_, _, hv, h1, h2, _⟩ := HE.out
  injection hv with _ _ e3
  subst e3
  exact ⟨h1, h2⟩
 obtain ⟨hcap, hm⟩ := hbndE
 unfold maxLen at hmo hm
 clear ho
 have bx : Below w.heap.size w ((w.alloc (Obj.cells #[Value.int IntKind.i64 r, Value.int IntKind.i64 N, .slice A es.length cap] 31)).alloc (Obj.cells #[Value.int IntKind.i64 0, Value.int IntKind.i64 0, .slice none 0 0] 31)) := (by repeat (first | exact Below.refl _ _ | (refine Below.setCell ?_ (by first | omega | (simp <;> omega)) _) | (refine bel_drewN ?_ _) | (refine Below.drew ?_) | (refine Below.alloc ?_ (by first | omega | (simp <;> omega)) _)))
 go_enter Tryz.func102, Tryz.ntmps102
 obtain ⟨i0, hi0, hz0, hz1, hz2⟩ := info_parts int_info
 go_wp2_with (at_make; refine wpList_make_full _ rfl _ _ 26 rfl (w.heap.size + 1 + 1) 3 i0 (.int .i64 0) 1 Tryz.underlying26 hi0 hz0 hz1 _ _ _ _ N rfl rfl rfl rfl (by rw [hz2]; omega) (by unfold maxLen; omega) (by simp) ?_)
 obtain ⟨W0, hW0⟩ : ∃ W, W = (w.alloc (Obj.cells #[Value.int IntKind.i64 r, Value.int IntKind.i64 N, .slice A es.length cap] 31)).alloc (Obj.cells #[Value.int IntKind.i64 0, Value.int IntKind.i64 0, .slice none 0 0] 31) := ⟨_, rfl⟩
 rw [← hW0] at bx ⊢
 have hsW : W0.heap.size = w.heap.size + 1 + 1 := by rw [hW0]; simp
 have B0 : Hid (W0.cell? ⟨w.heap.size, 0, none⟩ = some (.int .i64 r)) := Lib.hid (by rw [hW0]; simp [go_sem])
 have B2 : Hid (W0.cell? ⟨w.heap.size, 2, none⟩ = some (.slice A es.length cap)) := Lib.hid (by rw [hW0]; simp [go_sem])
 have R0 : Hid (W0.cell? ⟨w.heap.size + 1, 0, none⟩ = some (.int .i64 0)) := Lib.hid (by rw [hW0]; simp [go_sem])
 have R1 : Hid (W0.cell? ⟨w.heap.size + 1, 1, none⟩ = some (.int .i64 0)) := Lib.hid (by rw [hW0]; simp [go_sem])
 have R2 : Hid (W0.cell? ⟨w.heap.size + 1, 2, none⟩ = some (.slice none 0 0)) := Lib.hid (by rw [hW0]; simp [go_sem])
 have RF : Hid (∀ j, W0.frozen? ⟨w.heap.size + 1, j, none⟩ = false) := Lib.hid fun j => by rw [hW0]; simp [go_sem]
 clear hW0
 rw [← hsW]
 have BX := Lib.hid bx
 have HSW := Lib.hid hsW
 have hltw : w.heap.size < W0.heap.size := by omega
 have hltw1 : w.heap.size + 1 < W0.heap.size := by omega
 clear bx hsW
 intro w2 hown0 hgrow0
 have own0 : OwI w2 W0.heap.size (.slice (some ⟨W0.heap.size, 0, none⟩) N N) (List.replicate 0 (-1) ++ List.replicate (N - 0) 0) := by
  refine ⟨?_, fun y hy => ?_⟩
  ·simp only [List.replicate_zero, List.nil_append, Nat.sub_zero, List.length_replicate]
   have : ints (List.replicate N 0) = List.replicate N (Value.int .i64 0) := by simp [ints]
   rw [this]
   simpa [toList_madeCells_one] using hown0
  ·simp only [List.replicate_zero, List.nil_append, Nat.sub_zero] at hy
   obtain ⟨_, rfl⟩ := List.mem_replicate.1 hy
   exact ⟨by decide, by decide⟩
 have HO0 := Lib.hid own0
 have HB0 := Lib.hid ((Below.refl W0.heap.size W0).grown hgrow0 (Nat.le_refl _) (fun k h => by cases h))
 clear own0 hown0 hgrow0
 go_wp2
 go_loopw [17] (fun i wr => ∃ k : Nat, k ≤ N ∧ i = .int .i64 k ∧ OwI wr W0.heap.size (.slice (some ⟨W0.heap.size, 0, none⟩) N N) (List.replicate k (-1) ++ List.replicate (N - k) 0) ∧ Below W0.heap.size W0 wr) (fun i _ => N - (intOf i).toNat)
 case atStart => exact ⟨0, Nat.zero_le _, rfl, HO0.out, HB0.out⟩
 case round =>
  obtain ⟨k, hk, rfl, hown, hbel⟩ := hrel
  have HB := Lib.hid hbel
  have hs := hbel.size
  have HO := Lib.hid hown
  by_cases hlt : k < N
  ·have hcell := hown.cellAt k (by simp; omega)
   have hfz := hown.free k
   have HS := Lib.hid (hown.set k (-1) ⟨by decide, by decide⟩)
   have HSET := Lib.hid (set_minus N k hlt)
   clear hown hbel
   generalize (List.replicate k (-1 : Int) ++ List.replicate (N - k) 0)[k]'(by simp; omega) = z0 at hcell
   go_wp2
   go_roundw
   case rel => exact ⟨k + 1, by omega, by go_num, by rw [← HSET.out]; exact HS.out.1, HB.out.grown HS.out.2 (by omega) (fun j hj => by cases hj; exact Nat.le_refl _)⟩
   case measure => simp [intOf]; omega
  ·obtain rfl : k = N := by omega
   have HO1 : Hid (OwI wr W0.heap.size (.slice (some ⟨W0.heap.size, 0, none⟩) k k) (plc k (o.take 0) 1)) := Lib.hid (by
    rw [List.take_zero, plc_nil]
    simpa using HO.out)
   clear hown hbel
   go_wp2
   go_loopw [26] (fun i wr => ∃ j : Nat, j ≤ o.length ∧ i = .int .i64 j ∧ OwI wr W0.heap.size (.slice (some ⟨W0.heap.size, 0, none⟩) k k) (plc k (o.take j) 1) ∧ Below W0.heap.size W0 wr) (fun i _ => o.length - (intOf i).toNat)
   case atStart => exact ⟨0, Nat.zero_le _, rfl, HO1.out, HB.out⟩
   case round =>
    obtain ⟨j, hj, rfl, hown, hbel⟩ := hrel
    have HB1 := Lib.hid hbel
    have hs1 := hbel.size
    have HO2 := Lib.hid hown
    by_cases hlt2 : j < o.length
    ·obtain ⟨bo, offo, rfl, hbo, hco2⟩ := (HOR.out.below (BX.out.trans (hbel.mono (by omega)))).at (by omega)
     have c0 := hco2 j hlt2
     obtain ⟨u, hu, huN⟩ := HRANGE.out j hlt2
     rw [hu] at c0
     have hcur := hown.cellAt u (by rw [plc_len]; exact huN)
     have hfz := hown.free u
     have HSET := Lib.hid (hown.set u (j : Int) ⟨by omega, by omega⟩)
     have HSUC : Hid ((plc k (o.take j) 1).set u (j : Int) = plc k (o.take (j + 1)) 1) := Lib.hid (by
      have := plc_succ k o 1 j hlt2 HND.out u hu
      rwa [Int.add_sub_cancel] at this)
     generalize (plc k (o.take j) 1)[u]'(by rw [plc_len]; exact huN) = z0 at hcur
     have j0 : (0 : Int) ≤ (u : Int) := by omega
     have j1 : (u : Int) < (k : Int) := by omega
     clear hco2 hu hown hbel
     go_wp2
     go_roundw
     case rel => exact ⟨j + 1, by omega, by go_num, by rw [← HSUC.out]; exact HSET.out.1, HB1.out.grown HSET.out.2 (by omega) (fun j hj => by cases hj; exact Nat.le_refl _)⟩
     case measure => simp [intOf]; omega
    ·obtain rfl : j = o.length := by omega
     rw [List.take_length] at HO2
     have hP := (HO2.out.1.lt W0.heap.size rfl).2
     have q0 := (hbel.cell (p := ⟨w.heap.size, 0, none⟩) hltw).trans B0.out
     have q2 := (hbel.cell (p := ⟨w.heap.size, 2, none⟩) hltw).trans B2.out
     have hlt3 : w.heap.size < wr.heap.size := by omega
     have hlt4 : w.heap.size + 1 < wr.heap.size := by omega
     have hA : ∀ ob o', (wr.alloc ob).cell? ⟨w.heap.size, o', none⟩ = wr.cell? ⟨w.heap.size, o', none⟩ := fun ob o' => World.cell?_of_block (Below.heap_alloc wr ob (w.heap.size) hlt3)
     clear hown hbel
     go_wp2
     generalize hw5 : wr = w5 at *
     clear hw5
     have HPL : Hid (∀ (wl : World), w5.grownBy wl (some w5.heap.size) → ∀ u : Nat, u < k → wl.cell? ⟨W0.heap.size, u, none⟩ = some (.int .i64 (plv o u - 1))) := Lib.hid fun wl hg u hu => by
      rw [grown_cell hg hP (by omega), HO2.out.cellAt u (by rw [plc_len]; exact hu), plc_get _ _ _ _ hu]
     have PLR : Hid (∀ v : Int, 0 ≤ plv o v ∧ plv o v ≤ 40) := Lib.hid fun v => by have := plv_range o v; omega
     go_loopw [44] (fun i wl => ∃ (j : Nat) (A2 : Option Addr) (cap2 : Nat), j ≤ es.length ∧ i = .int .i64 j ∧ wl.cell? ⟨w5.heap.size, 2, none⟩ = some (.slice A2 (rnL (es.take j) o).length cap2) ∧ OwE wl (w5.heap.size + 1) (.slice A2 (rnL (es.take j) o).length cap2) (rnL (es.take j) o) ∧ w5.grownBy wl (some w5.heap.size) ∧ wl.cell? ⟨w5.heap.size, 0, none⟩ = some (.int .i64 r) ∧ wl.cell? ⟨w5.heap.size, 1, none⟩ = some (.int .i64 o.length) ∧ (∀ j, wl.frozen? ⟨w5.heap.size, j, none⟩ = false) ∧ w5.heap.size < wl.heap.size) (fun i _ => es.length - (intOf i).toNat)
     case atStart => exact ⟨0, none, 0, Nat.zero_le _, rfl, by show _ = some (Value.slice none 0 0); simp [go_sem], OwE.nil, grown_bel ((Below.refl _ _).alloc (Nat.le_refl _) _), by simp [go_sem], by simp [go_sem], fun j => by simp [go_sem], by simp⟩
     case round =>
      obtain ⟨j, A2, cap2, hk2, rfl, hx2, hown2, hgr, hx0, hx1, hxf, hXr⟩ := hrel
      have HGW := Lib.hid hgr
      have hsz2 := hgr.size
      have HBw := Lib.hid (BX.out.trans (HB1.out.mono (show w.heap.size ≤ W0.heap.size by omega)))
      have HBw2 := Lib.hid (HBw.out.grown hgr (by omega) (fun j hj => by cases hj; omega))
      have b2 := (grown_cell (o := 2) hgr (show w.heap.size < w5.heap.size by omega) (by omega)).trans q2
      have HX2 := Lib.hid hx2
      have HX0 := Lib.hid hx0
      have HX1 := Lib.hid hx1
      have HXF := Lib.hid hxf
      clear hx0 hx1 hxf
      have HOW2 := Lib.hid hown2
      clear hgr hown2
      by_cases hlt3 : j < es.length
      ·obtain ⟨be, offe, rfl, hbe, c0, c1, c2, he64⟩ := (HE.out.below HBw2.out).at hlt3
       obtain ⟨e1, e2, e3⟩ := HED.out es[j] (by simp)
       have HS := Lib.hid (rnL_succ es o j hlt3)
       have HSS : Hid (∀ x, rnE o es[j] = some x → rnL (es.take (j + 1)) o = rnL (es.take j) o ++ [x]) := Lib.hid fun x hx => by
        rw [HS.out, hx]
        rfl
       have HSN : Hid (rnE o es[j] = none → rnL (es.take (j + 1)) o = rnL (es.take j) o) := Lib.hid fun hx => by rw [HS.out, hx]; simp
       have hlr : (rnL (es.take j) o).length ≤ 120 := by
        have h2 := rnL_len (es.take j) o
        rw [List.length_take] at h2
        omega
       generalize es[j] = e at *
       obtain ⟨f, l, t⟩ := e
       simp only at e1 e2 e3 c0 c1 c2
       obtain ⟨a, rfl⟩ : ∃ a : Nat, f = (a : Int) := ⟨f.toNat, by omega⟩
       obtain ⟨c, rfl⟩ : ∃ c : Nat, t = (c : Int) := ⟨t.toNat, by omega⟩
       have pa := HPL.out wr HGW.out a (by omega)
       have pc := HPL.out wr HGW.out c (by omega)
       obtain ⟨ra1, ra2⟩ := PLR.out a
       obtain ⟨rc1, rc2⟩ := PLR.out c
       have RN : Hid (rnE o ((a : Int), l, (c : Int)) = if 0 < plv o a ∧ 0 < plv o c then some (plv o a - 1, l, plv o c - 1) else none) := Lib.hid rfl
       have ja : (a : Int) < (k : Int) := by omega
       have jc : (c : Int) < (k : Int) := by omega
       have ja0 : (0 : Int) ≤ (a : Int) := by omega
       have jc0 : (0 : Int) ≤ (c : Int) := by omega
       have hPr : W0.heap.size < wr.heap.size := by omega
       have hl64 : I64 l := by unfold I64; omega
       have HL64 := Lib.hid hl64
       generalize plv o a = pav at *
       generalize plv o c = pcv at *
       generalize hL : rnL (es.take j) o = L at *
       clear hl64 HS he64
       have bA : Below wr.heap.size wr (wr.alloc (Obj.cells #[Value.int IntKind.i64 a, Value.int IntKind.i64 l, Value.int IntKind.i64 c] 54)) := (Below.refl _ _).alloc (Nat.le_refl _) _
       by_cases t1 : 0 ≤ pav - 1
       ·by_cases t2 : 0 ≤ pcv - 1
        ·have F := Lib.hid (HSS.out _ (by rw [RN.out, if_pos ⟨by omega, by omega⟩]))
         go_wp2_with fail
         have sA : wr.heap.size < (wr.alloc (Obj.cells #[Value.int IntKind.i64 a, Value.int IntKind.i64 l, Value.int IntKind.i64 c] 54)).heap.size := by simp
         have l0 : (wr.alloc (Obj.cells #[Value.int IntKind.i64 a, Value.int IntKind.i64 l, Value.int IntKind.i64 c] 54)).cell? ⟨wr.heap.size, 0, none⟩ = some (.int .i64 a) := by simp [go_sem]
         have l1 : (wr.alloc (Obj.cells #[Value.int IntKind.i64 a, Value.int IntKind.i64 l, Value.int IntKind.i64 c] 54)).cell? ⟨wr.heap.size, 1, none⟩ = some (.int .i64 l) := by simp [go_sem]
         have l2 : (wr.alloc (Obj.cells #[Value.int IntKind.i64 a, Value.int IntKind.i64 l, Value.int IntKind.i64 c] 54)).cell? ⟨wr.heap.size, 2, none⟩ = some (.int .i64 c) := by simp [go_sem]
         generalize wr.alloc (Obj.cells #[Value.int IntKind.i64 a, Value.int IntKind.i64 l, Value.int IntKind.i64 c] 54) = W at bA sA l0 l1 l2 ⊢
         have la := (bA.cell (p := ⟨W0.heap.size, a, none⟩) hPr).trans pa
         have lc := (bA.cell (p := ⟨W0.heap.size, c, none⟩) hPr).trans pc
         have lx := (bA.cell (p := ⟨w5.heap.size, 2, none⟩) hXr).trans HX2.out
         have LX0 := Lib.hid ((bA.cell (p := ⟨w5.heap.size, 0, none⟩) hXr).trans HX0.out)
         have LX1 := Lib.hid ((bA.cell (p := ⟨w5.heap.size, 1, none⟩) hXr).trans HX1.out)
         have LXF : Hid (∀ j, W.frozen? ⟨w5.heap.size, j, none⟩ = false) := Lib.hid fun j => (bA.frozen (p := ⟨w5.heap.size, j, none⟩) hXr).trans (HXF.out j)
         have OW := Lib.hid (HOW2.out.below bA)
         have GW := Lib.hid (HGW.out.trans (grown_bel bA))
         have hXW : w5.heap.size < W.heap.size := by omega
         have hPW : W0.heap.size < W.heap.size := by omega
         have hPX : W0.heap.size ≠ w5.heap.size := by omega
         clear bA pa pc hx2
         refine wp_region_T' (n := 18) (S := fun w' => w'.cell? ⟨w5.heap.size, 2, none⟩ = some (.slice A2 L.length cap2) ∧ w'.cell? ⟨W0.heap.size, a, none⟩ = some (.int .i64 (pav - 1)) ∧ w'.cell? ⟨W0.heap.size, c, none⟩ = some (.int .i64 (pcv - 1)) ∧ w'.cell? ⟨wr.heap.size, 0, none⟩ = some (.int .i64 a) ∧ w'.cell? ⟨wr.heap.size, 1, none⟩ = some (.int .i64 l) ∧ w'.cell? ⟨wr.heap.size, 2, none⟩ = some (.int .i64 c)) (by kernel_rfl) (by rfl) ⟨lx, la, lc, l0, l1, l2⟩ (fun hHeld => ?_)
         (refine wpAnyT_take (n := 18) (i := 0) (v := ?_) rfl (by kernel_rfl) rfl (by decide) (by kernel_rfl) (by kernel_rfl) (by kernel_rfl) (by kernel_rfl) (fun _ _ _ h => h) (Or.inl ⟨by rfl, ?_⟩) (by assumption) ?_; rotate_left; focus (intro ww hSw; (try dsimp only at hSw); go_simp; try with_reducible rfl); (try simp only [Act.put, List.setIfInBounds_toArray, List.set_cons_zero, List.set_cons_succ])); (refine wpAnyT_take (n := 18) (i := 1) (v := ?_) rfl (by kernel_rfl) rfl (by decide) (by kernel_rfl) (by kernel_rfl) (by kernel_rfl) (by kernel_rfl) (fun _ _ _ h => h) (Or.inl ⟨by rfl, ?_⟩) (by assumption) ?_; rotate_left; focus (intro ww hSw; (try dsimp only at hSw); go_simp; try with_reducible rfl); (try simp only [Act.put, List.setIfInBounds_toArray, List.set_cons_zero, List.set_cons_succ])); (refine wpAnyT_take (n := 18) (i := 2) (v := ?_) rfl (by kernel_rfl) rfl (by decide) (by kernel_rfl) (by kernel_rfl) (by kernel_rfl) (by kernel_rfl) (fun _ _ _ h => h) (Or.inl ⟨by rfl, ?_⟩) (by assumption) ?_; rotate_left; focus (intro ww hSw; (try dsimp only at hSw); go_simp; try with_reducible rfl); (try simp only [Act.put, List.setIfInBounds_toArray, List.set_cons_zero, List.set_cons_succ])); (refine wpAnyT_take (n := 18) (i := 3) (v := ?_) rfl (by kernel_rfl) rfl (by decide) (by kernel_rfl) (by kernel_rfl) (by kernel_rfl) (by kernel_rfl) (fun _ _ _ h => h) (Or.inl ⟨by rfl, ?_⟩) (by assumption) ?_; rotate_left; focus (intro ww hSw; (try dsimp only at hSw); go_simp; try with_reducible rfl); (try simp only [Act.put, List.setIfInBounds_toArray, List.set_cons_zero, List.set_cons_succ])); (refine wpAnyT_take (n := 18) (i := 4) (v := ?_) rfl (by kernel_rfl) rfl (by decide) (by kernel_rfl) (by kernel_rfl) (by kernel_rfl) (by kernel_rfl) (fun _ _ _ h => h) (Or.inl ⟨by rfl, ?_⟩) (by assumption) ?_; rotate_left; focus (intro ww hSw; (try dsimp only at hSw); go_simp; try with_reducible rfl); (try simp only [Act.put, List.setIfInBounds_toArray, List.set_cons_zero, List.set_cons_succ])); (refine wpAnyT_take (n := 18) (i := 5) (v := ?_) rfl (by kernel_rfl) rfl (by decide) (by kernel_rfl) (by kernel_rfl) (by kernel_rfl) (by kernel_rfl) (fun _ _ _ h => h) (Or.inl ⟨by rfl, ?_⟩) (by assumption) ?_; rotate_left; focus (intro ww hSw; (try dsimp only at hSw); go_simp; try with_reducible rfl); (try simp only [Act.put, List.setIfInBounds_toArray, List.set_cons_zero, List.set_cons_succ])); (refine wpAnyT_take (n := 18) (i := 6) (v := ?_) rfl (by kernel_rfl) rfl (by decide) (by kernel_rfl) (by kernel_rfl) (by kernel_rfl) (by kernel_rfl) (fun _ _ _ h => h) (Or.inl ⟨by rfl, ?_⟩) (by assumption) ?_; rotate_left; focus (intro ww hSw; (try dsimp only at hSw); go_simp; try with_reducible rfl); (try simp only [Act.put, List.setIfInBounds_toArray, List.set_cons_zero, List.set_cons_succ])); (refine wpAnyT_take (n := 18) (i := 7) (v := ?_) rfl (by kernel_rfl) rfl (by decide) (by kernel_rfl) (by kernel_rfl) (by kernel_rfl) (by kernel_rfl) (fun _ _ _ h => h) (Or.inl ⟨by rfl, ?_⟩) (by assumption) ?_; rotate_left; focus (intro ww hSw; (try dsimp only at hSw); go_simp; try with_reducible rfl); (try simp only [Act.put, List.setIfInBounds_toArray, List.set_cons_zero, List.set_cons_succ])); (refine wpAnyT_take (n := 18) (i := 8) (v := ?_) rfl (by kernel_rfl) rfl (by decide) (by kernel_rfl) (by kernel_rfl) (by kernel_rfl) (by kernel_rfl) (fun _ _ _ h => h) (Or.inl ⟨by rfl, ?_⟩) (by assumption) ?_; rotate_left; focus (intro ww hSw; (try dsimp only at hSw); go_simp; try with_reducible rfl); (try simp only [Act.put, List.setIfInBounds_toArray, List.set_cons_zero, List.set_cons_succ])); (refine wpAnyT_take (n := 18) (i := 9) (v := ?_) rfl (by kernel_rfl) rfl (by decide) (by kernel_rfl) (by kernel_rfl) (by kernel_rfl) (by kernel_rfl) (fun _ _ _ h => h) (Or.inl ⟨by rfl, ?_⟩) (by assumption) ?_; rotate_left; focus (intro ww hSw; (try dsimp only at hSw); go_simp; try with_reducible rfl); (try simp only [Act.put, List.setIfInBounds_toArray, List.set_cons_zero, List.set_cons_succ])); (refine wpAnyT_take (n := 18) (i := 10) (v := ?_) rfl (by kernel_rfl) rfl (by decide) (by kernel_rfl) (by kernel_rfl) (by kernel_rfl) (by kernel_rfl) (fun _ _ _ h => h) (Or.inl ⟨by rfl, ?_⟩) (by assumption) ?_; rotate_left; focus (intro ww hSw; (try dsimp only at hSw); go_simp; try with_reducible rfl); (try simp only [Act.put, List.setIfInBounds_toArray, List.set_cons_zero, List.set_cons_succ])); (refine wpAnyT_take (n := 18) (i := 11) (v := ?_) rfl (by kernel_rfl) rfl (by decide) (by kernel_rfl) (by kernel_rfl) (by kernel_rfl) (by kernel_rfl) (fun _ _ _ h => h) (Or.inl ⟨by rfl, ?_⟩) (by assumption) ?_; rotate_left; focus (intro ww hSw; (try dsimp only at hSw); go_simp; try with_reducible rfl); (try simp only [Act.put, List.setIfInBounds_toArray, List.set_cons_zero, List.set_cons_succ])); (refine wpAnyT_take (n := 18) (i := 12) (v := ?_) rfl (by kernel_rfl) rfl (by decide) (by kernel_rfl) (by kernel_rfl) (by kernel_rfl) (by kernel_rfl) (fun _ _ _ h => h) (Or.inl ⟨by rfl, ?_⟩) (by assumption) ?_; rotate_left; focus (intro ww hSw; (try dsimp only at hSw); go_simp; try with_reducible rfl); (try simp only [Act.put, List.setIfInBounds_toArray, List.set_cons_zero, List.set_cons_succ])); (refine wpAnyT_take (n := 18) (i := 13) (v := ?_) rfl (by kernel_rfl) rfl (by decide) (by kernel_rfl) (by kernel_rfl) (by kernel_rfl) (by kernel_rfl) (fun _ _ _ h => h) (Or.inl ⟨by rfl, ?_⟩) (by assumption) ?_; rotate_left; focus (intro ww hSw; (try dsimp only at hSw); go_simp; try with_reducible rfl); (try simp only [Act.put, List.setIfInBounds_toArray, List.set_cons_zero, List.set_cons_succ])); (refine wpAnyT_take (n := 18) (i := 14) (v := ?_) rfl (by kernel_rfl) rfl (by decide) (by kernel_rfl) (by kernel_rfl) (by kernel_rfl) (by kernel_rfl) (fun _ _ _ h => h) (Or.inl ⟨by rfl, ?_⟩) (by assumption) ?_; rotate_left; focus (intro ww hSw; (try dsimp only at hSw); go_simp; try with_reducible rfl); (try simp only [Act.put, List.setIfInBounds_toArray, List.set_cons_zero, List.set_cons_succ]))
         refine wpAnyT_step (i := 15) (by kernel_rfl) rfl fun K' hK => ?_
         go_simp
         have hNW : W0.heap.size ≠ W.heap.size := by omega
         have hNX : w5.heap.size ≠ W.heap.size := by omega
         have hNe : wr.heap.size ≠ W.heap.size := by omega
         have bB : Below W.heap.size W (W.alloc (Obj.cells #[Value.int IntKind.i64 (pav - 1), Value.int IntKind.i64 l, Value.int IntKind.i64 (pcv - 1)] 54)).drew := (by repeat (first | exact Below.refl _ _ | (refine Below.setCell ?_ (by first | omega | (simp <;> omega)) _) | (refine bel_drewN ?_ _) | (refine Below.drew ?_) | (refine Below.alloc ?_ (by first | omega | (simp <;> omega)) _)))
         have nE : ∀ j u, (edC (pav - 1, l, pcv - 1))[j]? = some u → (W.alloc (Obj.cells #[Value.int IntKind.i64 (pav - 1), Value.int IntKind.i64 l, Value.int IntKind.i64 (pcv - 1)] 54)).drew.cell? ⟨W.heap.size, j, none⟩ = some u := fun j u hj => by
          rcases j with _ | _ | _ | j <;> simp [edC] at hj <;> subst hj <;> simp [go_sem]
         have sB : W.heap.size < (W.alloc (Obj.cells #[Value.int IntKind.i64 (pav - 1), Value.int IntKind.i64 l, Value.int IntKind.i64 (pcv - 1)] 54)).drew.heap.size := by simp
         have hHeld2 : (W.alloc (Obj.cells #[Value.int IntKind.i64 (pav - 1), Value.int IntKind.i64 l, Value.int IntKind.i64 (pcv - 1)] 54)).drew.cell? ⟨w5.heap.size, 2, none⟩ = some (.slice A2 L.length cap2) ∧ (W.alloc (Obj.cells #[Value.int IntKind.i64 (pav - 1), Value.int IntKind.i64 l, Value.int IntKind.i64 (pcv - 1)] 54)).drew.cell? ⟨W0.heap.size, a, none⟩ = some (.int .i64 (pav - 1)) ∧ (W.alloc (Obj.cells #[Value.int IntKind.i64 (pav - 1), Value.int IntKind.i64 l, Value.int IntKind.i64 (pcv - 1)] 54)).drew.cell? ⟨W0.heap.size, c, none⟩ = some (.int .i64 (pcv - 1)) ∧ (W.alloc (Obj.cells #[Value.int IntKind.i64 (pav - 1), Value.int IntKind.i64 l, Value.int IntKind.i64 (pcv - 1)] 54)).drew.cell? ⟨wr.heap.size, 0, none⟩ = some (.int .i64 a) ∧ (W.alloc (Obj.cells #[Value.int IntKind.i64 (pav - 1), Value.int IntKind.i64 l, Value.int IntKind.i64 (pcv - 1)] 54)).drew.cell? ⟨wr.heap.size, 1, none⟩ = some (.int .i64 l) ∧ (W.alloc (Obj.cells #[Value.int IntKind.i64 (pav - 1), Value.int IntKind.i64 l, Value.int IntKind.i64 (pcv - 1)] 54)).drew.cell? ⟨wr.heap.size, 2, none⟩ = some (.int .i64 c) :=
          ⟨(bB.cell (p := ⟨w5.heap.size, 2, none⟩) hXW).trans lx, (bB.cell (p := ⟨W0.heap.size, a, none⟩) hPW).trans la, (bB.cell (p := ⟨W0.heap.size, c, none⟩) hPW).trans lc, (bB.cell (p := ⟨wr.heap.size, 0, none⟩) sA).trans l0, (bB.cell (p := ⟨wr.heap.size, 1, none⟩) sA).trans l1, (bB.cell (p := ⟨wr.heap.size, 2, none⟩) sA).trans l2⟩
         clear hHeld
         refine hK.out _ _ hHeld2 (fun _ => ?_)
         clear hK
         generalize (W.alloc (Obj.cells #[Value.int IntKind.i64 (pav - 1), Value.int IntKind.i64 l, Value.int IntKind.i64 (pcv - 1)] 54)).drew = V at bB nE sB hHeld2 ⊢
         have sV : W.heap.size < V.heap.size := sB
         refine wpAnyT_step (i := 16) (by kernel_rfl) rfl fun K' hK => ?_
         rw [if_pos (by rfl)]
         refine wp_push_edge (.tmp 63) (.tmp 77) rfl (w5.heap.size + 1) _ L (OW.out.below bB) rfl W.heap.size (pav - 1, l, pcv - 1) rfl nE ⟨⟨by simp only; omega, by simp only; omega⟩, HL64.out, ⟨by simp only; omega, by simp only; omega⟩⟩ (by omega) (by omega) ?_
         intro v' w' o' g' p'
         obtain ⟨A9, cap9, rfl, _⟩ := OwE.form o'
         have O9 := Lib.hid o'
         clear o'
         have hrow : ∀ x, (Value.slice A2 L.length cap2).ownBlock = some x → w5.heap.size + 1 ≤ x ∧ x < wr.heap.size := fun x hx => HOW2.out.1.lt x hx
         have ne1 : ∀ y, y < V.heap.size → (y ≤ w5.heap.size ∨ y = wr.heap.size) → some y ≠ (Value.slice A2 L.length cap2).ownBlock := fun y _ h he => by
          have := hrow y he.symm
          omega
         have cW : ∀ y o u, y < V.heap.size → (y ≤ w5.heap.size ∨ y = wr.heap.size) → V.cell? ⟨y, o, none⟩ = some u → w'.cell? ⟨y, o, none⟩ = some u := fun y o u h1 h2 h3 => (World.cell?_of_block (w := V) (g'.block y h1 (ne1 y h1 h2))).trans h3
         obtain ⟨k1, k2, k3, k4, k5, k6⟩ := hHeld2
         have hHeld3 : w'.cell? ⟨w5.heap.size, 2, none⟩ = some (.slice A2 L.length cap2) ∧ w'.cell? ⟨W0.heap.size, a, none⟩ = some (.int .i64 (pav - 1)) ∧ w'.cell? ⟨W0.heap.size, c, none⟩ = some (.int .i64 (pcv - 1)) ∧ w'.cell? ⟨wr.heap.size, 0, none⟩ = some (.int .i64 a) ∧ w'.cell? ⟨wr.heap.size, 1, none⟩ = some (.int .i64 l) ∧ w'.cell? ⟨wr.heap.size, 2, none⟩ = some (.int .i64 c) :=
          ⟨cW _ _ _ (by omega) (by omega) k1, cW _ _ _ (by omega) (by omega) k2, cW _ _ _ (by omega) (by omega) k3, cW _ _ _ (by omega) (by omega) k4, cW _ _ _ (by omega) (by omega) k5, cW _ _ _ (by omega) (by omega) k6⟩
         refine hK.out _ _ hHeld3 (fun _ => ?_)
         clear hK
         simp only [Act.put, List.setIfInBounds_toArray, List.set_cons_zero, List.set_cons_succ]
         (refine wpAnyT_take (n := 18) (i := 17) (v := ?_) rfl (by kernel_rfl) rfl (by decide) (by kernel_rfl) (by kernel_rfl) (by kernel_rfl) (by kernel_rfl) (fun _ _ _ h => h) (Or.inl ⟨by rfl, ?_⟩) (by assumption) ?_; rotate_left; focus (intro ww hSw; (try dsimp only at hSw); go_simp; try with_reducible rfl); (try simp only [Act.put, List.setIfInBounds_toArray, List.set_cons_zero, List.set_cons_succ]))
         have qf : w'.frozen? ⟨w5.heap.size, 2, none⟩ = false := ((World.frozen?_of_block (w := V) (g'.block w5.heap.size (by omega) (ne1 _ (by omega) (by omega)))).trans (bB.frozen (p := ⟨w5.heap.size, 2, none⟩) hXW)).trans (LXF.out 2)
         have qx := hHeld3.1
         refine wpAnyT_last (n := 18) (by kernel_rfl) rfl (by kernel_rfl) fun K' hK => ?_
         go_simp
         refine hK.out _ _ ?_
         clear hK
         go_wp2
         go_roundw
         case rel =>
          have GV : w5.grownBy V (some w5.heap.size) := GW.out.trans (grown_bel bB)
          have hVw := g'.size
          have G9 : w5.grownBy w' (some w5.heap.size) := ⟨g'.os.trans GV.os, g'.tape.trans GV.tape, g'.output.trans GV.output, by omega, fun b hb hne => (g'.block b (by omega) (ne1 b (by omega) (by omega))).trans (GV.block b hb hne)⟩
          refine ⟨j + 1, A9, cap9, by omega, by go_num, by rw [F.out, List.length_append]; exact World.cell?_setCell_same _ _ _ qx, ?_, G9.trans (set_grown _ _ _ _), ?_, ?_, fun j => ?_, by simp; omega⟩
          ·rw [F.out]
           have := O9.out.far (p := ⟨w5.heap.size, 2, none⟩) (show w5.heap.size < w5.heap.size + 1 by omega) (Value.slice A9 (L.length + 1) cap9)
           simpa [List.length_append] using this
          ·rw [World.cell?_setCell_other _ _ _ _ (by simp)]
           exact cW _ _ _ (by omega) (by omega) ((bB.cell (p := ⟨w5.heap.size, 0, none⟩) hXW).trans LX0.out)
          ·rw [World.cell?_setCell_other _ _ _ _ (by simp)]
           exact cW _ _ _ (by omega) (by omega) ((bB.cell (p := ⟨w5.heap.size, 1, none⟩) hXW).trans LX1.out)
          ·rw [World.frozen?_setCell]
           exact ((World.frozen?_of_block (w := V) (g'.block w5.heap.size (by omega) (ne1 _ (by omega) (by omega)))).trans (bB.frozen (p := ⟨w5.heap.size, j, none⟩) hXW)).trans (LXF.out j)
         case measure => simp [intOf]; omega
        ·have F := Lib.hid (HSN.out (by rw [RN.out, if_neg (fun h => t2 (by omega))]))
         go_wp2
         go_roundw
         case rel => exact ⟨j + 1, A2, cap2, by omega, by go_num, by rw [F.out]; exact (bA.cell (p := ⟨w5.heap.size, 2, none⟩) hXr).trans HX2.out, by rw [F.out]; exact HOW2.out.below bA, HGW.out.trans (grown_bel bA), (bA.cell (p := ⟨w5.heap.size, 0, none⟩) hXr).trans HX0.out, (bA.cell (p := ⟨w5.heap.size, 1, none⟩) hXr).trans HX1.out, fun j => (bA.frozen (p := ⟨w5.heap.size, j, none⟩) hXr).trans (HXF.out j), by simp; omega⟩
         case measure => simp [intOf]; omega
       ·have F := Lib.hid (HSN.out (by rw [RN.out, if_neg (fun h => t1 (by omega))]))
        go_wp2
        go_roundw
        case rel => exact ⟨j + 1, A2, cap2, by omega, by go_num, by rw [F.out]; exact (bA.cell (p := ⟨w5.heap.size, 2, none⟩) hXr).trans HX2.out, by rw [F.out]; exact HOW2.out.below bA, HGW.out.trans (grown_bel bA), (bA.cell (p := ⟨w5.heap.size, 0, none⟩) hXr).trans HX0.out, (bA.cell (p := ⟨w5.heap.size, 1, none⟩) hXr).trans HX1.out, fun j => (bA.frozen (p := ⟨w5.heap.size, j, none⟩) hXr).trans (HXF.out j), by simp; omega⟩
        case measure => simp [intOf]; omega
      ·obtain rfl : j = es.length := by omega
       rw [List.take_length] at hx2 HOW2
       have HNDR := Lib.hid (rnL_nodup o HNDE.out)
       have hlr : (rnL es o).length ≤ 120 := by
        have h2 := rnL_len es o
        omega
       have hxf2 := HXF.out 2
       go_wp2_with fail
       refine (sorted_any _ _ _ HOW2.out.arg HNDR.out (by omega)).mono ?_
       rintro e' w9 ⟨r9, rfl, o9, b9⟩
       have B9 := Lib.hid b9
       have qx0 := (b9.cell (p := ⟨w5.heap.size, 0, none⟩) hXr).trans HX0.out
       have qx1 := (b9.cell (p := ⟨w5.heap.size, 1, none⟩) hXr).trans HX1.out
       have qx2 := (b9.cell (p := ⟨w5.heap.size, 2, none⟩) hXr).trans hx2
       have qf2 := (b9.frozen (p := ⟨w5.heap.size, 2, none⟩) hXr).trans hxf2
       obtain ⟨A9, cap9, rfl, _⟩ := OwE.form o9
       have O9 := Lib.hid o9
       have RR0 := (b9.cell (p := ⟨w.heap.size + 1, 0, none⟩) (by show w.heap.size + 1 < wr.heap.size; omega)).trans ((grown_cell (o := 0) HGW.out (show w.heap.size + 1 < w5.heap.size by omega) (by omega)).trans ((HB1.out.cell (p := ⟨w.heap.size + 1, 0, none⟩) hltw1).trans R0.out))
       have RR1 := (b9.cell (p := ⟨w.heap.size + 1, 1, none⟩) (by show w.heap.size + 1 < wr.heap.size; omega)).trans ((grown_cell (o := 1) HGW.out (show w.heap.size + 1 < w5.heap.size by omega) (by omega)).trans ((HB1.out.cell (p := ⟨w.heap.size + 1, 1, none⟩) hltw1).trans R1.out))
       have RR2 := (b9.cell (p := ⟨w.heap.size + 1, 2, none⟩) (by show w.heap.size + 1 < wr.heap.size; omega)).trans ((grown_cell (o := 2) HGW.out (show w.heap.size + 1 < w5.heap.size by omega) (by omega)).trans ((HB1.out.cell (p := ⟨w.heap.size + 1, 2, none⟩) hltw1).trans R2.out))
       have rrf : ∀ j, w9.frozen? ⟨w.heap.size + 1, j, none⟩ = false := fun j => (b9.frozen (p := ⟨w.heap.size + 1, j, none⟩) (by show w.heap.size + 1 < wr.heap.size; omega)).trans ((grown_frozen (o := j) HGW.out (show w.heap.size + 1 < w5.heap.size by omega) (by omega)).trans ((HB1.out.frozen (p := ⟨w.heap.size + 1, j, none⟩) hltw1).trans (RF.out j)))
       have rf0 := rrf 0
       have rf1 := rrf 1
       have rf2 := rrf 2
       have s9 := b9.size
       clear rrf b9 o9
       generalize hL : srt cmpE (rnL es o) = L at *
       have HLL := Lib.hid hL
       clear hL
       have nX : ¬ w5.heap.size = w.heap.size + 1 := by omega
       have nX' : ¬ w.heap.size + 1 = w5.heap.size := by omega
       go_wp2
       have hRw : w.heap.size + 1 < w9.heap.size := by omega
       have c0 : ((((w9.setCell ⟨w5.heap.size, 2, none⟩ (.slice A9 L.length cap9)).setCell ⟨w.heap.size + 1, 0, none⟩ (.int .i64 r)).setCell ⟨w.heap.size + 1, 1, none⟩ (.int .i64 o.length)).setCell ⟨w.heap.size + 1, 2, none⟩ (.slice A9 L.length cap9)).cell? ⟨w.heap.size + 1, 0, none⟩ = some (.int .i64 r) := by
        rw [World.cell?_setCell_other _ _ _ _ (by simp), World.cell?_setCell_other _ _ _ _ (by simp)]
        exact World.cell?_setCell_same _ _ _ ((cell_set_other _ _ _ _ _ _ (by omega)).trans RR0)
       have c1 : ((((w9.setCell ⟨w5.heap.size, 2, none⟩ (.slice A9 L.length cap9)).setCell ⟨w.heap.size + 1, 0, none⟩ (.int .i64 r)).setCell ⟨w.heap.size + 1, 1, none⟩ (.int .i64 o.length)).setCell ⟨w.heap.size + 1, 2, none⟩ (.slice A9 L.length cap9)).cell? ⟨w.heap.size + 1, 1, none⟩ = some (.int .i64 o.length) := by
        rw [World.cell?_setCell_other _ _ _ _ (by simp)]
        exact World.cell?_setCell_same _ _ _ ((World.cell?_setCell_other _ _ _ _ (by simp)).trans ((cell_set_other _ _ _ _ _ _ (by omega)).trans RR1))
       have c2 : ((((w9.setCell ⟨w5.heap.size, 2, none⟩ (.slice A9 L.length cap9)).setCell ⟨w.heap.size + 1, 0, none⟩ (.int .i64 r)).setCell ⟨w.heap.size + 1, 1, none⟩ (.int .i64 o.length)).setCell ⟨w.heap.size + 1, 2, none⟩ (.slice A9 L.length cap9)).cell? ⟨w.heap.size + 1, 2, none⟩ = some (.slice A9 L.length cap9) :=
        World.cell?_setCell_same _ _ _ ((World.cell?_setCell_other _ _ _ _ (by simp)).trans ((World.cell?_setCell_other _ _ _ _ (by simp)).trans ((cell_set_other _ _ _ _ _ _ (by omega)).trans RR2)))
       have HBw9 := Lib.hid (HBw2.out.trans (B9.out.mono (show w.heap.size ≤ wr.heap.size by omega)))
       have bw : Below w.heap.size w ((((w9.setCell ⟨w5.heap.size, 2, none⟩ (.slice A9 L.length cap9)).setCell ⟨w.heap.size + 1, 0, none⟩ (.int .i64 r)).setCell ⟨w.heap.size + 1, 1, none⟩ (.int .i64 o.length)).setCell ⟨w.heap.size + 1, 2, none⟩ (.slice A9 L.length cap9)) := (by repeat (first | exact Below.refl _ _ | (refine Below.setCell ?_ (by first | omega | (simp <;> omega)) _) | (refine bel_drewN ?_ _) | (refine Below.drew ?_) | (refine Below.alloc ?_ (by first | omega | (simp <;> omega)) _) | (refine Below.trans ?_ (Below.mono (Hid.out HBw9) (by first | omega | (simp <;> omega))))))
       have ow : OwE ((((w9.setCell ⟨w5.heap.size, 2, none⟩ (.slice A9 L.length cap9)).setCell ⟨w.heap.size + 1, 0, none⟩ (.int .i64 r)).setCell ⟨w.heap.size + 1, 1, none⟩ (.int .i64 o.length)).setCell ⟨w.heap.size + 1, 2, none⟩ (.slice A9 L.length cap9)) wr.heap.size (.slice A9 L.length cap9) L :=
        (((O9.out.far (p := ⟨w5.heap.size, 2, none⟩) (by show w5.heap.size < _; omega) _).far (p := ⟨w.heap.size + 1, 0, none⟩) (by show w.heap.size + 1 < _; omega) _).far (p := ⟨w.heap.size + 1, 1, none⟩) (by show w.heap.size + 1 < _; omega) _).far (p := ⟨w.heap.size + 1, 2, none⟩) (by show w.heap.size + 1 < _; omega) _
       generalize (((w9.setCell ⟨w5.heap.size, 2, none⟩ (.slice A9 L.length cap9)).setCell ⟨w.heap.size + 1, 0, none⟩ (.int .i64 r)).setCell ⟨w.heap.size + 1, 1, none⟩ (.int .i64 o.length)).setCell ⟨w.heap.size + 1, 2, none⟩ (.slice A9 L.length cap9) = wf at *
       refine bodyPost_ret (v := .agg #[.int .i64 r, .int .i64 o.length, .slice A9 L.length cap9]) (by simp [results, Tryz.results102, go_sem, c0, c1, c2]) rfl ⟨_, rfl, ⟨.slice A9 L.length cap9, ?_, ?_, ?_, ?_⟩, bw⟩
       ·rfl
       ·show I64 r
        unfold I64
        omega
       ·show I64 (o.length : Int)
        unfold I64
        omega
       ·show OwE wf w.heap.size (.slice A9 L.length cap9) (srt cmpE (rnL es o))
        rw [HLL.out]
        exact ow.mono (by omega)
theorem part_any (v vo : Value) (g : GrD) (o : List Int) (w : World) (h : ArgG w v g) (ho : RdI w vo o) (hg : grB g = true) (hok : OrdOk g.2.1 o) :
  Calls Tryz.prog 102 #[v, vo] w fun e w' => ∃ r, e = .returned r ∧ OwG w' w.heap.size r (rnG g o) ∧ Below w.heap.size w w' := part_anyN v vo g o w h ho hg hok.toN
end Go.Proofs.YtfadnkjlilhneaaGreat
