/- Marking the edges of a graph. The objects of the laws over graphs. -/
import Derived.Test.YtpemfkncjhhagaaGreatGrS
namespace Go.Proofs.YtpemfkncjhhagaaGreat
set_option maxRecDepth 20000
set_option linter.unusedVariables false
set_option linter.unusedSimpArgs false
open Go.RowKit

theorem ArgE.same {w w' : World} {v : Value} {es : List EdD} (h : ArgE w v es) (hs : ∀ b, b < w.heap.size → w'.heap[b]? = w.heap[b]?) : ArgE w' v es := by
  obtain ⟨A, cap, hv, hc, hm, hn, hr, hx⟩ := h
  refine ⟨A, cap, hv, hc, hm, hn, hr, fun h0 => ?_⟩
  obtain ⟨b, off, hA, hlt, hx⟩ := hx h0
  have hh := hs b hlt
  refine ⟨b, off, hA, ?_, fun k hk => ?_⟩
  · rw [Array.getElem?_eq_getElem hlt] at hh
    exact lt_of_heap hh
  · obtain ⟨h1, h2, h3⟩ := hx k hk
    exact ⟨(World.cell?_of_block (w := w) hh).trans h1, (World.cell?_of_block (w := w) hh).trans h2, (World.cell?_of_block (w := w) hh).trans h3⟩
theorem ArgG.same {w w' : World} {v : Value} {g : GrD} (h : ArgG w v g) (hs : ∀ b, b < w.heap.size → w'.heap[b]? = w.heap[b]?) : ArgG w' v g := by
  obtain ⟨s, hv, h1, h2, ha⟩ := h
  exact ⟨s, hv, h1, h2, ha.same hs⟩
theorem ArgG.ob {w : World} {v : Value} {d : GrD} (h : ArgG w v d) : Ob (Kept w fun w => ArgG w v d) 0 w.heap.size w := Kept.ob h
def OE (lo hi : Nat) (v : Value) (es : List EdD) (w : World) : Prop := OwE w lo v es ∧ ∀ b, v.ownBlock = some b → b < hi
theorem OE.loc {lo hi : Nat} {v : Value} {es : List EdD} : Loc (OE lo hi v es) lo hi := by
  intro u u' hu hb
  exact ⟨hu.1.keep fun b hv => hb b (hu.1.1.lt b hv).1 (hu.2 b hv), hu.2⟩
theorem OwE.ob {w : World} {lo : Nat} {v : Value} {es : List EdD} (h : OwE w lo v es) : Ob (OE lo w.heap.size v es) lo w.heap.size w :=
  ⟨⟨h, fun b hb => (h.1.lt b hb).2⟩, OE.loc, Nat.le_refl _⟩
def OG (lo hi : Nat) (v : Value) (d : GrD) (w : World) : Prop := ∃ s, v = .agg #[.int .i64 d.1, .int .i64 d.2.1, s] ∧ I64 d.1 ∧ I64 d.2.1 ∧ OE lo hi s d.2.2 w
theorem OG.arg {lo hi : Nat} {v : Value} {d : GrD} {w : World} (h : OG lo hi v d w) : ArgG w v d := by
  obtain ⟨s, hv, h1, h2, ho⟩ := h
  exact ⟨s, hv, h1, h2, ho.1.arg⟩
theorem OG.own {lo hi : Nat} {v : Value} {d : GrD} {w : World} (h : OG lo hi v d w) : OwG w lo v d := by
  obtain ⟨s, hv, h1, h2, ho⟩ := h
  exact ⟨s, hv, h1, h2, ho.1⟩
theorem OG.loc {lo hi : Nat} {v : Value} {d : GrD} : Loc (OG lo hi v d) lo hi := by
  intro u u' hu hb
  obtain ⟨s, hv, h1, h2, ho⟩ := hu
  exact ⟨s, hv, h1, h2, OE.loc u u' ho hb⟩
theorem OwG.ob {w : World} {lo : Nat} {v : Value} {d : GrD} (h : OwG w lo v d) : Ob (OG lo w.heap.size v d) lo w.heap.size w := by
  obtain ⟨s, hv, h1, h2, ho⟩ := h
  exact ⟨⟨s, hv, h1, h2, ho.ob.holds⟩, OG.loc, Nat.le_refl _⟩
theorem toGraph_ob (v : Value) (d : GrD) (w : World) {w0 : World} (h : Kept w0 (fun w => ArgG w v d) w) (hl : d.2.2.length ≤ 1048576) :
    Calls Tryz.prog 24 #[v] w fun e w' => ∃ r, e = .returned r ∧ Ob (OG w.heap.size w'.heap.size r d) w.heap.size w'.heap.size w' ∧ Tr 0 0 w w' :=
  (toGraph_any v d w (h.1.same h.2) hl).mono fun _ _ ⟨r, he, ho, hb⟩ => ⟨r, he, ho.ob, Tr.below hb⟩
theorem szGraph_ob (v : Value) (g : GrD) (k : Int) (w : World) {w0 : World} (h : Kept w0 (fun w => ArgG w v g) w) (hk : 0 ≤ k) (hk' : k ≤ 1048576) :
    Calls Tryz.prog 22 #[v, .int .i64 k] w fun e w' => e = .returned (.int .i64 (if k - g.2.2.length < 0 then -1 else k - g.2.2.length)) ∧ Below w.heap.size w w' :=
  szGraph_any v g k w (h.1.same h.2) hk hk'
theorem eqGraph_ob (v u : Value) (d d' : GrD) (w : World) {lo hi lo' hi' : Nat} (h : OG lo hi v d w) (h' : OG lo' hi' u d' w) :
    Calls Tryz.prog 27 #[v, u] w fun e w' => e = .returned (.bool (decide (d = d'))) ∧ Tr 0 0 w w' :=
  (eqGraph_any v u d d' w h.arg h'.arg).mono fun _ _ ⟨he, hb⟩ => ⟨he, Tr.below hb⟩
def mkE (k : Int) (n : Nat) : List EdD := (List.range n).map fun (j : Nat) => (k + 3 * (j : Int), k + 3 * (j : Int) + 1, k + 3 * (j : Int) + 2)
theorem mkE_len (k : Int) (n : Nat) : (mkE k n).length = n := by simp [mkE]
theorem mkE_succ (k : Int) (n : Nat) : mkE k (n + 1) = mkE k n ++ [(k + 3 * (n : Int), k + 3 * (n : Int) + 1, k + 3 * (n : Int) + 2)] := by
  unfold mkE
  rw [List.range_succ, List.map_append]
  rfl
theorem mkE_step (k : Int) (es : List EdD) (j : Nat) (h : j < es.length) : (mkE k j ++ es.drop j).set j (k + 3 * (j : Int), k + 3 * (j : Int) + 1, k + 3 * (j : Int) + 2) = mkE k (j + 1) ++ es.drop (j + 1) := by
  rw [mkE_succ, List.set_append_right _ _ (by rw [mkE_len]; omega), mkE_len, Nat.sub_self, List.drop_eq_getElem_cons h, List.set_cons_zero, List.append_assoc]
  rfl
theorem mkE_64 {k : Int} (h0 : 0 ≤ k) (hk : k ≤ 1125899906842624) {n : Nat} (hn : n ≤ 1073741824) : E64s (mkE k n) := by
  intro e he
  unfold mkE at he
  obtain ⟨j, hj, rfl⟩ := List.mem_map.1 he
  have := List.mem_range.1 hj
  refine ⟨⟨?_, ?_⟩, ⟨?_, ?_⟩, ⟨?_, ?_⟩⟩ <;> simp only <;> omega
set_option maxHeartbeats 800000 in
theorem markEdgeS_any (v : Value) (es : List EdD) (k : Int) (base : Nat) (w : World) (h : OwE w base v es) (hl : es.length ≤ 1073741824) (hk0 : 0 ≤ k) (hk : k ≤ 1125899906842624) :
    Calls Tryz.prog 38 #[v, .int .i64 k] w fun e w' => e = .returned (.int .i64 (k + 3 * (es.length : Int))) ∧ OwE w' base v (mkE k es.length) ∧ w.grownBy w' v.ownBlock := by
  have h' := h
  obtain ⟨hown, hr⟩ := h'
  rcases hown.2 with ⟨rfl, hn⟩ | ⟨g, cap, cur, rfl, hg, hh, hnc, hcm, hcs, htake⟩
  · have : es = [] := List.eq_nil_of_length_eq_zero hn
    subst this
    go_enter Tryz.func38, Tryz.ntmps38
    go_wp2
    refine wp_loop_rounds 1 ?_
    rw [rounds_succ]
    go_wp2
    go_ret
    exact ⟨ret_int (by simp), OwE.nil, World.grownBy.refl _ _⟩
  · clear hh hcs htake cur hown hr
    have H := Lib.hid h
    clear h
    go_enter Tryz.func38, Tryz.ntmps38
    go_wp2
    go_loopw [1, 5] (fun kk i wr => ∃ j : Nat, j ≤ es.length ∧ i = .int .i64 j ∧ kk = .int .i64 (k + 3 * (j : Int)) ∧
        OwE wr base (.slice (some ⟨g, 0, none⟩) es.length cap) (mkE k j ++ es.drop j) ∧ w.grownBy wr (some g))
      (fun _ i _ => es.length - (intOf i).toNat)
    case atStart => exact ⟨0, Nat.zero_le _, rfl, by simp, by simpa [mkE] using H.out, World.grownBy.refl _ _⟩
    case round =>
      obtain ⟨j, hj, rfl, rfl, hown1, hgr⟩ := hrel
      by_cases hlt : j < es.length
      · have hjl : j < (mkE k j ++ es.drop j).length := by rw [List.length_append, mkE_len, List.length_drop]; omega
        have hf0 := hown1.free (j * 3)
        have hf1 := hown1.free (j * 3 + 1)
        have hf2 := hown1.free (j * 3 + 2)
        obtain ⟨c0, c1, c2⟩ := hown1.cellAt j hjl
        have HS := Lib.hid (hown1.set j hjl (x := k + 3 * (j : Int)) (y := k + 3 * (j : Int) + 1) (z := k + 3 * (j : Int) + 2) ⟨by omega, by omega⟩ ⟨by omega, by omega⟩ ⟨by omega, by omega⟩)
        rw [mkE_step k es j hlt] at HS
        generalize (mkE k j ++ es.drop j)[j] = d0 at c0 c1 c2
        have HGR := Lib.hid hgr
        clear hown1 hgr hjl
        have hw1 : IntKind.i64.wrap (k + 3 * (j : Int) + 1) = k + 3 * (j : Int) + 1 := by rw [IntKind.wrap_i64]; omega
        have hw2 : IntKind.i64.wrap (k + 3 * (j : Int) + 1 + 1) = k + 3 * (j : Int) + 2 := by rw [IntKind.wrap_i64]; omega
        have hw3 : IntKind.i64.wrap (k + 3 * (j : Int) + 2 + 1) = k + 3 * (j : Int) + 3 := by rw [IntKind.wrap_i64]; omega
        go_wp2
        go_roundw
        case rel => exact ⟨j + 1, by omega, by go_num, by go_num, HS.out.1, HGR.out.trans HS.out.2⟩
        case measure => simp [intOf]; omega
      · obtain rfl : j = es.length := by omega
        rw [List.drop_length, List.append_nil] at hown1
        have HO := Lib.hid hown1
        clear hown1
        go_wp2
        go_ret
        exact ⟨rfl, HO.out, hgr⟩
set_option maxHeartbeats 400000 in
theorem markGraph_ob (v : Value) (d : GrD) (k : Int) (lo hi : Nat) (w : World) (h : Ob (OG lo hi v d) lo hi w)
    (hl : d.2.2.length ≤ 1073741824) (hk0 : 0 ≤ k) (hk : k ≤ 1125899906842624) :
    Calls Tryz.prog 28 #[v, .int .i64 k] w fun e w' => e = .returned (.int .i64 (k + 3 * (d.2.2.length : Int))) ∧ Ob (OG lo hi v (d.1, d.2.1, mkE k d.2.2.length)) lo hi w' ∧ Tr lo hi w w' := by
  obtain ⟨s, rfl, hd, hd2, ho⟩ := h.holds
  obtain ⟨R, S, es⟩ := d
  have hle := h.le
  have HO := Lib.hid ho
  clear h ho
  go_enter Tryz.func28, Tryz.ntmps28
  go_wp2_with fail
  have bx : Below w.heap.size w (w.alloc (Obj.cells #[Value.int IntKind.i64 R, Value.int IntKind.i64 S, s] 45)) := (by repeat (first | exact Below.refl _ _ | (refine Below.setCell ?_ (by first | omega | (simp <;> omega)) _) | (refine bel_drewN ?_ _) | (refine Below.drew ?_) | (refine Below.alloc ?_ (by first | omega | (simp <;> omega)) _)))
  have t1 : Tr 0 0 w (w.alloc (Obj.cells #[Value.int IntKind.i64 R, Value.int IntKind.i64 S, s] 45)) := Tr.below bx
  have T1 := Lib.hid t1
  refine (markEdgeS_any s es k lo _ (HO.out.1.below bx) hl hk0 hk).mono ?_
  rintro e w1 ⟨rfl, o1, g1⟩
  have O1 := Lib.hid o1
  have T2 : Hid (Tr lo hi (w.alloc (Obj.cells #[Value.int IntKind.i64 R, Value.int IntKind.i64 S, s] 45)) w1) := Lib.hid (Tr.grown g1 fun b hb => ⟨(HO.out.1.1.lt b hb).1, HO.out.2 b hb⟩)
  clear o1 g1 t1 bx
  go_wp2
  go_ret
  refine ⟨rfl, ⟨⟨s, rfl, hd, hd2, ⟨O1.out, HO.out.2⟩⟩, OG.loc, Nat.le_trans hle (Nat.le_trans T1.out.size T2.out.size)⟩, T1.out.then_ T2.out hle⟩
end Go.Proofs.YtpemfkncjhhagaaGreat
