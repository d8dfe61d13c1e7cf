/- Lists of graphs: as arguments, copied, counted, compared. The helpers of the laws over graphs: copied, counted, compared. -/
import Derived.Test.YtpemfkncjhhagaaGreatGr
import Derived.Test.YtpemfkncjhhagaaGreatPut
import Derived.Test.YtpemfkncjhhagaaGreatMark
namespace Go.Proofs.YtpemfkncjhhagaaGreat
set_option maxRecDepth 20000
set_option linter.unusedVariables false
set_option linter.unusedSimpArgs false
open Go.RowKit

set_option maxHeartbeats 1000000 in
theorem toGraph_any (v : Value) (g : GrD) (w : World) (h : ArgG w v g) (hl : g.2.2.length ≤ 1048576) :
    Calls Tryz.prog 24 #[v] w fun e w' => ∃ r, e = .returned r ∧ OwG w' w.heap.size r g ∧ Below w.heap.size w w' := by
  obtain ⟨s, rfl, hd, hd2, ha⟩ := h
  obtain ⟨x, y, es⟩ := g
  have H := Lib.hid ha
  clear ha
  go_enter Tryz.func24, Tryz.ntmps24
  go_wp2_with fail
  refine (toEdgeS_any _ es _ ?_ hl).mono ?_
  · exact (H.out.below ((Below.refl _ _).alloc (Nat.le_refl _) _)).below ((Below.refl _ _).alloc (Nat.le_refl _) _) |>.below ((Below.refl _ _).alloc (Nat.le_refl _) _)
  rintro e w1 ⟨r, rfl, o1, b1⟩
  have O1 := Lib.hid o1
  have B1 := Lib.hid b1
  obtain ⟨A1, cap1, rfl, _⟩ := OwE.form o1
  obtain ⟨hc, hf⟩ := bcell b1
  have hz : w.heap.size + 1 + 1 < w1.heap.size := by have := b1.size; simp at this; omega
  clear o1 b1
  go_wp2
  refine bodyPost_ret (v := .agg #[.int .i64 x, .int .i64 y, .slice A1 es.length cap1]) (by simp [results, Tryz.results24, go_sem, hc, hz]) rfl ⟨_, rfl, ⟨_, rfl, hd, hd2, ?_⟩, ?_⟩
  · refine OwE.mono (base := w.heap.size + 1 + 1 + 1) ?_ (by omega)
    have O2 : Hid (OwE w1 (w.heap.size + 1 + 1 + 1) (.slice A1 es.length cap1) es) := Lib.hid (by simpa using O1.out)
    exact (by repeat (first | exact (Hid.out O2) | exact (Hid.out O2).drewN _ | (refine OwE.far ?_ (by first | omega | (simp <;> omega)) _) | (refine OwE.alloc ?_ _) | (refine OwE.drew ?_) | (refine OwE.drewN ?_ _)))
  · exact (by repeat (first | exact Below.refl _ _ | (refine Below.setCell ?_ (by first | omega | (simp <;> omega)) _) | (refine bel_drewN ?_ _) | (refine Below.drew ?_) | (refine Below.alloc ?_ (by first | omega | (simp <;> omega)) _) | (refine Below.trans ?_ (Below.mono (Hid.out B1) (by first | omega | (simp <;> omega))))))
set_option maxHeartbeats 400000 in
theorem szEdgeS_any (v : Value) (es : List EdD) (k : Int) (w : World) (h : ArgE w v es) (hk : 0 ≤ k) (hk' : k ≤ 1048576) :
    Calls Tryz.prog 47 #[v, .int .i64 k] w fun e w' => e = .returned (.int .i64 (if k - es.length < 0 then -1 else k - es.length)) ∧ w = w' := by
  obtain ⟨A, cap, rfl, hc, hm, _⟩ := h
  unfold maxLen at hm
  by_cases h0 : k - (es.length : Int) < 0
  · rw [if_pos h0]
    go_enter Tryz.func47, Tryz.ntmps47
    go_wp2
    go_ret
    exact ⟨rfl, rfl⟩
  · rw [if_neg h0]
    go_enter Tryz.func47, Tryz.ntmps47
    go_wp2
    go_ret
    exact ⟨rfl, rfl⟩
set_option maxHeartbeats 400000 in
theorem szGraph_any (v : Value) (g : GrD) (k : Int) (w : World) (h : ArgG w v g) (hk : 0 ≤ k) (hk' : k ≤ 1048576) :
    Calls Tryz.prog 22 #[v, .int .i64 k] w fun e w' => e = .returned (.int .i64 (if k - g.2.2.length < 0 then -1 else k - g.2.2.length)) ∧ Below w.heap.size w w' := by
  obtain ⟨s, rfl, hd, hd2, ha⟩ := h
  obtain ⟨x, y, es⟩ := g
  have H := Lib.hid ha
  clear ha
  have hb : Below w.heap.size w (w.alloc (Obj.cells #[Value.int IntKind.i64 x, Value.int IntKind.i64 y, s] 39)) := (by repeat (first | exact Below.refl _ _ | (refine Below.setCell ?_ (by first | omega | (simp <;> omega)) _) | (refine bel_drewN ?_ _) | (refine Below.drew ?_) | (refine Below.alloc ?_ (by first | omega | (simp <;> omega)) _)))
  have hz := szEdgeS_any s es k _ (H.out.below hb) hk hk'
  by_cases h0 : k - (es.length : Int) < 0
  · rw [if_pos h0] at hz ⊢
    have HZ := Lib.hid hz
    clear hz hb
    go_enter Tryz.func22, Tryz.ntmps22
    go_wp2_with fail
    refine HZ.out.mono ?_
    rintro e w1 ⟨rfl, rfl⟩
    go_wp2
    go_ret
    exact ⟨rfl, (by repeat (first | exact Below.refl _ _ | (refine Below.setCell ?_ (by first | omega | (simp <;> omega)) _) | (refine bel_drewN ?_ _) | (refine Below.drew ?_) | (refine Below.alloc ?_ (by first | omega | (simp <;> omega)) _)))⟩
  · rw [if_neg h0] at hz ⊢
    have HZ := Lib.hid hz
    clear hz hb
    go_enter Tryz.func22, Tryz.ntmps22
    go_wp2_with fail
    refine HZ.out.mono ?_
    rintro e w1 ⟨rfl, rfl⟩
    go_wp2
    go_ret
    exact ⟨rfl, (by repeat (first | exact Below.refl _ _ | (refine Below.setCell ?_ (by first | omega | (simp <;> omega)) _) | (refine bel_drewN ?_ _) | (refine Below.drew ?_) | (refine Below.alloc ?_ (by first | omega | (simp <;> omega)) _)))⟩
set_option maxHeartbeats 400000 in
theorem eqEdge_any (a b : EdD) (w : World) :
    Calls Tryz.prog 92 #[.agg #[.int .i64 a.1, .int .i64 a.2.1, .int .i64 a.2.2], .agg #[.int .i64 b.1, .int .i64 b.2.1, .int .i64 b.2.2]] w fun e w' => e = .returned (.bool (decide (a = b))) ∧ Below w.heap.size w w' := by
  obtain ⟨x, y, z⟩ := a
  obtain ⟨x', y', z'⟩ := b
  go_enter Tryz.func92, Tryz.ntmps92
  go_wp2
  all_goals go_ret
  all_goals (refine ⟨ret_bool ?_, (by repeat (first | exact Below.refl _ _ | (refine Below.setCell ?_ (by first | omega | (simp <;> omega)) _) | (refine bel_drewN ?_ _) | (refine Below.drew ?_) | (refine Below.alloc ?_ (by first | omega | (simp <;> omega)) _)))⟩; simp_all)
set_option maxHeartbeats 1000000 in
theorem eqEdgeS_any (v u : Value) (ds ds' : List EdD) (w : World) (h : ArgE w v ds) (h' : ArgE w u ds') :
    Calls Tryz.prog 55 #[v, u] w fun e w' => e = .returned (.bool (decide (ds = ds'))) ∧ Below w.heap.size w w' := by
  have H := Lib.hid h
  have H' := Lib.hid h'
  obtain ⟨A, cap, rfl, hcap, hm, _⟩ := h
  obtain ⟨A', cap', rfl, hcap', hm', _⟩ := h'
  unfold maxLen at hm hm'
  by_cases hne : ds.length = ds'.length
  · have hd : ((ds.length : Int) != (ds'.length : Int)) = false := by simp [hne]
    have HNE := Lib.hid hne
    clear hne
    go_enter Tryz.func55, Tryz.ntmps55
    go_wp2
    go_loopw [5] (fun i wr => ∃ k : Nat, k ≤ ds.length ∧ i = .int .i64 k ∧ ds.take k = ds'.take k ∧ Below w.heap.size w wr) (fun i _ => ds.length - (intOf i).toNat)
    case atStart => exact ⟨0, Nat.zero_le _, rfl, by simp, Below.refl _ _⟩
    case round =>
      obtain ⟨k, hk, rfl, heq, hbel⟩ := hrel
      have HEQ := Lib.hid heq
      have HB := Lib.hid hbel
      have hsz := hbel.size
      by_cases hlt : k < ds.length
      · have hlt' : k < ds'.length := by have := HNE.out; omega
        obtain ⟨g, off, rfl, hg, c0, c1, c2, _⟩ := (H.out.below hbel).at hlt
        obtain ⟨g', off', rfl, hg', c0', c1', c2', _⟩ := (H'.out.below hbel).at hlt'
        have HQ : Hid (ds.take (k + 1) = ds'.take (k + 1) ↔ ds[k] = ds'[k]) := Lib.hid ⟨fun e => by
          have := congrArg (fun l => l[k]?) e
          simpa [hlt, hlt'] using this, fun e => take_eq_succ HEQ.out hlt hlt' e⟩
        have HN : Hid (ds[k] ≠ ds'[k] → ds ≠ ds') := Lib.hid (fun e1 e2 => by subst e2; exact e1 rfl)
        clear heq hbel
        generalize ds[k] = d at *
        generalize ds'[k] = d' at *
        go_wp2_with fail
        go_region_held3 (fun w' => w'.cell? ⟨g, off + k * 3, none⟩ = some (.int .i64 d.1) ∧ w'.cell? ⟨g, off + k * 3 + 1, none⟩ = some (.int .i64 d.2.1) ∧ w'.cell? ⟨g, off + k * 3 + 2, none⟩ = some (.int .i64 d.2.2) ∧ w'.cell? ⟨g', off' + k * 3, none⟩ = some (.int .i64 d'.1) ∧ w'.cell? ⟨g', off' + k * 3 + 1, none⟩ = some (.int .i64 d'.2.1) ∧ w'.cell? ⟨g', off' + k * 3 + 2, none⟩ = some (.int .i64 d'.2.2))
          (first | go_keep | exact ⟨q0, q1, q2, q3, q4, q5⟩)
          ((go_at_call 92; refine (eqEdge_any d d' _).mono ?_; rintro e w9 ⟨rfl, b9⟩; have B9 := Lib.hid b9; have q0 := (b9.cell (p := ⟨g, off + k * 3, none⟩) hg).trans c0; have q1 := (b9.cell (p := ⟨g, off + k * 3 + 1, none⟩) hg).trans c1; have q2 := (b9.cell (p := ⟨g, off + k * 3 + 2, none⟩) hg).trans c2; have q3 := (b9.cell (p := ⟨g', off' + k * 3, none⟩) hg').trans c0'; have q4 := (b9.cell (p := ⟨g', off' + k * 3 + 1, none⟩) hg').trans c1'; have q5 := (b9.cell (p := ⟨g', off' + k * 3 + 2, none⟩) hg').trans c2'; clear b9))
        rcases e2 : decide (d = d') with _ | _
        · go_wp2
          go_ret
          exact ⟨ret_bool (by symm; rw [decide_eq_false_iff_not]; exact HN.out (by simpa using e2)), HB.out.trans ((Below.refl _ _).drew.trans (B9.out.mono hsz))⟩
        · go_wp2
          go_roundw
          case rel => exact ⟨k + 1, by omega, by go_num, HQ.out.2 (by simpa using e2), HB.out.trans ((Below.refl _ _).drew.trans (B9.out.mono hsz))⟩
          case measure => simp [intOf]; omega
      · obtain rfl : k = ds.length := by omega
        go_wp2
        go_ret
        refine ⟨ret_bool ?_, HB.out⟩
        have h1 := HEQ.out
        rw [List.take_length, HNE.out, List.take_length] at h1
        simp [h1]
  · have hd : ((ds.length : Int) != (ds'.length : Int)) = true := by simp; omega
    go_enter Tryz.func55, Tryz.ntmps55
    go_wp2
    go_ret
    exact ⟨ret_bool (by symm; rw [decide_eq_false_iff_not]; rintro rfl; exact hne rfl), Below.refl _ _⟩
set_option maxHeartbeats 1000000 in
theorem eqGraph_any (v u : Value) (d d' : GrD) (w : World) (h : ArgG w v d) (h' : ArgG w u d') :
    Calls Tryz.prog 27 #[v, u] w fun e w' => e = .returned (.bool (decide (d = d'))) ∧ Below w.heap.size w w' := by
  obtain ⟨s, rfl, _, _, ha⟩ := h
  obtain ⟨s', rfl, _, _, ha'⟩ := h'
  obtain ⟨x, y, es⟩ := d
  obtain ⟨x', y', es'⟩ := d'
  have H := Lib.hid ha
  have H' := Lib.hid ha'
  obtain ⟨A, cap, rfl⟩ := ha.form
  obtain ⟨A', cap', rfl⟩ := ha'.form
  clear ha ha'
  rcases e1 : (x != x') with _ | _
  · rcases e2 : (y != y') with _ | _
    · have F : Hid (decide ((x, y, es) = (x', y', es')) = decide (es = es')) := Lib.hid (by simp at e1 e2; simp [e1, e2])
      go_enter Tryz.func27, Tryz.ntmps27
      go_wp2_with fail
      have hb : Below w.heap.size w ((w.alloc (Obj.cells #[Value.int IntKind.i64 x, Value.int IntKind.i64 y, .slice A es.length cap] 45)).alloc (Obj.cells #[Value.int IntKind.i64 x', Value.int IntKind.i64 y', .slice A' es'.length cap'] 45)) := (by repeat (first | exact Below.refl _ _ | (refine Below.setCell ?_ (by first | omega | (simp <;> omega)) _) | (refine bel_drewN ?_ _) | (refine Below.drew ?_) | (refine Below.alloc ?_ (by first | omega | (simp <;> omega)) _)))
      refine (eqEdgeS_any _ _ es es' _ (H.out.below hb) (H'.out.below hb)).mono ?_
      rintro e w1 ⟨rfl, b1⟩
      have B1 := Lib.hid (hb.trans (b1.mono hb.size))
      clear hb b1
      rcases e3 : decide (es = es') with _ | _
      · go_wp2
        go_ret
        exact ⟨ret_bool (by rw [F.out, e3]), B1.out⟩
      · go_wp2
        go_ret
        exact ⟨ret_bool (by rw [F.out, e3]), B1.out⟩
    · go_enter Tryz.func27, Tryz.ntmps27
      go_wp2
      go_ret
      exact ⟨ret_bool (by simp at e2; simp [e2]), (by repeat (first | exact Below.refl _ _ | (refine Below.setCell ?_ (by first | omega | (simp <;> omega)) _) | (refine bel_drewN ?_ _) | (refine Below.drew ?_) | (refine Below.alloc ?_ (by first | omega | (simp <;> omega)) _)))⟩
  · go_enter Tryz.func27, Tryz.ntmps27
    go_wp2
    go_ret
    exact ⟨ret_bool (by simp at e1; simp [e1]), (by repeat (first | exact Below.refl _ _ | (refine Below.setCell ?_ (by first | omega | (simp <;> omega)) _) | (refine bel_drewN ?_ _) | (refine Below.drew ?_) | (refine Below.alloc ?_ (by first | omega | (simp <;> omega)) _)))⟩
/-- An element of a list of graphs, in memory of its own. -/
def EG : El GrD := fun w cs d F => ∃ s, cs = [.int .i64 d.1, .int .i64 d.2.1, s] ∧ I64 d.1 ∧ I64 d.2.1 ∧ OwE w 0 s d.2.2 ∧ F = s.ownBlock.toList
theorem EG.stable : Stable EG := by
  rintro w w' cs d F ⟨s, rfl, h1, h2, ho, rfl⟩ hb
  exact ⟨s, rfl, h1, h2, ho.keep fun b hv => hb b (by rw [hv]; simp), rfl⟩
abbrev OGS (lo hi : Nat) (v : Value) (ds : List GrD) (w : World) : Prop := OwnL EG 45 3 lo hi w v ds
theorem OGS.ob {lo : Nat} {v : Value} {ds : List GrD} {w : World} (h : OGS lo w.heap.size v ds w) : Ob (OGS lo w.heap.size v ds) lo w.heap.size w :=
  ⟨h, fun _ _ hu hb => OwnL.keep hu EG.stable hb, Nat.le_refl _⟩
/-- A list of graphs known by its cells. -/
def ArgGS (w : World) (v : Value) (ds : List GrD) : Prop :=
  ∃ A cap, v = .slice A ds.length cap ∧ ds.length ≤ cap ∧ cap ≤ maxLen ∧
    (0 < ds.length → ∃ b off, A = some ⟨b, off, none⟩ ∧ b < w.heap.size ∧ ∀ k (hk : k < ds.length), ∃ s, w.cell? ⟨b, off + k * 3, none⟩ = some (.int .i64 ds[k].1) ∧ w.cell? ⟨b, off + k * 3 + 1, none⟩ = some (.int .i64 ds[k].2.1) ∧ w.cell? ⟨b, off + k * 3 + 2, none⟩ = some s ∧ ArgG w (.agg #[.int .i64 ds[k].1, .int .i64 ds[k].2.1, s]) ds[k])
section
variable {w w' : World} {v : Value} {ds : List GrD} {lo hi : Nat}
theorem ArgGS.below (h : ArgGS w v ds) (hb : Below w.heap.size w w') : ArgGS w' v ds := by
  obtain ⟨A, cap, hv, hc, hm, hx⟩ := h
  refine ⟨A, cap, hv, hc, hm, fun h0 => ?_⟩
  obtain ⟨b, off, hA, hlt, hx⟩ := hx h0
  have := hb.size
  refine ⟨b, off, hA, by omega, fun k hk => ?_⟩
  obtain ⟨s, h1, h2, h3, h4⟩ := hx k hk
  exact ⟨s, (hb.cell (p := ⟨b, _, none⟩) hlt).trans h1, (hb.cell (p := ⟨b, _, none⟩) hlt).trans h2, (hb.cell (p := ⟨b, _, none⟩) hlt).trans h3, h4.below hb⟩
theorem ArgGS.form (h : ArgGS w v ds) : ∃ A cap, v = .slice A ds.length cap := by
  obtain ⟨A, cap, hv, _⟩ := h
  exact ⟨A, cap, hv⟩
theorem ArgGS.drewN (h : ArgGS w v ds) (k : Nat) : ArgGS (w.drewN k) v ds := h
theorem ArgGS.at {A : Option Addr} {m cap : Nat} (h : ArgGS w (.slice A m cap) ds) {k : Nat} (hk : k < ds.length) :
    ∃ b off s, A = some ⟨b, off, none⟩ ∧ b < w.heap.size ∧ w.cell? ⟨b, off + k * 3, none⟩ = some (.int .i64 ds[k].1) ∧ w.cell? ⟨b, off + k * 3 + 1, none⟩ = some (.int .i64 ds[k].2.1) ∧ w.cell? ⟨b, off + k * 3 + 2, none⟩ = some s ∧ ArgG w (.agg #[.int .i64 ds[k].1, .int .i64 ds[k].2.1, s]) ds[k] := by
  obtain ⟨A', cap', hv, hc, hm, hx⟩ := h
  obtain ⟨b, off, hA, hlt, hx⟩ := hx (by omega)
  injection hv with e1 e2 e3
  obtain ⟨s, h1, h2, h3, h4⟩ := hx k hk
  exact ⟨b, off, s, e1.trans hA, hlt, h1, h2, h3, h4⟩
theorem OGS.arg (h : OGS lo hi v ds w) : ArgGS w v ds := by
  obtain ⟨A, cap, rfl, hc, hm, _, hx⟩ := h.len
  refine ⟨A, cap, rfl, hc, hm, fun h0 => ?_⟩
  obtain ⟨g, rfl, _⟩ := hx h0
  have hg : g < w.heap.size := by
    obtain ⟨g', cs, Fe, hA, _, _, _, _, _, _, _, _, hlt, _⟩ := OwnL.focus h EG.stable (k := 0) h0
    injection hA with e; injection e with e; omega
  refine ⟨g, 0, rfl, hg, fun k hk => ?_⟩
  obtain ⟨g', cs, Fe, hA, _, _, hE, _, _, _, hcell, _⟩ := OwnL.focus h EG.stable hk
  injection hA with e; injection e with e
  subst e
  obtain ⟨s, rfl, h1, h2, ho, _⟩ := hE
  have c0 := hcell 0 (by simp)
  have c1 := hcell 1 (by simp)
  have c2 := hcell 2 (by simp)
  simp only [List.getElem_cons_zero, List.getElem_cons_succ, Nat.add_zero] at c0 c1 c2
  rw [Nat.zero_add]
  exact ⟨s, c0, c1, c2, s, rfl, h1, h2, ho.arg⟩
end
theorem graph_info : (Tryz.prog.info? 45).map (fun i => (i.zero, i.size, i.bytes)) = some (some (.agg #[.int .i64 0, .int .i64 0, .slice none 0 0]), 3, 40) := by kernel_rfl
abbrev zG : GrD := (0, 0, [])
set_option maxHeartbeats 1000000 in
theorem toGraphS_any (v : Value) (ds : List GrD) (w : World) (h : ArgGS w v ds) (hl : ds.length ≤ 1048576) (hle : ∀ d ∈ ds, d.2.2.length ≤ 1048576) :
    Calls Tryz.prog 10 #[v] w fun e w' => ∃ r, e = .returned r ∧ OGS w.heap.size w'.heap.size r ds w' ∧ Below w.heap.size w w' := by
  obtain ⟨i0, hi0, hz0, hz1, hz2⟩ := info_parts graph_info
  have H := Lib.hid h
  obtain ⟨A, cap, rfl, hcap, hm, _⟩ := h
  have HL := Lib.hid hle
  unfold maxLen at hm
  clear hle
  go_enter Tryz.func10, Tryz.ntmps10
  go_wp2_with (at_make; refine wpList_make_full _ rfl _ _ 26 rfl w.heap.size 45 i0 (.agg #[.int .i64 0, .int .i64 0, .slice none 0 0]) 3 Tryz.underlying26 hi0 hz0 hz1 _ _ _ _ ds.length rfl rfl rfl rfl (by rw [hz2]; omega) (by unfold maxLen; omega) (Nat.le_refl _) ?_)
  intro w0 hown0 hgrow0
  have hgs : w.heap.size < w0.heap.size := (hown0.lt w.heap.size rfl).2
  have own0 : OGS w.heap.size w0.heap.size (.slice (some ⟨w.heap.size, 0, none⟩) ds.length ds.length) (List.replicate ds.length zG) w0 := by
    refine OwnL.same (cs := [.int .i64 0, .int .i64 0, .slice none 0 0]) rfl ⟨_, rfl, ⟨by decide, by decide⟩, ⟨by decide, by decide⟩, OwE.nil, rfl⟩ ?_ fun b hb => by simp [Value.ownBlock] at hb; omega
    have e := toList_madeCells #[.int .i64 0, .int .i64 0, .slice none 0 0] ds.length (by decide)
    have := ownsRow_base hown0
    rw [← e]
    exact this
  have HO := Lib.hid own0
  have HB := Lib.hid ((Below.refl w.heap.size w).grown hgrow0 (Nat.le_refl _) (fun k h => by cases h))
  clear own0 hown0 hgrow0
  go_wp2
  go_loopw [4] (fun i wr => ∃ k : Nat, k ≤ ds.length ∧ i = .int .i64 k ∧
      OGS w.heap.size wr.heap.size (.slice (some ⟨w.heap.size, 0, none⟩) ds.length ds.length) (ds.take k ++ List.replicate (ds.length - k) zG) wr ∧ Below w.heap.size w wr ∧ w.heap.size < wr.heap.size)
    (fun i _ => ds.length - (intOf i).toNat)
  case atStart => exact ⟨0, Nat.zero_le _, rfl, by simpa using HO.out, HB.out, hgs⟩
  case round =>
    obtain ⟨k, hk, rfl, hown, hbel, hws⟩ := hrel
    by_cases hlt : k < ds.length
    · have hsz := hbel.size
      obtain ⟨b, off, s, rfl, hbl, c0, c1, c2, ha⟩ := (H.out.below hbel).at hlt
      have HX := Lib.hid ha
      have HE := Lib.hid (HL.out ds[k] (by simp))
      have HS := Lib.hid (fill_set ds zG k hlt)
      have hll : k < (ds.take k ++ List.replicate (ds.length - k) zG).length := by simp; omega
      have HLL := Lib.hid hll
      have HO1 := Lib.hid hown
      have HB1 := Lib.hid hbel
      clear ha hown hbel
      generalize ds[k] = d at *
      go_wp2_with fail
      refine (toGraph_any _ d _ HX.out HE.out).mono ?_
      rintro e w1 ⟨r, rfl, o1, b1⟩
      have B1 := Lib.hid b1
      have hz1 := b1.size
      obtain ⟨g, hA, hg1, hg2, hfz, ⟨cs, hcs, hcell⟩, hfin⟩ := HO1.out.put EG.stable HLL.out b1 (Nat.le_refl _)
      obtain rfl : w.heap.size = g := by injection hA with e; injection e
      have hcc : w1.cell? ⟨w.heap.size, k * 3, none⟩ = some (cs[0]'(by omega)) := hcell 0 (by omega)
      have hcc1 : w1.cell? ⟨w.heap.size, k * 3 + 1, none⟩ = some (cs[1]'(by omega)) := hcell 1 (by omega)
      have hcc2 : w1.cell? ⟨w.heap.size, k * 3 + 2, none⟩ = some (cs[2]'(by omega)) := hcell 2 (by omega)
      have hf0 := hfz (k * 3)
      have hf1 := hfz (k * 3 + 1)
      have hf2 := hfz (k * 3 + 2)
      obtain ⟨s1, rfl, hi1, hi2, oE⟩ := o1
      obtain ⟨A1, cap1, rfl, _⟩ := oE.form
      have HOE := Lib.hid oE
      have HI1 := Lib.hid hi1
      have HI2 := Lib.hid hi2
      have HF := Lib.hid hfin
      clear hcell hfz oE hfin b1 hi1 hi2
      generalize cs[0]'(by omega) = u0 at hcc
      generalize cs[1]'(by omega) = u1 at hcc1
      generalize cs[2]'(by omega) = u2 at hcc2
      go_wp2
      go_roundw
      case rel =>
        have hgr : w1.grownBy (((w1.setCell ⟨w.heap.size, k * 3, none⟩ (.int .i64 d.1)).setCell ⟨w.heap.size, k * 3 + 1, none⟩ (.int .i64 d.2.1)).setCell ⟨w.heap.size, k * 3 + 2, none⟩ (.slice A1 d.2.2.length cap1)) (some w.heap.size) :=
          ((set_grown w1 w.heap.size (k * 3) _).trans (set_grown _ w.heap.size (k * 3 + 1) _)).trans (set_grown _ w.heap.size (k * 3 + 2) _)
        refine ⟨k + 1, by omega, by go_num, ?_, (HB1.out.trans (B1.out.mono hsz)).grown hgr (by omega) (fun j hj => by cases hj; exact Nat.le_refl _), by simp; omega⟩
        rw [← HS.out]
        refine HF.out _ [.int .i64 d.1, .int .i64 d.2.1, .slice A1 d.2.2.length cap1] d _ rfl ⟨_, rfl, HI1.out, HI2.out, HOE.out.mono (Nat.zero_le _), rfl⟩ ?_ ?_ ?_ hgr
        · cases (Value.slice A1 d.2.2.length cap1).ownBlock <;> simp
        · intro b hb
          exact HOE.out.1.lt b (by simpa using hb)
        · intro pre cs post hp hc hrow
          have r0 := row_store (j := 0) (u := .int .i64 d.1) hrow hp (by omega)
          have r1 := row_store (j := 1) (u := .int .i64 d.2.1) r0 hp (by simp; omega)
          have r2 := row_store (j := 2) (u := .slice A1 d.2.2.length cap1) r1 hp (by simp; omega)
          match cs, hc with
          | [a, b, c], _ => exact r2
      case measure => simp [intOf]; omega
    · obtain rfl : k = ds.length := by omega
      have HO1 := Lib.hid hown
      clear hown
      go_wp2
      go_ret
      exact ⟨_, rfl, by simpa using HO1.out, hbel⟩
def cntGS (ds : List GrD) : Nat := ds.length + (ds.map fun d => d.2.2.length).sum
theorem cntGS_each {ds : List GrD} {n : Nat} (h : cntGS ds ≤ n) : ds.length ≤ n ∧ ∀ d ∈ ds, d.2.2.length ≤ n := by
  refine ⟨by unfold cntGS at h; omega, fun d hd => ?_⟩
  have : d.2.2.length ≤ (ds.map fun d => d.2.2.length).sum := by
    clear h
    induction ds with
    | nil => cases hd
    | cons x ds ih =>
      simp only [List.map_cons, List.sum_cons]
      rcases List.mem_cons.1 hd with rfl | hd
      · omega
      · have := ih hd; omega
  unfold cntGS at h
  omega
def sumG (ds : List GrD) : Nat := (ds.map fun d => d.2.2.length).sum
theorem sumG_succ (ds : List GrD) (i : Nat) (h : i < ds.length) : sumG (ds.take (i + 1)) = sumG (ds.take i) + ds[i].2.2.length := by
  unfold sumG
  rw [List.take_succ_eq_append_getElem h, List.map_append, List.sum_append]
  simp
theorem sumG_take (ds : List GrD) (i : Nat) : sumG (ds.take i) ≤ sumG ds := by
  unfold sumG
  conv => rhs; rw [← List.take_append_drop i ds]
  rw [List.map_append, List.sum_append]
  omega
set_option maxHeartbeats 1000000 in
theorem szGraphS_any (v : Value) (ds : List GrD) (k : Int) (w : World) (h : ArgGS w v ds) (hk : 0 ≤ k) (hk' : k ≤ 1048576) :
    Calls Tryz.prog 8 #[v, .int .i64 k] w fun e w' => e = .returned (.int .i64 (if k - cntGS ds < 0 then -1 else k - cntGS ds)) ∧ Below w.heap.size w w' := by
  have H := Lib.hid h
  obtain ⟨A, cap, rfl, hc, hm, _⟩ := h
  unfold maxLen at hm
  have HC : Hid (cntGS ds = ds.length + sumG ds) := Lib.hid rfl
  obtain ⟨R, hR⟩ : ∃ R : Int, R = (if k - (cntGS ds : Int) < 0 then -1 else k - (cntGS ds : Int)) := ⟨_, rfl⟩
  rw [← hR]
  have HR1 : Hid (k - (cntGS ds : Int) < 0 → R = -1) := Lib.hid fun h => by rw [hR, if_pos h]
  have HR2 : Hid (¬ k - (cntGS ds : Int) < 0 → R = k - (cntGS ds : Int)) := Lib.hid fun h => by rw [hR, if_neg h]
  clear hR
  by_cases h0 : k - (ds.length : Int) < 0
  · obtain rfl := HR1.out (by have := HC.out; omega)
    go_enter Tryz.func8, Tryz.ntmps8
    go_wp2
    go_ret
    exact ⟨rfl, Below.refl _ _⟩
  · go_enter Tryz.func8, Tryz.ntmps8
    go_wp2
    go_loopw [1, 5] (fun l i wr => ∃ j : Nat, j ≤ ds.length ∧ i = .int .i64 j ∧ l = .int .i64 (k - (ds.length : Int) - (sumG (ds.take j) : Nat)) ∧ 0 ≤ k - (ds.length : Int) - (sumG (ds.take j) : Nat) ∧ Below w.heap.size w wr)
      (fun _ i _ => ds.length - (intOf i).toNat)
    case atStart => exact ⟨0, Nat.zero_le _, rfl, by simp [sumG], by simp [sumG]; omega, Below.refl _ _⟩
    case round =>
      obtain ⟨j, hj, rfl, rfl, hnn, hbel⟩ := hrel
      have hsz := hbel.size
      by_cases hlt : j < ds.length
      · obtain ⟨b, off, s, rfl, hbl, c0, c1, c2, ha⟩ := (H.out.below hbel).at hlt
        have HX := Lib.hid ha
        have HB := Lib.hid hbel
        have HS := Lib.hid (sumG_succ ds j hlt)
        have HT := Lib.hid (sumG_take ds (j + 1))
        have HZ := Lib.hid (szGraph_any _ ds[j] (k - (ds.length : Int) - (sumG (ds.take j) : Nat)) wr ha hnn (by omega))
        have hq : (sumG (ds.take (j + 1)) : Int) = sumG (ds.take j) + ds[j].2.2.length := by have := HS.out; omega
        have HQ := Lib.hid hq
        clear ha hbel hq
        generalize ds[j] = d at *
        generalize sumG (ds.take j) = a at *
        by_cases h1 : k - (ds.length : Int) - (a : Int) - (d.2.2.length : Int) < 0
        · have hz := HZ.out
          rw [if_pos h1] at hz
          have HZ1 := Lib.hid hz
          clear hz
          go_wp2_with fail
          refine HZ1.out.mono ?_
          rintro e w1 ⟨rfl, b1⟩
          have B1 := Lib.hid b1
          clear b1
          go_wp2
          go_ret
          refine ⟨ret_int ?_, HB.out.trans (B1.out.mono hsz)⟩
          refine (HR1.out ?_).symm
          have e1 := HC.out
          have e2 := HT.out
          have e3 := HQ.out
          omega
        · have hz := HZ.out
          rw [if_neg h1] at hz
          have HZ1 := Lib.hid hz
          clear hz
          go_wp2_with fail
          refine HZ1.out.mono ?_
          rintro e w1 ⟨rfl, b1⟩
          have B1 := Lib.hid b1
          clear b1
          go_wp2
          go_roundw
          case rel => exact ⟨j + 1, by omega, by go_num, by rw [show k - (ds.length : Int) - (sumG (ds.take (j + 1)) : Int) = k - (ds.length : Int) - a - d.2.2.length by have := HQ.out; omega], by have := HQ.out; omega, HB.out.trans (B1.out.mono hsz)⟩
          case measure => simp [intOf]; omega
      · obtain rfl : j = ds.length := by omega
        rw [List.take_length] at hnn ⊢
        have HB := Lib.hid hbel
        have F : Hid (R = k - (ds.length : Int) - (sumG ds : Nat)) := Lib.hid (by have e1 := HC.out; rw [HR2.out (by omega)]; omega)
        clear hbel
        go_wp2
        go_ret
        exact ⟨ret_int F.out.symm, HB.out⟩
set_option maxHeartbeats 1000000 in
theorem eqGraphS_any (v u : Value) (ds ds' : List GrD) (w : World) (h : ArgGS w v ds) (h' : ArgGS w u ds') :
    Calls Tryz.prog 13 #[v, u] w fun e w' => e = .returned (.bool (decide (ds = ds'))) ∧ Below w.heap.size w w' := by
  have H := Lib.hid h
  have H' := Lib.hid h'
  obtain ⟨A, cap, rfl, hcap, hm, _⟩ := h
  obtain ⟨A', cap', rfl, hcap', hm', _⟩ := h'
  unfold maxLen at hm hm'
  by_cases hne : ds.length = ds'.length
  · have hd : ((ds.length : Int) != (ds'.length : Int)) = false := by simp [hne]
    have HNE := Lib.hid hne
    clear hne
    go_enter Tryz.func13, Tryz.ntmps13
    go_wp2
    go_loopw [5] (fun i wr => ∃ k : Nat, k ≤ ds.length ∧ i = .int .i64 k ∧ ds.take k = ds'.take k ∧ Below w.heap.size w wr) (fun i _ => ds.length - (intOf i).toNat)
    case atStart => exact ⟨0, Nat.zero_le _, rfl, by simp, Below.refl _ _⟩
    case round =>
      obtain ⟨k, hk, rfl, heq, hbel⟩ := hrel
      have HEQ := Lib.hid heq
      have HB := Lib.hid hbel
      have hsz := hbel.size
      by_cases hlt : k < ds.length
      · have hlt' : k < ds'.length := by have := HNE.out; omega
        obtain ⟨g, off, s, rfl, hg, c0, c1, c2, ha⟩ := (H.out.below hbel).at hlt
        obtain ⟨g', off', s', rfl, hg', c0', c1', c2', ha'⟩ := (H'.out.below hbel).at hlt'
        have HQ : Hid (ds.take (k + 1) = ds'.take (k + 1) ↔ ds[k] = ds'[k]) := Lib.hid ⟨fun e => by
          have := congrArg (fun l => l[k]?) e
          simpa [hlt, hlt'] using this, fun e => take_eq_succ HEQ.out hlt hlt' e⟩
        have HN : Hid (ds[k] ≠ ds'[k] → ds ≠ ds') := Lib.hid (fun e1 e2 => by subst e2; exact e1 rfl)
        have X1 := Lib.hid ha
        have X2 := Lib.hid ha'
        clear heq hbel ha ha'
        generalize ds[k] = d at *
        generalize ds'[k] = d' at *
        go_wp2_with fail
        go_region_held3 (fun w' => w'.cell? ⟨g, off + k * 3, none⟩ = some (.int .i64 d.1) ∧ w'.cell? ⟨g, off + k * 3 + 1, none⟩ = some (.int .i64 d.2.1) ∧ w'.cell? ⟨g, off + k * 3 + 2, none⟩ = some s ∧ w'.cell? ⟨g', off' + k * 3, none⟩ = some (.int .i64 d'.1) ∧ w'.cell? ⟨g', off' + k * 3 + 1, none⟩ = some (.int .i64 d'.2.1) ∧ w'.cell? ⟨g', off' + k * 3 + 2, none⟩ = some s')
          (first | go_keep | exact ⟨q0, q1, q2, q3, q4, q5⟩)
          ((go_at_call 27; refine (eqGraph_any _ _ d d' _ (X1.out.below (Below.refl _ _).drew) (X2.out.below (Below.refl _ _).drew)).mono ?_; rintro e w9 ⟨rfl, b9⟩; have B9 := Lib.hid b9; have q0 := (b9.cell (p := ⟨g, off + k * 3, none⟩) hg).trans c0; have q1 := (b9.cell (p := ⟨g, off + k * 3 + 1, none⟩) hg).trans c1; have q2 := (b9.cell (p := ⟨g, off + k * 3 + 2, none⟩) hg).trans c2; have q3 := (b9.cell (p := ⟨g', off' + k * 3, none⟩) hg').trans c0'; have q4 := (b9.cell (p := ⟨g', off' + k * 3 + 1, none⟩) hg').trans c1'; have q5 := (b9.cell (p := ⟨g', off' + k * 3 + 2, none⟩) hg').trans c2'; clear b9))
        rcases e2 : decide (d = d') with _ | _
        · go_wp2
          go_ret
          exact ⟨ret_bool (by symm; rw [decide_eq_false_iff_not]; exact HN.out (by simpa using e2)), HB.out.trans ((Below.refl _ _).drew.trans (B9.out.mono hsz))⟩
        · go_wp2
          go_roundw
          case rel => exact ⟨k + 1, by omega, by go_num, HQ.out.2 (by simpa using e2), HB.out.trans ((Below.refl _ _).drew.trans (B9.out.mono hsz))⟩
          case measure => simp [intOf]; omega
      · obtain rfl : k = ds.length := by omega
        go_wp2
        go_ret
        refine ⟨ret_bool ?_, HB.out⟩
        have h1 := HEQ.out
        rw [List.take_length, HNE.out, List.take_length] at h1
        simp [h1]
  · have hd : ((ds.length : Int) != (ds'.length : Int)) = true := by simp; omega
    go_enter Tryz.func13, Tryz.ntmps13
    go_wp2
    go_ret
    exact ⟨ret_bool (by symm; rw [decide_eq_false_iff_not]; rintro rfl; exact hne rfl), Below.refl _ _⟩
end Go.Proofs.YtpemfkncjhhagaaGreat
