/- OvergroupsOf of the reference and of the program: quotients of quotients, listed once each. -/
import Derived.Test.YtgifhaadfmomcaaGreatTrn
import Derived.Test.YtgifhaadfmomcaaGreatQuoM
namespace Go.Proofs.YtgifhaadfmomcaaGreat
set_option maxRecDepth 20000
set_option linter.unusedVariables false
set_option linter.unusedSimpArgs false
open Go.RowKit

def ovL : List GrD → List GrD → Option (List GrD)
  | o, [] => some o
  | o, x :: xs => if inG o x = true then ovL o xs else if 40 ≤ o.length then none else ovL (o ++ [x]) xs
def ovR : Nat → List GrD → Nat → Option (List GrD)
  | 0, o, _ => some o
  | f + 1, o, i => if i < o.length then (match ovL o (quotF (o[i]?.getD (0, 0, []))) with
    | none => none
    | some o' => ovR f o' (i + 1)) else some o
def overF (g : GrD) : List GrD × Bool := if coreB g = true ∧ g.2.1 ≤ 6 then (match ovR 41 [g] 0 with
    | none => ([], false)
    | some o => (o, true)) else ([], false)
theorem ovR_end {f i : Nat} {o : List GrD} (h : o.length ≤ i) : ovR f o i = some o := by
  cases f with
  | zero => rfl
  | succ f => unfold ovR; rw [if_neg (by omega)]
theorem ovR_step {f i : Nat} {o : List GrD} (h : i < o.length) : ovR (f + 1) o i = (match ovL o (quotF o[i]) with
    | none => none
    | some o' => ovR f o' (i + 1)) := by
  rw [ovR, if_pos h]
  simp [h]
theorem ovL_in {o : List GrD} {l : List GrD} {k : Nat} (hk : k < l.length) {d : GrD} (hd : l[k] = d) (h : inG o d = true) : ovL o (l.drop k) = ovL o (l.drop (k + 1)) := by
  rw [List.drop_eq_getElem_cons hk, ovL, hd, if_pos h]
theorem ovL_full {o : List GrD} {l : List GrD} {k : Nat} (hk : k < l.length) {d : GrD} (hd : l[k] = d) (h : inG o d = false) (h40 : 40 ≤ o.length) : ovL o (l.drop k) = none := by
  rw [List.drop_eq_getElem_cons hk, ovL, hd, if_neg (by rw [h]; simp), if_pos h40]
theorem ovL_new {o : List GrD} {l : List GrD} {k : Nat} (hk : k < l.length) {d : GrD} (hd : l[k] = d) (h : inG o d = false) (h40 : ¬ 40 ≤ o.length) : ovL o (l.drop k) = ovL (o ++ [d]) (l.drop (k + 1)) := by
  rw [List.drop_eq_getElem_cons hk, ovL, hd, if_neg (by rw [h]; simp), if_neg h40]
theorem OGS_one (w : World) {N : Nat} (hN : w.heap.size = N) {lo base : Nat} {d : GrD} {s : Value} (hi1 : I64 d.1) (hi2 : I64 d.2.1) (h : OwE w base s d.2.2) (hlo : lo ≤ base) (hb : base ≤ N) :
    OGS lo (N + 1) (.slice (some ⟨N, 0, none⟩) 1 1) [d] (w.alloc (.cells #[.int .i64 d.1, .int .i64 d.2.1, s] 30)) := by
  subst hN
  have hr := World.ownsRow_lit (e := 30) (size := 3) (base := 0) w #[.int .i64 d.1, .int .i64 d.2.1, s] 1 (Nat.zero_le _) (by unfold maxLen; omega) (by simp)
  refine ⟨w.heap.size :: s.ownBlock.toList, ⟨[([.int .i64 d.1, .int .i64 d.2.1, s], d, s.ownBlock.toList)], rfl, fun e he => ?_, by simpa using hr, by simp [Value.ownBlock]⟩, ?_, fun b hb' => ?_⟩
  · simp at he
    subst he
    exact ⟨rfl, s, rfl, hi1, hi2, (h.alloc _).mono (Nat.zero_le _), rfl⟩
  · refine List.nodup_cons.2 ⟨fun hm => ?_, by cases s.ownBlock <;> simp⟩
    have := h.1.lt w.heap.size (by simpa using hm)
    omega
  · rcases List.mem_cons.1 hb' with rfl | hb'
    · omega
    · have := h.1.lt b (by simpa using hb')
      omega
/-- 'out = append(out, l[k])' at lists of graphs. -/
theorem push_tr_graph {lo : Nat} {w0 w : World} {vs vo : Value} {Q os : List GrD} {k : Nat} {ops : Array Oper} {rest : List Oper} {o : Oper} {a : Act} {R : Exit → Act → World → Prop} (hgd : o.guard = none) (s x : Operand)
    (ho : o.op = .call { callee := .builtin .append, args := #[s, x], argTypes := #[26, 26] })
    (hown : OwTr EG 30 3 lo w0.heap.size w0 vs Q vo os k) (hlo : lo ≤ w0.heap.size) (hbel : Below w0.heap.size w0 w) (hs : a.eval s = vo) (hk : k < Q.length) (d : GrD) (hd : Q[k] = d) (b g m cap : Nat) (hvs : vs = .slice (some ⟨g, 0, none⟩) m cap) (hx : a.eval x = .slice (some ⟨b, 0, none⟩) 1 1)
    (u0 u1 u2 : Value) (hz0 : u0.oneCell' = true) (hz1 : u1.oneCell' = true) (hz2 : u2.oneCell' = true) (hc : ∀ j u, [u0, u1, u2][j]? = some u → w.cell? ⟨b, j, none⟩ = some u)
    (c0 : w0.cell? ⟨g, k * 3, none⟩ = some u0) (c1 : w0.cell? ⟨g, k * 3 + 1, none⟩ = some u1) (c2 : w0.cell? ⟨g, k * 3 + 2, none⟩ = some u2) (hl : os.length ≤ 1073741824)
    (h : ∀ v' w', OwTr EG 30 3 lo w'.heap.size w' vs Q v' (os ++ [d]) (k + 1) → w.grownBy w' vo.ownBlock → wpList Tryz.prog ops R rest (a.put o.dst v') w') :
    wpList Tryz.prog ops R (o :: rest) a w := by
  obtain ⟨i0, hi0, hq0, hq1, hq2⟩ := info_parts graph_info
  refine push_tr EG.stable hgd s x ho Tryz.underlying26 hi0 hq0 hq1 hq2 rfl (by decide) (by decide) hown hlo hbel hs hk d hd b g m cap hvs hx (fun j hj => ?_) (fun j u hj hu => ?_) hl h
  · match j, hj with
    | 0, _ => rw [hc 0 u0 rfl]; exact c0.symm
    | 1, _ => rw [hc 1 u1 rfl]; exact c1.symm
    | 2, _ => rw [hc 2 u2 rfl]; exact c2.symm
  · match j, hj with
    | 0, _ => rw [Nat.add_zero, c0] at hu; injection hu with hu; subst hu; exact hz0
    | 1, _ => rw [c1] at hu; injection hu with hu; subst hu; exact hz1
    | 2, _ => rw [c2] at hu; injection hu with hu; subst hu; exact hz2
theorem ovL_ge : ∀ {l o o' : List GrD}, ovL o l = some o' → o.length ≤ 40 → o'.length ≤ 40
  | [], o, o', h, hl => by simp [ovL] at h; subst h; exact hl
  | x :: xs, o, o', h, hl => by
    unfold ovL at h
    split at h
    · exact ovL_ge h hl
    · split at h
      · cases h
      · exact ovL_ge h (by rw [List.length_append]; simp; omega)
set_option maxHeartbeats 2000000 in
theorem specOvergroupsOf_any (v : Value) (g : GrD) (w : World) (h : ArgG w v g) :
    Calls Tryz.prog 15 #[v] w fun e w' => ∃ r, e = .returned (.tuple #[r, .bool (overF g).2]) ∧ OGS w.heap.size w'.heap.size r (overF g).1 w' ∧ Below w.heap.size w w' := by
  have HG := Lib.hid h
  obtain ⟨s, rfl, hi1, hi2, ha⟩ := h
  obtain ⟨A, cap, rfl⟩ := ha.form
  obtain ⟨g1, N, es⟩ := g
  simp only at *
  clear ha
  go_enter Tryz.func15, Tryz.ntmps15
  go_wp2_with fail
  obtain ⟨W, hW⟩ : ∃ W, W = w.alloc (Obj.cells #[Value.int IntKind.i64 g1, Value.int IntKind.i64 N, .slice A es.length cap] 30) := ⟨_, rfl⟩
  have bx : Below w.heap.size w (w.alloc (Obj.cells #[Value.int IntKind.i64 g1, Value.int IntKind.i64 N, .slice A es.length cap] 30)) := (by repeat (first | exact Below.refl _ _ | (refine Below.setCell ?_ (by first | omega | (simp <;> omega)) _) | (refine bel_drewN ?_ _) | (refine Below.drew ?_) | (refine Below.alloc ?_ (by first | omega | (simp <;> omega)) _)))
  rw [← hW] at bx ⊢
  have hsW : W.heap.size = w.heap.size + 1 := by rw [hW]; simp
  have L0 : Hid (W.cell? ⟨w.heap.size, 0, none⟩ = some (.int .i64 g1)) := Lib.hid (by rw [hW]; simp [go_sem])
  have L1 : Hid (W.cell? ⟨w.heap.size, 1, none⟩ = some (.int .i64 N)) := Lib.hid (by rw [hW]; simp [go_sem])
  have L2 : Hid (W.cell? ⟨w.heap.size, 2, none⟩ = some (.slice A es.length cap)) := Lib.hid (by rw [hW]; simp [go_sem])
  have BX := Lib.hid bx
  have HA : Hid (∀ w', Below (w.heap.size + 1) W w' → ArgG w' (.agg #[.int .i64 g1, .int .i64 N, .slice A es.length cap]) (g1, N, es)) := Lib.hid fun w' hb => HG.out.below (BX.out.trans (hb.mono (by omega)))
  have HCL : Hid (∀ w', Below (w.heap.size + 1) W w' → w'.cell? ⟨w.heap.size, 0, none⟩ = some (.int .i64 g1) ∧ w'.cell? ⟨w.heap.size, 1, none⟩ = some (.int .i64 N) ∧ w'.cell? ⟨w.heap.size, 2, none⟩ = some (.slice A es.length cap)) := Lib.hid fun w' hb =>
    ⟨(hb.cell (p := ⟨w.heap.size, 0, none⟩) (by show w.heap.size < _; omega)).trans L0.out, (hb.cell (p := ⟨w.heap.size, 1, none⟩) (by show w.heap.size < _; omega)).trans L1.out, (hb.cell (p := ⟨w.heap.size, 2, none⟩) (by show w.heap.size < _; omega)).trans L2.out⟩
  clear hW bx L0 L1 L2
  refine (specIsSubgroup_any _ (g1, N, es) W (HA.out W ((Below.refl W.heap.size W).mono (by omega)))).mono ?_
  rintro e w2 ⟨rfl, b2⟩
  have hs2 := b2.size
  have B2 : Hid (Below (w.heap.size + 1) W w2) := Lib.hid (b2.mono (by omega))
  clear b2
  obtain ⟨q0, q1, q2⟩ := HCL.out w2 B2.out
  rcases ec : coreB (g1, N, es) with _ | _
  · have F : Hid (overF (g1, N, es) = ([], false)) := Lib.hid (by unfold overF; rw [ec]; rfl)
    have HOF : Hid (OGS w.heap.size (w2.heap.size + 1) (.slice (some ⟨w2.heap.size, 0, none⟩) 0 0) [] (w2.alloc (.cells #[] 30))) := Lib.hid (OGS_lit w2 _ rfl (by omega))
    have HBF : Hid (Below w.heap.size w (w2.alloc (.cells #[] 30))) := Lib.hid ((BX.out.trans (B2.out.mono (by omega))).alloc (by omega) _)
    clear ec
    go_wp2
    refine bodyPost_ret (v := .tuple #[.slice (some ⟨w2.heap.size, 0, none⟩) 0 0, .bool false]) (by simp [results, Tryz.results15, go_sem]) rfl ?_
    rw [F.out]
    exact ⟨_, rfl, by simpa using HOF.out, HBF.out⟩
  by_cases h6 : (6 : Int) < N
  · have F : Hid (overF (g1, N, es) = ([], false)) := Lib.hid (by unfold overF; rw [if_neg (fun hh => by have := hh.2; simp only at this; omega)])
    have HOF : Hid (OGS w.heap.size (w2.heap.size + 1) (.slice (some ⟨w2.heap.size, 0, none⟩) 0 0) [] (w2.alloc (.cells #[] 30))) := Lib.hid (OGS_lit w2 _ rfl (by omega))
    have HBF : Hid (Below w.heap.size w (w2.alloc (.cells #[] 30))) := Lib.hid ((BX.out.trans (B2.out.mono (by omega))).alloc (by omega) _)
    clear ec
    go_wp2
    refine bodyPost_ret (v := .tuple #[.slice (some ⟨w2.heap.size, 0, none⟩) 0 0, .bool false]) (by simp [results, Tryz.results15, go_sem]) rfl ?_
    rw [F.out]
    exact ⟨_, rfl, by simpa using HOF.out, HBF.out⟩
  have hfold : foldB (g1, N, es) = true := by have h := ec; unfold coreB at h; simp only [Bool.and_eq_true] at h; exact h.1.1
  have hgr := (foldB_parts hfold).1
  obtain ⟨h13, h40, h120, _⟩ := grB_parts hgr
  simp only at h13 h40 h120
  have F : Hid (overF (g1, N, es) = (match ovR 41 [(g1, N, es)] 0 with | none => ([], false) | some o => (o, true))) := Lib.hid (by unfold overF; rw [if_pos ⟨ec, by simp only; omega⟩])
  clear ec hfold hgr
  go_wp2_with fail
  refine (l4Copy_any _ (g1, N, es) w2 (HA.out w2 B2.out) (by simp only; omega)).mono ?_
  rintro e w3 ⟨r3, rfl, o3, b3⟩
  have hs3 := b3.size
  have B3 : Hid (Below (w.heap.size + 1) W w3) := Lib.hid (B2.out.trans (b3.mono (by omega)))
  obtain ⟨s3, rfl, _, _, oe3⟩ := o3
  obtain ⟨A3, c3, rfl, _⟩ := oe3.form
  have HO3 : Hid (OGS (w.heap.size + 1) (w3.heap.size + 1) (.slice (some ⟨w3.heap.size, 0, none⟩) 1 1) [(g1, N, es)] (w3.alloc (.cells #[.int .i64 g1, .int .i64 N, .slice A3 es.length c3] 30))) := Lib.hid (OGS_one w3 rfl (d := (g1, N, es)) hi1 hi2 oe3 (by omega) (by omega))
  have B4 : Hid (Below (w.heap.size + 1) W (w3.alloc (.cells #[.int .i64 g1, .int .i64 N, .slice A3 es.length c3] 30))) := Lib.hid (B3.out.alloc (by omega) _)
  simp only at *
  clear oe3 b3 q0 q1 q2 B3
  go_wp2
  obtain ⟨W4, hW4⟩ : ∃ W4, W4 = w3.alloc (.cells #[.int .i64 g1, .int .i64 N, .slice A3 es.length c3] 30) := ⟨_, rfl⟩
  have hs4 : W4.heap.size = w3.heap.size + 1 := by rw [hW4]; simp
  rw [← hW4] at B4 HO3 ⊢
  clear hW4
  go_loopw [4, 5] (fun out i wr => ∃ (k f : Nat) (L : List GrD), i = .int .i64 k ∧ k ≤ L.length ∧ L.length ≤ 40 ∧ f + k = 41 ∧ ovR f L k = ovR 41 [(g1, N, es)] 0 ∧ OGS (w.heap.size + 1) wr.heap.size out L wr ∧ Below (w.heap.size + 1) W wr) (fun _ i _ => 41 - (intOf i).toNat)
  case atStart => exact ⟨0, 41, [(g1, N, es)], rfl, by simp, by simp, rfl, rfl, by rw [hs4]; exact HO3.out, B4.out⟩
  case round =>
    obtain ⟨k, f, L, rfl, hkL, hL40, hfk, hR, ho, hb⟩ := hrel
    have HO1 := Lib.hid ho
    have HB1 := Lib.hid hb
    have HR1 := Lib.hid hR
    obtain ⟨wi, rfl⟩ : ∃ wi : World, wi = wr := ⟨_, rfl⟩
    clear ho hb hR
    have hwi := HB1.out.size
    obtain ⟨Ao, co, rfl, _⟩ := OwnL.len HO1.out
    by_cases hlt : k < L.length
    · obtain ⟨f, rfl⟩ : ∃ f', f = f' + 1 := ⟨f - 1, by omega⟩
      have HST : Hid ((match ovL L (quotF L[k]) with | none => none | some o' => ovR f o' (k + 1)) = ovR 41 [(g1, N, es)] 0) := Lib.hid (by rw [← HR1.out, ovR_step hlt])
      obtain ⟨gb, cs, Fe, rfl, hg1, hg2, hE, _, _, _, hcell, _⟩ := OwnL.focus HO1.out EG.stable hlt
      obtain ⟨sE, rfl, hj1, hj2, hoe, _⟩ := hE
      have c0 := hcell 0 (by simp)
      have c1 := hcell 1 (by simp)
      have c2 := hcell 2 (by simp)
      simp only [List.getElem_cons_zero, List.getElem_cons_succ, Nat.add_zero] at c0 c1 c2
      have HAK : Hid (ArgG wi (.agg #[.int .i64 L[k].1, .int .i64 L[k].2.1, sE]) L[k]) := Lib.hid ⟨sE, rfl, hj1, hj2, hoe.arg⟩
      clear hcell hoe
      generalize L[k] = D at *
      obtain ⟨d1, d2, ds⟩ := D
      simp only at *
      go_wp2_with fail
      refine (specQuotientsOf_any _ (d1, d2, ds) wi HAK.out).mono ?_
      rintro e w5 ⟨r5, rfl, o5, b5⟩
      have hs5 := b5.size
      obtain ⟨AQ, cQ, rfl, _, hcQ, _⟩ := OwnL.len o5
      generalize quotF (d1, d2, ds) = Q at *
      have HB5 : Hid (Below (w.heap.size + 1) W w5) := Lib.hid (HB1.out.trans (b5.mono (by omega)))
      have HT5 : Hid (OwTr EG 30 3 (w.heap.size + 1) w5.heap.size w5 (.slice AQ Q.length cQ) Q (.slice (some ⟨gb, 0, none⟩) L.length co) L 0) := Lib.hid (OwTr.start o5 (OwnL.keep HO1.out EG.stable fun b _ hlt => b5.block b hlt) (by omega) (by omega))
      unfold maxLen at hcQ
      clear o5 b5 c0 c1 c2
      go_wp2
      go_loopw [4, 7] (fun out i wr => ∃ (m : Nat) (L' : List GrD), i = .int .i64 m ∧ m ≤ Q.length ∧ L'.length ≤ 40 ∧ L.length ≤ L'.length ∧ ovL L' (Q.drop m) = ovL L Q ∧ OwTr EG 30 3 (w.heap.size + 1) wr.heap.size wr (.slice AQ Q.length cQ) Q out L' m ∧ Below (w.heap.size + 1) W wr) (fun _ i _ => Q.length - (intOf i).toNat)
      case atStart => exact ⟨0, L, rfl, by omega, hL40, Nat.le_refl _, rfl, HT5.out, HB5.out⟩
      case round =>
        obtain ⟨m, L', rfl, hmQ, hL'40, hLL, hV, ht, hb⟩ := hrel
        have HV := Lib.hid hV
        have HT := Lib.hid ht
        have HB := Lib.hid hb
        obtain ⟨wj, rfl⟩ : ∃ wj : World, wj = wr := ⟨_, rfl⟩
        clear ht hb hV
        have hwj := HB.out.size
        obtain ⟨Ap, cp, rfl, _⟩ := OwnL.len HT.out.dst
        by_cases hlt2 : m < Q.length
        · obtain ⟨gq, cs, Fe, rfl, hgq1, hgq2, hE, _, _, _, hcell, _⟩ := OwnL.focus HT.out.src EG.stable hlt2
          obtain ⟨sE, rfl, hi3, hi4, hoe, _⟩ := hE
          obtain ⟨AE, cE, rfl⟩ := hoe.arg.form
          have c0 := hcell 0 (by simp)
          have c1 := hcell 1 (by simp)
          have c2 := hcell 2 (by simp)
          simp only [List.getElem_cons_zero, List.getElem_cons_succ, Nat.add_zero] at c0 c1 c2
          have HAK2 : Hid (ArgG wj (.agg #[.int .i64 Q[m].1, .int .i64 Q[m].2.1, .slice AE Q[m].2.2.length cE]) Q[m]) := Lib.hid ⟨_, rfl, hi3, hi4, hoe.arg⟩
          have HIN : Hid (∀ o, inG o Q[m] = true → ovL o (Q.drop m) = ovL o (Q.drop (m + 1))) := Lib.hid fun o h => ovL_in hlt2 rfl h
          have HFU : Hid (∀ o, inG o Q[m] = false → 40 ≤ o.length → ovL o (Q.drop m) = none) := Lib.hid fun o h h' => ovL_full hlt2 rfl h h'
          have HNE : Hid (∀ o, inG o Q[m] = false → ¬ 40 ≤ o.length → ovL o (Q.drop m) = ovL (o ++ [Q[m]]) (Q.drop (m + 1))) := Lib.hid fun o h h' => ovL_new hlt2 rfl h h'
          obtain ⟨D, hD⟩ : ∃ D, D = Q[m] := ⟨_, rfl⟩
          have HD := Lib.hid hD.symm
          rw [← hD] at c0 c1 c2 HAK2 HIN HFU HNE
          clear hcell hoe hD hi3 hi4
          obtain ⟨d1', d2', ds'⟩ := D
          simp only at c0 c1 c2 HAK2
          have hgs : gq < wj.heap.size := hgq2
          go_wp2_with fail
          refine (specIsListed_any _ _ L' (d1', d2', ds') wj (OGS.arg HT.out.dst) HAK2.out).mono ?_
          rintro e w7 ⟨rfl, b7⟩
          have hs7 := b7.size
          have z0 := (b7.cell (p := ⟨gq, m * 3, none⟩) hgs).trans c0
          have z1 := (b7.cell (p := ⟨gq, m * 3 + 1, none⟩) hgs).trans c1
          have z2 := (b7.cell (p := ⟨gq, m * 3 + 2, none⟩) hgs).trans c2
          have HT7 := Lib.hid (HT.out.below EG.stable b7)
          have HB7 : Hid (Below (w.heap.size + 1) W w7) := Lib.hid (HB.out.trans (b7.mono (by omega)))
          clear b7 c0 c1 c2
          have hlo7 : w.heap.size + 1 ≤ w7.heap.size := by omega
          rcases ei : inG L' (d1', d2', ds') with _ | _
          · by_cases h40' : 40 ≤ L'.length
            · have hnone : ovL L Q = none := by rw [← HV.out]; exact HFU.out L' ei h40'
              have HF2 : Hid (overF (g1, N, es) = ([], false)) := Lib.hid (by
                rw [F.out, ← HST.out, hnone])
              have HOF : Hid (OGS w.heap.size (w7.heap.size + 1) (.slice (some ⟨w7.heap.size, 0, none⟩) 0 0) [] (w7.alloc (.cells #[] 30))) := Lib.hid (OGS_lit w7 _ rfl (by omega))
              have HBF : Hid (Below w.heap.size w (w7.alloc (.cells #[] 30))) := Lib.hid ((BX.out.trans (HB7.out.mono (by omega))).alloc (by omega) _)
              have h40i : (40 : Int) ≤ (L'.length : Int) := by omega
              clear ei hnone z0 z1 z2
              go_wp2
              refine bodyPost_ret (v := .tuple #[.slice (some ⟨w7.heap.size, 0, none⟩) 0 0, .bool false]) (by simp [results, Tryz.results15, go_sem]) rfl ?_
              rw [HF2.out]
              exact ⟨_, rfl, by simpa using HOF.out, HBF.out⟩
            · have HNX := Lib.hid ((HNE.out L' ei h40').symm.trans HV.out)
              have h40i : ¬ (40 : Int) ≤ (L'.length : Int) := by omega
              clear ei
              go_wp2_with (at_builtin; refine push_tr_graph rfl (.tmp 48) (.tmp 53) rfl HT7.out hlo7 ((Below.refl _ _).alloc (Nat.le_refl _) _) rfl hlt2 (d1', d2', ds') HD.out w7.heap.size gq _ _ rfl rfl (.int .i64 d1') (.int .i64 d2') (.slice AE ds'.length cE) rfl rfl rfl (gr_lit _ _ rfl _ _ _ _) z0 z1 z2 (by omega) ?_; intro v8 w8 o8 g8; have O8 := Lib.hid o8; have B8 : Hid (Below (w.heap.size + 1) W w8) := Lib.hid ((HB7.out.alloc hlo7 (Obj.cells #[Value.int IntKind.i64 d1', Value.int IntKind.i64 d2', .slice AE ds'.length cE] 30)).grown g8 (by simp; omega) (fun c hc => (HT7.out.dst.lt hc).1)); clear o8 g8)
              go_roundw
              case rel => exact ⟨m + 1, L' ++ [(d1', d2', ds')], by go_num, by omega, by rw [List.length_append]; simp; omega, by rw [List.length_append]; omega, HNX.out, O8.out, B8.out⟩
              case measure => simp [intOf]; omega
          · have HNX := Lib.hid ((HIN.out L' ei).symm.trans HV.out)
            have HT8 := Lib.hid HT7.out.skip
            clear ei z0 z1 z2
            go_wp2
            go_roundw
            case rel => exact ⟨m + 1, L', by go_num, by omega, hL'40, hLL, HNX.out, HT8.out, HB7.out⟩
            case measure => simp [intOf]; omega
        · obtain rfl : m = Q.length := by omega
          have hV2 : ovL L Q = some L' := by rw [← HV.out, List.drop_length]; rfl
          have HN : Hid (ovR f L' (k + 1) = ovR 41 [(g1, N, es)] 0) := Lib.hid (by rw [← HST.out, hV2])
          clear hV2
          have HOD := Lib.hid HT.out.dst
          go_wp2
          go_roundw
          case rel => exact ⟨k + 1, f, L', by go_num, by omega, hL'40, by omega, HN.out, HOD.out, HB.out⟩
          case measure => simp [intOf]; omega
    · obtain rfl : k = L.length := by omega
      have HF2 : Hid (overF (g1, N, es) = (L, true)) := Lib.hid (by rw [F.out, ← HR1.out, ovR_end (Nat.le_refl _)])
      have HOF := Lib.hid (OwnL.widen HO1.out (show w.heap.size ≤ w.heap.size + 1 by omega) (Nat.le_refl _))
      have HBF : Hid (Below w.heap.size w wi) := Lib.hid (BX.out.trans (HB1.out.mono (by omega)))
      go_wp2
      refine bodyPost_ret (v := .tuple #[.slice Ao L.length co, .bool true]) (by simp [results, Tryz.results15, go_sem]) rfl ?_
      rw [HF2.out]
      exact ⟨_, rfl, HOF.out, HBF.out⟩
set_option maxHeartbeats 2000000 in
theorem implOvergroupsOf_any (v : Value) (g : GrD) (w : World) (h : ArgG w v g) :
    Calls Tryz.prog 16 #[v] w fun e w' => ∃ r, e = .returned (.tuple #[r, .bool (overF g).2]) ∧ OGS w.heap.size w'.heap.size r (overF g).1 w' ∧ Below w.heap.size w w' := by
  have HG := Lib.hid h
  obtain ⟨s, rfl, hi1, hi2, ha⟩ := h
  obtain ⟨A, cap, rfl⟩ := ha.form
  obtain ⟨g1, N, es⟩ := g
  simp only at *
  clear ha
  go_enter Tryz.func16, Tryz.ntmps16
  go_wp2_with fail
  obtain ⟨W, hW⟩ : ∃ W, W = w.alloc (Obj.cells #[Value.int IntKind.i64 g1, Value.int IntKind.i64 N, .slice A es.length cap] 30) := ⟨_, rfl⟩
  have bx : Below w.heap.size w (w.alloc (Obj.cells #[Value.int IntKind.i64 g1, Value.int IntKind.i64 N, .slice A es.length cap] 30)) := (by repeat (first | exact Below.refl _ _ | (refine Below.setCell ?_ (by first | omega | (simp <;> omega)) _) | (refine bel_drewN ?_ _) | (refine Below.drew ?_) | (refine Below.alloc ?_ (by first | omega | (simp <;> omega)) _)))
  rw [← hW] at bx ⊢
  have hsW : W.heap.size = w.heap.size + 1 := by rw [hW]; simp
  have L0 : Hid (W.cell? ⟨w.heap.size, 0, none⟩ = some (.int .i64 g1)) := Lib.hid (by rw [hW]; simp [go_sem])
  have L1 : Hid (W.cell? ⟨w.heap.size, 1, none⟩ = some (.int .i64 N)) := Lib.hid (by rw [hW]; simp [go_sem])
  have L2 : Hid (W.cell? ⟨w.heap.size, 2, none⟩ = some (.slice A es.length cap)) := Lib.hid (by rw [hW]; simp [go_sem])
  have BX := Lib.hid bx
  have HA : Hid (∀ w', Below (w.heap.size + 1) W w' → ArgG w' (.agg #[.int .i64 g1, .int .i64 N, .slice A es.length cap]) (g1, N, es)) := Lib.hid fun w' hb => HG.out.below (BX.out.trans (hb.mono (by omega)))
  have HCL : Hid (∀ w', Below (w.heap.size + 1) W w' → w'.cell? ⟨w.heap.size, 0, none⟩ = some (.int .i64 g1) ∧ w'.cell? ⟨w.heap.size, 1, none⟩ = some (.int .i64 N) ∧ w'.cell? ⟨w.heap.size, 2, none⟩ = some (.slice A es.length cap)) := Lib.hid fun w' hb =>
    ⟨(hb.cell (p := ⟨w.heap.size, 0, none⟩) (by show w.heap.size < _; omega)).trans L0.out, (hb.cell (p := ⟨w.heap.size, 1, none⟩) (by show w.heap.size < _; omega)).trans L1.out, (hb.cell (p := ⟨w.heap.size, 2, none⟩) (by show w.heap.size < _; omega)).trans L2.out⟩
  clear hW bx L0 L1 L2
  refine (implIsCore_any _ (g1, N, es) W (HA.out W ((Below.refl W.heap.size W).mono (by omega)))).mono ?_
  rintro e w2 ⟨rfl, b2⟩
  have hs2 := b2.size
  have B2 : Hid (Below (w.heap.size + 1) W w2) := Lib.hid (b2.mono (by omega))
  clear b2
  obtain ⟨q0, q1, q2⟩ := HCL.out w2 B2.out
  rcases ec : coreB (g1, N, es) with _ | _
  · have F : Hid (overF (g1, N, es) = ([], false)) := Lib.hid (by unfold overF; rw [ec]; rfl)
    have HOF : Hid (OGS w.heap.size (w2.heap.size + 1) (.slice (some ⟨w2.heap.size, 0, none⟩) 0 0) [] (w2.alloc (.cells #[] 30))) := Lib.hid (OGS_lit w2 _ rfl (by omega))
    have HBF : Hid (Below w.heap.size w (w2.alloc (.cells #[] 30))) := Lib.hid ((BX.out.trans (B2.out.mono (by omega))).alloc (by omega) _)
    clear ec
    go_wp2
    refine bodyPost_ret (v := .tuple #[.slice (some ⟨w2.heap.size, 0, none⟩) 0 0, .bool false]) (by simp [results, Tryz.results16, go_sem]) rfl ?_
    rw [F.out]
    exact ⟨_, rfl, by simpa using HOF.out, HBF.out⟩
  by_cases h6 : (6 : Int) < N
  · have F : Hid (overF (g1, N, es) = ([], false)) := Lib.hid (by unfold overF; rw [if_neg (fun hh => by have := hh.2; simp only at this; omega)])
    have HOF : Hid (OGS w.heap.size (w2.heap.size + 1) (.slice (some ⟨w2.heap.size, 0, none⟩) 0 0) [] (w2.alloc (.cells #[] 30))) := Lib.hid (OGS_lit w2 _ rfl (by omega))
    have HBF : Hid (Below w.heap.size w (w2.alloc (.cells #[] 30))) := Lib.hid ((BX.out.trans (B2.out.mono (by omega))).alloc (by omega) _)
    clear ec
    go_wp2
    refine bodyPost_ret (v := .tuple #[.slice (some ⟨w2.heap.size, 0, none⟩) 0 0, .bool false]) (by simp [results, Tryz.results16, go_sem]) rfl ?_
    rw [F.out]
    exact ⟨_, rfl, by simpa using HOF.out, HBF.out⟩
  have hfold : foldB (g1, N, es) = true := by have h := ec; unfold coreB at h; simp only [Bool.and_eq_true] at h; exact h.1.1
  have hgr := (foldB_parts hfold).1
  obtain ⟨h13, h40, h120, _⟩ := grB_parts hgr
  simp only at h13 h40 h120
  have F : Hid (overF (g1, N, es) = (match ovR 41 [(g1, N, es)] 0 with | none => ([], false) | some o => (o, true))) := Lib.hid (by unfold overF; rw [if_pos ⟨ec, by simp only; omega⟩])
  clear ec hfold hgr
  go_wp2_with fail
  refine (copyGraph_any _ (g1, N, es) w2 (HA.out w2 B2.out) (by simp only; omega)).mono ?_
  rintro e w3 ⟨r3, rfl, o3, b3⟩
  have hs3 := b3.size
  have B3 : Hid (Below (w.heap.size + 1) W w3) := Lib.hid (B2.out.trans (b3.mono (by omega)))
  obtain ⟨s3, rfl, _, _, oe3⟩ := o3
  obtain ⟨A3, c3, rfl, _⟩ := oe3.form
  have HO3 : Hid (OGS (w.heap.size + 1) (w3.heap.size + 1) (.slice (some ⟨w3.heap.size, 0, none⟩) 1 1) [(g1, N, es)] (w3.alloc (.cells #[.int .i64 g1, .int .i64 N, .slice A3 es.length c3] 30))) := Lib.hid (OGS_one w3 rfl (d := (g1, N, es)) hi1 hi2 oe3 (by omega) (by omega))
  have B4 : Hid (Below (w.heap.size + 1) W (w3.alloc (.cells #[.int .i64 g1, .int .i64 N, .slice A3 es.length c3] 30))) := Lib.hid (B3.out.alloc (by omega) _)
  simp only at *
  clear oe3 b3 q0 q1 q2 B3
  go_wp2
  obtain ⟨W4, hW4⟩ : ∃ W4, W4 = w3.alloc (.cells #[.int .i64 g1, .int .i64 N, .slice A3 es.length c3] 30) := ⟨_, rfl⟩
  have hs4 : W4.heap.size = w3.heap.size + 1 := by rw [hW4]; simp
  rw [← hW4] at B4 HO3 ⊢
  clear hW4
  go_loopw [4, 5] (fun out i wr => ∃ (k f : Nat) (L : List GrD), i = .int .i64 k ∧ k ≤ L.length ∧ L.length ≤ 40 ∧ f + k = 41 ∧ ovR f L k = ovR 41 [(g1, N, es)] 0 ∧ OGS (w.heap.size + 1) wr.heap.size out L wr ∧ Below (w.heap.size + 1) W wr) (fun _ i _ => 41 - (intOf i).toNat)
  case atStart => exact ⟨0, 41, [(g1, N, es)], rfl, by simp, by simp, rfl, rfl, by rw [hs4]; exact HO3.out, B4.out⟩
  case round =>
    obtain ⟨k, f, L, rfl, hkL, hL40, hfk, hR, ho, hb⟩ := hrel
    have HO1 := Lib.hid ho
    have HB1 := Lib.hid hb
    have HR1 := Lib.hid hR
    obtain ⟨wi, rfl⟩ : ∃ wi : World, wi = wr := ⟨_, rfl⟩
    clear ho hb hR
    have hwi := HB1.out.size
    obtain ⟨Ao, co, rfl, _⟩ := OwnL.len HO1.out
    by_cases hlt : k < L.length
    · obtain ⟨f, rfl⟩ : ∃ f', f = f' + 1 := ⟨f - 1, by omega⟩
      have HST : Hid ((match ovL L (quotF L[k]) with | none => none | some o' => ovR f o' (k + 1)) = ovR 41 [(g1, N, es)] 0) := Lib.hid (by rw [← HR1.out, ovR_step hlt])
      obtain ⟨gb, cs, Fe, rfl, hg1, hg2, hE, _, _, _, hcell, _⟩ := OwnL.focus HO1.out EG.stable hlt
      obtain ⟨sE, rfl, hj1, hj2, hoe, _⟩ := hE
      have c0 := hcell 0 (by simp)
      have c1 := hcell 1 (by simp)
      have c2 := hcell 2 (by simp)
      simp only [List.getElem_cons_zero, List.getElem_cons_succ, Nat.add_zero] at c0 c1 c2
      have HAK : Hid (ArgG wi (.agg #[.int .i64 L[k].1, .int .i64 L[k].2.1, sE]) L[k]) := Lib.hid ⟨sE, rfl, hj1, hj2, hoe.arg⟩
      clear hcell hoe
      generalize L[k] = D at *
      obtain ⟨d1, d2, ds⟩ := D
      simp only at *
      go_wp2_with fail
      refine (implQuotientsOf_any _ (d1, d2, ds) wi HAK.out).mono ?_
      rintro e w5 ⟨r5, rfl, o5, b5⟩
      have hs5 := b5.size
      obtain ⟨AQ, cQ, rfl, _, hcQ, _⟩ := OwnL.len o5
      generalize quotF (d1, d2, ds) = Q at *
      have HB5 : Hid (Below (w.heap.size + 1) W w5) := Lib.hid (HB1.out.trans (b5.mono (by omega)))
      have HT5 : Hid (OwTr EG 30 3 (w.heap.size + 1) w5.heap.size w5 (.slice AQ Q.length cQ) Q (.slice (some ⟨gb, 0, none⟩) L.length co) L 0) := Lib.hid (OwTr.start o5 (OwnL.keep HO1.out EG.stable fun b _ hlt => b5.block b hlt) (by omega) (by omega))
      unfold maxLen at hcQ
      clear o5 b5 c0 c1 c2
      go_wp2
      go_loopw [4, 32] (fun out i wr => ∃ (m : Nat) (L' : List GrD), i = .int .i64 m ∧ m ≤ Q.length ∧ L'.length ≤ 40 ∧ L.length ≤ L'.length ∧ ovL L' (Q.drop m) = ovL L Q ∧ OwTr EG 30 3 (w.heap.size + 1) wr.heap.size wr (.slice AQ Q.length cQ) Q out L' m ∧ Below (w.heap.size + 1) W wr) (fun _ i _ => Q.length - (intOf i).toNat)
      case atStart => exact ⟨0, L, rfl, by omega, hL40, Nat.le_refl _, rfl, HT5.out, HB5.out⟩
      case round =>
        obtain ⟨m, L', rfl, hmQ, hL'40, hLL, hV, ht, hb⟩ := hrel
        have HV := Lib.hid hV
        have HT := Lib.hid ht
        have HB := Lib.hid hb
        obtain ⟨wj, rfl⟩ : ∃ wj : World, wj = wr := ⟨_, rfl⟩
        clear ht hb hV
        have hwj := HB.out.size
        obtain ⟨Ap, cp, rfl, _⟩ := OwnL.len HT.out.dst
        by_cases hlt2 : m < Q.length
        · obtain ⟨gq, cs, Fe, rfl, hgq1, hgq2, hE, _, _, _, hcell, _⟩ := OwnL.focus HT.out.src EG.stable hlt2
          obtain ⟨sE, rfl, hi3, hi4, hoe, _⟩ := hE
          obtain ⟨AE, cE, rfl⟩ := hoe.arg.form
          have c0 := hcell 0 (by simp)
          have c1 := hcell 1 (by simp)
          have c2 := hcell 2 (by simp)
          simp only [List.getElem_cons_zero, List.getElem_cons_succ, Nat.add_zero] at c0 c1 c2
          have HAK2 : Hid (ArgG wj (.agg #[.int .i64 Q[m].1, .int .i64 Q[m].2.1, .slice AE Q[m].2.2.length cE]) Q[m]) := Lib.hid ⟨_, rfl, hi3, hi4, hoe.arg⟩
          have HIN : Hid (∀ o, inG o Q[m] = true → ovL o (Q.drop m) = ovL o (Q.drop (m + 1))) := Lib.hid fun o h => ovL_in hlt2 rfl h
          have HFU : Hid (∀ o, inG o Q[m] = false → 40 ≤ o.length → ovL o (Q.drop m) = none) := Lib.hid fun o h h' => ovL_full hlt2 rfl h h'
          have HNE : Hid (∀ o, inG o Q[m] = false → ¬ 40 ≤ o.length → ovL o (Q.drop m) = ovL (o ++ [Q[m]]) (Q.drop (m + 1))) := Lib.hid fun o h h' => ovL_new hlt2 rfl h h'
          obtain ⟨D, hD⟩ : ∃ D, D = Q[m] := ⟨_, rfl⟩
          have HD := Lib.hid hD.symm
          rw [← hD] at c0 c1 c2 HAK2 HIN HFU HNE
          clear hcell hoe hD hi3 hi4
          obtain ⟨d1', d2', ds'⟩ := D
          simp only at c0 c1 c2 HAK2
          have hgs : gq < wj.heap.size := hgq2
          go_wp2_with fail
          obtain ⟨WX, hWX⟩ : ∃ WX, WX = wj.alloc (Obj.cells #[Value.int IntKind.i64 d1', Value.int IntKind.i64 d2', .slice AE ds'.length cE] 30) := ⟨_, rfl⟩
          obtain ⟨hsX, bX, hcX, _⟩ := gbox hWX
          rw [← hWX]
          have hgsX : gq < WX.heap.size := by omega
          refine (implIsListed_any _ _ L' (d1', d2', ds') WX (OGS.arg (HT.out.below EG.stable bX).dst) (HAK2.out.below bX)).mono ?_
          rintro e w7 ⟨rfl, b7⟩
          have hs7 := b7.size
          obtain ⟨y0, y1, y2⟩ := hcX w7 (b7.mono (by omega))
          have z0 := (b7.cell (p := ⟨gq, m * 3, none⟩) hgsX).trans ((bX.cell (p := ⟨gq, m * 3, none⟩) hgs).trans c0)
          have z1 := (b7.cell (p := ⟨gq, m * 3 + 1, none⟩) hgsX).trans ((bX.cell (p := ⟨gq, m * 3 + 1, none⟩) hgs).trans c1)
          have z2 := (b7.cell (p := ⟨gq, m * 3 + 2, none⟩) hgsX).trans ((bX.cell (p := ⟨gq, m * 3 + 2, none⟩) hgs).trans c2)
          have HT7 := Lib.hid ((HT.out.below EG.stable bX).below EG.stable b7)
          have HB7 : Hid (Below (w.heap.size + 1) W w7) := Lib.hid (HB.out.trans ((bX.trans (b7.mono (by omega))).mono (by omega)))
          clear b7 c0 c1 c2 hWX bX hcX
          have hlo7 : w.heap.size + 1 ≤ w7.heap.size := by omega
          rcases ei : inG L' (d1', d2', ds') with _ | _
          · by_cases h40' : 40 ≤ L'.length
            · have hnone : ovL L Q = none := by rw [← HV.out]; exact HFU.out L' ei h40'
              have HF2 : Hid (overF (g1, N, es) = ([], false)) := Lib.hid (by
                rw [F.out, ← HST.out, hnone])
              have HOF : Hid (OGS w.heap.size (w7.heap.size + 1) (.slice (some ⟨w7.heap.size, 0, none⟩) 0 0) [] (w7.alloc (.cells #[] 30))) := Lib.hid (OGS_lit w7 _ rfl (by omega))
              have HBF : Hid (Below w.heap.size w (w7.alloc (.cells #[] 30))) := Lib.hid ((BX.out.trans (HB7.out.mono (by omega))).alloc (by omega) _)
              have h40i : (40 : Int) ≤ (L'.length : Int) := by omega
              clear ei hnone z0 z1 z2
              go_wp2
              refine bodyPost_ret (v := .tuple #[.slice (some ⟨w7.heap.size, 0, none⟩) 0 0, .bool false]) (by simp [results, Tryz.results16, go_sem]) rfl ?_
              rw [HF2.out]
              exact ⟨_, rfl, by simpa using HOF.out, HBF.out⟩
            · have HNX := Lib.hid ((HNE.out L' ei h40').symm.trans HV.out)
              have h40i : ¬ (40 : Int) ≤ (L'.length : Int) := by omega
              clear ei
              go_wp2_with (at_builtin; refine push_tr_graph rfl (.tmp 43) (.tmp 45) rfl HT7.out hlo7 ((Below.refl _ _).alloc (Nat.le_refl _) _) rfl hlt2 (d1', d2', ds') HD.out w7.heap.size gq _ _ rfl rfl (.int .i64 d1') (.int .i64 d2') (.slice AE ds'.length cE) rfl rfl rfl (gr_lit _ _ rfl _ _ _ _) z0 z1 z2 (by omega) ?_; intro v8 w8 o8 g8; have O8 := Lib.hid o8; have B8 : Hid (Below (w.heap.size + 1) W w8) := Lib.hid ((HB7.out.alloc hlo7 (Obj.cells #[Value.int IntKind.i64 d1', Value.int IntKind.i64 d2', .slice AE ds'.length cE] 30)).grown g8 (by simp; omega) (fun c hc => (HT7.out.dst.lt hc).1)); clear o8 g8)
              go_roundw
              case rel => exact ⟨m + 1, L' ++ [(d1', d2', ds')], by go_num, by omega, by rw [List.length_append]; simp; omega, by rw [List.length_append]; omega, HNX.out, O8.out, B8.out⟩
              case measure => simp [intOf]; omega
          · have HNX := Lib.hid ((HIN.out L' ei).symm.trans HV.out)
            have HT8 := Lib.hid HT7.out.skip
            clear ei z0 z1 z2
            go_wp2
            go_roundw
            case rel => exact ⟨m + 1, L', by go_num, by omega, hL'40, hLL, HNX.out, HT8.out, HB7.out⟩
            case measure => simp [intOf]; omega
        · obtain rfl : m = Q.length := by omega
          have hV2 : ovL L Q = some L' := by rw [← HV.out, List.drop_length]; rfl
          have HN : Hid (ovR f L' (k + 1) = ovR 41 [(g1, N, es)] 0) := Lib.hid (by rw [← HST.out, hV2])
          clear hV2
          have HOD := Lib.hid HT.out.dst
          go_wp2
          go_roundw
          case rel => exact ⟨k + 1, f, L', by go_num, by omega, hL'40, by omega, HN.out, HOD.out, HB.out⟩
          case measure => simp [intOf]; omega
    · obtain rfl : k = L.length := by omega
      have HF2 : Hid (overF (g1, N, es) = (L, true)) := Lib.hid (by rw [F.out, ← HR1.out, ovR_end (Nat.le_refl _)])
      have HOF := Lib.hid (OwnL.widen HO1.out (show w.heap.size ≤ w.heap.size + 1 by omega) (Nat.le_refl _))
      have HBF : Hid (Below w.heap.size w wi) := Lib.hid (BX.out.trans (HB1.out.mono (by omega)))
      go_wp2
      refine bodyPost_ret (v := .tuple #[.slice Ao L.length co, .bool true]) (by simp [results, Tryz.results16, go_sem]) rfl ?_
      rw [HF2.out]
      exact ⟨_, rfl, HOF.out, HBF.out⟩
theorem quot_mem (g : GrD) : ∀ d ∈ quotF g, d.2.2.length ≤ 120 := by
  unfold quotF
  split
  · rename_i h
    have hf : foldB g = true := by unfold coreB at h; simp only [Bool.and_eq_true] at h; exact h.1.1
    exact quoU_mem (foldB_parts hf).1 _ (Nat.le_refl _)
  · intro d hd; cases hd
theorem ovL_mem : ∀ {l o o' : List GrD}, ovL o l = some o' → (∀ d ∈ o, d.2.2.length ≤ 120) → (∀ d ∈ l, d.2.2.length ≤ 120) → ∀ d ∈ o', d.2.2.length ≤ 120
  | [], o, o', h, ho, _ => by simp [ovL] at h; subst h; exact ho
  | x :: xs, o, o', h, ho, hl => by
    unfold ovL at h
    have hxs : ∀ d ∈ xs, d.2.2.length ≤ 120 := fun d hd => hl d (by simp [hd])
    split at h
    · exact ovL_mem h ho hxs
    · split at h
      · cases h
      · refine ovL_mem h (fun d hd => ?_) hxs
        rcases List.mem_append.1 hd with hd | hd
        · exact ho d hd
        · rw [List.mem_singleton.1 hd]; exact hl x (by simp)
theorem ovR_mem : ∀ {f i : Nat} {o o' : List GrD}, ovR f o i = some o' → (∀ d ∈ o, d.2.2.length ≤ 120) → o.length ≤ 40 → (∀ d ∈ o', d.2.2.length ≤ 120) ∧ o'.length ≤ 40
  | 0, i, o, o', h, ho, hl => by simp [ovR] at h; subst h; exact ⟨ho, hl⟩
  | f + 1, i, o, o', h, ho, hl => by
    unfold ovR at h
    split at h
    · split at h
      · cases h
      · rename_i o1 h1
        exact ovR_mem h (ovL_mem h1 ho (quot_mem _)) (ovL_ge h1 hl)
    · injection h with h
      subst h
      exact ⟨ho, hl⟩
theorem over_cnt (g : GrD) : cntL cG (overF g).1 ≤ 1073741824 := by
  unfold overF
  split
  · rename_i h
    have hf : foldB g = true := by have h := h.1; unfold coreB at h; simp only [Bool.and_eq_true] at h; exact h.1.1
    have hg := (grB_parts (foldB_parts hf).1).2.2.1
    cases e : ovR 41 [g] 0 with
    | none => simp [cntL]
    | some o =>
      have h1 := ovR_mem e (fun d hd => by rw [List.mem_singleton.1 hd]; omega) (by simp)
      have h2 := cntG_le h1.1
      simp only
      omega
  · simp [cntL]
end Go.Proofs.YtgifhaadfmomcaaGreat
