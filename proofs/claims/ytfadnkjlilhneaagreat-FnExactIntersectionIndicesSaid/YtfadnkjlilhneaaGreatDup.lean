/- slices.Compact at edges, and the program's sorted, for every list. Dropping what is listed twice side by side: plain Lean, and rows of which only a head is kept. A row of edges in order, each once: the program's 'sorted', at rows in which no edge stands twice. -/
import Derived.Test.YtfadnkjlilhneaaGreatSrt
namespace Go.Proofs.YtfadnkjlilhneaaGreat
set_option maxRecDepth 20000
set_option linter.unusedVariables false
set_option linter.unusedSimpArgs false
open Go.RowKit

set_option maxHeartbeats 1000000 in
theorem compactE_any (A : Option Addr) (n cap : Nat) (es : List EdD) (w : World) (h : ArgE w (.slice A n cap) es) (hs : Srt cmpE es) :
  Calls Tryz.prog 109 #[.slice A n cap] w fun e w' => e = .returned (.slice A n cap) ∧ ∃ q, w' = w.drewN q := by
 have H := Lib.hid h
 obtain ⟨A', cap', hv, hcap, hm, _⟩ := h
 injection hv with e1 e2 e3
 subst e1 e2 e3
 unfold maxLen at hm
 have HS := Lib.hid hs
 clear hs
 by_cases hlt2 : es.length < 2
 ·have h1 : (es.length : Int) < 2 := by omega
  go_enter Tryz.func109, Tryz.ntmps109
  go_wp2
  go_ret
  exact ⟨rfl, 0, rfl⟩
 ·have h1 : ¬ (es.length : Int) < 2 := by omega
  go_enter Tryz.func109, Tryz.ntmps109
  go_wp2
  go_loopw [3] (fun i wr => ∃ k : Nat, k + 1 ≤ es.length ∧ i = .int .i64 ((k : Int) + 1) ∧ ∃ q, wr = w.drewN q) (fun i _ => es.length - (intOf i).toNat)
  case atStart => exact ⟨0, by omega, rfl, 0, rfl⟩
  case round =>
   obtain ⟨k, hk, rfl, q, rfl⟩ := hrel
   by_cases hlt : k + 1 < es.length
   ·obtain ⟨b, off, rfl, hbl, c0, c1, c2, _⟩ := H.out.at hlt
    obtain ⟨b2, off2, hA2, _, d0, d1, d2, _⟩ := H.out.at (k := k) (by omega)
    obtain ⟨rfl, rfl⟩ : b = b2 ∧ off = off2 := by simpa using hA2
    have hne : decide (es[k + 1] = es[k]) = false := by
     rw [decide_eq_false_iff_not]
     intro e
     have := (List.pairwise_iff_getElem.1 HS.out) k (k + 1) (by omega) hlt (by omega)
     rw [e] at this
     exact cmpE_ord.irrefl _ this
    have i0 : (0 : Int) ≤ (k : Int) := by omega
    have i1 : (k : Int) < (es.length : Int) := by omega
    have i2 : (k : Int) + 1 < (es.length : Int) := by omega
    have i3 : (0 : Int) ≤ (k : Int) + 1 := by omega
    have i4 : ((k : Int) + 1).toNat = k + 1 := by omega
    have i5 : IntKind.i64.wrap ((k : Int) + 1 - 1) = (k : Int) := by rw [IntKind.wrap_i64]; omega
    clear hA2
    have heql := fun w => edge_eql es[k + 1] es[k] w
    rw [hne] at heql
    unfold edV at heql
    have hgd := edge_guard
    generalize es[k] = y at *
    generalize es[k + 1] = x at *
    go_wp2
    go_quiet (fail)
    go_wp2
    go_roundw
    case rel => exact ⟨k + 1, by omega, by go_num, _, rfl⟩
    case measure => simp [intOf]; omega
   ·have hlast : k + 1 = es.length := by omega
    have i2 : ¬ (k : Int) + 1 < (es.length : Int) := by omega
    go_wp2
    go_ret
    exact ⟨rfl, q, rfl⟩
set_option maxHeartbeats 1000000 in
theorem sorted_any (v : Value) (es : List EdD) (w : World) (h : ArgE w v es) (hnd : es.Nodup) (hl : es.length ≤ 1073741824) :
  Calls Tryz.prog 70 #[v] w fun e w' => ∃ r, e = .returned r ∧ OwE w' w.heap.size r (srt cmpE es) ∧ Below w.heap.size w w' := by
 have H := Lib.hid h
 obtain ⟨A, cap, rfl⟩ := h.form
 clear h
 go_enter Tryz.func70, Tryz.ntmps70
 go_wp2_with (at_builtin; refine append_edges rfl (.tmp 4) (.tmp 5) rfl w.heap.size _ [] (OwE_lit _ (Nat.le_refl _)) rfl _ es (H.out.alloc _) rfl (by simp; omega) (by simp) ?_; intro v1 w1 o1 g1 p1)
 have O1 : Hid (OwE w1 w.heap.size v1 es) := Lib.hid (by simpa using o1)
 have B1 : Hid (Below w.heap.size w w1) := Lib.hid (((Below.refl _ _).alloc (Nat.le_refl _) _).grown g1 (by simp) (fun k hk => by simp [Value.ownBlock] at hk; omega))
 obtain ⟨g, cap1, rfl⟩ : ∃ g cap1, v1 = .slice (some ⟨g, 0, none⟩) es.length cap1 := by
  obtain ⟨A1, cap1, rfl, _⟩ := O1.out.form
  rcases O1.out.1.2 with ⟨hv, _⟩ | ⟨g', cap', cur, hv, _⟩
  ·rw [hv] at p1
   simp [Value.ownBlock] at p1
  ·injection hv with e1 e2 e3
   subst e1
   exact ⟨g', cap1, rfl⟩
 clear g1 o1 p1
 refine (sortE_any g es.length cap1 w.heap.size es w1 O1.out hl).mono ?_
 rintro e w2 ⟨rfl, es', o2, hp, hsd, g2⟩
 have hnd' : es'.Nodup := hp.nodup_iff.2 hnd
 have hS : Srt cmpE es' := (hsd.and hnd').imp fun {a b} ⟨h1, h2⟩ => by
  have : cmpE a b ≠ 0 := fun e => h2 (cmpE_zero.1 e)
  omega
 have hE : es' = srt cmpE es := srt_eq cmpE_ord hS fun x => hp.mem_iff
 have O2 := Lib.hid o2
 have B2 := Lib.hid (B1.out.grown g2 B1.out.size (fun k hk => by cases hk; exact (O1.out.1.lt g rfl).1))
 have HE := Lib.hid hE
 have HS := Lib.hid hS
 clear o2 g2 hp hsd hnd' hE hS
 go_wp2_with fail
 refine (compactE_any _ _ _ es' w2 O2.out.arg HS.out).mono ?_
 rintro e w3 ⟨rfl, q, rfl⟩
 go_wp2
 go_ret
 exact ⟨_, rfl, by rw [← HE.out]; exact O2.out.drewN q, bel_drewN B2.out q⟩
def ddAt (es : List EdD) (j : Nat) : List EdD := if 0 < j ∧ es.getD j (0, 0, 0) = es.getD (j - 1) (0, 0, 0) then [] else [es.getD j (0, 0, 0)]
def ddU (es : List EdD) : Nat → List EdD
 | 0 => []
 | j + 1 => ddU es j ++ ddAt es j
theorem ddAt_drop {es : List EdD} {j : Nat} (h0 : 0 < j) (hj : j < es.length) (h : es[j] = es[j - 1]) : ddU es (j + 1) = ddU es j := by
 show ddU es j ++ ddAt es j = _
 unfold ddAt
 rw [if_pos ⟨h0, by simp [List.getD, hj, show j - 1 < es.length by omega, h]⟩, List.append_nil]
theorem ddAt_keep {es : List EdD} {j : Nat} (hj : j < es.length) (h : ∀ _ : 0 < j, es[j] ≠ es[j - 1]) : ddU es (j + 1) = ddU es j ++ [es[j]] := by
 show ddU es j ++ ddAt es j = _
 unfold ddAt
 rw [if_neg]
 ·simp [List.getD, hj]
 ·rintro ⟨h0, e⟩
  exact h h0 (by simpa [List.getD, hj, show j - 1 < es.length by omega] using e)
theorem ddU_spec {es : List EdD} (hs : es.Pairwise fun a b => cmpE a b ≤ 0) : ∀ j, j ≤ es.length → Srt cmpE (ddU es j) ∧ ∀ x, x ∈ ddU es j ↔ x ∈ es.take j
 | 0, _ => ⟨List.Pairwise.nil, fun x => by simp [ddU]⟩
 | j + 1, hj => by
   obtain ⟨h1, h2⟩ := ddU_spec hs j (by omega)
   have hjl : j < es.length := by omega
   have ht : es.take (j + 1) = es.take j ++ [es[j]] := List.take_succ_eq_append_getElem hjl
   by_cases hd : ∃ h0 : 0 < j, es[j] = es[j - 1]
   ·obtain ⟨h0, e⟩ := hd
    rw [ddAt_drop h0 hjl e]
    refine ⟨h1, fun x => ?_⟩
    rw [h2, ht, List.mem_append, List.mem_singleton]
    refine ⟨.inl, fun h => ?_⟩
    rcases h with h | h
    ·exact h
    ·rw [h, e]
     exact List.mem_iff_getElem.2 ⟨j - 1, by rw [List.length_take]; omega, by rw [List.getElem_take]⟩
   ·rw [ddAt_keep hjl fun h0 e => hd ⟨h0, e⟩]
    refine ⟨List.pairwise_append.2 ⟨h1, List.pairwise_singleton _ _, fun x hx y hy => ?_⟩, fun x => ?_⟩
    ·rw [List.mem_singleton.1 hy]
     obtain ⟨i, hi, rfl⟩ := List.mem_iff_getElem.1 ((h2 x).1 hx)
     rw [List.length_take] at hi
     rw [List.getElem_take]
     have hle := (List.pairwise_iff_getElem.1 hs) i j (by omega) hjl (by omega)
     have h0 : 0 < j := by omega
     have hne : cmpE es[j - 1] es[j] ≠ 0 := fun e => hd ⟨h0, (cmpE_zero.1 e).symm⟩
     have hl2 := (List.pairwise_iff_getElem.1 hs) (j - 1) j (by omega) hjl (by omega)
     by_cases hij : i = j - 1
     ·subst hij; omega
     ·have hl3 := (List.pairwise_iff_getElem.1 hs) i (j - 1) (by omega) (by omega) (by omega)
      by_cases h3 : cmpE es[i] es[j - 1] = 0
      ·rw [cmpE_zero.1 h3]; omega
      ·exact cmpE_ord.trans (by omega) (show cmpE es[j - 1] es[j] < 0 by omega)
    ·rw [List.mem_append, h2, ht, List.mem_append]
theorem ddU_srt {es : List EdD} (hs : es.Pairwise fun a b => cmpE a b ≤ 0) {L : List EdD} (hm : ∀ x, x ∈ es ↔ x ∈ L) : ddU es es.length = srt cmpE L := by
 obtain ⟨h1, h2⟩ := ddU_spec hs es.length (Nat.le_refl _)
 exact srt_eq cmpE_ord h1 fun x => by rw [h2, List.take_length, hm]
theorem own_cells {w : World} {base g cap k o : Nat} {es : List EdD} (h : OwE w base (.slice (some ⟨g, 0, none⟩) k cap) es) (ho : k * 3 ≤ o) : ∀ (vs : List Value) (o' : Nat), o ≤ o' → OwE (w.setCells g o' vs) base (.slice (some ⟨g, 0, none⟩) k cap) es ∧ w.grownBy (w.setCells g o' vs) (some g) := by
 intro vs
 induction vs generalizing w with
 | nil => intro o' _; exact ⟨h, World.grownBy.refl _ _⟩
 | cons v vs ih =>
   intro o' ho'
   have hk : k = es.length := by
    obtain ⟨_, _, hv, _⟩ := OwE.form h
    injection hv
   subst hk
   have hst := World.ownsRow.stored h.1 o' v
   have hl := h.1.1
   rw [List.set_eq_of_length_le (by omega)] at hst
   obtain ⟨i1, i2⟩ := ih (w := w.setCell ⟨g, o', none⟩ v) ⟨hst.1, h.2⟩ (o' + 1) (by omega)
   exact ⟨i1, hst.2.trans i2⟩
theorem OwE.head {w : World} {base g n cap k : Nat} {es : List EdD} (h : OwE w base (.slice (some ⟨g, 0, none⟩) n cap) es) (hk : k ≤ es.length) : OwE w base (.slice (some ⟨g, 0, none⟩) k cap) (es.take k) := by
 have hn : n = es.length := by
  obtain ⟨_, _, hv, _⟩ := OwE.form h
  injection hv
 subst hn
 have h1 := owns_head h.1 rfl hk
 refine ⟨?_, fun e he => h.2 e (List.mem_of_mem_take he)⟩
 have hl : (es.take k).length = k := by rw [List.length_take]; omega
 rw [hl]
 have e : edCs (es.take k) = (edCs es).take (k * 3) := by
  have h2 : edCs es = edCs (es.take k) ++ edCs (es.drop k) := by rw [← edCs_append, List.take_append_drop]
  rw [h2, List.take_left' (by rw [edCs_length, hl])]
 rw [e]
 exact h1
theorem zero_edges (n : Nat) : (Builtin.zeroCells (Value.agg #[.int .i64 0, .int .i64 0, .int .i64 0]).cells n).toList.length = n * 3 ∧ ∀ v ∈ (Builtin.zeroCells (Value.agg #[.int .i64 0, .int .i64 0, .int .i64 0]).cells n).toList, v.oneCell' = true := by
 have hc : (Value.agg #[.int .i64 0, .int .i64 0, .int .i64 0]).cells = #[.int .i64 0, .int .i64 0, .int .i64 0] := by simp [Value.cells]
 rw [hc]
 refine ⟨by simp [Builtin.zeroCells], fun v hv => ?_⟩
 simp only [Builtin.zeroCells, Array.toList_map, List.mem_map] at hv
 obtain ⟨i, _, rfl⟩ := hv
 have h3 : #[Value.int IntKind.i64 0, Value.int IntKind.i64 0, Value.int IntKind.i64 0].size = 3 := rfl
 rw [h3]
 have : i % 3 = 0 ∨ i % 3 = 1 ∨ i % 3 = 2 := by omega
 rcases this with e | e | e <;> rw [e] <;> rfl
theorem run_clear_edges (w : World) (g o n c : Nat) (hn : 0 < n) (hc : ∀ j, j < n * 3 → (w.cell? ⟨g, o + j, none⟩).isSome = true) (hf : ∀ j, j < n * 3 → w.frozen? ⟨g, o + j, none⟩ = false) :
  ∃ vs, ∀ ty, (Builtin.clear_ #[29] ty #[.slice (some ⟨g, o, none⟩) n c]).run Tryz.prog w = .ok (.tuple #[]) (w.setCells g o vs) := by
 obtain ⟨h1, h2⟩ := zero_edges n
 obtain ⟨i0, hi0, hz0, _, _⟩ := info_parts edge_info
 refine ⟨(Builtin.zeroCells (Value.agg #[.int .i64 0, .int .i64 0, .int .i64 0]).cells n).toList, fun ty => ?_⟩
 have hst := run_storeCells_cells (P := Tryz.prog) g o (Builtin.zeroCells (Value.agg #[.int .i64 0, .int .i64 0, .int .i64 0]).cells n).toList 0 w (by rw [h1]; simpa using hc) (by rw [h1]; simpa using hf) h2
 simp only [Nat.add_zero] at hst
 have hv : ∀ w, (zeroValue 54).run Tryz.prog w = .ok (.agg #[.int .i64 0, .int .i64 0, .int .i64 0]) w := fun w => by rfl
 obtain ⟨m, rfl⟩ : ∃ m, n = m + 1 := ⟨n - 1, by omega⟩
 simp [Builtin.clear_, run_underlying Tryz.underlying29, hv, hst]
theorem set_take : ∀ (R : List EdD) (k : Nat) (x : EdD), k < R.length → (R.set k x).take (k + 1) = R.take k ++ [x]
 | [], k, x, h => by cases h
 | a :: R, 0, x, _ => by simp
 | a :: R, k + 1, x, h => by
   have := set_take R k x (by simpa using h)
   simp only [List.set_cons_succ, List.take_succ_cons, List.cons_append]
   rw [this]
theorem set_drop : ∀ (R : List EdD) (k m : Nat) (x : EdD), k < m → (R.set k x).drop m = R.drop m
 | [], k, m, x, h => by simp
 | a :: R, 0, m + 1, x, _ => by simp
 | a :: R, k + 1, m + 1, x, h => by
   have := set_drop R k m x (by omega)
   simpa using this
set_option maxHeartbeats 1000000 in
theorem compactD_any (g n cap base : Nat) (es : List EdD) (w : World) (h : OwE w base (.slice (some ⟨g, 0, none⟩) n cap) es) (hl : es.length ≤ 1073741824) :
  Calls Tryz.prog 109 #[.slice (some ⟨g, 0, none⟩) n cap] w fun e w' => e = .returned (.slice (some ⟨g, 0, none⟩) (ddU es es.length).length cap) ∧ OwE w' base (.slice (some ⟨g, 0, none⟩) (ddU es es.length).length cap) (ddU es es.length) ∧ w.grownBy w' (some g) := by
 obtain ⟨_, _, hv, hcap, hm, _, hg⟩ := h.form
 injection hv with e1 e2 e3
 subst e1 e2 e3
 unfold maxLen at hm
 have H := Lib.hid h
 clear h hg
 by_cases hlt2 : es.length < 2
 ·have h1 : (es.length : Int) < 2 := by omega
  have hd : ddU es es.length = es := by
   match es, hlt2 with
   | [], _ => rfl
   | [a], _ => simp [ddU, ddAt]
  rw [hd]
  go_enter Tryz.func109, Tryz.ntmps109
  go_wp2
  go_ret
  exact ⟨rfl, H.out, World.grownBy.refl _ _⟩
 ·have h1 : ¬ (es.length : Int) < 2 := by omega
  go_enter Tryz.func109, Tryz.ntmps109
  go_wp2
  go_loopw [3] (fun i wr => ∃ k : Nat, k + 1 ≤ es.length ∧ i = .int .i64 ((k : Int) + 1) ∧ ddU es (k + 1) = es.take (k + 1) ∧ ∃ q, wr = w.drewN q) (fun i _ => es.length - (intOf i).toNat)
  case atStart => exact ⟨0, by omega, rfl, by rw [ddAt_keep (by omega) (fun h => absurd h (by omega))]; rw [List.take_succ_eq_append_getElem (by omega)]; rfl, 0, rfl⟩
  case round =>
   obtain ⟨k, hk, rfl, hdd, q, rfl⟩ := hrel
   have HDD := Lib.hid hdd
   clear hdd
   by_cases hlt : k + 1 < es.length
   ·obtain ⟨c0, c1, c2⟩ := H.out.cellAt (k + 1) hlt
    obtain ⟨d0, d1, d2⟩ := H.out.cellAt k (by omega)
    have i0 : (0 : Int) ≤ (k : Int) := by omega
    have i1 : (k : Int) < (es.length : Int) := by omega
    have i2 : (k : Int) + 1 < (es.length : Int) := by omega
    have i3 : (0 : Int) ≤ (k : Int) + 1 := by omega
    have i4 : ((k : Int) + 1).toNat = k + 1 := by omega
    have i5 : IntKind.i64.wrap ((k : Int) + 1 - 1) = (k : Int) := by rw [IntKind.wrap_i64]; omega
    have heql := fun w => edge_eql es[k + 1] es[k] w
    unfold edV at heql
    have hgd := edge_guard
    by_cases he : es[k + 1] = es[k]
    ·have HDR := Lib.hid (ddAt_drop (es := es) (j := k + 1) (by omega) hlt he)
     rw [decide_eq_true he] at heql
     generalize es[k] = y at *
     generalize es[k + 1] = x at *
     go_wp2
     go_quiet (fail)
     have hcp : ¬ cap = k + 1 := by omega
     have i6 : (k : Int) + 1 ≤ (es.length : Int) := by omega
     have i7 : (es.length : Int) ≤ (cap : Int) := by omega
     have HFR := Lib.hid H.out.free
     have HLD : Hid ((ddU es (k + 2)).length = k + 1 ∧ es.take (k + 1) = ddU es (k + 2)) := Lib.hid (by
      have h1 := HDR.out
      rw [HDD.out] at h1
      exact ⟨by rw [show k + 2 = k + 1 + 1 from rfl, h1, List.length_take]; omega, h1.symm⟩)
     clear c0 c1 c2 d0 d1 d2
     go_wp2
     obtain ⟨rem, hrem⟩ : ∃ r, r = es.length - (k + 1) := ⟨_, rfl⟩
     have hrl : rem + (k + 1) = es.length := by omega
     have HREM := Lib.hid hrem
     clear hrem
     rw [← HREM.out]
     go_loopw [3, 5] (fun s3 s5 wr => ∃ (kk t : Nat) (R : List EdD), s3 = .int .i64 kk ∧ s5 = .int .i64 ((t : Int) + 1) ∧ t + 1 ≤ rem ∧ kk = (ddU es (k + t + 2)).length ∧ R.length = es.length ∧ R.take kk = ddU es (k + t + 2) ∧ R.drop (k + t + 1) = es.drop (k + t + 1) ∧ kk ≤ k + t + 1 ∧ OwE wr base (.slice (some ⟨g, 0, none⟩) es.length cap) R ∧ w.grownBy wr (some g)) (fun _ i _ => rem - (intOf i).toNat)
     case atStart => exact ⟨k + 1, 0, es, by go_num, rfl, by omega, HLD.out.1.symm, rfl, HLD.out.2, rfl, by omega, H.out.drewN _, ⟨rfl, rfl, rfl, Nat.le_refl _, fun _ _ _ => rfl⟩⟩
     case round =>
      obtain ⟨kk, t, R, rfl, rfl, ht, hkk, hRl, hRt, hRd, hkb, hoR, hgr⟩ := hrel
      have HOR := Lib.hid hoR
      have HGR := Lib.hid hgr
      have HRT := Lib.hid hRt
      have HRD := Lib.hid hRd
      have HKK := Lib.hid hkk
      have HRL := Lib.hid hRl
      obtain ⟨wi, rfl⟩ : ∃ wi : World, wi = wr := ⟨_, rfl⟩
      have hget : ∀ j (hj : j < es.length), k + t + 1 ≤ j → R[j]'(by omega) = es[j] := fun j hj hle => by
       have e1 : (R.drop (k + t + 1))[j - (k + t + 1)]? = (es.drop (k + t + 1))[j - (k + t + 1)]? := by rw [hRd]
       rw [List.getElem?_drop, List.getElem?_drop, show k + t + 1 + (j - (k + t + 1)) = j by omega, List.getElem?_eq_getElem (by omega), List.getElem?_eq_getElem hj] at e1
       injection e1
      have HFI := Lib.hid HOR.out.free
      by_cases hlt3 : t + 1 < rem
      ·have hi1 : k + t + 2 < es.length := by omega
       obtain ⟨c0, c1, c2⟩ := HOR.out.cellAt (k + t + 2) (by omega)
       obtain ⟨d0, d1, d2⟩ := HOR.out.cellAt (k + t + 1) (by omega)
       rw [hget (k + t + 2) hi1 (by omega), show (k + t + 2) * 3 = (k + 1) * 3 + (t + 1) * 3 by omega] at c0 c1 c2
       rw [hget (k + t + 1) (by omega) (by omega), show (k + t + 1) * 3 = (k + 1) * 3 + t * 3 by omega] at d0 d1 d2
       have heq2 := fun w => edge_neq es[k + t + 2] es[k + t + 1] w
       unfold edV at heq2
       have j0 : (0 : Int) ≤ (t : Int) := by omega
       have j1 : (t : Int) < (rem : Int) := by omega
       have j2 : (t : Int) + 1 < (rem : Int) := by omega
       have j3 : (0 : Int) ≤ (t : Int) + 1 := by omega
       have j4 : ((t : Int) + 1).toNat = t + 1 := by omega
       have j5 : IntKind.i64.wrap ((t : Int) + 1 - 1) = (t : Int) := by rw [IntKind.wrap_i64]; omega
       have HRD2 : Hid (R.drop (k + (t + 1) + 1) = es.drop (k + (t + 1) + 1)) := Lib.hid (by have h9 := congrArg (List.drop 1) hRd; rw [List.drop_drop, List.drop_drop] at h9; rw [show k + (t + 1) + 1 = k + t + 1 + 1 by omega]; exact h9)
       have HE64 := Lib.hid (HOR.out.2 _ (List.getElem_mem (show k + t + 2 < R.length by omega)))
       rw [hget (k + t + 2) hi1 (by omega)] at HE64
       by_cases he2 : es[k + t + 2] = es[k + t + 1]
       ·have HD2 := Lib.hid (ddAt_drop (es := es) (j := k + t + 2) (by omega) hi1 he2)
        rw [decide_eq_true he2, Bool.not_true] at heq2
        generalize es[k + t + 1] = y2 at *
        generalize es[k + t + 2] = x2 at *
        clear hkk hRl hRt hRd hoR hgr hget
        go_wp2
        go_quiet (fail)
        go_wp2
        go_roundw
        case rel => exact ⟨kk, t + 1, R, rfl, by go_num, by omega, by rw [show k + (t + 1) + 2 = k + t + 2 + 1 by omega, HD2.out]; exact HKK.out, HRL.out, by rw [show k + (t + 1) + 2 = k + t + 2 + 1 by omega, HD2.out]; exact HRT.out, HRD2.out, by omega, HOR.out.drew, HGR.out.trans ⟨rfl, rfl, rfl, Nat.le_refl _, fun _ _ _ => rfl⟩⟩
        case measure => simp [intOf]; omega
       ·have HD2 : Hid (ddU es (k + (t + 1) + 2) = ddU es (k + t + 2) ++ [es[k + t + 2]]) := Lib.hid (by rw [show k + (t + 1) + 2 = k + t + 2 + 1 by omega]; exact ddAt_keep (es := es) (j := k + t + 2) hi1 (fun _ e => he2 e))
        rw [decide_eq_false he2, Bool.not_false] at heq2
        have hkR : kk < R.length := by omega
        have HST := Lib.hid (set_take R kk es[k + t + 2] hkR)
        have HSD := Lib.hid (set_drop R kk (k + (t + 1) + 1) es[k + t + 2] (by omega))
        obtain ⟨b0, b1, b2⟩ := HOR.out.cellAt kk hkR
        generalize R[kk] = o2 at b0 b1 b2
        generalize es[k + t + 1] = y2 at *
        generalize es[k + t + 2] = x2 at *
        have HSET := Lib.hid (fun N => (HOR.out.drewN N).set kk hkR (x := x2.1) (y := x2.2.1) (z := x2.2.2) HE64.out.1 HE64.out.2.1 HE64.out.2.2)
        have f0 := HFI.out (kk * 3)
        have f1 := HFI.out (kk * 3 + 1)
        have f2 := HFI.out (kk * 3 + 2)
        have j6 : (kk : Int) < (es.length : Int) := by omega
        have j7 : (0 : Int) ≤ (kk : Int) := by omega
        clear hkk hRl hRt hRd hoR hgr hget
        go_wp2
        go_quiet (fail)
        go_wp2
        go_roundw
        case rel => exact ⟨kk + 1, t + 1, R.set kk x2, by go_num, by go_num, by omega, by rw [HD2.out, List.length_append, ← HKK.out]; rfl, by rw [List.length_set]; exact HRL.out, by rw [HST.out, HD2.out, HRT.out], by rw [HSD.out]; exact HRD2.out, by omega, (HSET.out nq).1, (HGR.out.trans (show wi.grownBy (wi.drewN nq) (some g) from ⟨rfl, rfl, rfl, Nat.le_refl _, fun _ _ _ => rfl⟩)).trans (HSET.out nq).2⟩
        case measure => simp [intOf]; omega
      ·obtain rfl : rem = t + 1 := by omega
       have hn : k + t + 2 = es.length := by omega
       have HKN : Hid (kk = (ddU es es.length).length ∧ R.take kk = ddU es es.length) := Lib.hid (by rw [← hn]; exact ⟨hkk, hRt⟩)
       have hkn : kk < es.length := by omega
       have HHE := Lib.hid (HOR.out.head (k := kk) (by omega))
       obtain ⟨vs, hcl⟩ := run_clear_edges wi g (kk * 3) (es.length - kk) (cap - kk) (by omega) (fun j hj => by
        have hq : kk + j / 3 < R.length := by omega
        obtain ⟨g0, g1, g2⟩ := HOR.out.cellAt (kk + j / 3) hq
        have : j % 3 = 0 ∨ j % 3 = 1 ∨ j % 3 = 2 := by omega
        rcases this with e | e | e
        ·rw [show kk * 3 + j = (kk + j / 3) * 3 by omega, g0]; rfl
        ·rw [show kk * 3 + j = (kk + j / 3) * 3 + 1 by omega, g1]; rfl
        ·rw [show kk * 3 + j = (kk + j / 3) * 3 + 2 by omega, g2]; rfl) (fun j _ => HFI.out _)
       have HCC := Lib.hid (own_cells HHE.out (Nat.le_refl _) vs (kk * 3) (Nat.le_refl _))
       have j6 : (kk : Int) ≤ (es.length : Int) := by omega
       have j7 : (0 : Int) ≤ (kk : Int) := by omega
       have j8 : ¬ cap = kk := by omega
       have j9 : (kk : Int) ≤ (cap : Int) := by omega
       clear hkk hRl hRt hRd hoR hgr hget
       go_wp2
       go_ret
       refine ⟨by rw [← HKN.out.1]; rfl, ?_, HGR.out.trans HCC.out.2⟩
       have h1 := HCC.out.1
       rw [HKN.out.2] at h1
       have h2 := HKN.out.1
       rw [← h2]
       exact h1
    ·have HDR : Hid (ddU es (k + 1 + 1) = es.take (k + 1 + 1)) := Lib.hid (by rw [ddAt_keep hlt (fun _ e => he e), HDD.out, List.take_succ_eq_append_getElem hlt])
     rw [decide_eq_false he] at heql
     generalize es[k] = y at *
     generalize es[k + 1] = x at *
     go_wp2
     go_quiet (fail)
     go_wp2
     go_roundw
     case rel => exact ⟨k + 1, by omega, by go_num, HDR.out, _, rfl⟩
     case measure => simp [intOf]; omega
   ·have hlast : k + 1 = es.length := by omega
    have i2 : ¬ (k : Int) + 1 < (es.length : Int) := by omega
    have HD : Hid (ddU es es.length = es) := Lib.hid (by have := HDD.out; rw [hlast, List.take_length] at this; exact this)
    clear hlast
    go_wp2
    go_ret
    rw [HD.out]
    exact ⟨rfl, H.out.drewN q, ⟨rfl, rfl, rfl, Nat.le_refl _, fun _ _ _ => rfl⟩⟩
set_option maxHeartbeats 1000000 in
theorem sortedD_any (v : Value) (es : List EdD) (w : World) (h : ArgE w v es) (hl : es.length ≤ 1073741824) :
  Calls Tryz.prog 70 #[v] w fun e w' => ∃ r, e = .returned r ∧ OwE w' w.heap.size r (srt cmpE es) ∧ Below w.heap.size w w' := by
 have H := Lib.hid h
 obtain ⟨A, cap, rfl⟩ := h.form
 clear h
 go_enter Tryz.func70, Tryz.ntmps70
 go_wp2_with (at_builtin; refine append_edges rfl (.tmp 4) (.tmp 5) rfl w.heap.size _ [] (OwE_lit _ (Nat.le_refl _)) rfl _ es (H.out.alloc _) rfl (by simp; omega) (by simp) ?_; intro v1 w1 o1 g1 p1)
 have O1 : Hid (OwE w1 w.heap.size v1 es) := Lib.hid (by simpa using o1)
 have B1 : Hid (Below w.heap.size w w1) := Lib.hid (((Below.refl _ _).alloc (Nat.le_refl _) _).grown g1 (by simp) (fun k hk => by simp [Value.ownBlock] at hk; omega))
 obtain ⟨g, cap1, rfl⟩ : ∃ g cap1, v1 = .slice (some ⟨g, 0, none⟩) es.length cap1 := by
  obtain ⟨A1, cap1, rfl, _⟩ := O1.out.form
  rcases O1.out.1.2 with ⟨hv, _⟩ | ⟨g', cap', cur, hv, _⟩
  ·rw [hv] at p1
   simp [Value.ownBlock] at p1
  ·injection hv with e1 e2 e3
   subst e1
   exact ⟨g', cap1, rfl⟩
 clear g1 o1 p1
 refine (sortE_any g es.length cap1 w.heap.size es w1 O1.out hl).mono ?_
 rintro e w2 ⟨rfl, es', o2, hp, hsd, g2⟩
 have hE : ddU es' es'.length = srt cmpE es := ddU_srt (hsd.imp fun h => by omega) fun x => hp.mem_iff
 have hlen : es'.length = es.length := hp.length_eq
 have O2 := Lib.hid o2
 have B2 := Lib.hid (B1.out.grown g2 B1.out.size (fun k hk => by cases hk; exact (O1.out.1.lt g rfl).1))
 have HB1 := Lib.hid (fun k (hk : some g = some k) => show w.heap.size ≤ k by cases hk; exact (O1.out.1.lt g rfl).1)
 have HE := Lib.hid hE
 have hl2 : es'.length ≤ 1073741824 := by omega
 clear o2 g2 hp hsd hE hlen
 go_wp2_with fail
 refine (compactD_any g _ _ w.heap.size es' w2 O2.out hl2).mono ?_
 rintro e w3 ⟨rfl, o3, g3⟩
 rw [HE.out] at o3 ⊢
 have O3 := Lib.hid o3
 have B3 := Lib.hid (B2.out.grown g3 B2.out.size HB1.out)
 clear o3 g3
 go_wp2
 go_ret
 exact ⟨_, rfl, O3.out, B3.out⟩
end Go.Proofs.YtfadnkjlilhneaaGreat
