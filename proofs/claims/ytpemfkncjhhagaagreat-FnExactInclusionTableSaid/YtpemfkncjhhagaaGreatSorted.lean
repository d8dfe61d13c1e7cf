/- A row of edges in order, each once: the program's 'sorted', at rows in which no edge stands twice. -/
import Derived.Test.YtpemfkncjhhagaaGreatSrt
namespace Go.Proofs.YtpemfkncjhhagaaGreat
set_option maxRecDepth 20000
set_option linter.unusedVariables false
set_option linter.unusedSimpArgs false
open Go.RowKit

set_option maxHeartbeats 1000000 in
/-- A row in strict order is left as it is. -/
theorem compactE_any (A : Option Addr) (n cap : Nat) (es : List EdD) (w : World) (h : ArgE w (.slice A n cap) es) (hs : Srt cmpE es) :
    Calls Tryz.prog 152 #[.slice A n cap] w fun e w' => e = .returned (.slice A n cap) ∧ ∃ q, w' = w.drewN q := by
  have H := Lib.hid h
  obtain ⟨A', cap', hv, hcap, hm, _⟩ := h
  injection hv with e1 e2 e3
  subst e1 e2 e3
  unfold maxLen at hm
  have HS := Lib.hid hs
  clear hs
  by_cases hlt2 : es.length < 2
  · have h1 : (es.length : Int) < 2 := by omega
    go_enter Tryz.func152, Tryz.ntmps152
    go_wp2
    go_ret
    exact ⟨rfl, 0, rfl⟩
  · have h1 : ¬ (es.length : Int) < 2 := by omega
    go_enter Tryz.func152, Tryz.ntmps152
    go_wp2
    go_loopw [3] (fun i wr => ∃ k : Nat, k + 1 ≤ es.length ∧ i = .int .i64 ((k : Int) + 1) ∧ ∃ q, wr = w.drewN q) (fun i _ => es.length - (intOf i).toNat)
    case atStart => exact ⟨0, by omega, rfl, 0, rfl⟩
    case round =>
      obtain ⟨k, hk, rfl, q, rfl⟩ := hrel
      by_cases hlt : k + 1 < es.length
      · obtain ⟨b, off, rfl, hbl, c0, c1, c2, _⟩ := H.out.at hlt
        obtain ⟨b2, off2, hA2, _, d0, d1, d2, _⟩ := H.out.at (k := k) (by omega)
        obtain ⟨rfl, rfl⟩ : b = b2 ∧ off = off2 := by simpa using hA2
        have hne : decide (es[k + 1] = es[k]) = false := by
          rw [decide_eq_false_iff_not]
          intro e
          have := (List.pairwise_iff_getElem.1 HS.out) k (k + 1) (by omega) hlt (by omega)
          rw [e] at this
          exact cmpE_ord.irrefl _ this
        have i0 : (0 : Int) ≤ (k : Int) := by omega
        have i1 : (k : Int) < (es.length : Int) := by omega
        have i2 : (k : Int) + 1 < (es.length : Int) := by omega
        have i3 : (0 : Int) ≤ (k : Int) + 1 := by omega
        have i4 : ((k : Int) + 1).toNat = k + 1 := by omega
        have i5 : IntKind.i64.wrap ((k : Int) + 1 - 1) = (k : Int) := by rw [IntKind.wrap_i64]; omega
        clear hA2
        have heql := fun w => edge_eql es[k + 1] es[k] w
        rw [hne] at heql
        unfold edV at heql
        have hgd := edge_guard
        generalize es[k] = y at *
        generalize es[k + 1] = x at *
        go_wp2
        go_quiet (fail)
        go_wp2
        go_roundw
        case rel => exact ⟨k + 1, by omega, by go_num, _, rfl⟩
        case measure => simp [intOf]; omega
      · have hlast : k + 1 = es.length := by omega
        have i2 : ¬ (k : Int) + 1 < (es.length : Int) := by omega
        go_wp2
        go_ret
        exact ⟨rfl, q, rfl⟩
set_option maxHeartbeats 1000000 in
theorem sorted_any (v : Value) (es : List EdD) (w : World) (h : ArgE w v es) (hnd : es.Nodup) (hl : es.length ≤ 1073741824) :
    Calls Tryz.prog 135 #[v] w fun e w' => ∃ r, e = .returned r ∧ OwE w' w.heap.size r (srt cmpE es) ∧ Below w.heap.size w w' := by
  have H := Lib.hid h
  obtain ⟨A, cap, rfl⟩ := h.form
  clear h
  go_enter Tryz.func135, Tryz.ntmps135
  go_wp2_with (at_builtin; refine append_edges rfl (.tmp 4) (.tmp 5) rfl w.heap.size _ [] (OwE_lit _ (Nat.le_refl _)) rfl _ es (H.out.alloc _) rfl (by simp; omega) (by simp) ?_; intro v1 w1 o1 g1 p1)
  have O1 : Hid (OwE w1 w.heap.size v1 es) := Lib.hid (by simpa using o1)
  have B1 : Hid (Below w.heap.size w w1) := Lib.hid (((Below.refl _ _).alloc (Nat.le_refl _) _).grown g1 (by simp) (fun k hk => by simp [Value.ownBlock] at hk; omega))
  obtain ⟨g, cap1, rfl⟩ : ∃ g cap1, v1 = .slice (some ⟨g, 0, none⟩) es.length cap1 := by
    obtain ⟨A1, cap1, rfl, _⟩ := O1.out.form
    rcases O1.out.1.2 with ⟨hv, _⟩ | ⟨g', cap', cur, hv, _⟩
    · rw [hv] at p1
      simp [Value.ownBlock] at p1
    · injection hv with e1 e2 e3
      subst e1
      exact ⟨g', cap1, rfl⟩
  clear g1 o1 p1
  refine (sortE_any g es.length cap1 w.heap.size es w1 O1.out hl).mono ?_
  rintro e w2 ⟨rfl, es', o2, hp, hsd, g2⟩
  have hnd' : es'.Nodup := hp.nodup_iff.2 hnd
  have hS : Srt cmpE es' := (hsd.and hnd').imp fun {a b} ⟨h1, h2⟩ => by
    have : cmpE a b ≠ 0 := fun e => h2 (cmpE_zero.1 e)
    omega
  have hE : es' = srt cmpE es := srt_eq cmpE_ord hS fun x => hp.mem_iff
  have O2 := Lib.hid o2
  have B2 := Lib.hid (B1.out.grown g2 B1.out.size (fun k hk => by cases hk; exact (O1.out.1.lt g rfl).1))
  have HE := Lib.hid hE
  have HS := Lib.hid hS
  clear o2 g2 hp hsd hnd' hE hS
  go_wp2_with fail
  refine (compactE_any _ _ _ es' w2 O2.out.arg HS.out).mono ?_
  rintro e w3 ⟨rfl, q, rfl⟩
  go_wp2
  go_ret
  exact ⟨_, rfl, by rw [← HE.out]; exact O2.out.drewN q, bel_drewN B2.out q⟩
end Go.Proofs.YtpemfkncjhhagaaGreat
