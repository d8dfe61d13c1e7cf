/- MissingSteps, IsFiniteIndex and ConjugatesOf of the reference and of the program. -/
import Derived.Test.YtgifhaadfmomcaaGreatMov
import Derived.Test.YtgifhaadfmomcaaGreatQuo
import Derived.Test.YtgifhaadfmomcaaGreatQuoM
namespace Go.Proofs.YtgifhaadfmomcaaGreat
set_option maxRecDepth 20000
set_option linter.unusedVariables false
set_option linter.unusedSimpArgs false
open Go.RowKit

def misV (g : GrD) (v : Int) (ls : List Int) : List EdD := (ls.filter fun x => decide (nextV g.2.2 v x < 0)).map fun x => (v, x, -1)
def misU (g : GrD) : Nat → List EdD
  | 0 => []
  | k + 1 => misU g k ++ misV g (k : Int) (lettersL g.1.toNat)
def finB (g : GrD) : Bool := coreB g && decide ((misU g g.2.1.toNat).length = 0)
theorem misV_succ (g : GrD) (v : Int) (ls : List Int) (j : Nat) (h : j < ls.length) : misV g v (ls.take (j + 1)) = misV g v (ls.take j) ++ if nextV g.2.2 v ls[j] < 0 then [(v, ls[j], -1)] else [] := by
  unfold misV
  rw [List.take_succ_eq_append_getElem h, List.filter_append, List.map_append]
  congr 1
  split
  · rename_i h1; simp [h1]
  · rename_i h1; simp [h1]
theorem misV_len (g : GrD) (v : Int) (ls : List Int) : (misV g v ls).length ≤ ls.length := by
  unfold misV
  rw [List.length_map]
  exact List.length_filter_le _ _
theorem misU_len (g : GrD) : ∀ k, (misU g k).length ≤ k * (2 * g.1.toNat)
  | 0 => by simp [misU]
  | k + 1 => by
    have h1 := misU_len g k
    have h2 := misV_len g (k : Int) (lettersL g.1.toNat)
    rw [lettersL_len] at h2
    unfold misU
    rw [List.length_append, Nat.succ_mul]
    omega
def conU (g : GrD) : Nat → List GrD
  | 0 => []
  | u + 1 => addG (conU g u) (movG g u)
def conF (g : GrD) : List GrD := if finB g = true then conU g g.2.1.toNat else []
theorem conU_len (g : GrD) : ∀ u, (conU g u).length ≤ u
  | 0 => Nat.le_refl _
  | u + 1 => Nat.le_trans (addG_len _ _) (Nat.succ_le_succ (conU_len g u))
theorem finB_fold {g : GrD} (h : finB g = true) : foldB g = true := by
  unfold finB at h
  have h := (Bool.and_eq_true_iff.1 h).1
  unfold coreB at h; simp only [Bool.and_eq_true] at h; exact h.1.1
theorem conU_mem {g : GrD} (hg : grB g = true) : ∀ u, u ≤ g.2.1.toNat → ∀ d ∈ conU g u, d.2.2.length ≤ 120
  | 0, _ => fun d hd => by cases hd
  | u + 1, hu => addG_mem (conU_mem hg u (by omega)) (core_len (grB_rnGN hg (by
      have hs := (grB_parts hg).2.1
      have h := movO_ok (n := g.2.1.toNat) (u := u) (by omega)
      rwa [show ((g.2.1.toNat : Nat) : Int) = g.2.1 by omega] at h)))
theorem con_cnt (g : GrD) : cntL cG (conF g) ≤ 1073741824 := by
  unfold conF
  split
  · rename_i h
    have hg := (foldB_parts (finB_fold h)).1
    have hs := (grB_parts hg).2.1
    have h1 := cntG_le (conU_mem hg g.2.1.toNat (Nat.le_refl _))
    have h2 := conU_len g g.2.1.toNat
    omega
  · simp [cntL]
theorem inG_take (l : List GrD) (x : GrD) (j : Nat) (h : j < l.length) : inG (l.take (j + 1)) x = (inG (l.take j) x || decide (l[j] = x)) := by
  rw [List.take_succ_eq_append_getElem h]
  unfold inG
  simp only [List.mem_append, List.mem_singleton, Bool.decide_or]
  congr 1
  exact decide_eq_decide.2 ⟨Eq.symm, Eq.symm⟩
set_option maxHeartbeats 2000000 in
theorem specMissingSteps_any (v : Value) (g : GrD) (w : World) (h : ArgG w v g) (hf : foldB g = true) :
    Calls Tryz.prog 56 #[v] w fun e w' => ∃ r, e = .returned r ∧ OwE w' w.heap.size r (misU g g.2.1.toNat) ∧ Below w.heap.size w w' := by
  have HG := Lib.hid h
  have HF := Lib.hid hf
  have hgr := (foldB_parts hf).1
  have ONE := Lib.hid (steps_one (foldB_parts hf).2)
  obtain ⟨h13, h40, h120, _⟩ := grB_parts hgr
  obtain ⟨n, hn⟩ : ∃ n : Nat, g.2.1 = (n : Int) := ⟨g.2.1.toNat, by omega⟩
  obtain ⟨r, hr⟩ : ∃ r : Nat, g.1 = (r : Int) := ⟨g.1.toNat, by omega⟩
  obtain ⟨s, rfl, hi1, hi2, ha⟩ := h
  obtain ⟨A, cap, rfl⟩ := ha.form
  obtain ⟨g1, N, es⟩ := g
  simp only at *
  subst hn hr
  have HMS : Hid (∀ k, misU ((r : Int), (n : Int), es) (k + 1) = misU ((r : Int), (n : Int), es) k ++ misV ((r : Int), (n : Int), es) (k : Int) (lettersL r)) := Lib.hid fun k => rfl
  have HML : Hid (∀ k, (misU ((r : Int), (n : Int), es) k).length ≤ k * (2 * r)) := Lib.hid fun k => misU_len _ k
  have HLL := Lib.hid (lettersL_len r)
  have hl64 := lettersL_I64 (n := r) (by omega)
  have HLE := Lib.hid (fun W => l5Letters_any r W (by omega))
  clear ha hf hgr
  simp only [Int.toNat_natCast]
  generalize lettersL r = ls at *
  have HL64 := Lib.hid hl64
  clear hl64
  go_enter Tryz.func56, Tryz.ntmps56
  go_wp2_with fail
  obtain ⟨W1, hW1⟩ : ∃ W, W = w.alloc (Obj.cells #[Value.int IntKind.i64 (r : Int), Value.int IntKind.i64 (n : Int), .slice A es.length cap] 30) := ⟨_, rfl⟩
  obtain ⟨hs1, b1, hc1, _⟩ := gbox hW1
  obtain ⟨W, hW⟩ : ∃ W, W = W1.alloc (Obj.cells #[] 52) := ⟨_, rfl⟩
  have b2 : Below W1.heap.size W1 W := by rw [hW]; exact (Below.refl _ _).alloc (Nat.le_refl _) _
  have hsW : W.heap.size = w.heap.size + 2 := by rw [hW]; simp; omega
  have o0 : OwE W (w.heap.size + 1) (.slice (some ⟨w.heap.size + 1, 0, none⟩) 0 0) [] := by rw [hW]; exact OwE_litN W1 (w.heap.size + 1) hs1 (Nat.le_refl _)
  rw [← hW1, ← hW]
  have BX : Hid (Below w.heap.size w W) := Lib.hid (b1.trans (b2.mono (by omega)))
  have B12 := Lib.hid (b2.mono (show w.heap.size + 1 ≤ W1.heap.size by omega))
  have HC1 := Lib.hid hc1
  have HCL : Hid (∀ w', Below (w.heap.size + 1) W w' → w'.cell? ⟨w.heap.size, 0, none⟩ = some (.int .i64 (r : Int)) ∧ w'.cell? ⟨w.heap.size, 1, none⟩ = some (.int .i64 (n : Int)) ∧ w'.cell? ⟨w.heap.size, 2, none⟩ = some (.slice A es.length cap)) := Lib.hid fun w' hb => HC1.out w' (B12.out.trans hb)
  have HA : Hid (∀ w', Below (w.heap.size + 1) W w' → ArgG w' (.agg #[.int .i64 (r : Int), .int .i64 (n : Int), .slice A es.length cap]) ((r : Int), (n : Int), es)) := Lib.hid fun w' hb => HG.out.below (BX.out.trans (hb.mono (by omega)))
  have HFO : Hid (∀ w', Below (w.heap.size + 1) W w' → Calls Tryz.prog 57 #[.agg #[.int .i64 (r : Int), .int .i64 (n : Int), .slice A es.length cap]] w' fun e w'' => e = .returned (.bool true) ∧ Below w'.heap.size w' w'') := Lib.hid fun w' hb => by
    have h := specIsFolded_any _ _ w' (HA.out w' hb)
    rw [HF.out] at h
    exact h
  have O0 := Lib.hid o0
  clear hW1 hW hc1 b1 b2 HC1 o0
  go_loopw [3, 4] (fun vo i wr => ∃ k : Nat, k ≤ n ∧ i = .int .i64 k ∧ OwE wr (w.heap.size + 1) vo (misU ((r : Int), (n : Int), es) k) ∧ Below (w.heap.size + 1) W wr) (fun _ i _ => n - (intOf i).toNat)
  case atStart => exact ⟨0, Nat.zero_le _, rfl, O0.out, (Below.refl W.heap.size W).mono (by omega)⟩
  case round =>
    obtain ⟨k, hk, rfl, ho, hb⟩ := hrel
    have HO := Lib.hid ho
    have HB := Lib.hid hb
    obtain ⟨wi, rfl⟩ : ∃ wi : World, wi = wr := ⟨_, rfl⟩
    clear ho hb
    have hwi := HB.out.size
    obtain ⟨q0, q1, q2⟩ := HCL.out wi HB.out
    obtain ⟨Ao, co, rfl, _⟩ := OwE.form HO.out
    by_cases hlt : k < n
    · have hkI : (k : Int) < (n : Int) := by omega
      go_wp2_with fail
      refine (HFO.out wi HB.out).mono ?_
      rintro e w3 ⟨rfl, b3⟩
      have hs3 := b3.size
      have HO3 := Lib.hid (HO.out.below b3)
      have HB3 := Lib.hid (HB.out.trans (b3.mono (by omega)))
      clear b3 q0 q1 q2
      obtain ⟨q0, q1, q2⟩ := HCL.out w3 HB3.out
      go_wp2_with fail
      refine (HLE.out w3).mono ?_
      rintro e w4 ⟨rl, rfl, ol, b4⟩
      have hs4 := b4.size
      have HO4 := Lib.hid (HO3.out.below b4)
      have HB4 := Lib.hid (HB3.out.trans (b4.mono (by omega)))
      obtain ⟨Al, cl_, rfl, hcl, hml, _, hgl⟩ := OwI.form ol
      have hlen : 0 < ls.length := by have := HLL.out; omega
      obtain ⟨bl, rfl, hbl1, hbl2⟩ := hgl hlen
      unfold maxLen at hml
      have OL := Lib.hid ol.rd
      have HNE : Hid ((Value.slice Ao (misU ((r : Int), (n : Int), es) k).length co).ownBlock ≠ some bl) := Lib.hid fun e => by have := (HO3.out.1.lt bl e).2; omega
      have HMK := Lib.hid (HML.out k)
      have HMSK := Lib.hid (HMS.out k)
      have hkr : k * (2 * r) ≤ 40 * 6 := Nat.mul_le_mul (by omega) (by omega)
      generalize misU ((r : Int), (n : Int), es) k = L at *
      have hLl : L.length ≤ 240 := by have := HMK.out; omega
      clear ol b4 hgl q0 q1 q2 HO3 HB3 HMK hkr
      go_wp2
      go_loopw [3, 6] (fun vo j wr => ∃ m : Nat, m ≤ ls.length ∧ j = .int .i64 m ∧ OwE wr (w.heap.size + 1) vo (L ++ misV ((r : Int), (n : Int), es) (k : Int) (ls.take m)) ∧ RdI wr (.slice (some ⟨bl, 0, none⟩) ls.length cl_) ls ∧ vo.ownBlock ≠ some bl ∧ bl < wr.heap.size ∧ Below (w.heap.size + 1) W wr) (fun _ j _ => ls.length - (intOf j).toNat)
      case atStart => exact ⟨0, Nat.zero_le _, rfl, by simpa [misV] using HO4.out, OL.out, HNE.out, hbl2, HB4.out⟩
      case round =>
        obtain ⟨m, hm, rfl, ho, hrd, hne, hblr, hb⟩ := hrel
        have HOi := Lib.hid ho
        have HBi := Lib.hid hb
        have HRD := Lib.hid hrd
        have HN2 := Lib.hid hne
        obtain ⟨wj, rfl⟩ : ∃ wj : World, wj = wr := ⟨_, rfl⟩
        have hwj := HBi.out.size
        have hws : w.heap.size < wj.heap.size := by omega
        have hmv := misV_len ((r : Int), (n : Int), es) (k : Int) (ls.take m)
        rw [List.length_take] at hmv
        by_cases hlt2 : m < ls.length
        · have HS := Lib.hid (misV_succ ((r : Int), (n : Int), es) (k : Int) ls m hlt2)
          obtain ⟨_, _, hAl, _, hcl'⟩ := hrd.at (by omega)
          obtain ⟨rfl, rfl⟩ : bl = _ ∧ 0 = _ := by simpa using hAl
          have c0 := hcl' m hlt2
          rw [Nat.zero_add] at c0
          have HX64 := Lib.hid (HL64.out ls[m] (by simp))
          obtain ⟨p0, p1, p2⟩ := HCL.out wj HBi.out
          generalize ls[m] = x at c0 HS HX64
          generalize misV ((r : Int), (n : Int), es) (k : Int) (ls.take m) = LV at *
          have hLV : (L ++ LV).length ≤ 1000 := by have := HLL.out; rw [List.length_append]; omega
          generalize hLO : L ++ LV = LO at *
          have HLO := Lib.hid hLO
          obtain ⟨A2, c2, rfl, _⟩ := OwE.form HOi.out
          have HNX := Lib.hid (fun W' (h : ArgG W' (.agg #[.int .i64 (r : Int), .int .i64 (n : Int), .slice A es.length cap]) ((r : Int), (n : Int), es)) => specNextVertex_any _ ((r : Int), (n : Int), es) (k : Int) x W' h (ONE.out (k : Int) x))
          clear hcl' hAl ho hb hrd hne hmv hLO
          go_wp2_with fail
          have f0 := BelW.cell p0 hws
          have f1 := BelW.cell p1 hws
          have f2 := BelW.cell p2 hws
          have f3 := BelW.cell c0 hblr
          (refine wp_region_quiet_bel (by kernel_rfl) (by kernel_rfl) ?_; (repeat (go_big_quiet_step (first | (go_at_call 79; exact Calls.bel_of (HNX.out _ (HA.out _ (HBi.out.trans ((BelW.h _).mono (by omega))))))))); refine wpQuiet_nil ?_; intro wq hw'; obtain ⟨pq, hw''⟩ := hw'; have bq := pq.h; rw [← hw''] at bq; clear hw'' pq)
          clear f0 f1 f2 f3 p0 p1 p2
          have sq := bq.size
          have c1 := (bq.cell (p := ⟨bl, m, none⟩) hblr).trans c0
          have HQ := Lib.hid (HBi.out.trans (bq.mono (by omega)))
          have HOQ := Lib.hid (HOi.out.below bq)
          have HRQ := Lib.hid (HRD.out.below bq)
          clear bq c0
          rcases ey : decide (nextV es (k : Int) x < 0) with _ | _
          · have hy : ¬ nextV es (k : Int) x < 0 := by simpa using ey
            have HS2 : Hid (L ++ misV ((r : Int), (n : Int), es) (k : Int) (ls.take (m + 1)) = LO) := Lib.hid (by rw [HS.out, if_neg hy, List.append_nil]; exact HLO.out)
            clear hy
            go_wp2
            go_roundw
            case rel => exact ⟨m + 1, by omega, by go_num, by rw [HS2.out]; exact HOQ.out, HRQ.out, HN2.out, by omega, HQ.out⟩
            case measure => simp [intOf]; omega
          · have hy : nextV es (k : Int) x < 0 := by simpa using ey
            have HS2 : Hid (L ++ misV ((r : Int), (n : Int), es) (k : Int) (ls.take (m + 1)) = LO ++ [((k : Int), x, -1)]) := Lib.hid (by rw [HS.out, if_pos hy, ← List.append_assoc, HLO.out])
            have HE64 : Hid (E64 ((k : Int), x, (-1 : Int))) := Lib.hid ⟨(by show I64 (k : Int); unfold I64; omega), HX64.out, (show I64 (-1) from ⟨by decide, by decide⟩)⟩
            clear hy
            go_wp2_with (at_builtin; refine push_edge rfl (.tmp 35) (.tmp 42) rfl (w.heap.size + 1) _ _ (HOQ.out.alloc _) rfl _ ((k : Int), x, (-1 : Int)) rfl (edC_new _ _ _) HE64.out (by first | omega | (simp; omega)) (by first | omega | (simp; omega)) ?_; intro v2 wv2 o2 g2 p2; have hz2 := g2.size; simp at hz2; have O2 := Lib.hid o2; have B2 := Lib.hid (bel_pushE HQ.out (show w.heap.size + 1 ≤ wq.heap.size by omega) HOQ.out (Nat.le_refl _) g2); have R2 := Lib.hid ((HRQ.out.alloc (Obj.cells #[Value.int IntKind.i64 (k : Int), Value.int IntKind.i64 x, Value.int IntKind.i64 (-1)] 52)).grown g2 (fun b hb hb' => by simp [Value.ownBlock] at hb; subst hb; exact HN2.out hb')); have N2 : Hid (v2.ownBlock ≠ some bl) := Lib.hid fun e => (by rcases p2 with p2 | p2 <;> rw [p2] at e <;> first | exact HN2.out e | (simp at e; done) | (simp at e; omega)); clear o2 g2 p2)
            go_roundw
            case rel => exact ⟨m + 1, by omega, by go_num, by rw [HS2.out]; exact O2.out, R2.out, N2.out, by omega, B2.out⟩
            case measure => simp [intOf]; omega
        · obtain rfl : m = ls.length := by omega
          rw [List.take_length] at HOi
          have HOF : Hid (OwE wj (w.heap.size + 1) _ (misU ((r : Int), (n : Int), es) (k + 1))) := Lib.hid (by rw [HMSK.out]; exact HOi.out)
          obtain ⟨A2, c2, rfl, _⟩ := OwE.form HOi.out
          clear ho hb hrd hne hmv
          go_wp2
          go_roundw
          case rel => exact ⟨k + 1, by omega, by go_num, HOF.out, HBi.out⟩
          case measure => simp [intOf]; omega
    · obtain rfl : k = n := by omega
      have HBF : Hid (Below w.heap.size w wi) := Lib.hid (BX.out.trans (HB.out.mono (by omega)))
      go_wp2
      go_ret
      exact ⟨_, rfl, HO.out.mono (by omega), HBF.out⟩
set_option maxHeartbeats 2000000 in
theorem implMissingSteps_any (v : Value) (g : GrD) (w : World) (h : ArgG w v g) (hf : foldB g = true) :
    Calls Tryz.prog 60 #[v] w fun e w' => ∃ r, e = .returned r ∧ OwE w' w.heap.size r (misU g g.2.1.toNat) ∧ Below w.heap.size w w' := by
  have HG := Lib.hid h
  have HF := Lib.hid hf
  have hgr := (foldB_parts hf).1
  have HLE1 := Lib.hid (fun e he => (edge_of_gr hgr (e := e) he).2.1.1)
  have ONE := Lib.hid (steps_one (foldB_parts hf).2)
  obtain ⟨h13, h40, h120, _⟩ := grB_parts hgr
  obtain ⟨n, hn⟩ : ∃ n : Nat, g.2.1 = (n : Int) := ⟨g.2.1.toNat, by omega⟩
  obtain ⟨r, hr⟩ : ∃ r : Nat, g.1 = (r : Int) := ⟨g.1.toNat, by omega⟩
  obtain ⟨s, rfl, hi1, hi2, ha⟩ := h
  obtain ⟨A, cap, rfl⟩ := ha.form
  obtain ⟨g1, N, es⟩ := g
  simp only at *
  subst hn hr
  have HMS : Hid (∀ k, misU ((r : Int), (n : Int), es) (k + 1) = misU ((r : Int), (n : Int), es) k ++ misV ((r : Int), (n : Int), es) (k : Int) (lettersL r)) := Lib.hid fun k => rfl
  have HML : Hid (∀ k, (misU ((r : Int), (n : Int), es) k).length ≤ k * (2 * r)) := Lib.hid fun k => misU_len _ k
  have HLL := Lib.hid (lettersL_len r)
  have hl64 := lettersL_I64 (n := r) (by omega)
  have HLE := Lib.hid (fun W => letters_any r W (by omega))
  clear ha hf hgr
  simp only [Int.toNat_natCast]
  generalize lettersL r = ls at *
  have HL64 := Lib.hid hl64
  clear hl64
  go_enter Tryz.func60, Tryz.ntmps60
  go_wp2_with fail
  obtain ⟨W1, hW1⟩ : ∃ W, W = w.alloc (Obj.cells #[Value.int IntKind.i64 (r : Int), Value.int IntKind.i64 (n : Int), .slice A es.length cap] 30) := ⟨_, rfl⟩
  obtain ⟨hs1, b1, hc1, _⟩ := gbox hW1
  obtain ⟨W, hW⟩ : ∃ W, W = W1.alloc (Obj.cells #[] 52) := ⟨_, rfl⟩
  have b2 : Below W1.heap.size W1 W := by rw [hW]; exact (Below.refl _ _).alloc (Nat.le_refl _) _
  have hsW : W.heap.size = w.heap.size + 2 := by rw [hW]; simp; omega
  have o0 : OwE W (w.heap.size + 1) (.slice (some ⟨w.heap.size + 1, 0, none⟩) 0 0) [] := by rw [hW]; exact OwE_litN W1 (w.heap.size + 1) hs1 (Nat.le_refl _)
  rw [← hW1, ← hW]
  have BX : Hid (Below w.heap.size w W) := Lib.hid (b1.trans (b2.mono (by omega)))
  have B12 := Lib.hid (b2.mono (show w.heap.size + 1 ≤ W1.heap.size by omega))
  have HC1 := Lib.hid hc1
  have HCL : Hid (∀ w', Below (w.heap.size + 1) W w' → w'.cell? ⟨w.heap.size, 0, none⟩ = some (.int .i64 (r : Int)) ∧ w'.cell? ⟨w.heap.size, 1, none⟩ = some (.int .i64 (n : Int)) ∧ w'.cell? ⟨w.heap.size, 2, none⟩ = some (.slice A es.length cap)) := Lib.hid fun w' hb => HC1.out w' (B12.out.trans hb)
  have HA : Hid (∀ w', Below (w.heap.size + 1) W w' → ArgG w' (.agg #[.int .i64 (r : Int), .int .i64 (n : Int), .slice A es.length cap]) ((r : Int), (n : Int), es)) := Lib.hid fun w' hb => HG.out.below (BX.out.trans (hb.mono (by omega)))
  have HFO : Hid (∀ w', Below (w.heap.size + 1) W w' → Calls Tryz.prog 47 #[.agg #[.int .i64 (r : Int), .int .i64 (n : Int), .slice A es.length cap]] w' fun e w'' => e = .returned (.bool true) ∧ Below w'.heap.size w' w'') := Lib.hid fun w' hb => by
    have h := implIsFolded_any _ _ w' (HA.out w' hb)
    rw [HF.out] at h
    exact h
  have O0 := Lib.hid o0
  clear hW1 hW hc1 b1 b2 HC1 o0
  go_wp2_with fail
  refine (HFO.out W ((Below.refl W.heap.size W).mono (by omega))).mono ?_
  rintro e w3 ⟨rfl, b3⟩
  have hs3 := b3.size
  have O3 := Lib.hid (O0.out.below b3)
  have B3 : Hid (Below (w.heap.size + 1) W w3) := Lib.hid (b3.mono (by omega))
  clear b3
  go_wp2
  go_loopw [3, 4] (fun vo i wr => ∃ k : Nat, k ≤ n ∧ i = .int .i64 k ∧ OwE wr (w.heap.size + 1) vo (misU ((r : Int), (n : Int), es) k) ∧ Below (w.heap.size + 1) W wr) (fun _ i _ => n - (intOf i).toNat)
  case atStart => exact ⟨0, Nat.zero_le _, rfl, O3.out, B3.out⟩
  case round =>
    obtain ⟨k, hk, rfl, ho, hb⟩ := hrel
    have HO := Lib.hid ho
    have HB := Lib.hid hb
    obtain ⟨wi, rfl⟩ : ∃ wi : World, wi = wr := ⟨_, rfl⟩
    clear ho hb
    have hwi := HB.out.size
    obtain ⟨q0, q1, q2⟩ := HCL.out wi HB.out
    obtain ⟨Ao, co, rfl, _⟩ := OwE.form HO.out
    by_cases hlt : k < n
    · have hkI : (k : Int) < (n : Int) := by omega
      go_wp2_with fail
      refine (HLE.out wi).mono ?_
      rintro e w4 ⟨rl, rfl, ol, b4⟩
      have hs4 := b4.size
      have HO4 := Lib.hid (HO.out.below b4)
      have HB4 := Lib.hid (HB.out.trans (b4.mono (by omega)))
      obtain ⟨Al, cl_, rfl, hcl, hml, _, hgl⟩ := OwI.form ol
      have hlen : 0 < ls.length := by have := HLL.out; omega
      obtain ⟨bl, rfl, hbl1, hbl2⟩ := hgl hlen
      unfold maxLen at hml
      have OL := Lib.hid ol.rd
      have HNE : Hid ((Value.slice Ao (misU ((r : Int), (n : Int), es) k).length co).ownBlock ≠ some bl) := Lib.hid fun e => by have := (HO.out.1.lt bl e).2; omega
      have HMK := Lib.hid (HML.out k)
      have HMSK := Lib.hid (HMS.out k)
      have hkr : k * (2 * r) ≤ 40 * 6 := Nat.mul_le_mul (by omega) (by omega)
      generalize misU ((r : Int), (n : Int), es) k = L at *
      have hLl : L.length ≤ 240 := by have := HMK.out; omega
      clear ol b4 hgl q0 q1 q2 HMK hkr
      go_wp2
      go_loopw [3, 22] (fun vo j wr => ∃ m : Nat, m ≤ ls.length ∧ j = .int .i64 m ∧ OwE wr (w.heap.size + 1) vo (L ++ misV ((r : Int), (n : Int), es) (k : Int) (ls.take m)) ∧ RdI wr (.slice (some ⟨bl, 0, none⟩) ls.length cl_) ls ∧ vo.ownBlock ≠ some bl ∧ bl < wr.heap.size ∧ Below (w.heap.size + 1) W wr) (fun _ j _ => ls.length - (intOf j).toNat)
      case atStart => exact ⟨0, Nat.zero_le _, rfl, by simpa [misV] using HO4.out, OL.out, HNE.out, hbl2, HB4.out⟩
      case round =>
        obtain ⟨m, hm, rfl, ho, hrd, hne, hblr, hb⟩ := hrel
        have HOi := Lib.hid ho
        have HBi := Lib.hid hb
        have HRD := Lib.hid hrd
        have HN2 := Lib.hid hne
        obtain ⟨wj, rfl⟩ : ∃ wj : World, wj = wr := ⟨_, rfl⟩
        have hwj := HBi.out.size
        have hws : w.heap.size < wj.heap.size := by omega
        have hmv := misV_len ((r : Int), (n : Int), es) (k : Int) (ls.take m)
        rw [List.length_take] at hmv
        by_cases hlt2 : m < ls.length
        · have HS := Lib.hid (misV_succ ((r : Int), (n : Int), es) (k : Int) ls m hlt2)
          obtain ⟨_, _, hAl, _, hcl'⟩ := hrd.at (by omega)
          obtain ⟨rfl, rfl⟩ : bl = _ ∧ 0 = _ := by simpa using hAl
          have c0 := hcl' m hlt2
          rw [Nat.zero_add] at c0
          have HX64 := Lib.hid (HL64.out ls[m] (by simp))
          obtain ⟨p0, p1, p2⟩ := HCL.out wj HBi.out
          generalize ls[m] = x at c0 HS HX64
          generalize misV ((r : Int), (n : Int), es) (k : Int) (ls.take m) = LV at *
          have hLV : (L ++ LV).length ≤ 1000 := by have := HLL.out; rw [List.length_append]; omega
          generalize hLO : L ++ LV = LO at *
          have HLO := Lib.hid hLO
          obtain ⟨A2, c2, rfl, _⟩ := OwE.form HOi.out
          have HNX := Lib.hid (fun W' (h : ArgG W' (.agg #[.int .i64 (r : Int), .int .i64 (n : Int), .slice A es.length cap]) ((r : Int), (n : Int), es)) => implNextVertex_any _ ((r : Int), (n : Int), es) (k : Int) x W' h (ONE.out (k : Int) x) HLE1.out)
          clear hcl' hAl ho hb hrd hne hmv hLO
          go_wp2_with fail
          refine (HNX.out wj (HA.out wj HBi.out)).mono ?_
          rintro e wq ⟨rfl, bq⟩
          have sq := bq.size
          have HQ := Lib.hid (HBi.out.trans (bq.mono (by omega)))
          have HOQ := Lib.hid (HOi.out.below bq)
          have HRQ := Lib.hid (HRD.out.below bq)
          clear bq c0 p0 p1 p2
          rcases ey : decide (nextV es (k : Int) x < 0) with _ | _
          · have hy : ¬ nextV es (k : Int) x < 0 := by simpa using ey
            have HS2 : Hid (L ++ misV ((r : Int), (n : Int), es) (k : Int) (ls.take (m + 1)) = LO) := Lib.hid (by rw [HS.out, if_neg hy, List.append_nil]; exact HLO.out)
            clear hy
            go_wp2
            go_roundw
            case rel => exact ⟨m + 1, by omega, by go_num, by rw [HS2.out]; exact HOQ.out, HRQ.out, HN2.out, by omega, HQ.out⟩
            case measure => simp [intOf]; omega
          · have hy : nextV es (k : Int) x < 0 := by simpa using ey
            have HS2 : Hid (L ++ misV ((r : Int), (n : Int), es) (k : Int) (ls.take (m + 1)) = LO ++ [((k : Int), x, -1)]) := Lib.hid (by rw [HS.out, if_pos hy, ← List.append_assoc, HLO.out])
            have HE64 : Hid (E64 ((k : Int), x, (-1 : Int))) := Lib.hid ⟨(by show I64 (k : Int); unfold I64; omega), HX64.out, (show I64 (-1) from ⟨by decide, by decide⟩)⟩
            clear hy
            go_wp2_with (at_builtin; refine push_edge rfl (.tmp 31) (.tmp 35) rfl (w.heap.size + 1) _ _ (HOQ.out.alloc _) rfl _ ((k : Int), x, (-1 : Int)) rfl (edC_new _ _ _) HE64.out (by first | omega | (simp; omega)) (by first | omega | (simp; omega)) ?_; intro v2 wv2 o2 g2 p2; have hz2 := g2.size; simp at hz2; have O2 := Lib.hid o2; have B2 := Lib.hid (bel_pushE HQ.out (show w.heap.size + 1 ≤ wq.heap.size by omega) HOQ.out (Nat.le_refl _) g2); have R2 := Lib.hid ((HRQ.out.alloc (Obj.cells #[Value.int IntKind.i64 (k : Int), Value.int IntKind.i64 x, Value.int IntKind.i64 (-1)] 52)).grown g2 (fun b hb hb' => by simp [Value.ownBlock] at hb; subst hb; exact HN2.out hb')); have N2 : Hid (v2.ownBlock ≠ some bl) := Lib.hid fun e => (by rcases p2 with p2 | p2 <;> rw [p2] at e <;> first | exact HN2.out e | (simp at e; done) | (simp at e; omega)); clear o2 g2 p2)
            go_roundw
            case rel => exact ⟨m + 1, by omega, by go_num, by rw [HS2.out]; exact O2.out, R2.out, N2.out, by omega, B2.out⟩
            case measure => simp [intOf]; omega
        · obtain rfl : m = ls.length := by omega
          rw [List.take_length] at HOi
          have HOF : Hid (OwE wj (w.heap.size + 1) _ (misU ((r : Int), (n : Int), es) (k + 1))) := Lib.hid (by rw [HMSK.out]; exact HOi.out)
          obtain ⟨A2, c2, rfl, _⟩ := OwE.form HOi.out
          clear ho hb hrd hne hmv
          go_wp2
          go_roundw
          case rel => exact ⟨k + 1, by omega, by go_num, HOF.out, HBi.out⟩
          case measure => simp [intOf]; omega
    · obtain rfl : k = n := by omega
      have HBF : Hid (Below w.heap.size w wi) := Lib.hid (BX.out.trans (HB.out.mono (by omega)))
      go_wp2
      go_ret
      exact ⟨_, rfl, HO.out.mono (by omega), HBF.out⟩
set_option maxHeartbeats 1000000 in
theorem specIsFiniteIndex_any (v : Value) (g : GrD) (w : World) (h : ArgG w v g) :
    Calls Tryz.prog 34 #[v] w fun e w' => e = .returned (.bool (finB g)) ∧ Below w.heap.size w w' := by
  have HG := Lib.hid h
  obtain ⟨s, rfl, hi1, hi2, ha⟩ := h
  obtain ⟨A, cap, rfl⟩ := ha.form
  obtain ⟨g1, N, es⟩ := g
  simp only at *
  clear ha
  go_enter Tryz.func34, Tryz.ntmps34
  go_wp2_with fail
  obtain ⟨W, hW⟩ : ∃ W, W = w.alloc (Obj.cells #[Value.int IntKind.i64 g1, Value.int IntKind.i64 N, .slice A es.length cap] 30) := ⟨_, rfl⟩
  obtain ⟨hsW, b1, hc1, _⟩ := gbox hW
  rw [← hW]
  have BX := Lib.hid b1
  have HCL := Lib.hid hc1
  have HA : Hid (∀ w', Below (w.heap.size + 1) W w' → ArgG w' (.agg #[.int .i64 g1, .int .i64 N, .slice A es.length cap]) (g1, N, es)) := Lib.hid fun w' hb => HG.out.below (BX.out.trans (hb.mono (by omega)))
  clear hW b1 hc1
  refine (specIsSubgroup_any _ (g1, N, es) W (HA.out W ((Below.refl W.heap.size W).mono (by omega)))).mono ?_
  rintro e w2 ⟨rfl, b2⟩
  have hs2 := b2.size
  have B2 : Hid (Below (w.heap.size + 1) W w2) := Lib.hid (b2.mono (by omega))
  clear b2
  obtain ⟨q0, q1, q2⟩ := HCL.out w2 B2.out
  rcases ec : coreB (g1, N, es) with _ | _
  · have F : Hid (finB (g1, N, es) = false) := Lib.hid (by unfold finB; rw [ec]; rfl)
    have HBF : Hid (Below w.heap.size w w2) := Lib.hid (BX.out.trans (B2.out.mono (by omega)))
    clear ec
    go_wp2
    go_ret
    exact ⟨ret_bool F.out.symm, HBF.out⟩
  · have hfold : foldB (g1, N, es) = true := by have h := ec; unfold coreB at h; simp only [Bool.and_eq_true] at h; exact h.1.1
    have F : Hid (finB (g1, N, es) = decide ((misU (g1, N, es) N.toNat).length = 0)) := Lib.hid (by unfold finB; rw [ec]; rfl)
    have HML := Lib.hid (specMissingSteps_any _ (g1, N, es) w2 (HA.out w2 B2.out) hfold)
    clear ec hfold
    go_wp2_with fail
    refine HML.out.mono ?_
    rintro e w3 ⟨r3, rfl, o3, b3⟩
    have hs3 := b3.size
    have HBF : Hid (Below w.heap.size w w3) := Lib.hid (BX.out.trans ((B2.out.trans (b3.mono (by omega))).mono (by omega)))
    obtain ⟨A3, c3, rfl, _⟩ := o3.form
    simp only at *
    generalize (misU (g1, N, es) N.toNat).length = M at *
    clear o3 b3 q0 q1 q2 HML
    rcases eM : decide (M = 0) with _ | _
    · have hM : ¬ M = 0 := by simpa using eM
      have hMi : ¬ (M : Int) = 0 := by omega
      clear hM
      go_wp2
      go_ret
      exact ⟨ret_bool (by rw [F.out, eM]; simpa using hMi), HBF.out⟩
    · obtain rfl : M = 0 := by simpa using eM
      go_wp2
      go_ret
      exact ⟨ret_bool (by rw [F.out, eM]), HBF.out⟩
set_option maxHeartbeats 1000000 in
theorem implIsFiniteIndex_any (v : Value) (g : GrD) (w : World) (h : ArgG w v g) :
    Calls Tryz.prog 37 #[v] w fun e w' => e = .returned (.bool (finB g)) ∧ Below w.heap.size w w' := by
  have HG := Lib.hid h
  obtain ⟨s, rfl, hi1, hi2, ha⟩ := h
  obtain ⟨A, cap, rfl⟩ := ha.form
  obtain ⟨g1, N, es⟩ := g
  simp only at *
  clear ha
  go_enter Tryz.func37, Tryz.ntmps37
  go_wp2_with fail
  obtain ⟨W, hW⟩ : ∃ W, W = w.alloc (Obj.cells #[Value.int IntKind.i64 g1, Value.int IntKind.i64 N, .slice A es.length cap] 30) := ⟨_, rfl⟩
  obtain ⟨hsW, b1, hc1, _⟩ := gbox hW
  rw [← hW]
  have BX := Lib.hid b1
  have HCL := Lib.hid hc1
  have HA : Hid (∀ w', Below (w.heap.size + 1) W w' → ArgG w' (.agg #[.int .i64 g1, .int .i64 N, .slice A es.length cap]) (g1, N, es)) := Lib.hid fun w' hb => HG.out.below (BX.out.trans (hb.mono (by omega)))
  clear hW b1 hc1
  refine (implIsCore_any _ (g1, N, es) W (HA.out W ((Below.refl W.heap.size W).mono (by omega)))).mono ?_
  rintro e w2 ⟨rfl, b2⟩
  have hs2 := b2.size
  have B2 : Hid (Below (w.heap.size + 1) W w2) := Lib.hid (b2.mono (by omega))
  clear b2
  obtain ⟨q0, q1, q2⟩ := HCL.out w2 B2.out
  rcases ec : coreB (g1, N, es) with _ | _
  · have F : Hid (finB (g1, N, es) = false) := Lib.hid (by unfold finB; rw [ec]; rfl)
    have HBF : Hid (Below w.heap.size w w2) := Lib.hid (BX.out.trans (B2.out.mono (by omega)))
    clear ec
    go_wp2
    go_ret
    exact ⟨ret_bool F.out.symm, HBF.out⟩
  · have hfold : foldB (g1, N, es) = true := by have h := ec; unfold coreB at h; simp only [Bool.and_eq_true] at h; exact h.1.1
    have F : Hid (finB (g1, N, es) = decide ((misU (g1, N, es) N.toNat).length = 0)) := Lib.hid (by unfold finB; rw [ec]; rfl)
    have HML := Lib.hid (implMissingSteps_any _ (g1, N, es) w2 (HA.out w2 B2.out) hfold)
    clear ec hfold
    go_wp2_with fail
    refine HML.out.mono ?_
    rintro e w3 ⟨r3, rfl, o3, b3⟩
    have hs3 := b3.size
    have HBF : Hid (Below w.heap.size w w3) := Lib.hid (BX.out.trans ((B2.out.trans (b3.mono (by omega))).mono (by omega)))
    obtain ⟨A3, c3, rfl, _⟩ := o3.form
    simp only at *
    generalize (misU (g1, N, es) N.toNat).length = M at *
    clear o3 b3 q0 q1 q2 HML
    rcases eM : decide (M = 0) with _ | _
    · have hM : ¬ M = 0 := by simpa using eM
      have hMi : ¬ (M : Int) = 0 := by omega
      clear hM
      go_wp2
      go_ret
      exact ⟨ret_bool (by rw [F.out, eM]; simpa using hMi), HBF.out⟩
    · obtain rfl : M = 0 := by simpa using eM
      go_wp2
      go_ret
      exact ⟨ret_bool (by rw [F.out, eM]), HBF.out⟩
set_option maxHeartbeats 2000000 in
theorem specConjugatesOf_any (v : Value) (g : GrD) (w : World) (h : ArgG w v g) :
    Calls Tryz.prog 17 #[v] w fun e w' => ∃ r, e = .returned r ∧ OGS w.heap.size w'.heap.size r (conF g) w' ∧ Below w.heap.size w w' := by
  have HG := Lib.hid h
  obtain ⟨s, rfl, hi1, hi2, ha⟩ := h
  obtain ⟨A, cap, rfl⟩ := ha.form
  obtain ⟨g1, N, es⟩ := g
  simp only at *
  clear ha
  go_enter Tryz.func17, Tryz.ntmps17
  go_wp2_with fail
  obtain ⟨W1, hW1⟩ : ∃ W, W = w.alloc (Obj.cells #[Value.int IntKind.i64 g1, Value.int IntKind.i64 N, .slice A es.length cap] 30) := ⟨_, rfl⟩
  obtain ⟨hs1, b1, hc1, _⟩ := gbox hW1
  obtain ⟨W, hW⟩ : ∃ W, W = W1.alloc (Obj.cells #[] 30) := ⟨_, rfl⟩
  have b2 : Below W1.heap.size W1 W := by rw [hW]; exact (Below.refl _ _).alloc (Nat.le_refl _) _
  have hsW : W.heap.size = w.heap.size + 2 := by rw [hW]; simp; omega
  have o0 : OGS (w.heap.size + 1) W.heap.size (.slice (some ⟨w.heap.size + 1, 0, none⟩) 0 0) [] W := by rw [hsW, hW]; exact OGS_lit W1 (w.heap.size + 1) hs1 (Nat.le_refl _)
  rw [← hW1, ← hW]
  have BX : Hid (Below w.heap.size w W) := Lib.hid (b1.trans (b2.mono (by omega)))
  have B12 := Lib.hid (b2.mono (show w.heap.size + 1 ≤ W1.heap.size by omega))
  have HC1 := Lib.hid hc1
  have HCL : Hid (∀ w', Below (w.heap.size + 1) W w' → w'.cell? ⟨w.heap.size, 0, none⟩ = some (.int .i64 g1) ∧ w'.cell? ⟨w.heap.size, 1, none⟩ = some (.int .i64 N) ∧ w'.cell? ⟨w.heap.size, 2, none⟩ = some (.slice A es.length cap)) := Lib.hid fun w' hb => HC1.out w' (B12.out.trans hb)
  have HA : Hid (∀ w', Below (w.heap.size + 1) W w' → ArgG w' (.agg #[.int .i64 g1, .int .i64 N, .slice A es.length cap]) (g1, N, es)) := Lib.hid fun w' hb => HG.out.below (BX.out.trans (hb.mono (by omega)))
  have HFI : Hid (∀ w', Below (w.heap.size + 1) W w' → Calls Tryz.prog 34 #[.agg #[.int .i64 g1, .int .i64 N, .slice A es.length cap]] w' fun e w'' => e = .returned (.bool (finB (g1, N, es))) ∧ Below w'.heap.size w' w'') := Lib.hid fun w' hb => specIsFiniteIndex_any _ _ w' (HA.out w' hb)
  have O0 := Lib.hid o0
  clear hW1 hW hc1 b1 b2 HC1 o0
  rcases ec : finB (g1, N, es) with _ | _
  · have F : Hid (conF (g1, N, es) = []) := Lib.hid (by unfold conF; rw [ec]; rfl)
    rw [ec] at HFI
    clear ec
    go_loopw [3, 4] (fun out i wr => i = .int .i64 0 ∧ OGS (w.heap.size + 1) wr.heap.size out [] wr ∧ Below (w.heap.size + 1) W wr) (fun _ _ _ => 0)
    case atStart => exact ⟨rfl, O0.out, (Below.refl W.heap.size W).mono (by omega)⟩
    case round =>
      obtain ⟨rfl, ho, hb⟩ := hrel
      have HO := Lib.hid ho
      have HB := Lib.hid hb
      obtain ⟨wi, rfl⟩ : ∃ wi : World, wi = wr := ⟨_, rfl⟩
      clear ho hb
      have hwi := HB.out.size
      obtain ⟨q0, q1, q2⟩ := HCL.out wi HB.out
      obtain ⟨Ao, co, rfl, _⟩ := OwnL.len HO.out
      have HOF := Lib.hid (OwnL.widen HO.out (show w.heap.size ≤ w.heap.size + 1 by omega) (Nat.le_refl _))
      have HBF : Hid (Below w.heap.size w wi) := Lib.hid (BX.out.trans (HB.out.mono (by omega)))
      rcases e0 : decide ((0 : Int) < N) with _ | _
      · go_wp2
        go_ret
        rw [F.out]
        exact ⟨_, rfl, HOF.out, HBF.out⟩
      · go_wp2_with fail
        refine (HFI.out wi HB.out).mono ?_
        rintro e w3 ⟨rfl, b3⟩
        have HOF3 := Lib.hid ((OwnL.keep HOF.out EG.stable fun b _ hlt => b3.block b hlt).widen (Nat.le_refl _) b3.size)
        have HBF3 := Lib.hid (HBF.out.trans (b3.mono (by omega)))
        clear b3 q0 q1 q2
        go_wp2
        go_ret
        rw [F.out]
        exact ⟨_, rfl, HOF3.out, HBF3.out⟩
  have hfold := finB_fold ec
  have HFD := Lib.hid hfold
  have hgr := (foldB_parts hfold).1
  obtain ⟨h13, h40, h120, _⟩ := grB_parts hgr
  simp only at h13 h40 h120
  obtain ⟨n, rfl⟩ : ∃ n : Nat, N = (n : Int) := ⟨N.toNat, by omega⟩
  have F : Hid (conF (g1, (n : Int), es) = conU (g1, (n : Int), es) n) := Lib.hid (by unfold conF; rw [if_pos ec]; rfl)
  have HUL := Lib.hid (conU_len (g1, (n : Int), es))
  rw [ec] at HFI
  clear ec hfold hgr
  have OS := O0
  have BS : Hid (Below (w.heap.size + 1) W W) := Lib.hid ((Below.refl W.heap.size W).mono (by omega))
  go_loopw [3, 4] (fun out i wr => ∃ u : Nat, u ≤ n ∧ i = .int .i64 u ∧ OGS (w.heap.size + 1) wr.heap.size out (conU (g1, (n : Int), es) u) wr ∧ Below (w.heap.size + 1) W wr) (fun _ i _ => n - (intOf i).toNat)
  case atStart => exact ⟨0, Nat.zero_le _, rfl, OS.out, BS.out⟩
  case round =>
    obtain ⟨u, hu, rfl, ho, hb⟩ := hrel
    have HO1 := Lib.hid ho
    have HB1 := Lib.hid hb
    obtain ⟨wi, rfl⟩ : ∃ wi : World, wi = wr := ⟨_, rfl⟩
    clear ho hb
    have hwi := HB1.out.size
    obtain ⟨q0, q1, q2⟩ := HCL.out wi HB1.out
    by_cases hlt : u < n
    · have huI : (u : Int) < (n : Int) := by omega
      have HLV := Lib.hid (HUL.out u)
      have HST : Hid (conU (g1, (n : Int), es) (u + 1) = addG (conU (g1, (n : Int), es) u) (movG (g1, (n : Int), es) u)) := Lib.hid rfl
      generalize conU (g1, (n : Int), es) u = LO at *
      have hlo : LO.length ≤ 1000 := by have := HLV.out; omega
      obtain ⟨Ao, co, rfl, _⟩ := OwnL.len HO1.out
      go_wp2_with fail
      refine (HFI.out wi HB1.out).mono ?_
      rintro e wi2 ⟨rfl, b3⟩
      have hs3 := b3.size
      have HB2 := Lib.hid (HB1.out.trans (b3.mono (by omega)))
      have BJ2 := Lib.hid b3
      clear b3 q0 q1 q2
      obtain ⟨q0, q1, q2⟩ := HCL.out wi2 HB2.out
      go_wp2_with fail
      refine (specMoveBase_any _ (g1, (n : Int), es) u wi2 (HA.out wi2 HB2.out) HFD.out huI).mono ?_
      rintro e w5 ⟨r5, rfl, o5, b5⟩
      have hs5 := b5.size
      generalize movG (g1, (n : Int), es) u = K at *
      obtain ⟨k1, k2, ks⟩ := K
      have HK5 := Lib.hid o5.arg
      obtain ⟨s5, rfl, hj1, hj2, oe5⟩ := o5
      obtain ⟨A5, c5, rfl, _⟩ := oe5.form
      simp only at *
      have OE5 := Lib.hid oe5
      have BJ5 := Lib.hid (BJ2.out.trans (b5.mono (by omega)))
      have HWX : ∃ WX, WX = w5.alloc (Obj.cells #[Value.int IntKind.i64 k1, Value.int IntKind.i64 k2, .slice A5 ks.length c5] 30) := ⟨_, rfl⟩
      obtain ⟨WX, hWX⟩ := HWX
      obtain ⟨hsX, bX, hcX, _⟩ := gbox hWX
      have HCX := Lib.hid hcX
      have BJX := Lib.hid (BJ5.out.trans (bX.mono (by omega)))
      have HKX := Lib.hid (HK5.out.below bX)
      have OEX := Lib.hid (OE5.out.below bX)
      have HOX := Lib.hid ((OwnL.keep HO1.out EG.stable fun b _ hlt => BJX.out.block b hlt).widen (Nat.le_refl _) BJX.out.size)
      clear oe5 b5 bX hcX q0 q1 q2
      have hzX := BJX.out.size
      go_wp2_with fail
      rw [← hWX]
      clear hWX
      go_loopw [7, 8] (fun t i wr => ∃ j : Nat, j ≤ LO.length ∧ i = .int .i64 j ∧ t = .bool (inG (LO.take j) (k1, k2, ks)) ∧ Below WX.heap.size WX wr) (fun _ i _ => LO.length - (intOf i).toNat)
      case atStart => exact ⟨0, Nat.zero_le _, rfl, by simp [inG], Below.refl _ _⟩
      case round =>
        obtain ⟨j, hj, rfl, rfl, hb⟩ := hrel
        have HBj := Lib.hid hb
        obtain ⟨wj, rfl⟩ : ∃ wj : World, wj = wr := ⟨_, rfl⟩
        have hwj := hb.size
        obtain ⟨z0, z1, z2⟩ := HCX.out wj (hb.mono (by omega))
        have hzz : w5.heap.size < wj.heap.size := by omega
        by_cases hlt2 : j < LO.length
        · have HIT := Lib.hid (inG_take LO (k1, k2, ks) j hlt2)
          obtain ⟨gb, off, sE, hAo, hgb, c0, c1, c2, hax⟩ := ((OGS.arg HOX.out).below hb).at hlt2
          subst hAo
          have HAX := Lib.hid hax
          generalize LO[j] = D at *
          obtain ⟨d1, d2, ds⟩ := D
          simp only at *
          have HEQ : Hid (∀ W' , Below wj.heap.size wj W' → Calls Tryz.prog 36 #[.agg #[.int .i64 d1, .int .i64 d2, sE], .agg #[.int .i64 k1, .int .i64 k2, .slice A5 ks.length c5]] W' fun e w' => e = .returned (.bool (decide ((d1, d2, ds) = (k1, k2, ks)))) ∧ Below W'.heap.size W' w') := Lib.hid fun W' h => specEqualGraphs_any _ _ (d1, d2, ds) (k1, k2, ks) W' (HAX.out.below h) ((HKX.out.below HBj.out).below h)
          obtain ⟨be, hbe⟩ : ∃ be, be = decide ((d1, d2, ds) = (k1, k2, ks)) := ⟨_, rfl⟩
          rw [← hbe] at HEQ HIT
          clear hb hax hbe
          rcases et : inG (LO.take j) (k1, k2, ks) with _ | _
          · rw [et] at HIT
            go_wp2_with fail
            have f0 := BelW.cell z0 hzz
            have f1 := BelW.cell z1 hzz
            have f2 := BelW.cell z2 hzz
            have f3 := BelW.cell c0 hgb
            have f4 := BelW.cell c1 hgb
            have f5 := BelW.cell c2 hgb
            (refine wp_region_quiet_bel (by kernel_rfl) (by kernel_rfl) ?_; (repeat (go_big_quiet_step (first | (go_at_call 36; exact Calls.bel_of (HEQ.out _ (BelW.h _)))))); refine wpQuiet_nil ?_; intro wq hw'; obtain ⟨pq, hw''⟩ := hw'; have bq := pq.h; rw [← hw''] at bq; clear hw'' pq)
            have sq := bq.size
            have HQ := Lib.hid (HBj.out.trans (bq.mono (by omega)))
            clear f0 f1 f2 f3 f4 f5 bq z0 z1 z2 c0 c1 c2
            rw [Bool.false_or] at HIT
            go_wp2
            go_roundw
            case rel => exact ⟨j + 1, by omega, by go_num, by rw [HIT.out], HQ.out⟩
            case measure => simp [intOf]; omega
          · rw [et] at HIT
            go_wp2_with fail
            (refine wp_region_quiet_bel (by kernel_rfl) (by kernel_rfl) ?_; (repeat (go_big_quiet_step (fail))); refine wpQuiet_nil ?_; intro wq hw'; obtain ⟨pq, hw''⟩ := hw'; have bq := pq.h; rw [← hw''] at bq; clear hw'' pq)
            have sq := bq.size
            have HQ := Lib.hid (HBj.out.trans (bq.mono (by omega)))
            clear bq z0 z1 z2 c0 c1 c2
            rw [Bool.true_or] at HIT
            go_wp2
            go_roundw
            case rel => exact ⟨j + 1, by omega, by go_num, by rw [HIT.out], HQ.out⟩
            case measure => simp [intOf]; omega
        · obtain rfl : j = LO.length := by omega
          rw [List.take_length]
          have BJ7 := Lib.hid (BJX.out.trans (hb.mono (by omega)))
          have OE7 := Lib.hid (OEX.out.below hb)
          clear hb
          rcases ei : inG LO (k1, k2, ks) with _ | _
          · have HAD : Hid (addG LO (k1, k2, ks) = LO ++ [(k1, k2, ks)]) := Lib.hid (by unfold addG; rw [ei]; rfl)
            go_wp2_with (at_builtin; refine push_graph rfl (.tmp 43) (.tmp 45) rfl HO1.out (show w.heap.size + 1 ≤ wi.heap.size by omega) (BJ7.out.alloc BJ7.out.size _) rfl _ (.slice A5 ks.length c5) (k1, k2, ks) rfl (OE7.out.alloc _) hj1 hj2 (by omega) (gr_lit _ _ rfl _ _ _ _) rfl (by omega) ?_; intro v8 w8 o8 g8; have O8 := Lib.hid o8; have B8 : Hid (Below (w.heap.size + 1) W w8) := Lib.hid ((HB1.out.trans ((BJ7.out.alloc BJ7.out.size (Obj.cells #[Value.int IntKind.i64 k1, Value.int IntKind.i64 k2, .slice A5 ks.length c5] 30)).mono (by omega))).grown g8 (by have := BJ7.out.size; simp <;> omega) (fun c hc => (HO1.out.lt hc).1)); clear o8 g8)
            go_roundw
            case rel => exact ⟨u + 1, by omega, by go_num, by rw [HST.out, HAD.out]; exact O8.out, B8.out⟩
            case measure => simp [intOf]; omega
          · have HAD : Hid (addG LO (k1, k2, ks) = LO) := Lib.hid (by unfold addG; rw [ei]; rfl)
            have HO7 := Lib.hid ((OwnL.keep HO1.out EG.stable fun b _ hlt => BJ7.out.block b hlt).widen (Nat.le_refl _) BJ7.out.size)
            have HB7 := Lib.hid (HB1.out.trans (BJ7.out.mono (show w.heap.size + 1 ≤ wi.heap.size by omega)))
            clear z0 z1 z2
            go_wp2
            go_roundw
            case rel => exact ⟨u + 1, by omega, by go_num, by rw [HST.out, HAD.out]; exact HO7.out, HB7.out⟩
            case measure => simp [intOf]; omega
    · obtain rfl : u = n := by omega
      obtain ⟨Ao, co, hov, _⟩ := OwnL.len HO1.out
      subst hov
      have HOF := Lib.hid (OwnL.widen HO1.out (show w.heap.size ≤ w.heap.size + 1 by omega) (Nat.le_refl _))
      have HBF : Hid (Below w.heap.size w wi) := Lib.hid (BX.out.trans (HB1.out.mono (by omega)))
      go_wp2
      go_ret
      rw [F.out]
      exact ⟨_, rfl, HOF.out, HBF.out⟩
set_option maxHeartbeats 2000000 in
theorem implConjugatesOf_any (v : Value) (g : GrD) (w : World) (h : ArgG w v g) :
    Calls Tryz.prog 18 #[v] w fun e w' => ∃ r, e = .returned r ∧ OGS w.heap.size w'.heap.size r (conF g) w' ∧ Below w.heap.size w w' := by
  have HG := Lib.hid h
  obtain ⟨s, rfl, hi1, hi2, ha⟩ := h
  obtain ⟨A, cap, rfl⟩ := ha.form
  obtain ⟨g1, N, es⟩ := g
  simp only at *
  clear ha
  go_enter Tryz.func18, Tryz.ntmps18
  go_wp2_with fail
  obtain ⟨W1, hW1⟩ : ∃ W, W = w.alloc (Obj.cells #[Value.int IntKind.i64 g1, Value.int IntKind.i64 N, .slice A es.length cap] 30) := ⟨_, rfl⟩
  obtain ⟨hs1, b1, hc1, _⟩ := gbox hW1
  obtain ⟨W, hW⟩ : ∃ W, W = W1.alloc (Obj.cells #[] 30) := ⟨_, rfl⟩
  have b2 : Below W1.heap.size W1 W := by rw [hW]; exact (Below.refl _ _).alloc (Nat.le_refl _) _
  have hsW : W.heap.size = w.heap.size + 2 := by rw [hW]; simp; omega
  have o0 : OGS (w.heap.size + 1) W.heap.size (.slice (some ⟨w.heap.size + 1, 0, none⟩) 0 0) [] W := by rw [hsW, hW]; exact OGS_lit W1 (w.heap.size + 1) hs1 (Nat.le_refl _)
  rw [← hW1, ← hW]
  have BX : Hid (Below w.heap.size w W) := Lib.hid (b1.trans (b2.mono (by omega)))
  have B12 := Lib.hid (b2.mono (show w.heap.size + 1 ≤ W1.heap.size by omega))
  have HC1 := Lib.hid hc1
  have HCL : Hid (∀ w', Below (w.heap.size + 1) W w' → w'.cell? ⟨w.heap.size, 0, none⟩ = some (.int .i64 g1) ∧ w'.cell? ⟨w.heap.size, 1, none⟩ = some (.int .i64 N) ∧ w'.cell? ⟨w.heap.size, 2, none⟩ = some (.slice A es.length cap)) := Lib.hid fun w' hb => HC1.out w' (B12.out.trans hb)
  have HA : Hid (∀ w', Below (w.heap.size + 1) W w' → ArgG w' (.agg #[.int .i64 g1, .int .i64 N, .slice A es.length cap]) (g1, N, es)) := Lib.hid fun w' hb => HG.out.below (BX.out.trans (hb.mono (by omega)))
  have HFI : Hid (∀ w', Below (w.heap.size + 1) W w' → Calls Tryz.prog 37 #[.agg #[.int .i64 g1, .int .i64 N, .slice A es.length cap]] w' fun e w'' => e = .returned (.bool (finB (g1, N, es))) ∧ Below w'.heap.size w' w'') := Lib.hid fun w' hb => implIsFiniteIndex_any _ _ w' (HA.out w' hb)
  have O0 := Lib.hid o0
  clear hW1 hW hc1 b1 b2 HC1 o0
  refine (HFI.out W ((Below.refl W.heap.size W).mono (by omega))).mono ?_
  rintro e w2 ⟨rfl, b2⟩
  have hs2 := b2.size
  have BS : Hid (Below (w.heap.size + 1) W w2) := Lib.hid (b2.mono (by omega))
  have OS := Lib.hid ((OwnL.keep O0.out EG.stable fun b _ hlt => b2.block b hlt).widen (Nat.le_refl _) b2.size)
  clear b2
  rcases ec : finB (g1, N, es) with _ | _
  · have F : Hid (conF (g1, N, es) = []) := Lib.hid (by unfold conF; rw [ec]; rfl)
    have HOF := Lib.hid (OwnL.widen OS.out (show w.heap.size ≤ w.heap.size + 1 by omega) (Nat.le_refl _))
    have HBF : Hid (Below w.heap.size w w2) := Lib.hid (BX.out.trans (BS.out.mono (by omega)))
    clear ec
    go_wp2
    go_ret
    rw [F.out]
    exact ⟨_, rfl, HOF.out, HBF.out⟩
  have hfold := finB_fold ec
  have HFD := Lib.hid hfold
  have hgr := (foldB_parts hfold).1
  obtain ⟨h13, h40, h120, _⟩ := grB_parts hgr
  simp only at h13 h40 h120
  obtain ⟨n, rfl⟩ : ∃ n : Nat, N = (n : Int) := ⟨N.toNat, by omega⟩
  have F : Hid (conF (g1, (n : Int), es) = conU (g1, (n : Int), es) n) := Lib.hid (by unfold conF; rw [if_pos ec]; rfl)
  have HUL := Lib.hid (conU_len (g1, (n : Int), es))
  clear ec hfold hgr
  go_wp2
  go_loopw [3, 4] (fun out i wr => ∃ u : Nat, u ≤ n ∧ i = .int .i64 u ∧ OGS (w.heap.size + 1) wr.heap.size out (conU (g1, (n : Int), es) u) wr ∧ Below (w.heap.size + 1) W wr) (fun _ i _ => n - (intOf i).toNat)
  case atStart => exact ⟨0, Nat.zero_le _, rfl, OS.out, BS.out⟩
  case round =>
    obtain ⟨u, hu, rfl, ho, hb⟩ := hrel
    have HO1 := Lib.hid ho
    have HB1 := Lib.hid hb
    obtain ⟨wi, rfl⟩ : ∃ wi : World, wi = wr := ⟨_, rfl⟩
    clear ho hb
    have hwi := HB1.out.size
    obtain ⟨q0, q1, q2⟩ := HCL.out wi HB1.out
    by_cases hlt : u < n
    · have huI : (u : Int) < (n : Int) := by omega
      have HLV := Lib.hid (HUL.out u)
      have HST : Hid (conU (g1, (n : Int), es) (u + 1) = addG (conU (g1, (n : Int), es) u) (movG (g1, (n : Int), es) u)) := Lib.hid rfl
      generalize conU (g1, (n : Int), es) u = LO at *
      have hlo : LO.length ≤ 1000 := by have := HLV.out; omega
      obtain ⟨Ao, co, rfl, _⟩ := OwnL.len HO1.out
      obtain ⟨wi2, hwi2⟩ : ∃ wi2, wi2 = wi := ⟨_, rfl⟩
      have HB2 : Hid (Below (w.heap.size + 1) W wi2) := Lib.hid (by rw [hwi2]; exact HB1.out)
      have BJ2 : Hid (Below wi.heap.size wi wi2) := Lib.hid (by rw [hwi2]; exact Below.refl _ _)
      have hs3 : wi.heap.size ≤ wi2.heap.size := BJ2.out.size
      rw [← hwi2] at q0 q1 q2 ⊢
      replace hwi2 := Lib.hid hwi2
      go_wp2_with fail
      refine (implMoveBase_any _ (g1, (n : Int), es) u wi2 (HA.out wi2 HB2.out) HFD.out huI).mono ?_
      rintro e w5 ⟨r5, rfl, o5, b5⟩
      have hs5 := b5.size
      generalize movG (g1, (n : Int), es) u = K at *
      obtain ⟨k1, k2, ks⟩ := K
      have HK5 := Lib.hid o5.arg
      obtain ⟨s5, rfl, hj1, hj2, oe5⟩ := o5
      obtain ⟨A5, c5, rfl, _⟩ := oe5.form
      simp only at *
      have OE5 := Lib.hid oe5
      have BJ5 := Lib.hid (BJ2.out.trans (b5.mono (by omega)))
      have HWX : ∃ WX, WX = w5.alloc (Obj.cells #[Value.int IntKind.i64 k1, Value.int IntKind.i64 k2, .slice A5 ks.length c5] 30) := ⟨_, rfl⟩
      obtain ⟨WX, hWX⟩ := HWX
      obtain ⟨hsX, bX, hcX, _⟩ := gbox hWX
      have HCX := Lib.hid hcX
      have BJX := Lib.hid (BJ5.out.trans (bX.mono (by omega)))
      have HKX := Lib.hid (HK5.out.below bX)
      have OEX := Lib.hid (OE5.out.below bX)
      have HOX := Lib.hid ((OwnL.keep HO1.out EG.stable fun b _ hlt => BJX.out.block b hlt).widen (Nat.le_refl _) BJX.out.size)
      clear oe5 b5 bX hcX q0 q1 q2
      have hzX := BJX.out.size
      go_wp2_with fail
      rw [← hWX]
      clear hWX
      refine (implIsListed_any _ _ LO (k1, k2, ks) WX (OGS.arg HOX.out) HKX.out).mono ?_
      rintro e w7 ⟨rfl, b7⟩
      have hs7 := b7.size
      obtain ⟨z0, z1, z2⟩ := HCX.out w7 (b7.mono (by omega))
      have BJ7 := Lib.hid (BJX.out.trans (b7.mono BJX.out.size))
      have OE7 := Lib.hid (OEX.out.below b7)
      clear b7
      rcases ei : inG LO (k1, k2, ks) with _ | _
      · have HAD : Hid (addG LO (k1, k2, ks) = LO ++ [(k1, k2, ks)]) := Lib.hid (by unfold addG; rw [ei]; rfl)
        clear ei
        go_wp2_with (at_builtin; refine push_graph rfl (.tmp 28) (.tmp 30) rfl HO1.out (show w.heap.size + 1 ≤ wi.heap.size by omega) (BJ7.out.alloc BJ7.out.size _) rfl _ (.slice A5 ks.length c5) (k1, k2, ks) rfl (OE7.out.alloc _) hj1 hj2 (by omega) (gr_lit _ _ rfl _ _ _ _) rfl (by omega) ?_; intro v8 w8 o8 g8; have O8 := Lib.hid o8; have B8 : Hid (Below (w.heap.size + 1) W w8) := Lib.hid ((HB1.out.trans ((BJ7.out.alloc BJ7.out.size (Obj.cells #[Value.int IntKind.i64 k1, Value.int IntKind.i64 k2, .slice A5 ks.length c5] 30)).mono (by omega))).grown g8 (by have := BJ7.out.size; simp <;> omega) (fun c hc => (HO1.out.lt hc).1)); clear o8 g8)
        go_roundw
        case rel => exact ⟨u + 1, by omega, by go_num, by rw [HST.out, HAD.out]; exact O8.out, B8.out⟩
        case measure => simp [intOf]; omega
      · have HAD : Hid (addG LO (k1, k2, ks) = LO) := Lib.hid (by unfold addG; rw [ei]; rfl)
        have HO7 := Lib.hid ((OwnL.keep HO1.out EG.stable fun b _ hlt => BJ7.out.block b hlt).widen (Nat.le_refl _) BJ7.out.size)
        have HB7 := Lib.hid (HB1.out.trans (BJ7.out.mono (show w.heap.size + 1 ≤ wi.heap.size by omega)))
        clear ei
        clear z0 z1 z2
        go_wp2
        go_roundw
        case rel => exact ⟨u + 1, by omega, by go_num, by rw [HST.out, HAD.out]; exact HO7.out, HB7.out⟩
        case measure => simp [intOf]; omega
    · obtain rfl : u = n := by omega
      obtain ⟨Ao, co, hov, _⟩ := OwnL.len HO1.out
      subst hov
      have HOF := Lib.hid (OwnL.widen HO1.out (show w.heap.size ≤ w.heap.size + 1 by omega) (Nat.le_refl _))
      have HBF : Hid (Below w.heap.size w wi) := Lib.hid (BX.out.trans (HB1.out.mono (by omega)))
      go_wp2
      go_ret
      rw [F.out]
      exact ⟨_, rfl, HOF.out, HBF.out⟩
end Go.Proofs.YtgifhaadfmomcaaGreat
