/- AbelianIndex of the reference and of the program. LatticeOf of the reference and of the program: the Hermite form of the basis words' exponent sums. -/
import Derived.Test.YtpemfkncjhhagaaGreatBasS
import Derived.Test.YtpemfkncjhhagaaGreatHerL
namespace Go.Proofs.YtpemfkncjhhagaaGreat
set_option maxRecDepth 20000
set_option linter.unusedVariables false
set_option linter.unusedSimpArgs false
open Go.RowKit

def latR (g : GrD) : List (List Int) := (basF g).map (expS g.1)
def latL (g : GrD) : List (List Int) := (hermF g.1 (latR g)).1
theorem latR_len (g : GrD) : (latR g).length ≤ 120 := by unfold latR; rw [List.length_map]; exact (bas_len g).1
theorem latR_row (g : GrD) : ∀ r ∈ latR g, r.length ≤ 1073741824 := fun r hr => by
  simp only [latR, List.mem_map] at hr
  obtain ⟨a, _, rfl⟩ := hr
  have := expS_len g.1 a
  omega
set_option maxHeartbeats 2000000 in
theorem specLatticeOf_any (v : Value) (g : GrD) (w : World) (h : ArgG w v g) :
    Calls Tryz.prog 23 #[v] w fun e w' => ∃ r, e = .returned r ∧ OwII w.heap.size w'.heap.size r (latL g) w' ∧ Below w.heap.size w w' := by
  have HG := Lib.hid h
  obtain ⟨s, rfl, hi1, hi2, ha⟩ := h
  obtain ⟨A, cap, rfl⟩ := ha.form
  clear ha
  have HBA := Lib.hid (fun W' (h : ArgG W' (.agg #[.int .i64 g.1, .int .i64 g.2.1, .slice A g.2.2.length cap]) g) => specBasisOf_any _ g W' h)
  obtain ⟨hbl, hbx⟩ := bas_len g
  have HBX := Lib.hid hbx
  have HLR : Hid (latR g = (basF g).map (expS g.1)) := Lib.hid rfl
  have HLL : Hid (latL g = (hermF g.1 (latR g)).1) := Lib.hid rfl
  have hll := latR_len g
  have HLW := Lib.hid (latR_row g)
  obtain ⟨B, hB⟩ : ∃ B, B = basF g := ⟨_, rfl⟩
  rw [← hB] at HBA HLR hbl HBX
  obtain ⟨R, hR⟩ : ∃ R, R = latR g := ⟨_, rfl⟩
  rw [← hR] at HLR HLL hll HLW
  obtain ⟨LL, hL⟩ : ∃ LL, LL = latL g := ⟨_, rfl⟩
  rw [← hL] at HLL ⊢
  obtain ⟨g1, n, es⟩ := g
  simp only at *
  clear hB hR hL hbx
  go_enter Tryz.func23, Tryz.ntmps23
  go_wp2_with fail
  obtain ⟨W1, hW1⟩ : ∃ W, W = w.alloc (Obj.cells #[Value.int IntKind.i64 g1, Value.int IntKind.i64 n, .slice A es.length cap] 45) := ⟨_, rfl⟩
  obtain ⟨hs1, b1, hc1⟩ := gboxE hW1
  obtain ⟨W, hW⟩ : ∃ W, W = W1.alloc (Obj.cells #[] 33) := ⟨_, rfl⟩
  have b2 : Below W1.heap.size W1 W := by rw [hW]; exact (Below.refl _ _).alloc (Nat.le_refl _) _
  have hsW : W.heap.size = w.heap.size + 2 := by rw [hW]; simp; omega
  have o0 : OwII (w.heap.size + 1) W.heap.size (.slice (some ⟨w.heap.size + 1, 0, none⟩) 0 0) [] W := by
    have h := OwII_lit W1 (lo := w.heap.size + 1) (by omega)
    rw [← hW, hs1] at h
    exact h.widen (Nat.le_refl _) (by omega)
  rw [← hW1, ← hW]
  have BX : Hid (Below w.heap.size w W) := Lib.hid (b1.trans (b2.mono (by omega)))
  have B12 := Lib.hid (b2.mono (show w.heap.size + 1 ≤ W1.heap.size by omega))
  have HC1 := Lib.hid hc1
  have HCL : Hid (∀ w', Below (w.heap.size + 1) W w' → w'.cell? ⟨w.heap.size, 0, none⟩ = some (.int .i64 g1) ∧ w'.cell? ⟨w.heap.size, 1, none⟩ = some (.int .i64 n) ∧ w'.cell? ⟨w.heap.size, 2, none⟩ = some (.slice A es.length cap)) := Lib.hid fun w' hb => HC1.out w' (B12.out.trans hb)
  have HA : Hid (∀ w', Below (w.heap.size + 1) W w' → ArgG w' (.agg #[.int .i64 g1, .int .i64 n, .slice A es.length cap]) (g1, n, es)) := Lib.hid fun w' hb => HG.out.below (BX.out.trans (hb.mono (by omega)))
  have HBW : Hid (∀ w', Below (w.heap.size + 1) W w' → Below w.heap.size w w') := Lib.hid fun w' hb => BX.out.trans (hb.mono (by omega))
  have O0 := Lib.hid o0
  clear hW1 hW hc1 b1 b2 HC1 o0
  refine (HBA.out W (HA.out W ((Below.refl W.heap.size W).mono (by omega)))).mono ?_
  rintro e w3 ⟨r3, rfl, o3, b3⟩
  have hs3 := b3.size
  have B3 : Hid (Below (w.heap.size + 1) W w3) := Lib.hid (b3.mono (by omega))
  have O3 := Lib.hid ((OwnL.keep O0.out EI.stable fun b _ hlt => b3.block b hlt).widen (Nat.le_refl _) b3.size)
  have OB3 := Lib.hid o3
  obtain ⟨Ab, cb, rfl, hcb, hmb, _⟩ := OwnL.len o3
  unfold maxLen at hmb
  clear o3 b3
  obtain ⟨F0, hl0, hn0, hF0⟩ := O3.out
  have HL0 := Lib.hid hl0
  have HF0 : Hid (∀ b ∈ F0, (w.heap.size + 1 ≤ b ∧ b < w3.heap.size) ∧ (b < W.heap.size ∨ w3.heap.size ≤ b)) := Lib.hid fun b hb => by
    obtain ⟨ess, h1, h2, h3, rfl⟩ := hl0
    have h4 : ess = [] := by simpa using h1
    subst h4
    simp [Value.ownBlock] at hb
    omega
  clear hl0 hF0
  have HN0 := Lib.hid hn0
  clear hn0
  go_wp2
  go_loopw [3, 5] (fun vo i wr => ∃ (k : Nat) (Fp : List Nat), k ≤ B.length ∧ i = .int .i64 k ∧ OwLf EI 33 1 wr vo ((B.take k).map (expS g1)) Fp ∧ Fp.Nodup ∧ (∀ b ∈ Fp, (w.heap.size + 1 ≤ b ∧ b < wr.heap.size) ∧ (b < W.heap.size ∨ w3.heap.size ≤ b)) ∧ (∀ b, W.heap.size ≤ b → b < w3.heap.size → wr.heap[b]? = w3.heap[b]?) ∧ w3.heap.size ≤ wr.heap.size ∧ Below (w.heap.size + 1) W wr) (fun _ i _ => B.length - (intOf i).toNat)
  case atStart => exact ⟨0, F0, Nat.zero_le _, rfl, by simpa using HL0.out, HN0.out, HF0.out, fun _ _ _ => rfl, Nat.le_refl _, B3.out⟩
  case round =>
    obtain ⟨k, Fp, hk, rfl, ho, hnd, hFp, hkp, hsr, hb⟩ := hrel
    have HO := Lib.hid ho
    have HND := Lib.hid hnd
    have HFP := Lib.hid hFp
    have HKP := Lib.hid hkp
    have HB := Lib.hid hb
    obtain ⟨wi, rfl⟩ : ∃ wi : World, wi = wr := ⟨_, rfl⟩
    clear ho hnd hFp hkp hb
    obtain ⟨Ao, co, rfl⟩ := OwLf.form HO.out
    obtain ⟨q0, q1, q2⟩ := HCL.out wi HB.out
    have hgb : w.heap.size < wi.heap.size := by omega
    by_cases hlt : k < B.length
    · have HTK : Hid ((B.take (k + 1)).map (expS g1) = (B.take k).map (expS g1) ++ [expS g1 B[k]]) := Lib.hid (by rw [List.take_succ_eq_append_getElem hlt, List.map_append]; rfl)
      have hRD : RdII wi (.slice Ab B.length cb) B := OwII.rd (OwnL.keep OB3.out EI.stable fun b h1 h2 => HKP.out b h1 h2)
      obtain ⟨b, off, Av, cv, rfl, hbl, c0, hvl, hvm, hvb⟩ := hRD.at hlt
      unfold maxLen at hvm
      have HXL := HBX.out B[k] (List.getElem_mem hlt)
      have HEX := Lib.hid (fun W' (h : RdI W' (.slice Av B[k].length cv) B[k]) => specExponentSums_any g1 _ B[k] W' h (by omega))
      have HVB := Lib.hid hvb
      have hkI : (k : Int) < (B.length : Int) := by omega
      have hLk : ((B.take k).map (expS g1)).length ≤ 120 := by rw [List.length_map, List.length_take]; omega
      generalize expS g1 B[k] = BV at *
      generalize B[k] = E at *
      generalize (B.take k).map (expS g1) = LO at *
      clear hRD hvb
      have HDD : Hid (Below wi.heap.size wi wi.drew) := Lib.hid (Below.refl wi.heap.size wi).drew
      go_wp2_with fail
      go_region_held3 (fun w' => w'.cell? ⟨w.heap.size, 0, none⟩ = some (.int .i64 g1) ∧ w'.cell? ⟨b, off + k, none⟩ = some (.slice Av E.length cv))
        (first | go_keep | exact ⟨s0, t0⟩)
        (first
          | (go_at_call 49; (with_reducible refine (HEX.out _ HVB.out.drew).mono ?_); rintro e w5 ⟨r5, rfl, o5, b5⟩; have HB5 : Hid (Below wi.heap.size wi w5) := Lib.hid (HDD.out.trans (b5.mono (Nat.le_refl _))); have HR5 : Hid (OwI w5 wi.heap.size r5 BV) := Lib.hid o5; have s0 := (HB5.out.cell (p := ⟨w.heap.size, 0, none⟩) hgb).trans q0; have t0 := (HB5.out.cell (p := ⟨b, off + k, none⟩) hbl).trans c0; clear o5 b5))
      clear s0 t0 q0 q1 q2 c0
      obtain ⟨A5, c5, rfl, _⟩ := OwI.form HR5.out
      have hs5 := HB5.out.size
      go_wp2_with (at_builtin; refine push_intsF rfl (.tmp 23) (.tmp 25) rfl HO.out HND.out (fun b hb => (HFP.out b hb).1.2) (HB5.out.alloc hs5 _) rfl _ _ BV rfl (HR5.out.alloc _) (Nat.le_refl _) (cell_new1 _ _ _) rfl (by omega) ?_; intro v11 w11 F11 l11 n11 f11 g11; have L11 := Lib.hid l11; have N11 := Lib.hid n11; have FF11 := Lib.hid f11; have hs11 := g11.size; have B11 : Hid (Below (w.heap.size + 1) W w11) := Lib.hid ((HB.out.trans ((HB5.out.alloc hs5 _).mono (by omega))).grown g11 (by simp; omega) (fun c hc => (HFP.out c (HO.out.mem hc)).1.1)); have KP11 : Hid (∀ b, W.heap.size ≤ b → b < w3.heap.size → w11.heap[b]? = w3.heap[b]?) := Lib.hid fun b h1 h2 => ((g11.block b (by simp; omega) (fun e => by have := (HFP.out b (HO.out.mem e.symm)).2; omega)).trans ((HB5.out.alloc hs5 _).block b (by omega))).trans (HKP.out b h1 h2); clear l11 n11 f11 g11)
      have hs11' : w5.heap.size + 1 ≤ w11.heap.size := by simpa using hs11
      go_roundw
      case rel => exact ⟨k + 1, F11, by omega, by go_num, by rw [HTK.out]; exact L11.out, N11.out, fun b hb => by
        have h1 := FF11.out b hb
        rcases h1.1 with h | h
        · have := HFP.out b h; omega
        · omega, KP11.out, by omega, B11.out⟩
      case measure => simp [intOf]; omega
    · obtain rfl : k = B.length := by omega
      have HOF : Hid (OwII w.heap.size wi.heap.size (.slice Ao ((B.take B.length).map (expS g1)).length co) R wi) := Lib.hid ⟨Fp, by rw [HLR.out]; have h := HO.out; rwa [List.take_length] at h ⊢, HND.out, fun b hb => by have := HFP.out b hb; omega⟩
      have HHF := Lib.hid (specHermiteForm_any _ R g1 wi HOF.out.rd (by omega) HLW.out)
      have HBD := Lib.hid (HBW.out wi HB.out)
      generalize ((B.take B.length).map (expS g1)).length = nn at *
      go_wp2_with fail
      refine HHF.out.mono ?_
      rintro e w9 ⟨r9, rfl, o9, b9⟩
      rw [← HLL.out] at o9
      have O9 := Lib.hid o9
      have B9 := Lib.hid (HBD.out.trans (b9.mono HBD.out.size))
      clear o9 b9 q0 q1 q2
      go_wp2
      go_ret
      exact ⟨_, rfl, OwnL.widen O9.out (by omega) (Nat.le_refl _), B9.out⟩
set_option maxHeartbeats 2000000 in
theorem implLatticeOf_any (v : Value) (g : GrD) (w : World) (h : ArgG w v g) :
    Calls Tryz.prog 25 #[v] w fun e w' => ∃ r, e = .returned r ∧ OwII w.heap.size w'.heap.size r (latL g) w' ∧ Below w.heap.size w w' := by
  have HG := Lib.hid h
  obtain ⟨s, rfl, hi1, hi2, ha⟩ := h
  obtain ⟨A, cap, rfl⟩ := ha.form
  clear ha
  have HBA := Lib.hid (fun W' (h : ArgG W' (.agg #[.int .i64 g.1, .int .i64 g.2.1, .slice A g.2.2.length cap]) g) => implBasisOf_any _ g W' h)
  obtain ⟨hbl, hbx⟩ := bas_len g
  have HBX := Lib.hid hbx
  have HLR : Hid (latR g = (basF g).map (expS g.1)) := Lib.hid rfl
  have HLL : Hid (latL g = (hermF g.1 (latR g)).1) := Lib.hid rfl
  have hll := latR_len g
  have HLW := Lib.hid (latR_row g)
  obtain ⟨B, hB⟩ : ∃ B, B = basF g := ⟨_, rfl⟩
  rw [← hB] at HBA HLR hbl HBX
  obtain ⟨R, hR⟩ : ∃ R, R = latR g := ⟨_, rfl⟩
  rw [← hR] at HLR HLL hll HLW
  obtain ⟨LL, hL⟩ : ∃ LL, LL = latL g := ⟨_, rfl⟩
  rw [← hL] at HLL ⊢
  obtain ⟨g1, n, es⟩ := g
  simp only at *
  clear hB hR hL hbx
  go_enter Tryz.func25, Tryz.ntmps25
  go_wp2_with fail
  obtain ⟨W1, hW1⟩ : ∃ W, W = w.alloc (Obj.cells #[Value.int IntKind.i64 g1, Value.int IntKind.i64 n, .slice A es.length cap] 45) := ⟨_, rfl⟩
  obtain ⟨hs1, b1, hc1⟩ := gboxE hW1
  obtain ⟨W, hW⟩ : ∃ W, W = W1.alloc (Obj.cells #[] 33) := ⟨_, rfl⟩
  have b2 : Below W1.heap.size W1 W := by rw [hW]; exact (Below.refl _ _).alloc (Nat.le_refl _) _
  have hsW : W.heap.size = w.heap.size + 2 := by rw [hW]; simp; omega
  have o0 : OwII (w.heap.size + 1) W.heap.size (.slice (some ⟨w.heap.size + 1, 0, none⟩) 0 0) [] W := by
    have h := OwII_lit W1 (lo := w.heap.size + 1) (by omega)
    rw [← hW, hs1] at h
    exact h.widen (Nat.le_refl _) (by omega)
  rw [← hW1, ← hW]
  have BX : Hid (Below w.heap.size w W) := Lib.hid (b1.trans (b2.mono (by omega)))
  have B12 := Lib.hid (b2.mono (show w.heap.size + 1 ≤ W1.heap.size by omega))
  have HC1 := Lib.hid hc1
  have HCL : Hid (∀ w', Below (w.heap.size + 1) W w' → w'.cell? ⟨w.heap.size, 0, none⟩ = some (.int .i64 g1) ∧ w'.cell? ⟨w.heap.size, 1, none⟩ = some (.int .i64 n) ∧ w'.cell? ⟨w.heap.size, 2, none⟩ = some (.slice A es.length cap)) := Lib.hid fun w' hb => HC1.out w' (B12.out.trans hb)
  have HA : Hid (∀ w', Below (w.heap.size + 1) W w' → ArgG w' (.agg #[.int .i64 g1, .int .i64 n, .slice A es.length cap]) (g1, n, es)) := Lib.hid fun w' hb => HG.out.below (BX.out.trans (hb.mono (by omega)))
  have HBW : Hid (∀ w', Below (w.heap.size + 1) W w' → Below w.heap.size w w') := Lib.hid fun w' hb => BX.out.trans (hb.mono (by omega))
  have O0 := Lib.hid o0
  clear hW1 hW hc1 b1 b2 HC1 o0
  refine (HBA.out W (HA.out W ((Below.refl W.heap.size W).mono (by omega)))).mono ?_
  rintro e w3 ⟨r3, rfl, o3, b3⟩
  have hs3 := b3.size
  have B3 : Hid (Below (w.heap.size + 1) W w3) := Lib.hid (b3.mono (by omega))
  have O3 := Lib.hid ((OwnL.keep O0.out EI.stable fun b _ hlt => b3.block b hlt).widen (Nat.le_refl _) b3.size)
  have OB3 := Lib.hid o3
  obtain ⟨Ab, cb, rfl, hcb, hmb, _⟩ := OwnL.len o3
  unfold maxLen at hmb
  clear o3 b3
  obtain ⟨F0, hl0, hn0, hF0⟩ := O3.out
  have HL0 := Lib.hid hl0
  have HF0 : Hid (∀ b ∈ F0, (w.heap.size + 1 ≤ b ∧ b < w3.heap.size) ∧ (b < W.heap.size ∨ w3.heap.size ≤ b)) := Lib.hid fun b hb => by
    obtain ⟨ess, h1, h2, h3, rfl⟩ := hl0
    have h4 : ess = [] := by simpa using h1
    subst h4
    simp [Value.ownBlock] at hb
    omega
  clear hl0 hF0
  have HN0 := Lib.hid hn0
  clear hn0
  go_wp2
  go_loopw [3, 10] (fun vo i wr => ∃ (k : Nat) (Fp : List Nat), k ≤ B.length ∧ i = .int .i64 k ∧ OwLf EI 33 1 wr vo ((B.take k).map (expS g1)) Fp ∧ Fp.Nodup ∧ (∀ b ∈ Fp, (w.heap.size + 1 ≤ b ∧ b < wr.heap.size) ∧ (b < W.heap.size ∨ w3.heap.size ≤ b)) ∧ (∀ b, W.heap.size ≤ b → b < w3.heap.size → wr.heap[b]? = w3.heap[b]?) ∧ w3.heap.size ≤ wr.heap.size ∧ Below (w.heap.size + 1) W wr) (fun _ i _ => B.length - (intOf i).toNat)
  case atStart => exact ⟨0, F0, Nat.zero_le _, rfl, by simpa using HL0.out, HN0.out, HF0.out, fun _ _ _ => rfl, Nat.le_refl _, B3.out⟩
  case round =>
    obtain ⟨k, Fp, hk, rfl, ho, hnd, hFp, hkp, hsr, hb⟩ := hrel
    have HO := Lib.hid ho
    have HND := Lib.hid hnd
    have HFP := Lib.hid hFp
    have HKP := Lib.hid hkp
    have HB := Lib.hid hb
    obtain ⟨wi, rfl⟩ : ∃ wi : World, wi = wr := ⟨_, rfl⟩
    clear ho hnd hFp hkp hb
    obtain ⟨Ao, co, rfl⟩ := OwLf.form HO.out
    obtain ⟨q0, q1, q2⟩ := HCL.out wi HB.out
    have hgb : w.heap.size < wi.heap.size := by omega
    by_cases hlt : k < B.length
    · have HTK : Hid ((B.take (k + 1)).map (expS g1) = (B.take k).map (expS g1) ++ [expS g1 B[k]]) := Lib.hid (by rw [List.take_succ_eq_append_getElem hlt, List.map_append]; rfl)
      have hRD : RdII wi (.slice Ab B.length cb) B := OwII.rd (OwnL.keep OB3.out EI.stable fun b h1 h2 => HKP.out b h1 h2)
      obtain ⟨b, off, Av, cv, rfl, hbl, c0, hvl, hvm, hvb⟩ := hRD.at hlt
      unfold maxLen at hvm
      have HXL := HBX.out B[k] (List.getElem_mem hlt)
      have HEX := Lib.hid (fun W' (h : RdI W' (.slice Av B[k].length cv) B[k]) => implExponentSums_any g1 _ B[k] W' h (by omega))
      have HVB := Lib.hid hvb
      have hkI : (k : Int) < (B.length : Int) := by omega
      have hLk : ((B.take k).map (expS g1)).length ≤ 120 := by rw [List.length_map, List.length_take]; omega
      generalize expS g1 B[k] = BV at *
      generalize B[k] = E at *
      generalize (B.take k).map (expS g1) = LO at *
      clear hRD hvb
      go_wp2_with fail
      refine (HEX.out wi HVB.out).mono ?_
      rintro e w5 ⟨r5, rfl, o5, b5⟩
      have HB5 := Lib.hid b5
      have HR5 := Lib.hid o5
      clear o5 b5 q0 q1 q2 c0
      obtain ⟨A5, c5, rfl, _⟩ := OwI.form HR5.out
      have hs5 := HB5.out.size
      go_wp2_with (at_builtin; refine push_intsF rfl (.tmp 14) (.tmp 19) rfl HO.out HND.out (fun b hb => (HFP.out b hb).1.2) (HB5.out.alloc hs5 _) rfl _ _ BV rfl (HR5.out.alloc _) (Nat.le_refl _) (cell_new1 _ _ _) rfl (by omega) ?_; intro v11 w11 F11 l11 n11 f11 g11; have L11 := Lib.hid l11; have N11 := Lib.hid n11; have FF11 := Lib.hid f11; have hs11 := g11.size; have B11 : Hid (Below (w.heap.size + 1) W w11) := Lib.hid ((HB.out.trans ((HB5.out.alloc hs5 _).mono (by omega))).grown g11 (by simp; omega) (fun c hc => (HFP.out c (HO.out.mem hc)).1.1)); have KP11 : Hid (∀ b, W.heap.size ≤ b → b < w3.heap.size → w11.heap[b]? = w3.heap[b]?) := Lib.hid fun b h1 h2 => ((g11.block b (by simp; omega) (fun e => by have := (HFP.out b (HO.out.mem e.symm)).2; omega)).trans ((HB5.out.alloc hs5 _).block b (by omega))).trans (HKP.out b h1 h2); clear l11 n11 f11 g11)
      have hs11' : w5.heap.size + 1 ≤ w11.heap.size := by simpa using hs11
      go_roundw
      case rel => exact ⟨k + 1, F11, by omega, by go_num, by rw [HTK.out]; exact L11.out, N11.out, fun b hb => by
        have h1 := FF11.out b hb
        rcases h1.1 with h | h
        · have := HFP.out b h; omega
        · omega, KP11.out, by omega, B11.out⟩
      case measure => simp [intOf]; omega
    · obtain rfl : k = B.length := by omega
      have HOF : Hid (OwII w.heap.size wi.heap.size (.slice Ao ((B.take B.length).map (expS g1)).length co) R wi) := Lib.hid ⟨Fp, by rw [HLR.out]; have h := HO.out; rwa [List.take_length] at h ⊢, HND.out, fun b hb => by have := HFP.out b hb; omega⟩
      have HHF := Lib.hid (implHermiteForm_any _ R g1 wi HOF.out.rd (by omega) HLW.out)
      have HBD := Lib.hid (HBW.out wi HB.out)
      generalize ((B.take B.length).map (expS g1)).length = nn at *
      go_wp2_with fail
      refine HHF.out.mono ?_
      rintro e w9 ⟨r9, rfl, o9, b9⟩
      rw [← HLL.out] at o9
      have O9 := Lib.hid o9
      have B9 := Lib.hid (HBD.out.trans (b9.mono HBD.out.size))
      clear o9 b9 q0 q1 q2
      go_wp2
      go_ret
      exact ⟨_, rfl, OwnL.widen O9.out (by omega) (Nat.le_refl _), B9.out⟩
def abN (g : GrD) : Int := if coreB g = true then latN (latL g) g.1 else -1
theorem latL_len (g : GrD) : (latL g).length ≤ 1073741824 ∧ ∀ r ∈ latL g, r.length ≤ 1073741824 := by
  unfold latL
  rcases e : (hermF g.1 (latR g)).2 with _ | _
  · rw [hermF_no e]; simp
  · have h := hermF_ech e
    have h1 := h.length
    have hn : inB g.1 1 3 = true := by
      rw [← rows27_eq] at e
      unfold rows27 at e
      simp only [Bool.and_eq_true] at e
      exact e.1.1.1
    have hn13 := inB_iff.1 hn
    exact ⟨by omega, fun r hr => by have := h.len r hr; omega⟩
set_option maxHeartbeats 1000000 in
theorem specAbelianIndex_any (v : Value) (g : GrD) (w : World) (h : ArgG w v g) :
    Calls Tryz.prog 31 #[v] w fun e w' => e = .returned (.int .i64 (abN g)) ∧ Below w.heap.size w w' := by
  have HG := Lib.hid h
  obtain ⟨s, rfl, hi1, hi2, ha⟩ := h
  obtain ⟨A, cap, rfl⟩ := ha.form
  clear ha
  have HLA := Lib.hid (fun W' (h : ArgG W' (.agg #[.int .i64 g.1, .int .i64 g.2.1, .slice A g.2.2.length cap]) g) => specLatticeOf_any _ g W' h)
  have HCO := Lib.hid (fun W' (h : ArgG W' (.agg #[.int .i64 g.1, .int .i64 g.2.1, .slice A g.2.2.length cap]) g) => specIsSubgroup_any _ g W' h)
  obtain ⟨hll, hlr⟩ := latL_len g
  have HLR := Lib.hid hlr
  have HAB : Hid (abN g = if coreB g = true then latN (latL g) g.1 else -1) := Lib.hid rfl
  have H64 : Hid (∀ W : World, True) := Lib.hid fun _ => trivial
  obtain ⟨g1, n, es⟩ := g
  simp only at *
  generalize latL (g1, n, es) = LL at *
  generalize abN (g1, n, es) = AB at *
  clear hlr
  go_enter Tryz.func31, Tryz.ntmps31
  go_wp2_with fail
  obtain ⟨W, hW⟩ : ∃ W, W = w.alloc (Obj.cells #[Value.int IntKind.i64 g1, Value.int IntKind.i64 n, .slice A es.length cap] 45) := ⟨_, rfl⟩
  obtain ⟨hsW, b1, hc1⟩ := gboxE hW
  rw [← hW]
  have BX := Lib.hid b1
  have HCL := Lib.hid hc1
  have HA : Hid (∀ w', Below (w.heap.size + 1) W w' → ArgG w' (.agg #[.int .i64 g1, .int .i64 n, .slice A es.length cap]) (g1, n, es)) := Lib.hid fun w' hb => HG.out.below (BX.out.trans (hb.mono (by omega)))
  have hW1 : w.heap.size + 1 ≤ W.heap.size := by omega
  clear hW hc1 b1 hsW
  refine (HCO.out W (HA.out W ((Below.refl W.heap.size W).mono hW1))).mono ?_
  rintro e w2 ⟨rfl, b2⟩
  have hs2 := b2.size
  have B2 : Hid (Below (w.heap.size + 1) W w2) := Lib.hid (b2.mono hW1)
  have HB2 := Lib.hid (BX.out.trans (b2.mono (by omega)))
  clear b2
  obtain ⟨q0, q1, q2⟩ := HCL.out w2 B2.out
  rcases ec : coreB (g1, n, es) with _ | _
  · have F : Hid (AB = -1) := Lib.hid (by rw [HAB.out, ec]; rfl)
    clear ec
    go_wp2
    go_ret
    exact ⟨by rw [F.out]; first | done | rfl | simp [go_sem], HB2.out⟩
  · have F : Hid (AB = latN LL g1) := Lib.hid (by rw [HAB.out, if_pos ec])
    clear ec
    have BD : Hid (Below (w.heap.size + 1) W w2.drew) := Lib.hid B2.out.drew
    have DD : Hid (Below w2.heap.size w2 w2.drew) := Lib.hid (Below.refl w2.heap.size w2).drew
    have hgb : w.heap.size < w2.heap.size := by omega
    go_wp2_with fail
    go_region_held3 (fun w' => w'.cell? ⟨w.heap.size, 0, none⟩ = some (.int .i64 g1) ∧ w'.cell? ⟨w.heap.size, 1, none⟩ = some (.int .i64 n) ∧ w'.cell? ⟨w.heap.size, 2, none⟩ = some (.slice A es.length cap))
      (first | go_keep | exact ⟨s0, s1, s2⟩)
      (first
        | (go_at_call 23; (with_reducible refine (HLA.out _ (HA.out _ BD.out)).mono ?_); rintro e w3 ⟨r3, rfl, o3, b3⟩; have B3 : Hid (Below w2.heap.size w2 w3) := Lib.hid (DD.out.trans (b3.mono (Nat.le_refl _))); have HR3 := Lib.hid (OwII.rd o3); have hs3 := B3.out.size; have s0 := (B3.out.cell (p := ⟨w.heap.size, 0, none⟩) hgb).trans q0; have s1 := (B3.out.cell (p := ⟨w.heap.size, 1, none⟩) hgb).trans q1; have s2 := (B3.out.cell (p := ⟨w.heap.size, 2, none⟩) hgb).trans q2; clear o3 b3 BD DD)
        | (go_at_call 56; (with_reducible refine (specLatticeIndex_any _ LL g1 _ HR3.out hll HLR.out).mono ?_); rintro e w4 ⟨rfl, b4⟩; have B4 : Hid (Below w2.heap.size w2 w4) := Lib.hid (B3.out.trans (b4.mono hs3)); have s0 := (B4.out.cell (p := ⟨w.heap.size, 0, none⟩) hgb).trans q0; have s1 := (B4.out.cell (p := ⟨w.heap.size, 1, none⟩) hgb).trans q1; have s2 := (B4.out.cell (p := ⟨w.heap.size, 2, none⟩) hgb).trans q2; clear b4))
    all_goals (
      have HBF := Lib.hid (HB2.out.trans (B4.out.mono (by have := HB2.out.size; omega)))
      go_wp2
      go_ret
      exact ⟨by rw [F.out]; first | done | rfl | simp [go_sem], HBF.out⟩)
set_option maxHeartbeats 1000000 in
theorem implAbelianIndex_any (v : Value) (g : GrD) (w : World) (h : ArgG w v g) :
    Calls Tryz.prog 32 #[v] w fun e w' => e = .returned (.int .i64 (abN g)) ∧ Below w.heap.size w w' := by
  have HG := Lib.hid h
  obtain ⟨s, rfl, hi1, hi2, ha⟩ := h
  obtain ⟨A, cap, rfl⟩ := ha.form
  clear ha
  have HLA := Lib.hid (fun W' (h : ArgG W' (.agg #[.int .i64 g.1, .int .i64 g.2.1, .slice A g.2.2.length cap]) g) => implLatticeOf_any _ g W' h)
  have HCO := Lib.hid (fun W' (h : ArgG W' (.agg #[.int .i64 g.1, .int .i64 g.2.1, .slice A g.2.2.length cap]) g) => implIsCore_any _ g W' h)
  obtain ⟨hll, hlr⟩ := latL_len g
  have HLR := Lib.hid hlr
  have HAB : Hid (abN g = if coreB g = true then latN (latL g) g.1 else -1) := Lib.hid rfl
  have H64 : Hid (∀ W : World, True) := Lib.hid fun _ => trivial
  obtain ⟨g1, n, es⟩ := g
  simp only at *
  generalize latL (g1, n, es) = LL at *
  generalize abN (g1, n, es) = AB at *
  clear hlr
  go_enter Tryz.func32, Tryz.ntmps32
  go_wp2_with fail
  obtain ⟨W, hW⟩ : ∃ W, W = w.alloc (Obj.cells #[Value.int IntKind.i64 g1, Value.int IntKind.i64 n, .slice A es.length cap] 45) := ⟨_, rfl⟩
  obtain ⟨hsW, b1, hc1⟩ := gboxE hW
  rw [← hW]
  have BX := Lib.hid b1
  have HCL := Lib.hid hc1
  have HA : Hid (∀ w', Below (w.heap.size + 1) W w' → ArgG w' (.agg #[.int .i64 g1, .int .i64 n, .slice A es.length cap]) (g1, n, es)) := Lib.hid fun w' hb => HG.out.below (BX.out.trans (hb.mono (by omega)))
  have hW1 : w.heap.size + 1 ≤ W.heap.size := by omega
  clear hW hc1 b1 hsW
  refine (HCO.out W (HA.out W ((Below.refl W.heap.size W).mono hW1))).mono ?_
  rintro e w2 ⟨rfl, b2⟩
  have hs2 := b2.size
  have B2 : Hid (Below (w.heap.size + 1) W w2) := Lib.hid (b2.mono hW1)
  have HB2 := Lib.hid (BX.out.trans (b2.mono (by omega)))
  clear b2
  obtain ⟨q0, q1, q2⟩ := HCL.out w2 B2.out
  rcases ec : coreB (g1, n, es) with _ | _
  · have F : Hid (AB = -1) := Lib.hid (by rw [HAB.out, ec]; rfl)
    clear ec
    go_wp2
    go_ret
    exact ⟨by rw [F.out]; first | done | rfl | simp [go_sem], HB2.out⟩
  · have F : Hid (AB = latN LL g1) := Lib.hid (by rw [HAB.out, if_pos ec])
    clear ec
    have BD : Hid (Below (w.heap.size + 1) W w2.drew) := Lib.hid B2.out.drew
    have DD : Hid (Below w2.heap.size w2 w2.drew) := Lib.hid (Below.refl w2.heap.size w2).drew
    have hgb : w.heap.size < w2.heap.size := by omega
    go_wp2_with fail
    go_region_held3 (fun w' => w'.cell? ⟨w.heap.size, 0, none⟩ = some (.int .i64 g1) ∧ w'.cell? ⟨w.heap.size, 1, none⟩ = some (.int .i64 n) ∧ w'.cell? ⟨w.heap.size, 2, none⟩ = some (.slice A es.length cap))
      (first | go_keep | exact ⟨s0, s1, s2⟩)
      (first
        | (go_at_call 25; (with_reducible refine (HLA.out _ (HA.out _ BD.out)).mono ?_); rintro e w3 ⟨r3, rfl, o3, b3⟩; have B3 : Hid (Below w2.heap.size w2 w3) := Lib.hid (DD.out.trans (b3.mono (Nat.le_refl _))); have HR3 := Lib.hid (OwII.rd o3); have hs3 := B3.out.size; have s0 := (B3.out.cell (p := ⟨w.heap.size, 0, none⟩) hgb).trans q0; have s1 := (B3.out.cell (p := ⟨w.heap.size, 1, none⟩) hgb).trans q1; have s2 := (B3.out.cell (p := ⟨w.heap.size, 2, none⟩) hgb).trans q2; clear o3 b3 BD DD)
        | (go_at_call 57; (with_reducible refine (implLatticeIndex_any _ LL g1 _ HR3.out hll HLR.out).mono ?_); rintro e w4 ⟨rfl, b4⟩; have B4 : Hid (Below w2.heap.size w2 w4) := Lib.hid (B3.out.trans (b4.mono hs3)); have s0 := (B4.out.cell (p := ⟨w.heap.size, 0, none⟩) hgb).trans q0; have s1 := (B4.out.cell (p := ⟨w.heap.size, 1, none⟩) hgb).trans q1; have s2 := (B4.out.cell (p := ⟨w.heap.size, 2, none⟩) hgb).trans q2; clear b4))
    all_goals (
      have HBF := Lib.hid (HB2.out.trans (B4.out.mono (by have := HB2.out.size; omega)))
      go_wp2
      go_ret
      exact ⟨by rw [F.out]; first | done | rfl | simp [go_sem], HBF.out⟩)
end Go.Proofs.YtpemfkncjhhagaaGreat
