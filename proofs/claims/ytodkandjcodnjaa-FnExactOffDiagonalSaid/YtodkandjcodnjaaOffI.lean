/- The program's OffDiagonal and IsMalnormal. Plain: the pieces that are not on the diagonal are the reference's components off the diagonal. -/
import Derived.Test.YtodkandjcodnjaaCompI
import Derived.Test.YtodkandjcodnjaaIndS
namespace Go.Proofs.Ytodkandjcodnjaa
set_option maxRecDepth 20000
set_option linter.unusedVariables false
set_option linter.unusedSimpArgs false
open Go.RowKit

section
variable {a : GrD} {B : Nat}
theorem pnx_diag (h : Two a a B B) {p q : Nat} {x : Int} (hp : p / B = p % B) (hq : pnx a.2.2 a.2.2 B p x = some q) : q / B = q % B := by
  have h1 := pnx_parts h hq
  rw [hp] at h1
  have := h1.1.trans h1.2.symm
  omega
theorem pnx_off (h : Two a a B B) {p q : Nat} {x : Int} (hx : -3 ≤ x ∧ x ≤ 3) (hp : ¬ p / B = p % B) (hq : pnx a.2.2 a.2.2 B p x = some q) : ¬ q / B = q % B :=
  fun e => hp (pnx_diag h e (pnx_back h hx hq))
theorem prs_diag (h : Two a a B B) {ls : List Int} {p : Nat} (hp : p / B = p % B) : ∀ q ∈ prsL a a B B ls p, q / B = q % B :=
  bfs_all (S := fun q => q / B = q % B) (fun _ _ _ hs _ hq => pnx_diag h hs hq) _ _ _ fun q hq => by rw [List.mem_singleton.1 hq]; exact hp
theorem prs_off (h : Two a a B B) {ls : List Int} (hx : ∀ x ∈ ls, -3 ≤ x ∧ x ≤ 3) {p : Nat} (hp : ¬ p / B = p % B) : ∀ q ∈ prsL a a B B ls p, ¬ q / B = q % B :=
  bfs_all (S := fun q => ¬ q / B = q % B) (fun _ _ _ hs hm hq => pnx_off h (hx _ hm) hs hq) _ _ _ fun q hq => by rw [List.mem_singleton.1 hq]; exact hp
theorem pcs_off (h : Two a a B B) {r : Nat} (hr : r ≤ 3) : ∀ k, (offS a B r k).2 = ((pcs a a B B r k).2.filter fun d => !d.2.2.2.2).map pcR ∧ ∀ p, (p ∈ (offS a B r k).1 ↔ p ∈ (pcs a a B B r k).1 ∧ ¬ p / B = p % B) := by
  intro k
  induction k with
  | zero => exact ⟨rfl, fun p => by simp [offS, pcs]⟩
  | succ k ih =>
    obtain ⟨ih1, ih2⟩ := ih
    rw [offS_succ, pcs_succ]
    unfold ost pst2
    have hls : ∀ x ∈ lettersL r, -3 ≤ x ∧ x ≤ 3 := fun x hx => (letters_ok hr x hx).1
    have hself : k ∈ prsL a a B B (lettersL r) k := prs_self h
    by_cases hd : k / B = k % B
    · rw [if_pos (.inr hd)]
      by_cases hm : k ∈ (pcs a a B B r k).1
      · rw [if_pos hm]; exact ⟨ih1, ih2⟩
      · rw [if_neg hm]
        have he : eqB B (prsL a a B B (lettersL r) k) = true := by
          unfold eqB
          rw [List.any_eq_true]
          exact ⟨k, hself, by simpa using hd⟩
        refine ⟨?_, fun p => ?_⟩
        · have hf : List.filter (fun d : PcD => !d.2.2.2.2) [pcD a a B B r k] = [] := by unfold pcD; rw [he]; rfl
          rw [List.filter_append, hf, List.append_nil]
          exact ih1
        · rw [ih2, List.mem_append]
          constructor
          · exact fun hp => ⟨.inl hp.1, hp.2⟩
          · exact fun hp => ⟨hp.1.elim id fun hq => absurd (prs_diag h hd p hq) hp.2, hp.2⟩
    · by_cases hm : k ∈ (pcs a a B B r k).1
      · rw [if_pos hm, if_pos (.inl ((ih2 k).2 ⟨hm, hd⟩))]
        exact ⟨ih1, ih2⟩
      · rw [if_neg hm, if_neg (fun hc => hc.elim (fun hc => hm ((ih2 k).1 hc).1) hd)]
        have he : eqB B (prsL a a B B (lettersL r) k) = false := by
          unfold eqB
          rw [List.any_eq_false]
          exact fun q hq => by simpa using prs_off h hls hd q hq
        refine ⟨?_, fun p => ?_⟩
        · have hf : List.filter (fun d : PcD => !d.2.2.2.2) [pcD a a B B r k] = [pcD a a B B r k] := by unfold pcD; rw [he]; rfl
          rw [List.filter_append, hf, List.map_append, ih1]
          rfl
        · rw [List.mem_append, List.mem_append, ih2]
          constructor
          · exact fun hp => hp.elim (fun hp => ⟨.inl hp.1, hp.2⟩) fun hp => ⟨.inr hp, prs_off h hls hd p hp⟩
          · exact fun hp => hp.1.elim (fun hq => .inl ⟨hq, hp.2⟩) .inr
end
/-- What the program's loop takes of the pieces. -/
def offI (l : List PcD) : List Int := (l.filter fun d => !d.2.2.2.2).map pcR
theorem offI_succ (l : List PcD) (k : Nat) (h : k < l.length) : offI (l.take (k + 1)) = offI (l.take k) ++ if l[k].2.2.2.2 = true then [] else [pcR l[k]] := by
  unfold offI
  rw [List.take_succ_eq_append_getElem h, List.filter_append, List.map_append]
  congr 1
  simp only [List.filter_cons, List.filter_nil]
  cases l[k].2.2.2.2 <;> rfl
theorem offI_len (l : List PcD) (k : Nat) : (offI (l.take k)).length ≤ l.length := by
  unfold offI
  rw [List.length_map]
  refine Nat.le_trans (List.length_filter_le _ _) ?_
  rw [List.length_take]
  omega
set_option maxHeartbeats 600000 in
theorem implOffDiagonal_any (va : Value) (a : GrD) (w : World) (ha : ArgG w va a) :
    Calls Try.prog 20 #[va] w fun e w' => ∃ s, e = .returned s ∧ OwI w' w.heap.size s (offR a) ∧ Below w.heap.size w w' := by
  have HGA := Lib.hid ha
  have HR0 : Hid (coreB a = false → offR a = []) := Lib.hid fun h => by unfold offR; rw [h]; rfl
  have HR1 : Hid (coreB a = true → offR a = (offS a a.2.1.toNat a.1.toNat (a.2.1.toNat * a.2.1.toNat)).2) := Lib.hid fun h1 => by unfold offR; rw [h1, if_pos rfl]
  generalize offR a = CR at *
  obtain ⟨Aa, capa, rfl⟩ : ∃ A' cap, va = .agg #[.int .i64 a.1, .int .i64 a.2.1, .slice A' a.2.2.length cap] := by
    obtain ⟨s, hv, _, _, ha⟩ := HGA.out
    obtain ⟨A', cap, rfl⟩ := ha.form
    exact ⟨A', cap, hv⟩
  clear ha
  go_enter Try.func20, Try.ntmps20
  go_wp2_with fail
  have bx : Below w.heap.size w ((w.alloc (Obj.cells #[Value.int IntKind.i64 a.1, Value.int IntKind.i64 a.2.1, .slice Aa a.2.2.length capa] 36)).alloc (Obj.cells #[] 3)) := (by repeat (first | exact Below.refl _ _ | (refine Below.setCell ?_ (by first | omega | (simp <;> omega)) _) | (refine bel_drewN ?_ _) | (refine Below.drew ?_) | (refine Below.alloc ?_ (by first | omega | (simp <;> omega)) _)))
  obtain ⟨W0, hW0⟩ : ∃ W, W = (w.alloc (Obj.cells #[Value.int IntKind.i64 a.1, Value.int IntKind.i64 a.2.1, .slice Aa a.2.2.length capa] 36)).alloc (Obj.cells #[] 3) := ⟨_, rfl⟩
  have oE : OwI W0 (w.heap.size + 1) (.slice (some ⟨w.heap.size + 1, 0, none⟩) 0 0) [] := by
    rw [hW0]
    exact OwI_litN _ [] (w.heap.size + 1) (by simp) (fun _ h => by cases h) (by simp) (Nat.le_refl _)
  rw [← hW0] at bx ⊢
  have hsW : W0.heap.size = w.heap.size + 1 + 1 := by rw [hW0]; simp
  have A0 : Hid (W0.cell? ⟨w.heap.size, 0, none⟩ = some (.int .i64 a.1)) := Lib.hid (by rw [hW0]; simp [go_sem])
  have A1 : Hid (W0.cell? ⟨w.heap.size, 1, none⟩ = some (.int .i64 a.2.1)) := Lib.hid (by rw [hW0]; simp [go_sem])
  have A2 : Hid (W0.cell? ⟨w.heap.size, 2, none⟩ = some (.slice Aa a.2.2.length capa)) := Lib.hid (by rw [hW0]; simp [go_sem])
  clear hW0
  have hl0 : w.heap.size < W0.heap.size := by omega
  have BX := Lib.hid bx
  have HSW := Lib.hid hsW
  have OE := Lib.hid oE
  have HAA : Hid (∀ W, Below W0.heap.size W0 W → ArgG W (.agg #[.int .i64 a.1, .int .i64 a.2.1, .slice Aa a.2.2.length capa]) a) := Lib.hid fun W hb => HGA.out.below (BX.out.trans (hb.mono (by omega)))
  clear bx oE hsW
  refine (implIsCore_any _ a W0 (HAA.out _ (Below.refl _ _))).mono ?_
  rintro e w2 ⟨rfl, b1⟩
  have HB2 := Lib.hid b1
  have q0 := (b1.cell (p := ⟨w.heap.size, 0, none⟩) hl0).trans A0.out
  have q1 := (b1.cell (p := ⟨w.heap.size, 1, none⟩) hl0).trans A1.out
  have q2 := (b1.cell (p := ⟨w.heap.size, 2, none⟩) hl0).trans A2.out
  clear b1
  rcases e1 : coreB a with _ | _
  · have HR : Hid (CR = []) := Lib.hid (HR0.out e1)
    clear e1
    go_wp2
    exact bodyPost_ret (v := .slice (some ⟨w.heap.size + 1, 0, none⟩) 0 0) (by simp [results, Try.results20]) rfl ⟨_, rfl, by rw [HR.out]; exact (OE.out.below HB2.out).mono (by omega), BX.out.trans (HB2.out.mono (by omega))⟩
  have h2 := two_of e1 e1
  have HR := Lib.hid (HR1.out e1)
  have hr13 := (grB_parts h2.ga).1
  obtain ⟨B, hB⟩ : ∃ B, B = a.2.1.toNat := ⟨_, rfl⟩
  obtain ⟨r, hr⟩ : ∃ r, r = a.1.toNat := ⟨_, rfl⟩
  rw [← hB, ← hr] at HR
  rw [← hB] at h2
  have hra : a.1 = (r : Int) := by omega
  have hr3 : r ≤ 3 := by omega
  have HPI := Lib.hid (fun W h h' => pieces_any (.agg #[.int .i64 a.1, .int .i64 a.2.1, .slice Aa a.2.2.length capa]) (.agg #[.int .i64 a.1, .int .i64 a.2.1, .slice Aa a.2.2.length capa]) a a B B r W h h' h2 hra hra)
  have HBD := Lib.hid (pcs_bd h2 hr3 (B * B) (Nat.le_refl _))
  have HLEN := Lib.hid (pcs_len a a B B r (B * B))
  have hn1 : B * B ≤ 1600 := by
    obtain ⟨⟨_, x1⟩, _, x2⟩ := h2.bd
    exact Nat.mul_le_mul x1 x2
  rw [(pcs_off h2 hr3 (B * B)).1] at HR
  generalize (pcs a a B B r (B * B)).2 = L at *
  have hll : L.length ≤ 1600 := by have := HLEN.out; omega
  clear e1 h2 hB hr hra hr13 hn1
  go_wp2_with fail
  refine (HPI.out w2 (HAA.out _ HB2.out) (HAA.out _ HB2.out)).mono ?_
  rintro e w3 ⟨s3, m3, rfl, o3, b3⟩
  have s2 := HB2.out.size
  have HB3 := Lib.hid (HB2.out.trans (b3.mono s2))
  have OE3 := Lib.hid ((OE.out.below HB2.out).below b3)
  obtain ⟨Ap, capp, rfl, hcp, hmp, _, hfp⟩ := owns_form o3
  unfold maxLen at hmp
  have O3 := Lib.hid o3
  have hwp : w.heap.size + 1 < w2.heap.size := by have := HSW.out; omega
  have hs3 := b3.size
  clear b3 o3 q0 q1 q2
  go_wp2
  go_loopw [3, 21] (fun out i wr => ∃ k : Nat, k ≤ L.length ∧ i = .int .i64 k ∧ OwI wr (w.heap.size + 1) out (offI (L.take k)) ∧ OwPc wr w2.heap.size (.slice Ap L.length capp) L ∧ (∀ b, (Value.slice Ap L.length capp).ownBlock = some b → out.ownBlock ≠ some b) ∧ Below (w.heap.size + 1) W0 wr ∧ w2.heap.size ≤ wr.heap.size) (fun _ i _ => L.length - (intOf i).toNat)
  case atStart => exact ⟨0, Nat.zero_le _, rfl, OE3.out, O3.out, fun b hb e => by have := (O3.out.lt b hb).1; simp [Value.ownBlock] at e; omega, HB3.out.mono (by have := HSW.out; omega), hs3⟩
  case round =>
    obtain ⟨k, hk, rfl, hown, hop, hne, hbel, hww⟩ := hrel
    have HO := Lib.hid hown
    have HOP := Lib.hid hop
    have HNE := Lib.hid hne
    have HB4 := Lib.hid hbel
    have hol : (offI (L.take k)).length ≤ 1600 := Nat.le_trans (offI_len L k) hll
    by_cases hlt : k < L.length
    · obtain ⟨gp, rfl, hgp1, hgp2⟩ := hfp (by omega)
      have hlt' := (hop.lt gp rfl).2
      have cc : ∀ j, j < 5 → wr.cell? ⟨gp, k * 5 + j, none⟩ = (pcC L[k])[j]? := fun j hj => by
        rw [World.ownsRow.cellAt hop (k * 5 + j) (by omega), pcCs_get L k j hlt hj]
      have c0 := cc 0 (by omega)
      have c1 := cc 1 (by omega)
      have c2 := cc 2 (by omega)
      have c3 := cc 3 (by omega)
      have c4 := cc 4 (by omega)
      have hbd := HBD.out L[k] (by simp)
      have HTK := Lib.hid (offI_succ L k hlt)
      generalize L[k] = d at *
      obtain ⟨d0, d1, d2, d3, d4⟩ := d
      simp only [pcC, List.getElem?_cons_zero, List.getElem?_cons_succ, Nat.add_zero] at c0 c1 c2 c3 c4
      simp only at hbd
      have hw1 : IntKind.i64.wrap (d3 - d2) = d3 - d2 := by rw [IntKind.wrap_i64]; omega
      have hw2 : IntKind.i64.wrap (d3 - d2 + 1) = d3 - d2 + 1 := by rw [IntKind.wrap_i64]; omega
      have HY : Hid (I64 (d3 - d2 + 1)) := Lib.hid ⟨by omega, by omega⟩
      clear cc hown hop hne hbel
      cases d4
      · have HTK2 : Hid (offI (L.take (k + 1)) = offI (L.take k) ++ [d3 - d2 + 1]) := HTK
        clear HTK
        go_wp2_with (at_builtin; refine push_int rfl (.tmp 28) (.tmp 35) rfl _ _ _ (OwI.alloc (HO.out.alloc _) _) rfl _ _ rfl (by simp [go_sem]) HY.out (by first | omega | (simp <;> omega)) (by first | omega | (simp <;> omega)) ?_; intro v9 wv9 o9 g9 p9)
        have hz9 := g9.size
        simp at hz9
        go_roundw
        case rel =>
          refine ⟨k + 1, by omega, by go_num, by rw [HTK2.out]; exact o9, (ownsRow_below (ownsRow_below HOP.out ((Below.refl _ _).alloc (Nat.le_refl _) _)) ((Below.refl _ _).alloc (Nat.le_refl _) _)).kept g9 (.inr fun e => HNE.out gp rfl e.symm), fun b' hb' e => ?_, ((HB4.out.alloc (by omega) _).alloc (by simp; omega) _).grown g9 (by simp; omega) (fun x hx => (HO.out.1.lt x hx).1), by omega⟩
          simp only [Value.ownBlock, Option.some.injEq] at hb'
          subst hb'
          rcases p9 with p9 | p9
          · rw [p9] at e; exact HNE.out gp rfl e
          · rw [p9] at e; simp at e; omega
        case measure => simp [intOf]; omega
      · have HTK2 : Hid (offI (L.take (k + 1)) = offI (L.take k)) := Lib.hid (by rw [HTK.out]; simp)
        clear HTK
        go_wp2
        go_roundw
        case rel =>
          exact ⟨k + 1, by omega, by go_num, by rw [HTK2.out]; exact HO.out.alloc _, ownsRow_below HOP.out ((Below.refl _ _).alloc (Nat.le_refl _) _), HNE.out, HB4.out.alloc (by omega) _, by simp; omega⟩
        case measure => simp [intOf]; omega
    · obtain rfl : k = L.length := by omega
      rw [List.take_length] at hown
      have hcr : offI L = CR := HR.out.symm
      rw [hcr] at hown
      have HO2 := Lib.hid hown
      have HBW : Hid (Below w.heap.size w wr) := Lib.hid (BX.out.trans (HB4.out.mono (by omega)))
      obtain ⟨Ao, capo, rfl, _⟩ := OwI.form hown
      clear hown hop hne hbel HO hcr
      go_wp2
      exact bodyPost_ret (v := .slice Ao CR.length capo) (by simp [results, Try.results20]) rfl ⟨_, rfl, HO2.out.mono (by omega), HBW.out⟩
set_option maxHeartbeats 600000 in
theorem implIsMalnormal_any (va : Value) (a : GrD) (w : World) (ha : ArgG w va a) :
    Calls Try.prog 18 #[va] w fun e w' => e = .returned (.bool (malB a)) ∧ Below w.heap.size w w' := by
  have HGA := Lib.hid ha
  have HR0 : Hid (coreB a = false → malB a = false) := Lib.hid fun h => by unfold malB; rw [h, Bool.and_false]
  have HR1 : Hid (coreB a = true → malB a = allN (offR a)) := Lib.hid fun h1 => by unfold malB; rw [h1, Bool.and_true]
  have hll := offR_len (g := a)
  have HOD := Lib.hid (fun v W h => implOffDiagonal_any v a W h)
  generalize malB a = CR at *
  generalize offR a = L at *
  obtain ⟨Aa, capa, rfl⟩ : ∃ A' cap, va = .agg #[.int .i64 a.1, .int .i64 a.2.1, .slice A' a.2.2.length cap] := by
    obtain ⟨s, hv, _, _, ha⟩ := HGA.out
    obtain ⟨A', cap, rfl⟩ := ha.form
    exact ⟨A', cap, hv⟩
  clear ha
  go_enter Try.func18, Try.ntmps18
  go_wp2_with fail
  have bx : Below w.heap.size w (w.alloc (Obj.cells #[Value.int IntKind.i64 a.1, Value.int IntKind.i64 a.2.1, .slice Aa a.2.2.length capa] 36)) := (by repeat (first | exact Below.refl _ _ | (refine Below.setCell ?_ (by first | omega | (simp <;> omega)) _) | (refine bel_drewN ?_ _) | (refine Below.drew ?_) | (refine Below.alloc ?_ (by first | omega | (simp <;> omega)) _)))
  obtain ⟨W0, hW0⟩ : ∃ W, W = (w.alloc (Obj.cells #[Value.int IntKind.i64 a.1, Value.int IntKind.i64 a.2.1, .slice Aa a.2.2.length capa] 36)) := ⟨_, rfl⟩
  rw [← hW0] at bx ⊢
  have hsW : W0.heap.size = w.heap.size + 1 := by rw [hW0]; simp
  have A0 : Hid (W0.cell? ⟨w.heap.size, 0, none⟩ = some (.int .i64 a.1)) := Lib.hid (by rw [hW0]; simp [go_sem])
  have A1 : Hid (W0.cell? ⟨w.heap.size, 1, none⟩ = some (.int .i64 a.2.1)) := Lib.hid (by rw [hW0]; simp [go_sem])
  have A2 : Hid (W0.cell? ⟨w.heap.size, 2, none⟩ = some (.slice Aa a.2.2.length capa)) := Lib.hid (by rw [hW0]; simp [go_sem])
  clear hW0
  have hl0 : w.heap.size < W0.heap.size := by omega
  have BX := Lib.hid bx
  have HSW := Lib.hid hsW
  have HAA : Hid (∀ W, Below W0.heap.size W0 W → ArgG W (.agg #[.int .i64 a.1, .int .i64 a.2.1, .slice Aa a.2.2.length capa]) a) := Lib.hid fun W hb => HGA.out.below (BX.out.trans (hb.mono (by omega)))
  clear bx hsW
  refine (implIsCore_any _ a W0 (HAA.out _ (Below.refl _ _))).mono ?_
  rintro e w2 ⟨rfl, b1⟩
  have HB2 := Lib.hid b1
  have q0 := (b1.cell (p := ⟨w.heap.size, 0, none⟩) hl0).trans A0.out
  have q1 := (b1.cell (p := ⟨w.heap.size, 1, none⟩) hl0).trans A1.out
  have q2 := (b1.cell (p := ⟨w.heap.size, 2, none⟩) hl0).trans A2.out
  clear b1
  rcases e1 : coreB a with _ | _
  · have HR : Hid (CR = false) := Lib.hid (HR0.out e1)
    clear e1
    go_wp2
    exact bodyPost_ret (v := .bool false) (by simp [results, Try.results18]) rfl ⟨by rw [HR.out], BX.out.trans (HB2.out.mono (by omega))⟩
  have HR := Lib.hid (HR1.out e1)
  clear e1
  go_wp2_with fail
  refine (HOD.out _ w2 (HAA.out _ HB2.out)).mono ?_
  rintro e w3 ⟨s3, rfl, o3, b3⟩
  have HB3 := Lib.hid (HB2.out.trans (b3.mono HB2.out.size))
  obtain ⟨Al, capl, rfl, hcl, hml, _⟩ := OwI.form o3
  have O1 := Lib.hid o3.rd
  clear b3 o3 q0 q1 q2
  go_wp2
  go_loopw [11] (fun i wr => ∃ k : Nat, k ≤ L.length ∧ i = .int .i64 k ∧ allN (L.take k) = true ∧ Below w3.heap.size w3 wr) (fun i _ => L.length - (intOf i).toNat)
  case atStart => exact ⟨0, Nat.zero_le _, rfl, rfl, Below.refl _ _⟩
  case round =>
    obtain ⟨k, hk, rfl, hal, hbel⟩ := hrel
    have HAL := Lib.hid hal
    have HB := Lib.hid (HB3.out.trans (hbel.mono HB3.out.size))
    clear hal
    by_cases hlt : k < L.length
    · obtain ⟨bl, offl, rfl, hbl, hcc⟩ := (O1.out.below hbel).at (by omega)
      have c0 := hcc k hlt
      have ST := Lib.hid (allN_step hlt HAL.out)
      have HIT := Lib.hid (allN_hit hlt)
      generalize L[k] = x at *
      clear hcc
      by_cases hx : 0 < x
      · have F : Hid (CR = false) := Lib.hid (by rw [HR.out, HIT.out hx])
        go_wp2
        exact bodyPost_ret (v := .bool false) (by simp [results, Try.results18]) rfl ⟨by rw [F.out], BX.out.trans (HB.out.mono (by omega))⟩
      · have F := Lib.hid (ST.out hx)
        go_wp2
        go_roundw
        case rel => exact ⟨k + 1, by omega, by go_num, F.out, hbel⟩
        case measure => simp [intOf]; omega
    · obtain rfl : k = L.length := by omega
      rw [List.take_length] at HAL
      have F : Hid (CR = true) := Lib.hid (by rw [HR.out, HAL.out])
      clear hbel
      go_wp2
      exact bodyPost_ret (v := .bool true) (by simp [results, Try.results18]) rfl ⟨by rw [F.out], BX.out.trans (HB.out.mono (by omega))⟩
end Go.Proofs.Ytodkandjcodnjaa
