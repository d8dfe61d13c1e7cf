/- A Whitehead automorphism that shortens a cyclic word: of the reference and of the program. -/
import Derived.Test.YtnmkbkpegkchpaaMorS
import Derived.Test.YtnmkbkpegkchpaaExpB
import Derived.Test.YtnmkbkpegkchpaaCyc
import Derived.Deep.RegionHeld3
import Derived.Outline
namespace Go.Proofs.Ytnmkbkpegkchpaa
set_option maxRecDepth 20000
set_option linter.unusedVariables false
set_option linter.unusedSimpArgs false
open Go.RowKit

theorem whM_imgs (r : Int) (d : WhD) : (whM r d).2.length ≤ 3 ∧ ∀ b ∈ (whM r d).2, b.length ≤ 3 := by
  unfold whM
  split
  · rename_i h
    have := inB_iff.1 (whB_rank h).1
    exact ⟨by rw [whImgs_len]; omega, whImgs_each d _⟩
  · exact ⟨by simp, fun b hb => by cases hb⟩
theorem whX_len (r : Int) (d : WhD) (c : List Int) : (whX r d c).length ≤ 600 := by
  unfold whX
  have h := expL_len (whM_imgs r d).2 c
  have : (c.take 200).length ≤ 200 := by rw [List.length_take]; omega
  omega
set_option maxHeartbeats 1000000 in
theorem l21Apply_any (r : Int) (v u : Value) (d : WhD) (c : List Int) (w : World) (hr : I64 r) (h : ArgWh w v d) (h' : RdI w u c) (hl : d.2.length ≤ 1073741824) (hc : c.length ≤ 200) :
    Calls Try.prog 53 #[.int .i64 r, v, u] w fun e w' => ∃ s, e = .returned s ∧ OwI w' w.heap.size s (cycF (whX r d c)) ∧ Below w.heap.size w w' := by
  have H := Lib.hid h
  have H' := Lib.hid h'
  obtain ⟨s, rfl, hd, ha⟩ := h
  obtain ⟨L, xs⟩ := d
  obtain ⟨A, cap, rfl, hcap, hm, _⟩ := ha
  obtain ⟨A', cap', rfl, hcap', hm', _⟩ := h'.arg
  have HR := Lib.hid hr
  clear hd h' hr
  have hx6 := whX_len r (L, xs) c
  have him := whM_imgs r (L, xs)
  have HIM := Lib.hid him
  clear him
  go_enter Try.func53, Try.ntmps53
  go_wp2_with fail
  have hb0 : Below w.heap.size w (w.alloc (Obj.cells #[Value.int IntKind.i64 L, Value.slice A xs.length cap] 57)) := (by repeat (first | exact Below.refl _ _ | (refine Below.setCell ?_ (by first | omega | (simp <;> omega)) _) | (refine bel_drewN ?_ _) | (refine Below.drew ?_) | (refine Below.alloc ?_ (by first | omega | (simp <;> omega)) _)))
  have HB0 := Lib.hid hb0
  have H0 := Lib.hid (H.out.below hb0)
  clear hb0
  generalize w.alloc (Obj.cells #[Value.int IntKind.i64 L, Value.slice A xs.length cap] 57) = w0 at HB0 H0 ⊢
  have hs0 := HB0.out.size
  refine (specWhiteheadMorphism_any r _ (L, xs) _ HR.out H0.out hl).mono ?_
  rintro e w1 ⟨s1, rfl, o1, b1⟩
  have O1 := Lib.hid o1
  have B1 := Lib.hid (HB0.out.trans (b1.mono hs0))
  obtain ⟨A1, c1, rfl, _⟩ := o1.len
  clear o1 b1
  have hs1 := B1.out.size
  go_wp2_with fail
  have hb2 : Below w1.heap.size w1 (w1.alloc (Obj.cells #[Value.int IntKind.i64 (whM r (L, xs)).1, Value.slice A1 (whM r (L, xs)).2.length c1] 45)) := (by repeat (first | exact Below.refl _ _ | (refine Below.setCell ?_ (by first | omega | (simp <;> omega)) _) | (refine bel_drewN ?_ _) | (refine Below.drew ?_) | (refine Below.alloc ?_ (by first | omega | (simp <;> omega)) _)))
  have R1 := Lib.hid (O1.out.rd.below hb2)
  have R2 := Lib.hid ((H'.out.below B1.out).below hb2)
  have B2 := Lib.hid (B1.out.trans (hb2.mono hs1))
  clear hb2
  generalize w1.alloc (Obj.cells #[Value.int IntKind.i64 (whM r (L, xs)).1, Value.slice A1 (whM r (L, xs)).2.length c1] 45) = w2 at R1 R2 B2 ⊢
  have hs2 := B2.out.size
  refine (specExpandBy_any _ _ _ c _ R1.out R2.out (by have := HIM.out.1; omega) (fun b hb => by have := HIM.out.2 b hb; omega) hc).mono ?_
  rintro e w3 ⟨s3, rfl, o3, b3⟩
  have O3 : Hid (OwI w3 w2.heap.size s3 (whX r (L, xs) c)) := Lib.hid o3
  have B3 := Lib.hid (B2.out.trans (b3.mono hs2))
  obtain ⟨A3, c3, rfl, _⟩ := o3.form
  clear o3 b3
  have hs3 := B3.out.size
  go_wp2_with fail
  refine (specCyclicForm_any _ (whX r (L, xs) c) _ O3.out.rd (by omega)).mono ?_
  rintro e w4 ⟨s4, rfl, o4, b4⟩
  have O4 := Lib.hid o4
  have B4 := Lib.hid (B3.out.trans (b4.mono hs3))
  clear o4 b4
  go_wp2
  go_ret
  exact ⟨_, rfl, O4.out.mono hs3, B4.out⟩
theorem shortF_eq (r : Int) (c : List Int) : shortF r c = (allWh r).find? (fun d => decide ((coreF (whX r d c)).length < c.length)) := rfl
theorem allWh_nums (r : Int) : (allWh r).length ≤ 1073741824 ∧ ∀ d ∈ allWh r, d.2.length ≤ 1073741824 := by
  have h := allWh_cnt r
  have : ∀ ds : List WhD, ds.length ≤ cntL cW ds ∧ ∀ d ∈ ds, d.2.length ≤ cntL cW ds := by
    intro ds
    induction ds with
    | nil => exact ⟨by simp, fun d hd => by cases hd⟩
    | cons d ds ih =>
      rw [cntL_cons]
      have : cW d = d.2.length + 1 := rfl
      refine ⟨by simp; omega, fun e he => ?_⟩
      rcases List.mem_cons.1 he with rfl | he
      · omega
      · have := ih.2 e he; omega
  exact ⟨by have := (this (allWh r)).1; omega, fun d hd => by have := (this (allWh r)).2 d hd; omega⟩
/-- What a search for a shortening hands back. -/
def ShRes (r : Int) (c : List Int) (lo : Nat) (w' : World) (e : Ending) : Prop :=
  match shortF r c with
  | some d => ∃ S F m, e = .returned (.tuple #[.agg #[.int .i64 d.1, S], F, .bool true]) ∧ I64 d.1 ∧ OwI w' lo S d.2 ∧ (∀ b, S.ownBlock = some b → b < m) ∧ OwI w' m F (cycF (whX r d c)) ∧ lo ≤ m
  | none => ∃ F, e = .returned (.tuple #[.agg #[.int .i64 0, .slice none 0 0], F, .bool false])
set_option maxHeartbeats 2000000 in
theorem shorten_any (r : Int) (u : Value) (c : List Int) (w : World) (hr : I64 r) (h : RdI w u c) (hc : c.length ≤ 200) :
    Calls Try.prog 63 #[.int .i64 r, u] w fun e w' => ShRes r c w.heap.size w' e ∧ Below w.heap.size w w' := by
  have H := Lib.hid h
  obtain ⟨A, cap, rfl, hcap, hm, _⟩ := h.arg
  have HR := Lib.hid hr
  clear h hr
  have HN := Lib.hid (allWh_nums r)
  go_enter Try.func63, Try.ntmps63
  go_wp2_with fail
  have hb0 : Below w.heap.size w (w.alloc (Obj.cells #[Value.int IntKind.i64 0, Value.slice none 0 0] 57)) := (by repeat (first | exact Below.refl _ _ | (refine Below.setCell ?_ (by first | omega | (simp <;> omega)) _) | (refine bel_drewN ?_ _) | (refine Below.drew ?_) | (refine Below.alloc ?_ (by first | omega | (simp <;> omega)) _)))
  have HB0 := Lib.hid hb0
  have H0 := Lib.hid (H.out.below hb0)
  have hq : ∀ o, (w.alloc (Obj.cells #[Value.int IntKind.i64 0, Value.slice none 0 0] 57)).frozen? ⟨w.heap.size, o, none⟩ = false := fun o => by simp [go_sem]
  have hq0 : (w.alloc (Obj.cells #[Value.int IntKind.i64 0, Value.slice none 0 0] 57)).cell? ⟨w.heap.size, 0, none⟩ = some (.int .i64 0) := by simp [go_sem]
  have hq1 : (w.alloc (Obj.cells #[Value.int IntKind.i64 0, Value.slice none 0 0] 57)).cell? ⟨w.heap.size, 1, none⟩ = some (.slice none 0 0) := by simp [go_sem]
  have hz0 : w.heap.size < (w.alloc (Obj.cells #[Value.int IntKind.i64 0, Value.slice none 0 0] 57)).heap.size := by simp
  clear hb0
  generalize w.alloc (Obj.cells #[Value.int IntKind.i64 0, Value.slice none 0 0] 57) = w0 at HB0 H0 hq hq0 hq1 hz0 ⊢
  refine (implAllWhitehead_any r _).mono ?_
  rintro e w1 ⟨lv, rfl, ol, bl⟩
  have OL := Lib.hid ol
  have HB1 := Lib.hid (HB0.out.trans (bl.mono (Nat.le_of_lt hz0)))
  have H1 := Lib.hid (H0.out.below bl)
  have hf1 : ∀ o, w1.frozen? ⟨w.heap.size, o, none⟩ = false := fun o => (bl.frozen (p := ⟨w.heap.size, o, none⟩) hz0).trans (hq o)
  have hc0 : w1.cell? ⟨w.heap.size, 0, none⟩ = some (.int .i64 0) := (bl.cell (p := ⟨w.heap.size, 0, none⟩) hz0).trans hq0
  have hc1 : w1.cell? ⟨w.heap.size, 1, none⟩ = some (.slice none 0 0) := (bl.cell (p := ⟨w.heap.size, 1, none⟩) hz0).trans hq1
  have hz1 : w.heap.size < w1.heap.size := Nat.lt_of_lt_of_le hz0 bl.size
  obtain ⟨Al, cl, rfl, hcl, hml, _⟩ := ol.len
  have HZ0 := Lib.hid hz0
  clear ol bl hq hq0 hq1 hz0 H0 HB0
  unfold maxLen at hml
  have hnum := HN.out.1
  go_wp2_with fail
  go_loopw [15] (fun i wr => ∃ k : Nat, k ≤ (allWh r).length ∧ i = .int .i64 k ∧ ((allWh r).drop k).find? (fun d => decide ((coreF (whX r d c)).length < c.length)) = shortF r c ∧ Below w1.heap.size w1 wr)
    (fun i _ => (allWh r).length - (intOf i).toNat)
  case atStart => exact ⟨0, Nat.zero_le _, rfl, rfl, Below.refl _ _⟩
  case round =>
    obtain ⟨k, hk, rfl, hfind, hbel⟩ := hrel
    have HF := Lib.hid hfind
    have hsz := hbel.size
    have HB := Lib.hid hbel
    clear hfind
    by_cases hlt : k < (allWh r).length
    · obtain ⟨g, cs, Fe, rfl, hg0, hg1, hE, hcw, hFe, _, hcc, _⟩ := (OL.out.keep EWh.stable (w' := wr) fun b _ hb => hbel.block b hb).focus EWh.stable hlt
      obtain ⟨s0, rfl, hi0, ho0, rfl⟩ := hE
      have e0 := hcc 0 (by simp)
      have e1 := hcc 1 (by simp)
      simp only [List.getElem_cons_zero, List.getElem_cons_succ, Nat.add_zero] at e0 e1
      have HS := Lib.hid (find_succ r c k hlt)
      have hdl := HN.out.2 (allWh r)[k] (by simp)
      have HO0 := Lib.hid ho0
      have HFE := Lib.hid hFe
      have HI0 := Lib.hid hi0
      have hgw : g < wr.heap.size := by omega
      clear hcc hFe hi0 hbel ho0
      generalize (allWh r)[k] = d at e0 HS hdl HO0 HI0
      obtain ⟨L, xs⟩ := d
      obtain ⟨A2, c2, rfl, _⟩ := OwI.form HO0.out
      go_wp2_with fail
      have hb2 : Below wr.heap.size wr (wr.alloc (Obj.cells #[Value.int IntKind.i64 L, Value.slice A2 xs.length c2] 57)) := (by repeat (first | exact Below.refl _ _ | (refine Below.setCell ?_ (by first | omega | (simp <;> omega)) _) | (refine bel_drewN ?_ _) | (refine Below.drew ?_) | (refine Below.alloc ?_ (by first | omega | (simp <;> omega)) _)))
      have HB2 := Lib.hid (HB.out.trans (hb2.mono hsz))
      have AW : Hid (ArgWh (wr.alloc (Obj.cells #[Value.int IntKind.i64 L, Value.slice A2 xs.length c2] 57)) (.agg #[.int .i64 L, .slice A2 xs.length c2]) (L, xs)) := Lib.hid ⟨_, rfl, HI0.out, HO0.out.arg.below hb2⟩
      have hx0 : (wr.alloc (Obj.cells #[Value.int IntKind.i64 L, Value.slice A2 xs.length c2] 57)).cell? ⟨wr.heap.size, 0, none⟩ = some (.int .i64 L) := by simp [go_sem]
      have hx1 : (wr.alloc (Obj.cells #[Value.int IntKind.i64 L, Value.slice A2 xs.length c2] 57)).cell? ⟨wr.heap.size, 1, none⟩ = some (.slice A2 xs.length c2) := by simp [go_sem]
      have hxz : wr.heap.size < (wr.alloc (Obj.cells #[Value.int IntKind.i64 L, Value.slice A2 xs.length c2] 57)).heap.size := by simp
      clear hb2
      generalize wr.alloc (Obj.cells #[Value.int IntKind.i64 L, Value.slice A2 xs.length c2] 57) = w2 at HB2 AW hx0 hx1 hxz ⊢
      have hs2 := HB2.out.size
      refine (implWhiteheadMorphism_any r _ (L, xs) _ HR.out AW.out hdl).mono ?_
      rintro e w3 ⟨s3, rfl, o3, b3⟩
      have O3 := Lib.hid o3
      have HB3 := Lib.hid (HB2.out.trans (b3.mono hs2))
      have hy0 := (b3.cell (p := ⟨wr.heap.size, 0, none⟩) hxz).trans hx0
      have hy1 := (b3.cell (p := ⟨wr.heap.size, 1, none⟩) hxz).trans hx1
      have hyz := Nat.lt_of_lt_of_le hxz b3.size
      obtain ⟨A3, c3, rfl, _⟩ := o3.len
      clear o3 b3 hx0 hx1 AW
      have hs3 := HB3.out.size
      go_wp2_with fail
      have hb4 : Below w3.heap.size w3 (w3.alloc (Obj.cells #[Value.int IntKind.i64 (whM r (L, xs)).1, Value.slice A3 (whM r (L, xs)).2.length c3] 45)) := (by repeat (first | exact Below.refl _ _ | (refine Below.setCell ?_ (by first | omega | (simp <;> omega)) _) | (refine bel_drewN ?_ _) | (refine Below.drew ?_) | (refine Below.alloc ?_ (by first | omega | (simp <;> omega)) _)))
      have HB4 := Lib.hid (HB3.out.trans (hb4.mono hs3))
      have R1 := Lib.hid (O3.out.rd.below hb4)
      have R2 := Lib.hid (H1.out.below HB4.out)
      have hu0 := (hb4.cell (p := ⟨wr.heap.size, 0, none⟩) hyz).trans hy0
      have hu1 := (hb4.cell (p := ⟨wr.heap.size, 1, none⟩) hyz).trans hy1
      have huz := Nat.lt_of_lt_of_le hyz hb4.size
      clear hb4 hy0 hy1
      generalize w3.alloc (Obj.cells #[Value.int IntKind.i64 (whM r (L, xs)).1, Value.slice A3 (whM r (L, xs)).2.length c3] 45) = w4 at HB4 R1 R2 hu0 hu1 huz ⊢
      have hs4 := HB4.out.size
      have HIM := Lib.hid (whM_imgs r (L, xs))
      have hx6 := whX_len r (L, xs) c
      refine (implExpandBy_any _ _ _ c _ R1.out R2.out (by have := HIM.out.1; omega) (fun b hb => by have := HIM.out.2 b hb; omega) hc).mono ?_
      rintro e w5 ⟨s5, rfl, o5, b5⟩
      have O5 : Hid (OwI w5 w4.heap.size s5 (whX r (L, xs) c)) := Lib.hid o5
      have HB5 := Lib.hid (HB4.out.trans (b5.mono hs4))
      have hv0 := (b5.cell (p := ⟨wr.heap.size, 0, none⟩) huz).trans hu0
      have hv1 := (b5.cell (p := ⟨wr.heap.size, 1, none⟩) huz).trans hu1
      have hvz := Nat.lt_of_lt_of_le huz b5.size
      obtain ⟨A5, c5, rfl, _⟩ := OwI.form O5.out
      clear o5 b5 hu0 hu1 R1 R2
      have hs5 := HB5.out.size
      go_wp2_with fail
      refine (implCyclicLength_any _ (whX r (L, xs) c) _ O5.out.rd (by omega)).mono ?_
      rintro e w6 ⟨rfl, b6⟩
      have HB6 := Lib.hid (HB5.out.trans (b6.mono hs5))
      have O6 := Lib.hid (O5.out.below b6)
      have hv0' := (b6.cell (p := ⟨wr.heap.size, 0, none⟩) hvz).trans hv0
      have hv1' := (b6.cell (p := ⟨wr.heap.size, 1, none⟩) hvz).trans hv1
      have hvz' := Nat.lt_of_lt_of_le hvz b6.size
      have hs6 := HB6.out.size
      clear b6 hv0 hv1 hvz
      rcases et : decide ((coreF (whX r (L, xs) c)).length < c.length) with _ | _
      · have HF2 := HS.out
        rw [et] at HF2
        have HF3 : Hid (((allWh r).drop (k + 1)).find? (fun d => decide ((coreF (whX r d c)).length < c.length)) = shortF r c) := Lib.hid (by rw [← HF.out, HF2]; rfl)
        have et2 : ¬ (coreF (whX r (L, xs) c)).length < c.length := by simpa using et
        clear HF2 et
        go_wp2
        go_roundw
        case rel => exact ⟨k + 1, by omega, by go_num, HF3.out, HB6.out⟩
        case measure => simp [intOf]; omega
      · have HF2 := HS.out
        rw [et] at HF2
        have HF3 : Hid (shortF r c = some (L, xs)) := Lib.hid (by rw [← HF.out, HF2]; rfl)
        have et2 : (coreF (whX r (L, xs) c)).length < c.length := by simpa using et
        clear HF2 et
        have r0 := (HB6.out.cell (p := ⟨w.heap.size, 0, none⟩) hz1).trans hc0
        have r1 := (HB6.out.cell (p := ⟨w.heap.size, 1, none⟩) hz1).trans hc1
        have rf := fun o => (HB6.out.frozen (p := ⟨w.heap.size, o, none⟩) hz1).trans (hf1 o)
        have O6d := Lib.hid (O6.out.rd.drew)
        have HB6d := Lib.hid HB6.out.drew
        have hzz6 : w.heap.size < w6.heap.size := by omega
        have hneq : wr.heap.size ≠ w.heap.size := by omega
        clear hc0 hc1 hf1 e0 e1
        go_wp2
        go_region_held3 (fun w' => w'.cell? ⟨wr.heap.size, 0, none⟩ = some (.int .i64 L) ∧ w'.cell? ⟨wr.heap.size, 1, none⟩ = some (.slice A2 xs.length c2))
          (first | go_keep | exact ⟨q0, q1⟩ | (constructor <;> (rw [World.cell?_of_block (setCell_block _ _ _ _ hneq), World.cell?_of_block (setCell_block _ _ _ _ hneq)]; first | exact q0 | exact q1)))
          ((go_at_call 47; refine (implCyclicForm_any _ (whX r (L, xs) c) _ O6d.out (by omega)).mono ?_; rintro e w7 ⟨s7, rfl, o7, b7⟩; have O7 := Lib.hid o7; have HB7 := Lib.hid (HB6d.out.trans (b7.mono HB6d.out.size)); have q0 := (b7.cell (p := ⟨wr.heap.size, 0, none⟩) hvz').trans hv0'; have q1 := (b7.cell (p := ⟨wr.heap.size, 1, none⟩) hvz').trans hv1'; have q2 := (b7.cell (p := ⟨w.heap.size, 0, none⟩) hzz6).trans r0; have q3 := (b7.cell (p := ⟨w.heap.size, 1, none⟩) hzz6).trans r1; have qf := (fun o => (b7.frozen (p := ⟨w.heap.size, o, none⟩) hzz6).trans (rf o)); obtain ⟨A7, c7, rfl, _⟩ := OwI.form o7; have hzz7 := Nat.lt_of_lt_of_le hzz6 b7.size; clear o7 b7))
        have hS : OwI w7 w.heap.size (.slice A2 xs.length c2) xs := by
          refine OwI.alone ⟨ownsRow_keep HO0.out.1 fun b hb => ?_, HO0.out.2⟩ fun b hb => ?_
          · have h1 := HFE.out b (by simp [hb])
            exact (HB7.out.block b h1.2.1).trans (HB.out.block b h1.2.1).symm
          · have h1 := HFE.out b (by simp [hb])
            have := HZ0.out
            omega
        have hSb : ∀ b, (Value.slice A2 xs.length c2).ownBlock = some b → w0.heap.size ≤ b ∧ b < w1.heap.size := fun b hb => by
          have h1 := HFE.out b (by simp [hb])
          exact ⟨h1.1, h1.2.1⟩
        have HSS := Lib.hid hS
        have HSB := Lib.hid hSb
        have HBF := Lib.hid (HB1.out.trans (HB7.out.mono (Nat.le_of_lt hz1)))
        clear hS hSb
        go_wp2
        refine bodyPost_ret (v := .tuple #[.agg #[.int .i64 L, .slice A2 xs.length c2], .slice A7 (cycF (whX r (L, xs) c)).length c7, .bool true]) (by simp [results, Try.results63, go_sem, hzz7, q2, q3]) rfl ⟨?_, (by repeat (first | exact Below.refl _ _ | (refine Below.setCell ?_ (by first | omega | (simp <;> omega)) _) | (refine bel_drewN ?_ _) | (refine Below.drew ?_) | (refine Below.alloc ?_ (by first | omega | (simp <;> omega)) _) | (refine Below.trans ?_ (Below.mono (Hid.out HBF) (by first | omega | (simp <;> omega))))))⟩
        unfold ShRes
        rw [HF3.out]
        have hne2 : ∀ b, (Value.slice A2 xs.length c2).ownBlock = some b → b ≠ w.heap.size := fun b hb => by have := HSB.out b hb; have := HZ0.out; omega
        refine ⟨_, _, w6.heap.size, rfl, HI0.out, ⟨ownsRow_keep HSS.out.1 fun b hb => ?_, HSS.out.2⟩, fun b hb => ?_, ?_, Nat.le_of_lt hzz6⟩
        · rw [setCell_block _ _ _ b (hne2 b hb), setCell_block _ _ _ b (hne2 b hb)]
        · have := HSB.out b hb; omega
        · exact (OwI.far O7.out (p := ⟨w.heap.size, 0, none⟩) hzz6 _).far (p := ⟨w.heap.size, 1, none⟩) hzz6 _
    · obtain rfl : k = (allWh r).length := by omega
      have HE : Hid (shortF r c = none) := Lib.hid (by rw [← HF.out]; simp)
      obtain ⟨hcr, hfr⟩ := bcell hbel
      have hzr : w.heap.size < wr.heap.size := by omega
      have hq0 : wr.cell? ⟨w.heap.size, 0, none⟩ = some (.int .i64 0) := by rw [hcr _ _ hz1]; exact hc0
      have hq1 : wr.cell? ⟨w.heap.size, 1, none⟩ = some (.slice none 0 0) := by rw [hcr _ _ hz1]; exact hc1
      have hqf : ∀ o, wr.frozen? ⟨w.heap.size, o, none⟩ = false := fun o => by rw [hfr _ _ hz1]; exact hf1 o
      have HW := Lib.hid (HB1.out.trans (hbel.mono (Nat.le_of_lt hz1)))
      clear hcr hfr hbel hc0 hc1 hf1
      go_wp2
      refine bodyPost_ret (v := .tuple #[.agg #[.int .i64 0, .slice none 0 0], .slice (some ⟨wr.heap.size, 0, none⟩) 0 0, .bool false]) (by simp [results, Try.results63, go_sem, hzr, hq0, hq1]) rfl ⟨?_, (by repeat (first | exact Below.refl _ _ | (refine Below.setCell ?_ (by first | omega | (simp <;> omega)) _) | (refine bel_drewN ?_ _) | (refine Below.drew ?_) | (refine Below.alloc ?_ (by first | omega | (simp <;> omega)) _) | (refine Below.trans ?_ (Below.mono (Hid.out HW) (by first | omega | (simp <;> omega))))))⟩
      unfold ShRes
      rw [HE.out]
      exact ⟨_, rfl⟩
def shOut (r : Int) (c : List Int) : WhD × Bool := match shortF r c with | some d => (d, true) | none => ((0, []), false)
end Go.Proofs.Ytnmkbkpegkchpaa
