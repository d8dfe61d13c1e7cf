/- The reference's insertion into an ascending list of words. -/
import Derived.Test.YtnmkbkpegkchpaaLevS
namespace Go.Proofs.Ytnmkbkpegkchpaa
set_option maxRecDepth 20000
set_option linter.unusedVariables false
set_option linter.unusedSimpArgs false
open Go.RowKit

abbrev Trip := List Value × List Int × List Nat
theorem row_es {w : World} {A : Option Addr} {m cap : Nat} {es : List Trip} (h2 : ∀ e ∈ es, e.1.length = 1 ∧ EI w e.1 e.2.1 e.2.2) (h3 : w.ownsRow 0 27 1 (.slice A m cap) es.length (es.map (·.1)).flatten) (k : Nat) (hk : k < es.length) :
    ∃ g A1 cap1, A = some ⟨g, 0, none⟩ ∧ g < w.heap.size ∧ es[k].1 = [.slice A1 es[k].2.1.length cap1] ∧ w.cell? ⟨g, k, none⟩ = some (.slice A1 es[k].2.1.length cap1) ∧ OwI w 0 (.slice A1 es[k].2.1.length cap1) es[k].2.1 := by
  obtain ⟨f1, f2⟩ := flat_ones es fun e he => (h2 e he).1
  obtain ⟨s, hs, ho, _⟩ := (h2 es[k] (List.getElem_mem hk)).2
  obtain ⟨A1, cap1, rfl, _⟩ := ho.form
  obtain ⟨A', cap', hv, _, _, _, hg⟩ := owns_form h3
  obtain ⟨g, hA, _, _⟩ := hg (by omega)
  injection hv with e1 e2 e3
  subst e1 e2 e3
  subst hA
  have hlt := (h3.lt g rfl).2
  have hkf : k < ((es.map (·.1)).flatten).length := by rw [f1]; exact hk
  have hc := h3.cellAt k (show k < es.length * 1 by omega)
  rw [List.getElem?_eq_getElem hkf] at hc
  have := f2 k hk hkf
  rw [hs] at this
  injection this with this
  rw [← this] at hc
  exact ⟨g, A1, cap1, rfl, hlt, hs, hc, ho⟩
/-- A new element. -/
structure NewE (w : World) (wr : World) (out : Value) (e : Trip) : Prop where
  one : e.1.length = 1
  el : EI wr e.1 e.2.1 e.2.2
  nd : e.2.2.Nodup
  at_ : ∀ b ∈ e.2.2, w.heap.size ≤ b ∧ b < wr.heap.size ∧ out.ownBlock ≠ some b
theorem flat_perm {es es' : List Trip} (h : es.Perm es') : ((es.map (·.2.2)).flatten).Perm (es'.map (·.2.2)).flatten := (h.map _).flatten
theorem put_fin {w wr : World} {u out : Value} {es nw os : List Trip} (hp : os.Perm (nw ++ es)) (hnw : nw.length ≤ 1) (hN : ∀ e ∈ nw, NewE w wr out e) (h2 : ∀ e ∈ es, e.1.length = 1 ∧ EI w e.1 e.2.1 e.2.2)
    (hnF : (u.ownBlock.toList ++ (es.map (·.2.2)).flatten).Nodup) (hF : ∀ b ∈ u.ownBlock.toList ++ (es.map (·.2.2)).flatten, b < w.heap.size) (hrow : wr.ownsRow w.heap.size 27 1 out os.length (os.map (·.1)).flatten) (hb : Below w.heap.size w wr) :
    ∃ F', OwLf EI 27 1 wr out (os.map (·.2.1)) F' ∧ F'.Nodup ∧ ∀ b ∈ F', (b ∈ u.ownBlock.toList ++ (es.map (·.2.2)).flatten ∨ w.heap.size ≤ b) ∧ b < wr.heap.size := by
  have hpf := flat_perm hp
  rw [List.map_append, List.flatten_append] at hpf
  have hesF : ∀ b ∈ (es.map (·.2.2)).flatten, b < w.heap.size := fun b h => hF b (List.mem_append.2 (.inr h))
  have hnwF : ∀ b ∈ (nw.map (·.2.2)).flatten, w.heap.size ≤ b ∧ b < wr.heap.size ∧ out.ownBlock ≠ some b := fun b h => by
    obtain ⟨l, hl, hbl⟩ := List.mem_flatten.1 h
    obtain ⟨e, he, rfl⟩ := List.mem_map.1 hl
    exact (hN e he).at_ b hbl
  have hnwN : ((nw.map (·.2.2)).flatten).Nodup := by
    match nw, hnw, hN with
    | [], _, _ => simp
    | [e], _, hN => simpa using (hN e (by simp)).nd
    | _ :: _ :: _, h, _ => simp at h
  have hs := hb.size
  refine ⟨out.ownBlock.toList ++ (os.map (·.2.2)).flatten, ⟨os, rfl, fun e he => ?_, ?_, rfl⟩, ?_, fun b hbm => ?_⟩
  · rcases List.mem_append.1 (hp.mem_iff.1 he) with h | h
    · exact ⟨(hN e h).one, (hN e h).el⟩
    · refine ⟨(h2 e h).1, EI.stable _ _ _ _ _ (h2 e h).2 fun b hbe => hb.block b (hesF b (List.mem_flatten.2 ⟨e.2.2, List.mem_map.2 ⟨e, h, rfl⟩, hbe⟩))⟩
  · refine ⟨hrow.1, ?_⟩
    rcases hrow.2 with h0 | ⟨g, cap, cur, hv, hg, r⟩
    · exact .inl h0
    · exact .inr ⟨g, cap, cur, hv, Nat.zero_le _, r⟩
  · refine List.nodup_append.2 ⟨by cases out.ownBlock <;> simp, hpf.nodup_iff.2 (List.nodup_append.2 ⟨hnwN, (List.nodup_append.1 hnF).2.1, fun a ha b hb' hab => ?_⟩), fun a ha b hb' hab => ?_⟩
    · have := (hnwF a ha).1
      have := hesF b hb'
      omega
    · subst hab
      have ha' : out.ownBlock = some a := by simpa using ha
      rcases List.mem_append.1 (hpf.mem_iff.1 hb') with h | h
      · exact (hnwF a h).2.2 ha'
      · have := hesF a h
        have := (hrow.lt a ha').1
        omega
  · rcases List.mem_append.1 hbm with h | h
    · have h' : out.ownBlock = some b := by simpa using h
      have := hrow.lt b h'
      exact ⟨.inr this.1, this.2⟩
    · rcases List.mem_append.1 (hpf.mem_iff.1 h) with h | h
      · have := hnwF b h
        exact ⟨.inr this.1, this.2.1⟩
      · exact ⟨.inl (List.mem_append.2 (.inr h)), by have := hesF b h; omega⟩
theorem NewE.grow {w wr w' : World} {out v' : Value} {e : Trip} (h : NewE w wr out e) (hg : wr.grownBy w' out.ownBlock) (hv : v'.ownBlock = out.ownBlock ∨ ∀ b, v'.ownBlock = some b → wr.heap.size ≤ b) : NewE w w' v' e := by
  refine ⟨h.one, EI.stable _ _ _ _ _ h.el fun b hb => hg.block b (h.at_ b hb).2.1 (fun e => (h.at_ b hb).2.2 e.symm), h.nd, fun b hb => ⟨(h.at_ b hb).1, by have := (h.at_ b hb).2.1; have := hg.size; omega, fun e' => ?_⟩⟩
  rcases hv with hv | hv
  · exact (h.at_ b hb).2.2 (hv.symm.trans e')
  · have := hv b e'
    have := (h.at_ b hb).2.1
    omega
theorem NewE.below {w wr w' : World} {out : Value} {e : Trip} (h : NewE w wr out e) (hb : Below wr.heap.size wr w') : NewE w w' out e :=
  ⟨h.one, EI.stable _ _ _ _ _ h.el fun b hbe => hb.block b (h.at_ b hbe).2.1, h.nd, fun b hbe => ⟨(h.at_ b hbe).1, Nat.lt_of_lt_of_le (h.at_ b hbe).2.1 hb.size, (h.at_ b hbe).2.2⟩⟩
theorem insS_len (x : List Int) (L : List (List Int)) : (L.foldl (insS cK x) ([], false)).1.length ≤ 2 * L.length := by
  have : ∀ (L : List (List Int)) (s : List (List Int) × Bool), (L.foldl (insS cK x) s).1.length ≤ s.1.length + 2 * L.length := by
    intro L
    induction L with
    | nil => intro s; simp
    | cons y L ih =>
      intro s
      rw [List.foldl_cons]
      have h1 := ih (insS cK x s y)
      have h2 : (insS cK x s y).1.length ≤ s.1.length + 2 := by unfold insS; repeat' split
                                                                all_goals simp
      simp only [List.length_cons]
      omega
  simpa using this L ([], false)
set_option maxRecDepth 100000 in
set_option maxHeartbeats 2000000 in
theorem l22Put_any (u v : Value) (L : List (List Int)) (x : List Int) (F : List Nat) (w : World) (h : OwLf EI 27 1 w u L F) (hn : F.Nodup) (hF : ∀ b ∈ F, b < w.heap.size) (hx : RdI w v x) (hsx : smallW x) (hsL : ∀ y ∈ L, smallW y) (hl : L.length ≤ 1000) (hxl : x.length ≤ 1000) :
    Calls Try.prog 41 #[u, v] w fun e w' => ∃ r F', e = .returned r ∧ OwLf EI 27 1 w' r (insF cK L x) F' ∧ F'.Nodup ∧ (∀ b ∈ F', (b ∈ F ∨ w.heap.size ≤ b) ∧ b < w'.heap.size) ∧ Below w.heap.size w w' := by
  obtain ⟨Au, mu, cu, rfl⟩ := h.form
  obtain ⟨es, h1, h2, h3, rfl⟩ := h
  subst h1
  have HROW := Lib.hid fun k hk => row_es h2 h3 k hk
  obtain rfl : mu = es.length := by
    obtain ⟨_, _, hv, _⟩ := owns_form h3
    injection hv
  have H2 := Lib.hid h2
  have HN := Lib.hid hn
  have HF := Lib.hid hF
  have HX := Lib.hid hx
  have HSX := Lib.hid hsx
  obtain ⟨Ax, cx, rfl, hcx, hmx, _⟩ := hx.arg
  unfold maxLen at hmx
  have HSL : Hid (∀ k (hk : k < es.length), smallW es[k].2.1) := Lib.hid fun k hk => hsL _ (List.mem_map.2 ⟨es[k], List.getElem_mem hk, rfl⟩)
  have hle : es.length ≤ 1000 := by simpa using hl
  have HSTEP : Hid (∀ k (hk : k < es.length), ((es.map (·.2.1)).take (k + 1)).foldl (insS cK x) ([], false) = insS cK x (((es.map (·.2.1)).take k).foldl (insS cK x) ([], false)) es[k].2.1) := Lib.hid fun k hk => by
    rw [List.take_succ_eq_append_getElem (by simpa using hk), List.foldl_append]
    simp
  have HTK : Hid (∀ k (hk : k < es.length), es.take (k + 1) = es.take k ++ [es[k]]) := Lib.hid fun k hk => List.take_succ_eq_append_getElem hk
  have HSLN : Hid (∀ k, (((es.map (·.2.1)).take k).foldl (insS cK x) ([], false)).1.length ≤ 2000) := Lib.hid fun k => by
    have h1 := insS_len x ((es.map (·.2.1)).take k)
    rw [List.length_take, List.length_map] at h1
    omega
  have HFIN : Hid (insF cK (es.map (·.2.1)) x = if (((es.map (·.2.1)).take es.length).foldl (insS cK x) ([], false)).2 then (((es.map (·.2.1)).take es.length).foldl (insS cK x) ([], false)).1 else (((es.map (·.2.1)).take es.length).foldl (insS cK x) ([], false)).1 ++ [x]) := Lib.hid (by
    have : (es.map (·.2.1)).take es.length = es.map (·.2.1) := by rw [show es.length = (es.map (·.2.1)).length by simp, List.take_length]
    rw [this]; rfl)
  generalize (fun k => ((es.map (·.2.1)).take k).foldl (insS cK x) ([], false)) = dummy at *
  clear h2 h3 hn hF hx hsx hsL hl dummy
  go_enter Try.func41, Try.ntmps41
  go_wp2
  go_loopw [5, 6, 7] (fun out pl i wr => ∃ k : Nat, k ≤ es.length ∧ i = .int .i64 k ∧ pl = .bool (((es.map (·.2.1)).take k).foldl (insS cK x) ([], false)).2 ∧ ∃ os nw : List Trip, os.map (·.2.1) = (((es.map (·.2.1)).take k).foldl (insS cK x) ([], false)).1 ∧ os.Perm (nw ++ es.take k) ∧ nw.length ≤ 1 ∧ ((((es.map (·.2.1)).take k).foldl (insS cK x) ([], false)).2 = false → nw = []) ∧ (∀ e ∈ nw, NewE w wr out e) ∧ wr.ownsRow w.heap.size 27 1 out os.length (os.map (·.1)).flatten ∧ Below w.heap.size w wr)
    (fun _ _ i _ => es.length - (intOf i).toNat)
  case atStart =>
    refine ⟨0, Nat.zero_le _, rfl, rfl, [], [], rfl, by simp, by simp, fun _ => rfl, (fun e he => by cases he), ?_, (Below.refl _ _).alloc (Nat.le_refl _) _⟩
    have := rows_lit w [] (by simp) (Nat.le_refl w.heap.size)
    simpa using this
  case round =>
    obtain ⟨k, hk, rfl, rfl, os, nw, p1, p2, p3, p4, p5, p6, p7⟩ := hrel
    have P1 := Lib.hid p1
    have P2 := Lib.hid p2
    have P4 := Lib.hid p4
    have P5 := Lib.hid p5
    have P6 := Lib.hid p6
    have P7 := Lib.hid p7
    have hosl : os.length ≤ 2000 := by rw [← List.length_map (f := fun e : Trip => e.2.1), p1]; exact HSLN.out k
    have hsz := p7.size
    obtain ⟨Ao, co, rfl, hco, hmo, _⟩ := owns_form p6
    clear p1 p2 p4 p5 p6 p7
    by_cases hlt : k < es.length
    · obtain ⟨g, A1, cap1, rfl, hg, hcells, hcell, hown⟩ := HROW.out k hlt
      have HCW := Lib.hid fun W (h : ArgI W (.slice Ax x.length cx) x) (h' : ArgI W (.slice A1 es[k].2.1.length cap1) es[k].2.1) => specCompareWords_any _ _ x es[k].2.1 W h h'
      rw [cmpW_K HSX.out (HSL.out k hlt)] at HCW
      have HCE := Lib.hid hcells
      have HY := Lib.hid hown
      have HST := Lib.hid (HSTEP.out k hlt)
      have HT1 := Lib.hid (HTK.out k hlt)
      have hcw := (P7.out.cell (p := ⟨g, k, none⟩) hg).trans hcell
      have hkI : (k : Int) < (es.length : Int) := by omega
      have HFL : Hid (∀ os : List Trip, (es[k] :: os).map (·.1) = [.slice A1 es[k].2.1.length cap1] :: os.map (·.1)) := Lib.hid fun os => by rw [List.map_cons, hcells]
      have HSNOC : Hid (∀ os : List Trip, ((os ++ [es[k]]).map (·.1)).flatten = (os.map (·.1)).flatten ++ [.slice A1 es[k].2.1.length cap1]) := Lib.hid fun os => by rw [List.map_append, List.flatten_append]; simp [hcells]
      have HCL := Lib.hid hcell
      clear hcells hown hcell
      generalize hSk : ((es.map (·.2.1)).take k).foldl (insS cK x) ([], false) = S at *
      obtain ⟨S1, S2⟩ := S
      simp only at *
      clear hSk
      generalize es[k] = ek at *
      obtain ⟨ec, y, eF⟩ := ek
      simp only at *
      generalize hc : cK x y = c at *
      have HC := Lib.hid hc
      clear hc
      rcases e1 : (c == 0) with _ | _
      · have h1 : ¬ c = 0 := by simpa using e1
        rcases e2 : decide (c < 0) with _ | _
        · have h2 : ¬ c < 0 := of_decide_eq_false e2
          have HST : Hid (((es.map (·.2.1)).take (k + 1)).foldl (insS cK x) ([], false) = (S1 ++ [y], S2)) := Lib.hid (by rw [HST.out]; unfold insS; rw [HC.out, if_neg h1, if_neg (fun h => h2 h.1)])
          have HSF : Hid (S2 = false → S2 = false) := Lib.hid id
          clear h1
          go_wp2_with (first
            | (go_at_call 60; (with_reducible refine (HCW.out _ (HX.out.below P7.out).arg (HY.out.below P7.out).arg).mono ?_); rintro e w1 ⟨rfl, n1, hw1⟩; have HD : Hid (Below wr.heap.size wr w1) := Lib.hid (by rw [hw1]; exact bel_drewN (Below.refl _ _) n1); have HDW : Hid (Below w.heap.size w w1) := Lib.hid (P7.out.trans (HD.out.mono hsz)); have hcw1 := (HDW.out.cell (p := ⟨g, k, none⟩) hg).trans HCL.out; have hz1 := HD.out.size; have O1 := Lib.hid (ownsRow_below P6.out HD.out); clear hw1)
            | (at_builtin; refine push_row rfl (.tmp 36) (.tmp 41) rfl w.heap.size _ os.length _ (O1.out.alloc _) rfl _ _ rfl (cell_new1 _ _ _) rfl (by omega) (by have := hz1; simp <;> omega) ?_; intro v9 w9 o9 g9 p9; have O9 := Lib.hid o9; have G9 := Lib.hid g9; have PP9 := Lib.hid p9; obtain ⟨A9, c9, rfl, _⟩ := owns_form o9; clear o9 g9 p9))
          go_roundw
          case rel =>
            have HB9 : Hid (Below w.heap.size w w9) := Lib.hid ((HDW.out.alloc (Nat.le_trans hsz hz1) _).grown G9.out (by have := hz1; simp <;> omega) fun j hj => (P6.out.lt j hj).1)
            have HV9 : Hid ((Value.slice A9 (os.length + 1) c9).ownBlock = (Value.slice Ao os.length co).ownBlock ∨ ∀ b, (Value.slice A9 (os.length + 1) c9).ownBlock = some b → (w1.alloc (.cells #[.slice A1 y.length cap1] 27)).heap.size ≤ b) := Lib.hid (PP9.out.imp_right fun h b hb => by rw [h] at hb; injection hb with hb; exact Nat.le_of_eq hb)
            refine ⟨k + 1, by omega, by go_num, by rw [HST.out], os ++ [(ec, y, eF)], nw, ?_, ?_, p3, fun h => ?_, fun e he => ?_, ?_, HB9.out⟩
            · rw [HST.out, List.map_append, P1.out]; rfl
            · rw [HT1.out, ← List.append_assoc]; exact P2.out.append_right _
            · rw [HST.out] at h; exact P4.out (HSF.out h)
            · exact (((P5.out e he).below HD.out).below ((Below.refl _ _).alloc (Nat.le_refl _) _)).grow G9.out HV9.out
            · rw [HSNOC.out, List.length_append, List.length_singleton]; exact O9.out
          case measure => (first | omega | (simp [intOf]; omega))
        · have h2 : c < 0 := of_decide_eq_true e2
          rcases S2 with _ | _
          · skip
            have HST : Hid (((es.map (·.2.1)).take (k + 1)).foldl (insS cK x) ([], false) = (S1 ++ [x, y], true)) := Lib.hid (by rw [HST.out]; unfold insS; rw [HC.out, if_neg h1, if_pos ⟨h2, rfl⟩])
            have hnw : nw = [] := P4.out rfl
            subst hnw
            clear h1
            have hxI : (x.length : Int) ≤ 1000 := by omega
            go_wp2_with (first
              | (go_at_call 60; (with_reducible refine (HCW.out _ (HX.out.below P7.out).arg (HY.out.below P7.out).arg).mono ?_); rintro e w1 ⟨rfl, n1, hw1⟩; have HD : Hid (Below wr.heap.size wr w1) := Lib.hid (by rw [hw1]; exact bel_drewN (Below.refl _ _) n1); have HDW : Hid (Below w.heap.size w w1) := Lib.hid (P7.out.trans (HD.out.mono hsz)); have hcw1 := (HDW.out.cell (p := ⟨g, k, none⟩) hg).trans HCL.out; have hz1 := HD.out.size; have O1 := Lib.hid (ownsRow_below P6.out HD.out); clear hw1; have HXW := Lib.hid (HX.out.below HDW.out))
              | (at_builtin; refine append_ints rfl (.tmp 31) (.tmp 32) rfl w1.heap.size _ [] (OwI_lit w1 [] I64s_nil (by simp) (Nat.le_refl _)) rfl _ x (HXW.out.alloc _) rfl (by simp; omega) (by simp) ?_; intro v6 w6 o6 g6 p6; have O6 : Hid (OwI w6 w1.heap.size v6 x) := Lib.hid (by simpa using o6); have B6 : Hid (Below w1.heap.size w1 w6) := Lib.hid (((Below.refl _ _).alloc (Nat.le_refl _) _).grown g6 (by simp) (fun k hk => by simp [Value.ownBlock] at hk; omega)); have z6 := B6.out.size; obtain ⟨A6, c6, rfl, _⟩ := OwI.form O6.out; clear o6 g6 p6)
              | (at_builtin; refine push_row rfl (.tmp 30) (.tmp 34) rfl w.heap.size _ os.length _ ((ownsRow_below O1.out B6.out).alloc _) rfl _ _ rfl (cell_new1 _ _ _) rfl (by omega) (by have := z6; simp <;> omega) ?_; intro v7 w7 o7 g7 p7; have O7 := Lib.hid o7; have G7 := Lib.hid g7; have PP7 := Lib.hid p7; obtain ⟨A7, c7, rfl, _⟩ := owns_form o7; have HB7 : Hid (Below w.heap.size w w7) := Lib.hid (((HDW.out.trans (B6.out.mono (Nat.le_trans hsz hz1))).alloc (Nat.le_trans (Nat.le_trans hsz hz1) z6) _).grown g7 (by simp <;> omega) fun j hj => (P6.out.lt j hj).1); have hcw7 := (HB7.out.cell (p := ⟨g, k, none⟩) hg).trans HCL.out; have hz7 := HB7.out.size; clear o7 g7 p7)
              | (at_builtin; refine push_row rfl (.tmp 36) (.tmp 41) rfl w.heap.size _ (os.length + 1) _ (O7.out.alloc _) rfl _ _ rfl (cell_new1 _ _ _) rfl (by omega) (by have := hz7; simp <;> omega) ?_; intro v9 w9 o9 g9 p9; have O9 := Lib.hid o9; have G9 := Lib.hid g9; have PP9 := Lib.hid p9; obtain ⟨A9, c9, rfl, _⟩ := owns_form o9; clear o9 g9 p9))
            go_roundw
            case rel =>
              have HB9 : Hid (Below w.heap.size w w9) := Lib.hid ((HB7.out.alloc hz7 _).grown G9.out (by have := hz7; simp <;> omega) fun j hj => (O7.out.lt j hj).1)
              have HV7 := PP7.out
              have hrow1 : ∀ b, (Value.slice Ao os.length co).ownBlock = some b → w.heap.size ≤ b ∧ b < wr.heap.size := fun b hb => P6.out.lt b hb
              have HNE : NewE w w7 (.slice A7 (os.length + 1) c7) ([.slice A6 x.length c6], x, (Value.slice A6 x.length c6).ownBlock.toList) := by
                have hlt6 : ∀ b, (Value.slice A6 x.length c6).ownBlock = some b → w1.heap.size ≤ b ∧ b < w6.heap.size := fun b hb => O6.out.1.lt b hb
                refine ⟨rfl, EI.stable _ _ _ _ _ (EI.of O6.out) fun b hb => ?_, (by cases (Value.slice A6 x.length c6).ownBlock <;> simp), fun b hb => ?_⟩
                · have h := hlt6 b (by simpa using hb)
                  refine (G7.out.block b (by simp; omega) fun e => ?_).trans (Below.heap_alloc w6 _ b h.2)
                  have := hrow1 b e.symm
                  omega
                · have h := hlt6 b (by simpa using hb)
                  have hg7 := G7.out.size
                  simp at hg7
                  refine ⟨by omega, by omega, fun e => ?_⟩
                  rcases HV7 with q | q
                  · rw [q] at e; have := hrow1 b e; omega
                  · rw [q] at e; injection e with e; simp at e; omega
              have HV9 : Hid ((Value.slice A9 (os.length + 1 + 1) c9).ownBlock = (Value.slice A7 (os.length + 1) c7).ownBlock ∨ ∀ b, (Value.slice A9 (os.length + 1 + 1) c9).ownBlock = some b → (w7.alloc (.cells #[.slice A1 y.length cap1] 27)).heap.size ≤ b) := Lib.hid (PP9.out.imp_right fun h b hb => by rw [h] at hb; injection hb with hb; exact Nat.le_of_eq hb)
              refine ⟨k + 1, by omega, by go_num, by rw [HST.out], os ++ [([.slice A6 x.length c6], x, (Value.slice A6 x.length c6).ownBlock.toList), (ec, y, eF)], [([.slice A6 x.length c6], x, (Value.slice A6 x.length c6).ownBlock.toList)], ?_, ?_, by simp, fun h => ?_, fun e he => ?_, ?_, HB9.out⟩
              · rw [HST.out, List.map_append, P1.out]; rfl
              · rw [HT1.out, ← List.append_assoc, List.append_cons os, ]
                refine List.Perm.append_right _ ?_
                exact (List.perm_append_comm).trans ((List.Perm.refl _).append P2.out)
              · rw [HST.out] at h; cases h
              · rw [List.mem_singleton] at he; subst he; exact (HNE.below ((Below.refl _ _).alloc (Nat.le_refl _) _)).grow G9.out HV9.out
              · rw [List.append_cons, HSNOC.out, List.map_append, List.flatten_append, List.length_append, List.length_append, List.length_singleton, List.length_singleton]; exact O9.out
            case measure => (first | omega | (simp [intOf]; omega))
          · skip
            have HST : Hid (((es.map (·.2.1)).take (k + 1)).foldl (insS cK x) ([], false) = (S1 ++ [y], true)) := Lib.hid (by rw [HST.out]; unfold insS; rw [HC.out, if_neg h1, if_neg (by simp)])
            have HSF : Hid (true = false → true = false) := Lib.hid id
            clear h1
            go_wp2_with (first
              | (go_at_call 60; (with_reducible refine (HCW.out _ (HX.out.below P7.out).arg (HY.out.below P7.out).arg).mono ?_); rintro e w1 ⟨rfl, n1, hw1⟩; have HD : Hid (Below wr.heap.size wr w1) := Lib.hid (by rw [hw1]; exact bel_drewN (Below.refl _ _) n1); have HDW : Hid (Below w.heap.size w w1) := Lib.hid (P7.out.trans (HD.out.mono hsz)); have hcw1 := (HDW.out.cell (p := ⟨g, k, none⟩) hg).trans HCL.out; have hz1 := HD.out.size; have O1 := Lib.hid (ownsRow_below P6.out HD.out); clear hw1)
              | (at_builtin; refine push_row rfl (.tmp 36) (.tmp 41) rfl w.heap.size _ os.length _ (O1.out.alloc _) rfl _ _ rfl (cell_new1 _ _ _) rfl (by omega) (by have := hz1; simp <;> omega) ?_; intro v9 w9 o9 g9 p9; have O9 := Lib.hid o9; have G9 := Lib.hid g9; have PP9 := Lib.hid p9; obtain ⟨A9, c9, rfl, _⟩ := owns_form o9; clear o9 g9 p9))
            go_roundw
            case rel =>
              have HB9 : Hid (Below w.heap.size w w9) := Lib.hid ((HDW.out.alloc (Nat.le_trans hsz hz1) _).grown G9.out (by have := hz1; simp <;> omega) fun j hj => (P6.out.lt j hj).1)
              have HV9 : Hid ((Value.slice A9 (os.length + 1) c9).ownBlock = (Value.slice Ao os.length co).ownBlock ∨ ∀ b, (Value.slice A9 (os.length + 1) c9).ownBlock = some b → (w1.alloc (.cells #[.slice A1 y.length cap1] 27)).heap.size ≤ b) := Lib.hid (PP9.out.imp_right fun h b hb => by rw [h] at hb; injection hb with hb; exact Nat.le_of_eq hb)
              refine ⟨k + 1, by omega, by go_num, by rw [HST.out], os ++ [(ec, y, eF)], nw, ?_, ?_, p3, fun h => ?_, fun e he => ?_, ?_, HB9.out⟩
              · rw [HST.out, List.map_append, P1.out]; rfl
              · rw [HT1.out, ← List.append_assoc]; exact P2.out.append_right _
              · rw [HST.out] at h; exact P4.out (HSF.out h)
              · exact (((P5.out e he).below HD.out).below ((Below.refl _ _).alloc (Nat.le_refl _) _)).grow G9.out HV9.out
              · rw [HSNOC.out, List.length_append, List.length_singleton]; exact O9.out
            case measure => (first | omega | (simp [intOf]; omega))
      · have h1 : c = 0 := by simpa using e1
        have e2 : decide (c < 0) = false := by simp; omega
        have HST : Hid (((es.map (·.2.1)).take (k + 1)).foldl (insS cK x) ([], false) = (S1 ++ [y], true)) := Lib.hid (by rw [HST.out]; unfold insS; rw [HC.out, if_pos h1])
        have HSF : Hid (true = false → S2 = false) := Lib.hid (fun h => by cases h)
        clear h1
        go_wp2_with (first
          | (go_at_call 60; (with_reducible refine (HCW.out _ (HX.out.below P7.out).arg (HY.out.below P7.out).arg).mono ?_); rintro e w1 ⟨rfl, n1, hw1⟩; have HD : Hid (Below wr.heap.size wr w1) := Lib.hid (by rw [hw1]; exact bel_drewN (Below.refl _ _) n1); have HDW : Hid (Below w.heap.size w w1) := Lib.hid (P7.out.trans (HD.out.mono hsz)); have hcw1 := (HDW.out.cell (p := ⟨g, k, none⟩) hg).trans HCL.out; have hz1 := HD.out.size; have O1 := Lib.hid (ownsRow_below P6.out HD.out); clear hw1)
          | (at_builtin; refine push_row rfl (.tmp 36) (.tmp 41) rfl w.heap.size _ os.length _ (O1.out.alloc _) rfl _ _ rfl (cell_new1 _ _ _) rfl (by omega) (by have := hz1; simp <;> omega) ?_; intro v9 w9 o9 g9 p9; have O9 := Lib.hid o9; have G9 := Lib.hid g9; have PP9 := Lib.hid p9; obtain ⟨A9, c9, rfl, _⟩ := owns_form o9; clear o9 g9 p9))
        go_roundw
        case rel =>
          have HB9 : Hid (Below w.heap.size w w9) := Lib.hid ((HDW.out.alloc (Nat.le_trans hsz hz1) _).grown G9.out (by have := hz1; simp <;> omega) fun j hj => (P6.out.lt j hj).1)
          have HV9 : Hid ((Value.slice A9 (os.length + 1) c9).ownBlock = (Value.slice Ao os.length co).ownBlock ∨ ∀ b, (Value.slice A9 (os.length + 1) c9).ownBlock = some b → (w1.alloc (.cells #[.slice A1 y.length cap1] 27)).heap.size ≤ b) := Lib.hid (PP9.out.imp_right fun h b hb => by rw [h] at hb; injection hb with hb; exact Nat.le_of_eq hb)
          refine ⟨k + 1, by omega, by go_num, by rw [HST.out], os ++ [(ec, y, eF)], nw, ?_, ?_, p3, fun h => ?_, fun e he => ?_, ?_, HB9.out⟩
          · rw [HST.out, List.map_append, P1.out]; rfl
          · rw [HT1.out, ← List.append_assoc]; exact P2.out.append_right _
          · rw [HST.out] at h; exact P4.out (HSF.out h)
          · exact (((P5.out e he).below HD.out).below ((Below.refl _ _).alloc (Nat.le_refl _) _)).grow G9.out HV9.out
          · rw [HSNOC.out, List.length_append, List.length_singleton]; exact O9.out
        case measure => (first | omega | (simp [intOf]; omega))
    · obtain rfl : k = es.length := by omega
      have HTE : Hid (es.take es.length = es) := Lib.hid List.take_length
      generalize hSk : ((es.map (·.2.1)).take es.length).foldl (insS cK x) ([], false) = S at *
      obtain ⟨S1, S2⟩ := S
      simp only at *
      clear hSk
      rcases S2 with _ | _
      · have hnw : nw = [] := P4.out rfl
        subst hnw
        have hxI : (x.length : Int) ≤ 1000 := by omega
        go_wp2_with (first
          | (at_builtin; refine append_ints rfl (.tmp 46) (.tmp 47) rfl wr.heap.size _ [] (OwI_lit wr [] I64s_nil (by simp) (Nat.le_refl _)) rfl _ x ((HX.out.below P7.out).alloc _) rfl (by simp; omega) (by simp) ?_; intro v1 w1 o1 g1 p1; have O1 : Hid (OwI w1 wr.heap.size v1 x) := Lib.hid (by simpa using o1); have B1 : Hid (Below wr.heap.size wr w1) := Lib.hid (((Below.refl _ _).alloc (Nat.le_refl _) _).grown g1 (by simp) (fun k hk => by simp [Value.ownBlock] at hk; omega)); have z1 := B1.out.size; obtain ⟨A1, c1, rfl, _⟩ := OwI.form O1.out; clear o1 g1 p1)
          | (at_builtin; refine push_row rfl (.tmp 45) (.tmp 49) rfl w.heap.size _ os.length _ ((ownsRow_below P6.out B1.out).alloc _) rfl _ _ rfl (cell_new1 _ _ _) rfl (by omega) (by simp; omega) ?_; intro v2 w2 o2 g2 p2; have O2 := Lib.hid o2; have G2 := Lib.hid g2; have PP2 := Lib.hid p2; obtain ⟨A2, c2, rfl, _⟩ := owns_form o2; clear o2 g2 p2))
        go_wp2
        have HB2 : Hid (Below w.heap.size w w2) := Lib.hid (((P7.out.trans (B1.out.mono hsz)).alloc (Nat.le_trans hsz z1) _).grown G2.out (by simp <;> omega) fun j hj => (P6.out.lt j hj).1)
        have hrow1 : ∀ b, (Value.slice Ao os.length co).ownBlock = some b → w.heap.size ≤ b ∧ b < wr.heap.size := fun b hb => P6.out.lt b hb
        have HV2 := PP2.out
        have HNE : NewE w w2 (.slice A2 (os.length + 1) c2) ([.slice A1 x.length c1], x, (Value.slice A1 x.length c1).ownBlock.toList) := by
          have hlt6 : ∀ b, (Value.slice A1 x.length c1).ownBlock = some b → wr.heap.size ≤ b ∧ b < w1.heap.size := fun b hb => O1.out.1.lt b hb
          refine ⟨rfl, EI.stable _ _ _ _ _ (EI.of O1.out) fun b hb => ?_, (by cases (Value.slice A1 x.length c1).ownBlock <;> simp), fun b hb => ?_⟩
          · have h := hlt6 b (by simpa using hb)
            refine (G2.out.block b (by simp; omega) fun e => ?_).trans (Below.heap_alloc w1 _ b h.2)
            have := hrow1 b e.symm
            omega
          · have h := hlt6 b (by simpa using hb)
            have hg7 := G2.out.size
            simp at hg7
            refine ⟨by omega, by omega, fun e => ?_⟩
            rcases HV2 with q | q
            · rw [q] at e; have := hrow1 b e; omega
            · rw [q] at e; injection e with e; simp at e; omega
        have hperm : (os ++ [(([.slice A1 x.length c1] : List Value), x, (Value.slice A1 x.length c1).ownBlock.toList)]).Perm ([(([.slice A1 x.length c1] : List Value), x, (Value.slice A1 x.length c1).ownBlock.toList)] ++ es) := by
          have h := P2.out
          rw [HTE.out, List.nil_append] at h
          exact (List.perm_append_comm).trans ((List.Perm.refl _).append h)
        obtain ⟨F', f1, f2, f3⟩ := put_fin (u := .slice Au es.length cu) hperm (by simp) (fun e he => by rw [List.mem_singleton] at he; subst he; exact HNE) H2.out HN.out HF.out (by rw [List.map_append, List.flatten_append, List.length_append, List.length_singleton]; exact O2.out) HB2.out
        refine bodyPost_ret (v := .slice A2 (os.length + 1) c2) (by simp [results, Try.results41, go_sem]) rfl ⟨_, rfl, F', ?_, f2, (by simpa using f3), HB2.out⟩
        rw [HFIN.out]
        simpa [P1.out] using f1
      · go_wp2
        obtain ⟨F', f1, f2, f3⟩ := put_fin (u := .slice Au es.length cu) (by have h := P2.out; rw [HTE.out] at h; exact h) p3 P5.out H2.out HN.out HF.out P6.out P7.out
        refine bodyPost_ret (v := .slice Ao os.length co) (by simp [results, Try.results41, go_sem]) rfl ⟨_, rfl, F', ?_, f2, (by simpa using f3), P7.out⟩
        rw [HFIN.out]
        simpa [P1.out] using f1
end Go.Proofs.Ytnmkbkpegkchpaa
