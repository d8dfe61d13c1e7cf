/- The reference's LoopWords in a folded graph. -/
import Derived.Test.YtgoghkboklehnaaWhole
import Derived.Test.YtgoghkboklehnaaWalk
import Derived.Test.YtgoghkboklehnaaQuiC
namespace Go.Proofs.Ytgoghkboklehnaa
set_option maxRecDepth 20000
set_option linter.unusedVariables false
set_option linter.unusedSimpArgs false
open Go.RowKit

/-- '[][]int{{}}'. -/
theorem OwII_one (w : World) {lo : Nat} (h : lo ≤ w.heap.size) : OwII lo (w.heap.size + 2) (.slice (some ⟨w.heap.size + 1, 0, none⟩) 1 1) [[]] ((w.alloc (.cells #[] 3)).alloc (.cells #[.slice (some ⟨w.heap.size, 0, none⟩) 0 0] 24)) := by
  have h1 : OwI (w.alloc (.cells #[] 3)) 0 (.slice (some ⟨w.heap.size, 0, none⟩) 0 0) [] := OwI_lit w [] I64s_nil (by simp) (Nat.zero_le _)
  have hs : (w.alloc (.cells #[] 3)).heap.size = w.heap.size + 1 := by simp
  have h2 := World.ownsRow_lit (e := 24) (size := 1) (base := 0) (w.alloc (.cells #[] 3)) #[.slice (some ⟨w.heap.size, 0, none⟩) 0 0] 1 (Nat.zero_le _) (by unfold maxLen; omega) (by simp)
  rw [hs] at h2
  refine ⟨[w.heap.size + 1, w.heap.size], ⟨[([.slice (some ⟨w.heap.size, 0, none⟩) 0 0], [], [w.heap.size])], rfl, ?_, by simpa using h2, by simp [Value.ownBlock]⟩, by simp, fun b hb => ?_⟩
  · intro e he
    simp at he
    subst he
    exact ⟨rfl, _, rfl, h1.alloc _, by simp [Value.ownBlock]⟩
  · simp at hb
    omega
theorem Ow3.mk {lo mid hi : Nat} {w : World} {v1 v2 : Value} {L1 L2 : List (List Int)} (h1 : OwII lo mid v1 L1 w) (h2 : OwII mid hi v2 L2 w) (hl : lo ≤ mid) (hm : mid ≤ hi) (hh : hi ≤ w.heap.size) : Ow3 lo w v1 L1 v2 L2 (.slice none 0 0) [] := by
  obtain ⟨F1, a1, a2, a3⟩ := h1
  obtain ⟨F2, b1, b2, b3⟩ := h2
  refine ⟨F1, F2, [], a1, b1, ⟨[], rfl, fun e he => by (cases he), ⟨rfl, .inl ⟨rfl, rfl⟩⟩, by simp [Value.ownBlock]⟩, ?_, fun b hb => ?_⟩
  · rw [List.append_nil]
    refine List.nodup_append.2 ⟨a2, b2, fun x hx y hy hxy => ?_⟩
    have := a3 x hx
    have := b3 y hy
    omega
  · rw [List.append_nil] at hb
    rcases List.mem_append.1 hb with hb | hb
    · have := a3 b hb; omega
    · have := b3 b hb; omega
theorem take_filter {α} (p : α → Bool) (l : List α) (k : Nat) (h : k < l.length) : (l.take (k + 1)).filter p = if p l[k] = true then (l.take k).filter p ++ [l[k]] else (l.take k).filter p := by
  rw [List.take_succ_eq_append_getElem h, List.filter_append]
  rcases e : p l[k] with _ | _
  · simp [e]
  · simp [e]
theorem take_flat {α β} (f : α → List β) (l : List α) (k : Nat) (h : k < l.length) : (l.take (k + 1)).flatMap f = (l.take k).flatMap f ++ f l[k] := by
  rw [List.take_succ_eq_append_getElem h, List.flatMap_append]
  simp
/-- A row of the third list: where its header lies; its block is none of the other lists'. -/
theorem Ow3.row3 {lo n cap k : Nat} {w : World} {A : Option Addr} {v1 v2 : Value} {L1 L2 L3 : List (List Int)} (h : Ow3 lo w v1 L1 v2 L2 (.slice A n cap) L3) (hk : k < L3.length) :
    ∃ g A1 c1, A = some ⟨g, 0, none⟩ ∧ g < w.heap.size ∧ w.cell? ⟨g, k, none⟩ = some (.slice A1 L3[k].length c1) ∧ L3[k].length ≤ c1 ∧ c1 ≤ maxLen ∧ OwI w 0 (.slice A1 L3[k].length c1) L3[k] ∧
      ∀ b, (Value.slice A1 L3[k].length c1).ownBlock = some b → v1.ownBlock ≠ some b ∧ v2.ownBlock ≠ some b ∧ b < w.heap.size := by
  obtain ⟨F1, F2, F3, h1, h2, ⟨es, e1, e2, e3, rfl⟩, hn, hF⟩ := h
  have hl : es.length = L3.length := by rw [← e1]; simp
  have hke : k < es.length := by omega
  obtain ⟨f1, f2⟩ := flat_ones es fun e he => (e2 e he).1
  have hif : k < ((es.map (·.1)).flatten).length := by omega
  obtain ⟨s, hs, ho, hFe⟩ := (e2 es[k] (by simp)).2
  have hd : es[k].2.1 = L3[k] := by simp [← e1]
  rw [hd] at ho
  have hfk := f2 k hke hif
  rw [hs] at hfk
  injection hfk with hfk _
  obtain ⟨A', cap', hv, _, _, _, hg⟩ := owns_form e3
  obtain ⟨g, hA, _, hglt⟩ := hg (by omega)
  injection hv with q1 q2 q3
  subst q1 q2 q3 hA
  obtain ⟨A1, c1, rfl, a1, a2, _, _⟩ := OwI.form ho
  have hc := e3.cellAt k (by omega)
  rw [List.getElem?_eq_getElem hif, ← hfk] at hc
  refine ⟨g, A1, c1, rfl, hglt, hc, a1, a2, ho, fun b hb => ?_⟩
  have hm : b ∈ (es.map (·.2.2)).flatten := List.mem_flatten.2 ⟨es[k].2.2, List.mem_map.2 ⟨es[k], by simp, rfl⟩, by rw [hFe]; simp [hb]⟩
  obtain ⟨n1, n2, n3⟩ := List.nodup_append.1 hn
  obtain ⟨n4, n5, n6⟩ := List.nodup_append.1 n2
  exact ⟨fun e => n3 b (h1.mem e) b (by simp [hm]) rfl, fun e => n6 b (h2.mem e) b (by simp [hm]) rfl, (hF b (by simp [hm])).2⟩
theorem own_keep {w w' : World} {base : Nat} {s : Value} {xs : List Int} (h : OwI w base s xs) (hb : ∀ b, s.ownBlock = some b → w'.heap[b]? = w.heap[b]?) : OwI w' base s xs := ⟨ownsRow_keep h.1 hb, h.2⟩
/-- A row beside the lists. -/
def RowI (w : World) (RV : Value) (ws : List Int) (next : Value) : Prop := OwI w 0 RV ws ∧ ∀ b, RV.ownBlock = some b → next.ownBlock ≠ some b ∧ b < w.heap.size
theorem RowI.below {w w' : World} {RV next : Value} {ws : List Int} (h : RowI w RV ws next) (hb : Below w.heap.size w w') : RowI w' RV ws next :=
  ⟨own_keep h.1 fun b hv => hb.block b (h.2 b hv).2, fun b hv => ⟨(h.2 b hv).1, by have := (h.2 b hv).2; have := hb.size; omega⟩⟩
theorem RowI.other {w w0 w' : World} {RV next out : Value} {ws : List Int} (h : RowI w RV ws next) (hb : Below w.heap.size w w0) (hg : w0.grownBy w' out.ownBlock) (ho : ∀ b, RV.ownBlock = some b → out.ownBlock ≠ some b) : RowI w' RV ws next := by
  have h1 := h.below hb
  exact ⟨own_keep h1.1 fun b hv => hg.block b (h1.2 b hv).2 fun e => ho b hv e.symm, fun b hv => ⟨(h.2 b hv).1, by have := (h1.2 b hv).2; have := hg.size; omega⟩⟩
theorem RowI.push {w w0 w' : World} {RV next v' : Value} {ws : List Int} (h : RowI w RV ws next) (hb : Below w.heap.size w w0) (hg : w0.grownBy w' next.ownBlock) (hat : v'.ownBlock = next.ownBlock ∨ v'.ownBlock = some w0.heap.size) : RowI w' RV ws v' := by
  have h1 := h.other hb hg fun b hv => (h.2 b hv).1
  refine ⟨h1.1, fun b hv => ⟨fun e => ?_, (h1.2 b hv).2⟩⟩
  rcases hat with q | q
  · exact (h.2 b hv).1 (by rw [← q]; exact e)
  · rw [q] at e; injection e with e; have := ((h.below hb).2 b hv).2; omega
/-- What the loops of LoopWords hold: three lists, the letters apart from them. -/
structure LwI (lo gl rk cl : Nat) (ls : List Int) (W wr : World) (out : Value) (L1 : List (List Int)) (next : Value) (L2 : List (List Int)) (layer : Value) (L3 : List (List Int)) : Prop where
  o : Ow3 lo wr out L1 next L2 layer L3
  l : OwI wr 0 (.slice (some ⟨gl, 0, none⟩) (2 * rk) cl) ls
  b : Below lo W wr
  g : gl < wr.heap.size
  a1 : out.ownBlock ≠ some gl
  a2 : next.ownBlock ≠ some gl
  lo_le : lo ≤ wr.heap.size
section
variable {lo gl rk cl : Nat} {ls : List Int} {W wr w' w0 : World} {out next layer v' : Value} {L1 L2 L3 L' : List (List Int)}
theorem LwI.below (h : LwI lo gl rk cl ls W wr out L1 next L2 layer L3) (hb : Below wr.heap.size wr w') : LwI lo gl rk cl ls W w' out L1 next L2 layer L3 :=
  ⟨h.o.below hb, h.l.below hb, h.b.trans (hb.mono h.lo_le), by have := h.g; have := hb.size; omega, h.a1, h.a2, by have := h.lo_le; have := hb.size; omega⟩
theorem LwI.push1 (h : LwI lo gl rk cl ls W wr out L1 next L2 layer L3) (hb : Below wr.heap.size wr w0) (ho : Ow3 lo w' v' L' next L2 layer L3) (hl : Below lo w0 w') (hg : w0.grownBy w' out.ownBlock) (hat : v'.ownBlock = out.ownBlock ∨ v'.ownBlock = some w0.heap.size) :
    LwI lo gl rk cl ls W w' v' L' next L2 layer L3 := by
  have h1 := h.below hb
  refine ⟨ho, h1.l.kept hg (.inr fun e => h.a1 (by rw [← e]; rfl)), h1.b.trans hl, by have := h1.g; have := hg.size; omega, fun e => ?_, h.a2, by have := h1.lo_le; have := hg.size; omega⟩
  rcases hat with q | q
  · exact h.a1 (by rw [← q]; exact e)
  · rw [q] at e; injection e with e; have := h1.g; omega
theorem LwI.push2 (h : LwI lo gl rk cl ls W wr out L1 next L2 layer L3) (hb : Below wr.heap.size wr w0) (ho : Ow3 lo w' out L1 v' L' layer L3) (hl : Below lo w0 w') (hg : w0.grownBy w' next.ownBlock) (hat : v'.ownBlock = next.ownBlock ∨ v'.ownBlock = some w0.heap.size) :
    LwI lo gl rk cl ls W w' out L1 v' L' layer L3 := by
  have h1 := h.below hb
  refine ⟨ho, h1.l.kept hg (.inr fun e => h.a2 (by rw [← e]; rfl)), h1.b.trans hl, by have := h1.g; have := hg.size; omega, h.a1, fun e => ?_, by have := h1.lo_le; have := hg.size; omega⟩
  rcases hat with q | q
  · exact h.a2 (by rw [← q]; exact e)
  · rw [q] at e; injection e with e; have := h1.g; omega
theorem LwI.roll (h : LwI lo gl rk cl ls W wr out L1 next L2 layer L3) : LwI lo gl rk cl ls W (wr.alloc (.cells #[] 24)) out L1 (.slice (some ⟨wr.heap.size, 0, none⟩) 0 0) [] next L2 := by
  have h1 := h.below ((Below.refl wr.heap.size wr).alloc (Nat.le_refl _) (.cells #[] 24))
  exact ⟨h.o.roll h.lo_le, h1.l, h1.b, h1.g, h.a1, fun e => by simp [Value.ownBlock] at e; have := h.g; omega, h1.lo_le⟩
end
theorem nxt_room {es : List EdD} {u : Int} {ls : List Int} {LK : List (List Int)} {p : Int → Bool} {f : Int → List Int} {q q' : Nat} (h1 : ls.length ≤ 6) (h2 : LK.length ≤ 7776) : ((LK.take q).flatMap (nxtG es u ls) ++ ((ls.take q').filter p).map f).length ≤ 1073741824 := by
  have a := flat_le (nxtG es u ls) 6 (fun w => Nat.le_trans (nxtG_len es u ls w) h1) (LK.take q)
  have b := List.length_filter_le p (ls.take q')
  rw [List.length_take] at a b
  rw [List.length_append, List.length_map]
  have : min q LK.length * 6 ≤ 7776 * 6 := Nat.mul_le_mul_right 6 (by omega)
  omega
set_option maxHeartbeats 4000000 in
theorem specLoopWords_any (v : Value) (g : GrD) (u : Int) (m : Nat) (w : World) (h : ArgG w v g) (hf : foldB g = true) (hu : 0 ≤ u ∧ u < g.2.1) (hm : m ≤ 4) :
    Calls Try.prog 35 #[v, .int .i64 u, .int .i64 m] w fun e w' => ∃ r, e = .returned r ∧ OwII w.heap.size w'.heap.size r (lpG g.2.2 u (lettersL g.1.toNat) (m + 1)) w' ∧ Below w.heap.size w w' := by
  have HG := Lib.hid h
  have HF := Lib.hid hf
  obtain ⟨hg, hfol⟩ := foldB_parts hf
  have ONE := Lib.hid (steps_one hfol)
  obtain ⟨hr13, hsz40, hl120, _⟩ := grB_parts hg
  have NV : Hid (∀ v x, nextV g.2.2 v x = -1 ∨ (0 ≤ nextV g.2.2 v x ∧ nextV g.2.2 v x < g.2.1)) := Lib.hid fun v x => nextV_range hg v x
  have HWR := Lib.hid (walkF_range hg)
  obtain ⟨s, rfl, hi1, hi2, ha⟩ := h
  obtain ⟨A, cap, rfl⟩ := ha.form
  obtain ⟨g1, N, es⟩ := g
  simp only at *
  obtain ⟨rk, rfl⟩ : ∃ rk : Nat, g1 = (rk : Int) := ⟨g1.toNat, by omega⟩
  have hsub : IntKind.i64.wrap (N - 1) = N - 1 := by rw [IntKind.wrap_i64]; omega
  have HIN2 : Hid (inB u 0 (N - 1) = true) := Lib.hid (inB_iff.2 ⟨hu.1, by omega⟩)
  have HIN4 : Hid (inB (m : Int) 0 4 = true) := Lib.hid (inB_iff.2 (by omega))
  have hrk3 : 1 ≤ rk ∧ rk ≤ 3 := by omega
  rw [Int.toNat_natCast]
  have HLM := Lib.hid (layG_mem es u (lettersL rk) hu.1)
  have HLC := Lib.hid (layG_len es u (lettersL rk) (by rw [lettersL_len]; omega))
  have HPC := Lib.hid (lpG_len es u (lettersL rk) (by rw [lettersL_len]; omega))
  have hls := lettersL_len rk
  have HL64 := Lib.hid (lettersL_I64 (n := rk) (by omega))
  clear hf hg hfol ha
  go_enter Try.func35, Try.ntmps35
  have bx : Below w.heap.size w ((w.alloc (Obj.cells #[Value.int IntKind.i64 rk, Value.int IntKind.i64 N, .slice A es.length cap] 56)).alloc (.cells #[] 24)) := (by repeat (first | exact Below.refl _ _ | (refine Below.setCell ?_ (by first | omega | (simp <;> omega)) _) | (refine bel_drewN ?_ _) | (refine Below.drew ?_) | (refine Below.alloc ?_ (by first | omega | (simp <;> omega)) _)))
  have HOU : Hid (OwII (w.heap.size + 1) (w.heap.size + 2) (.slice (some ⟨w.heap.size + 1, 0, none⟩) 0 0) [] ((w.alloc (Obj.cells #[Value.int IntKind.i64 rk, Value.int IntKind.i64 N, .slice A es.length cap] 56)).alloc (.cells #[] 24))) := Lib.hid (by
    have := OwII_lit (lo := w.heap.size + 1) (w.alloc (Obj.cells #[Value.int IntKind.i64 rk, Value.int IntKind.i64 N, .slice A es.length cap] 56)) (by simp)
    simpa using this)
  go_wp2_with fail
  obtain ⟨W, hW⟩ : ∃ W, W = (w.alloc (Obj.cells #[Value.int IntKind.i64 rk, Value.int IntKind.i64 N, .slice A es.length cap] 56)).alloc (.cells #[] 24) := ⟨_, rfl⟩
  rw [← hW] at bx HOU ⊢
  have hsW : W.heap.size = w.heap.size + 2 := by rw [hW]; simp
  have L0 : Hid (W.cell? ⟨w.heap.size, 0, none⟩ = some (.int .i64 rk)) := Lib.hid (by rw [hW]; simp [go_sem])
  have L1 : Hid (W.cell? ⟨w.heap.size, 1, none⟩ = some (.int .i64 N)) := Lib.hid (by rw [hW]; simp [go_sem])
  have L2 : Hid (W.cell? ⟨w.heap.size, 2, none⟩ = some (.slice A es.length cap)) := Lib.hid (by rw [hW]; simp [go_sem])
  have BX := Lib.hid bx
  have HA : Hid (∀ w', Below W.heap.size W w' → ArgG w' (.agg #[.int .i64 rk, .int .i64 N, .slice A es.length cap]) (rk, N, es)) := Lib.hid fun w' hb => HG.out.below (BX.out.trans (hb.mono BX.out.size))
  have hif := specIsFolded_any _ (rk, N, es) W (HA.out _ (Below.refl _ _))
  rw [HF.out] at hif
  have HIF := Lib.hid hif
  clear hW bx hif
  refine HIF.out.mono ?_
  rintro e w1 ⟨rfl, b1⟩
  have hs1 := b1.size
  have q0 := (b1.cell (p := ⟨w.heap.size, 0, none⟩) (by show w.heap.size < _; omega)).trans L0.out
  have q1 := (b1.cell (p := ⟨w.heap.size, 1, none⟩) (by show w.heap.size < _; omega)).trans L1.out
  have BW := Lib.hid b1
  clear b1 HIF
  go_wp2_with fail
  refine (l1In_any _ _ _ _).mono ?_
  rintro e w2 ⟨rfl, rfl⟩
  simp only [HIN2.out]
  go_wp2_with fail
  refine (l1In_any _ _ _ _).mono ?_
  rintro e w2 ⟨rfl, rfl⟩
  simp only [HIN4.out]
  have OI := Lib.hid (OwII_one w1 (Nat.le_refl _))
  have bz : Below w1.heap.size w1 ((w1.alloc (.cells #[] 3)).alloc (.cells #[.slice (some ⟨w1.heap.size, 0, none⟩) 0 0] 24)) := (by repeat (first | exact Below.refl _ _ | (refine Below.setCell ?_ (by first | omega | (simp <;> omega)) _) | (refine bel_drewN ?_ _) | (refine Below.drew ?_) | (refine Below.alloc ?_ (by first | omega | (simp <;> omega)) _)))
  have q0' := (bz.cell (p := ⟨w.heap.size, 0, none⟩) (by show w.heap.size < _; omega)).trans q0
  clear q1
  go_wp2_with fail
  obtain ⟨W1, hW1⟩ : ∃ W, W = (w1.alloc (.cells #[] 3)).alloc (.cells #[.slice (some ⟨w1.heap.size, 0, none⟩) 0 0] 24) := ⟨_, rfl⟩
  rw [← hW1] at OI bz ⊢
  have hsW1 : W1.heap.size = w1.heap.size + 2 := by rw [hW1]; simp
  have BW1 := Lib.hid (BW.out.trans (bz.mono hs1))
  have O3 : Hid (Ow3 (w.heap.size + 1) W1 (.slice (some ⟨w.heap.size + 1, 0, none⟩) 0 0) [] (.slice (some ⟨w1.heap.size + 1, 0, none⟩) 1 1) [[]] (.slice none 0 0) []) := Lib.hid
    (Ow3.mk (mid := w.heap.size + 2) (hi := w1.heap.size + 2) (OwnL.keep HOU.out EI.stable fun b _ hb => BW1.out.block b (by omega)) (OwnL.widen OI.out (by omega) (Nat.le_refl _)) (by omega) (by omega) (by omega))
  clear hW1 bz OI HOU q0 q0'
  refine (l5Letters_any rk W1 (by omega)).mono ?_
  rintro e w3 ⟨rl, rfl, ol, bl3⟩
  obtain ⟨Al, cl_, rfl, hcl, hml, _, hfl⟩ := OwI.form ol
  obtain ⟨gl, rfl, hgl1, hgl2⟩ := hfl (by omega)
  have hs3 := bl3.size
  have OL := Lib.hid ol
  have HO3 := Lib.hid (O3.out.below bl3)
  have BW3 := Lib.hid (BW1.out.trans (bl3.mono BW1.out.size))
  rw [hls] at hcl ⊢
  unfold maxLen at hml
  have HA2 : Hid (∀ w', Below (w.heap.size + 1) W w' → ArgG w' (.agg #[.int .i64 rk, .int .i64 N, .slice A es.length cap]) (rk, N, es)) := Lib.hid fun w' hb => HG.out.below (BX.out.trans (hb.mono (by omega)))
  have ol0 := OL.out.mono (Nat.zero_le _)
  rw [hls] at ol0
  have HI0 : Hid (LwI (w.heap.size + 1) gl rk cl_ (lettersL rk) W w3 (.slice (some ⟨w.heap.size + 1, 0, none⟩) 0 0) [] (.slice (some ⟨w1.heap.size + 1, 0, none⟩) 1 1) [[]] (.slice none 0 0) []) := Lib.hid
    ⟨HO3.out, ol0, BW3.out.mono (by omega), hgl2, fun e => by simp [Value.ownBlock] at e; omega, fun e => by simp [Value.ownBlock] at e; omega, by omega⟩
  have HLS := Lib.hid hls
  have hlw : w.heap.size < w3.heap.size := by omega
  have HLP : Hid (∀ k, lpG es u (lettersL rk) (k + 1) = lpG es u (lettersL rk) k ++ (layG es u (lettersL rk) k).filter (loopB es u)) := Lib.hid fun k => rfl
  have HLG : Hid (∀ k, layG es u (lettersL rk) (k + 1) = (layG es u (lettersL rk) k).flatMap (nxtG es u (lettersL rk))) := Lib.hid fun k => rfl
  have HI1 : Hid (LwI (w.heap.size + 1) gl rk cl_ (lettersL rk) W w3 (.slice (some ⟨w.heap.size + 1, 0, none⟩) 0 0) (lpG es u (lettersL rk) 0) (.slice (some ⟨w1.heap.size + 1, 0, none⟩) 1 1) (layG es u (lettersL rk) 0) (.slice none 0 0) []) := HI0
  clear ol bl3 O3 hfl ol0 hls HO3 OL HI0 hcl hml
  have hlm0 : ∀ x ∈ lettersL rk, (1 ≤ x ∧ x ≤ (rk : Int)) ∨ (1 ≤ -x ∧ -x ≤ (rk : Int)) := fun x hx => lettersL_mem hx
  have HLMM := Lib.hid hlm0
  obtain ⟨ls, hls0⟩ : ∃ l, l = lettersL rk := ⟨_, rfl⟩
  rw [← hls0] at HLM HLC HPC HL64 HI1 HLS HLP HLG HLMM
  have HLSE := Lib.hid hls0
  clear hls0 hlm0
  go_wp2
  go_loopw [7, 8, 10] (fun out layer i wr => ∃ (k : Nat) (vx : Value) (Lx : List (List Int)), k ≤ m + 1 ∧ i = .int .i64 k ∧ LwI (w.heap.size + 1) gl rk cl_ ls W wr out (lpG es u ls k) layer (layG es u ls k) vx Lx) (fun _ _ i _ => m + 1 - (intOf i).toNat)
  case atStart => exact ⟨0, _, _, Nat.zero_le _, rfl, HI1.out⟩
  case round =>
    obtain ⟨k, vx, Lx, hk, rfl, hI⟩ := hrel
    have HI := Lib.hid hI
    obtain ⟨wo, rfl⟩ : ∃ wo : World, wo = wr := ⟨_, rfl⟩
    clear hI HI1
    have hkc := HLC.out k
    have hpc := HPC.out k
    have h64 : 6 ^ k ≤ 6 ^ 5 := Nat.pow_le_pow_right (by omega) (by omega)
    have hpc2 := HPC.out (k + 1)
    have hkc2 := HLC.out (k + 1)
    have h642 : 6 ^ (k + 1) ≤ 6 ^ 6 := Nat.pow_le_pow_right (by omega) (by omega)
    by_cases hlt : k < m + 1
    · obtain ⟨Ay, cy, hly, hcy, hmy, _⟩ := OwnL.len HI.out.o.two
      subst hly
      have HR := Lib.hid HI.out.roll
      have HMB := Lib.hid (HLM.out k)
      have HP1 := Lib.hid (HLP.out k)
      have HG1 := Lib.hid (HLG.out k)
      have hL6 : (layG es u ls k).length ≤ 7776 := by omega
      have HPB : Hid ((lpG es u ls k).length + (layG es u ls k).length ≤ 100000) := Lib.hid (by omega)
      have HNB : Hid ((layG es u ls (k + 1)).length ≤ 100000) := Lib.hid (by omega)
      clear hkc hpc h64 hpc2 hkc2 h642
      obtain ⟨LN, hLN⟩ : ∃ X, X = layG es u ls (k + 1) := ⟨_, rfl⟩
      obtain ⟨LP, hLP⟩ : ∃ X, X = lpG es u ls (k + 1) := ⟨_, rfl⟩
      rw [← hLN] at HNB HG1
      rw [← hLP] at HP1
      have HLNE := Lib.hid hLN
      have HLPE := Lib.hid hLP
      clear hLN hLP
      generalize layG es u ls k = LK at *
      generalize lpG es u ls k = P0 at *
      unfold maxLen at hmy
      have hkI : (k : Int) ≤ (m : Int) := by omega
      go_wp2
      obtain ⟨wz, hwz⟩ : ∃ W, W = wo.alloc (.cells #[] 24) := ⟨_, rfl⟩
      rw [← hwz] at HR ⊢
      clear hwz
      go_loopw [7, 11, 12] (fun out next i wr => ∃ q : Nat, q ≤ LK.length ∧ i = .int .i64 q ∧ LwI (w.heap.size + 1) gl rk cl_ ls W wr out (P0 ++ (LK.take q).filter (loopB es u)) next ((LK.take q).flatMap (nxtG es u ls)) (.slice Ay LK.length cy) LK) (fun _ _ i _ => LK.length - (intOf i).toNat)
      case atStart => exact ⟨0, Nat.zero_le _, rfl, by simpa using HR.out⟩
      case round =>
        obtain ⟨q, hq, rfl, hI2⟩ := hrel
        have HI2 := Lib.hid hI2
        obtain ⟨wi, rfl⟩ : ∃ wi : World, wi = wr := ⟨_, rfl⟩
        clear hI2
        by_cases hlt2 : q < LK.length
        · obtain ⟨b, A1, c1, hA, hb, hcell, hc1, hm1, hrow, hrap⟩ := HI2.out.o.row3 hlt2
          subst hA
          have hrd := hrow.rd
          have HRI : Hid (RowI wi (.slice A1 LK[q].length c1) LK[q] u11) := Lib.hid ⟨hrow, fun b' hv => ⟨(hrap b' hv).2.1, (hrap b' hv).2.2⟩⟩
          have HRO : Hid (∀ b', (Value.slice A1 LK[q].length c1).ownBlock = some b' → u7.ownBlock ≠ some b') := Lib.hid fun b' hv => (hrap b' hv).1
          clear hrow hrap
          obtain ⟨m1, m2, m3⟩ := HMB.out LK[q] (List.getElem_mem hlt2)
          have HM2 := Lib.hid m2
          have HRD := Lib.hid hrd
          have hwk0 := HWR.out LK[q] u hu
          have HTF := Lib.hid (take_filter (loopB es u) LK q hlt2)
          have HTM := Lib.hid (take_flat (nxtG es u ls) LK q hlt2)
          have HLB : Hid (loopB es u LK[q] = decide (walkF es u LK[q] = u)) := Lib.hid rfl
          have HOK : Hid (∀ x, okG es u LK[q] x = (okW LK[q] x && decide (0 ≤ nextV es (walkF es u LK[q]) x))) := Lib.hid fun _ => rfl
          have HNX : Hid (nxtG es u ls LK[q] = (ls.filter (okG es u LK[q])).map fun x => LK[q] ++ [x]) := Lib.hid rfl
          have HWW := Lib.hid (fun W' (hh : Below (w.heap.size + 1) W W') (hr : RdI W' (.slice A1 LK[q].length c1) LK[q]) => walkWord_any _ _ (rk, N, es) u LK[q] W' (HA2.out W' hh) hr HF.out hu)
          unfold maxLen at hm1
          have hwl : LK[q].length ≤ 4 := by omega
          have HM1 := Lib.hid m1
          clear hrd m2 m1
          generalize LK[q] = ws at *
          generalize hEN : walkF es u ws = EN at *
          have hEN2 : EN < N := by omega
          have q0 := (HI2.out.b.cell (p := ⟨w.heap.size, 0, none⟩) (by show w.heap.size < w.heap.size + 1; omega)).trans L0.out
          have q1 := (HI2.out.b.cell (p := ⟨w.heap.size, 1, none⟩) (by show w.heap.size < w.heap.size + 1; omega)).trans L1.out
          have q2 := (HI2.out.b.cell (p := ⟨w.heap.size, 2, none⟩) (by show w.heap.size < w.heap.size + 1; omega)).trans L2.out
          clear hEN hwk0
          go_wp2_with fail
          refine (HWW.out wi HI2.out.b HRD.out).mono ?_
          rintro e w5 ⟨rfl, b5⟩
          have HI5 := Lib.hid (HI2.out.below b5)
          have HR5 := Lib.hid (HRI.out.below b5)
          have hs5 := b5.size
          clear b5 q0 q1 q2 HWW
          rcases ee : (EN == u) with _ | _
          · have hne : ¬ EN = u := by simpa using ee
            have e1 : loopB es u ws = false := by rw [HLB.out]; simpa using hne
            have e2 : (LK.take q).filter (loopB es u) = (LK.take (q + 1)).filter (loopB es u) := by rw [HTF.out, e1, if_neg (by decide)]
            obtain ⟨wc, hwc⟩ : ∃ W : World, W = w5 := ⟨_, rfl⟩
            obtain ⟨OUTV, hov⟩ : ∃ V, V = u7 := ⟨_, rfl⟩
            have HIC : Hid (LwI (w.heap.size + 1) gl rk cl_ ls W wc OUTV (P0 ++ (LK.take (q + 1)).filter (loopB es u)) u11 ((LK.take q).flatMap (nxtG es u ls)) (.slice (some ⟨b, 0, none⟩) LK.length cy) LK) := Lib.hid (by rw [← e2, hwc, hov]; exact HI5.out)
            have HRC : Hid (RowI wc (.slice A1 ws.length c1) ws u11) := Lib.hid (by rw [hwc]; exact HR5.out)
            rw [← hwc, ← hov]
            clear hwc hov e1 e2 hne HI5 HR5 HRD HRI HRO
            go_wp2
            go_loopw [11, 16] (fun next i wr => ∃ q' : Nat, q' ≤ 2 * rk ∧ i = .int .i64 q' ∧ LwI (w.heap.size + 1) gl rk cl_ ls W wr OUTV (P0 ++ (LK.take (q + 1)).filter (loopB es u)) next ((LK.take q).flatMap (nxtG es u ls) ++ ((ls.take q').filter (okG es u ws)).map fun x => ws ++ [x]) (.slice (some ⟨b, 0, none⟩) LK.length cy) LK ∧ RowI wr (.slice A1 ws.length c1) ws next) (fun _ i _ => 2 * rk - (intOf i).toNat)
            case atStart => exact ⟨0, Nat.zero_le _, rfl, by simpa using HIC.out, HRC.out⟩
            case round =>
              obtain ⟨q', hq', rfl, hI3, hb3⟩ := hrel
              have HI3 := Lib.hid hI3
              have HR3 := Lib.hid hb3
              obtain ⟨wj, rfl⟩ : ∃ wj : World, wj = wr := ⟨_, rfl⟩
              clear hI3 hb3
              by_cases hlt3 : q' < 2 * rk
              · have hql : q' < ls.length := by rw [HLS.out]; exact hlt3
                have hcx := HI3.out.l.cellAt q' hql
                have q0 := (HI3.out.b.cell (p := ⟨w.heap.size, 0, none⟩) (by show w.heap.size < w.heap.size + 1; omega)).trans L0.out
                have q1 := (HI3.out.b.cell (p := ⟨w.heap.size, 1, none⟩) (by show w.heap.size < w.heap.size + 1; omega)).trans L1.out
                have q2 := (HI3.out.b.cell (p := ⟨w.heap.size, 2, none⟩) (by show w.heap.size < w.heap.size + 1; omega)).trans L2.out
                have HTK := Lib.hid (take_filter (okG es u ws) ls q' hql)
                have HX64 := Lib.hid (HL64.out _ (List.getElem_mem hql))
                have HOX := Lib.hid (HOK.out ls[q'])
                have HXE := Lib.hid (fun W' (h : OwI W' 0 (.slice (some ⟨gl, 0, none⟩) (2 * rk) cl_) ls) => h.cellAt q' hql)
                have HNV := Lib.hid (fun W' (hh : Below (w.heap.size + 1) W W') => specNextVertex_any _ (rk, N, es) EN ls[q'] W' (HA2.out W' hh) (ONE.out EN ls[q']))
                have hOW : okW ws ls[q'] = (decide (ws.length = 0) || decide (ls[q'] ≠ -(ws.getD (ws.length - 1) 0))) := rfl
                have hqI : (q' : Int) < ((2 * rk : Nat) : Int) := by omega
                have hg3 := HI3.out.g
                have hw3 : w.heap.size < wj.heap.size := by have := HI3.out.lo_le; omega
                have hlo3 := HI3.out.lo_le
                generalize ls[q'] = x at *
                generalize hNX2 : nextV es EN x = nv at *
                clear hNX2
                have fC := BelW.cell hcx hg3
                have fQ0 := BelW.cell q0 hw3
                have fQ1 := BelW.cell q1 hw3
                have fQ2 := BelW.cell q2 hw3
                rcases e0 : ((ws.length : Int) == 0) with _ | _
                · have hl0 : ¬ ws.length = 0 := fun e => by rw [e] at e0; simp at e0
                  obtain ⟨gw, hgw, hgw1, hgw2⟩ : ∃ gw, A1 = some ⟨gw, 0, none⟩ ∧ wj.cell? ⟨gw, ws.length - 1, none⟩ = some (.int .i64 (ws.getD (ws.length - 1) 0)) ∧ gw < wj.heap.size := by
                    obtain ⟨_, _, hv, _, _, _, hf⟩ := OwI.form HR3.out.1
                    injection hv with hv1 hv2 hv3
                    obtain ⟨gw, hA, _, hlt⟩ := hf (by omega)
                    subst hv1
                    subst hA
                    refine ⟨gw, rfl, ?_, hlt⟩
                    have := HR3.out.1.cellAt (ws.length - 1) (by omega)
                    rw [this]
                    simp [List.getD, show ws.length - 1 < ws.length by omega]
                  subst hgw
                  have fW := BelW.cell hgw1 hgw2
                  have hwr1 : IntKind.i64.wrap ((ws.length : Int) - 1) = (ws.length : Int) - 1 := by rw [IntKind.wrap_i64]; omega
                  have hb1 : (0 : Int) ≤ (ws.length : Int) - 1 := by omega
                  have hb2 : (ws.length : Int) - 1 < (ws.length : Int) := by omega
                  have htn : ((ws.length : Int) - 1).toNat = ws.length - 1 := by omega
                  have hOW2 : okW ws x = decide (x ≠ -(ws.getD (ws.length - 1) 0)) := by rw [hOW, decide_eq_false hl0, Bool.false_or]
                  have HY64 : I64 (ws.getD (ws.length - 1) 0) := by
                    have hm : ws.getD (ws.length - 1) 0 ∈ ws := by rw [List.getD_eq_getElem?_getD, List.getElem?_eq_getElem (by omega)]; exact List.getElem_mem _
                    exact HR3.out.1.2 _ hm
                  have HYB := Lib.hid (HLMM.out _ (HM2.out _ (show ws.getD (ws.length - 1) 0 ∈ ws by rw [List.getD_eq_getElem?_getD, List.getElem?_eq_getElem (by omega)]; exact List.getElem_mem _)))
                  generalize ws.getD (ws.length - 1) 0 = y at *
                  have hny : IntKind.i64.wrap (-y) = -y := by rw [IntKind.wrap_i64]; have := HYB.out; omega
                  rcases ex : (x != -y) with _ | _
                  · have hex : x = -y := by simpa using ex
                    have HOKX : Hid (okG es u ws x = false) := Lib.hid (by rw [HOX.out, hOW2]; simp [hex])
                    clear hex hOW hOW2
                    go_wp2_with fail
                    (refine wp_region_quiet_bel (by kernel_rfl) (by kernel_rfl) ?_; (repeat (go_big_quiet_step (fail))); refine wpQuiet_nil ?_; intro wz hw'; obtain ⟨pq, hw''⟩ := hw'; have bz := pq.h; rw [← hw''] at bz; clear hw'' pq)
                    have HE6 : Hid ((ls.take (q' + 1)).filter (okG es u ws) = (ls.take q').filter (okG es u ws)) := Lib.hid (by rw [HTK.out, if_neg (by rw [HOKX.out]; decide)])
                    have HI4 := Lib.hid (HI3.out.below bz)
                    have HR4 := Lib.hid (HR3.out.below bz)
                    clear bz
                    go_wp2
                    go_roundw
                    case rel => exact ⟨q' + 1, by omega, by go_num, by rw [HE6.out]; exact HI4.out, HR4.out⟩
                    case measure => simp [intOf]; omega
                  · have hex : x ≠ -y := by simpa using ex
                    have HOKX : Hid (okG es u ws x = decide (0 ≤ nv)) := Lib.hid (by rw [HOX.out, hOW2]; simp [hex])
                    clear hex hOW hOW2
                    rcases e5 : decide (0 ≤ nv) with _ | _
                    · go_wp2_with fail
                      (refine wp_region_quiet_bel (by kernel_rfl) (by kernel_rfl) ?_; (repeat (go_big_quiet_step (first | (go_at_call 66; exact Calls.bel_of (HNV.out _ (HI3.out.b.trans ((BelW.h _).mono hlo3))))))); refine wpQuiet_nil ?_; intro wz hw'; obtain ⟨pq, hw''⟩ := hw'; have bz := pq.h; rw [← hw''] at bz; clear hw'' pq)
                      rw [e5] at HOKX
                      have HE6 : Hid ((ls.take (q' + 1)).filter (okG es u ws) = (ls.take q').filter (okG es u ws)) := Lib.hid (by rw [HTK.out, if_neg (by rw [HOKX.out]; decide)])
                      have HI4 := Lib.hid (HI3.out.below bz)
                      have HR4 := Lib.hid (HR3.out.below bz)
                      clear bz
                      go_wp2
                      go_roundw
                      case rel => exact ⟨q' + 1, by omega, by go_num, by rw [HE6.out]; exact HI4.out, HR4.out⟩
                      case measure => simp [intOf]; omega
                    · go_wp2_with fail
                      (refine wp_region_quiet_bel (by kernel_rfl) (by kernel_rfl) ?_; (repeat (go_big_quiet_step (first | (go_at_call 66; exact Calls.bel_of (HNV.out _ (HI3.out.b.trans ((BelW.h _).mono hlo3))))))); refine wpQuiet_nil ?_; intro wz hw'; obtain ⟨pq, hw''⟩ := hw'; have bz := pq.h; rw [← hw''] at bz; clear hw'' pq)
                      rw [e5] at HOKX
                      have HE6 : Hid ((ls.take (q' + 1)).filter (okG es u ws) = (ls.take q').filter (okG es u ws) ++ [x]) := Lib.hid (by rw [HTK.out, if_pos HOKX.out])
                      have HE7 : Hid ((LK.take q).flatMap (nxtG es u ls) ++ ((ls.take (q' + 1)).filter (okG es u ws)).map (fun x => ws ++ [x]) = ((LK.take q).flatMap (nxtG es u ls) ++ ((ls.take q').filter (okG es u ws)).map fun x => ws ++ [x]) ++ [ws ++ [x]]) := Lib.hid (by rw [HE6.out, List.map_append, ← List.append_assoc]; rfl)
                      have HI4 := Lib.hid (HI3.out.below bz)
                      have HR4 := Lib.hid (HR3.out.below bz)
                      have HNL := Lib.hid (nxt_room (es := es) (u := u) (p := okG es u ws) (f := fun x => ws ++ [x]) (q := q) (q' := q') (show ls.length ≤ 6 by rw [HLS.out]; omega) hL6)
                      have hgz := HI4.out.g
                      have hloz := HI4.out.lo_le
                      have hcz2 : wz.cell? ⟨gl, q', none⟩ = some (.int .i64 x) := (bz.cell (p := ⟨gl, q', none⟩) hg3).trans hcx
                      have HRR := Lib.hid ((HR4.out.1.drew.alloc (.cells #[] 3)).rd)
                      have HRB := Lib.hid (((HR4.out.1.alloc (.cells #[] 3)).alloc (.cells #[.int .i64 x] 3)).drew.rd)
                      have HRC := Lib.hid (((HR4.out.1.alloc (.cells #[.int .i64 x] 3)).alloc (.cells #[] 3)).drew.rd)
                      have HOB := Lib.hid (((OwI_lit wz [] I64s_nil (by simp) (Nat.le_refl _)).alloc (.cells #[.int .i64 x] 3)).drew)
                      have HOC : Hid (OwI ((wz.alloc (.cells #[.int .i64 x] 3)).alloc (.cells #[] 3)).drew wz.heap.size (.slice (some ⟨wz.heap.size + 1, 0, none⟩) 0 0) []) := Lib.hid (OwI_litN (wz.alloc (.cells #[.int .i64 x] 3)) [] (wz.heap.size + 1) (by simp) I64s_nil (by simp) (by omega))
                      have HXB : Hid (RdI ((wz.alloc (.cells #[] 3)).alloc (.cells #[.int .i64 x] 3)).drew (.slice (some ⟨wz.heap.size + 1, 0, none⟩) 1 1) [x]) := Lib.hid (by have := RdI_new1 (wz.alloc (.cells #[] 3)) x HX64.out; simpa using this.drew)
                      have HXC : Hid (RdI ((wz.alloc (.cells #[.int .i64 x] 3)).alloc (.cells #[] 3)).drew (.slice (some ⟨wz.heap.size, 0, none⟩) 1 1) [x]) := Lib.hid (((RdI_new1 wz x HX64.out).alloc (.cells #[] 3)).drew)
                      have HBB : Hid (Below wz.heap.size wz ((wz.alloc (.cells #[] 3)).alloc (.cells #[.int .i64 x] 3)).drew) := Lib.hid ((((Below.refl wz.heap.size wz).alloc (Nat.le_refl _) _).alloc (by simp) _).drew)
                      have HBC : Hid (Below wz.heap.size wz ((wz.alloc (.cells #[.int .i64 x] 3)).alloc (.cells #[] 3)).drew) := Lib.hid ((((Below.refl wz.heap.size wz).alloc (Nat.le_refl _) _).alloc (by simp) _).drew)
                      clear bz fC fQ0 fQ1 fQ2 q0 q1 q2 e0
                      go_wp2_with fail
                      go_region_held3 (fun w' => w'.cell? ⟨gl, q', none⟩ = some (.int .i64 x))
                        (first | go_keep | (exact HXE.out _ HI5.out.l) | (rw [hc1 _ _ (by omega)]; simp [go_sem, *]) | (rw [hc0 _ _ (by omega)]; simp [go_sem, *]))
                        (first
                          | (refine step_append_ints rfl (.tmp 106) (.tmp 107) rfl wz.heap.size _ [] (OwI_litN _ [] wz.heap.size (by simp [World.drew, World.drewN]) I64s_nil (by simp) (Nat.le_refl _)) (by rfl) _ ws ?_ (by rfl) (by simp; omega) (by simp) ?_; (exact HRR.out); intro v1 w1 o1 g1 p1; rw [List.nil_append] at o1; have hb0 := (((Below.refl wz.heap.size wz).drew).alloc (Nat.le_refl _) (.cells #[] 3)); have hb1 := hb0.grown g1 hb0.size (fun k hk => by simp [Value.ownBlock] at hk; omega); have O1 := Lib.hid o1; have B1 := Lib.hid hb1; obtain ⟨hc0, _⟩ := bcellN hb1; have hz1 := hb1.size; clear o1 hb0 hb1 g1 p1 HRR HRB HRC HOB HOC HXB HXC HBB HBC)
                          | (refine step_append_ints rfl (.tmp 106) (.tmp 107) rfl wz.heap.size _ [] HOB.out (by rfl) _ ws HRB.out (by rfl) (by simp; omega) HBB.out.size ?_; intro v1 w1 o1 g1 p1; rw [List.nil_append] at o1; have hb1 := HBB.out.grown g1 HBB.out.size (fun k hk => by simp [Value.ownBlock] at hk; omega); have HX := Lib.hid (HXB.out.grown g1 (fun b e1 e2 => by simp [Value.ownBlock] at e1 e2; omega)); have O1 := Lib.hid o1; have B1 := Lib.hid hb1; obtain ⟨hc0, _⟩ := bcellN hb1; have hz1 := hb1.size; clear o1 hb1 g1 p1 HRR HRB HRC HOB HOC HXB HXC HBB HBC)
                          | (refine step_append_ints rfl (.tmp 106) (.tmp 107) rfl wz.heap.size _ [] HOC.out (by rfl) _ ws HRC.out (by rfl) (by simp; omega) HBC.out.size ?_; intro v1 w1 o1 g1 p1; rw [List.nil_append] at o1; have hb1 := HBC.out.grown g1 HBC.out.size (fun k hk => by simp [Value.ownBlock] at hk; omega); have HX := Lib.hid (HXC.out.grown g1 (fun b e1 e2 => by simp [Value.ownBlock] at e1 e2; omega)); have O1 := Lib.hid o1; have B1 := Lib.hid hb1; obtain ⟨hc0, _⟩ := bcellN hb1; have hz1 := hb1.size; clear o1 hb1 g1 p1 HRR HRB HRC HOB HOC HXB HXC HBB HBC)
                          | (refine step_append_ints rfl (.tmp 108) (.tmp 113) rfl wz.heap.size _ ws (O1.out.alloc _) (by rfl) _ [x] (RdI_new1 _ x HX64.out) (by rfl) (by simp; omega) (by simp; omega) ?_; intro v2 w2 o2 g2 p2; have hb2 := ((B1.out.alloc hz1 (.cells #[.int .i64 x] 3)).grown g2 (by simp; omega) (fun k hk => (O1.out.1.lt k hk).1)); have B2 := Lib.hid hb2; obtain ⟨hc1, _⟩ := bcellN hb2; have hz2 := hb2.size; obtain ⟨A2, c2, hv2, _⟩ := OwI.form o2; rw [List.length_append, List.length_singleton] at hv2; subst hv2; have O2 := Lib.hid o2; clear o2 hb2 g2 p2 hz1 B1)
                          | (refine step_append_ints rfl (.tmp 108) (.tmp 113) rfl wz.heap.size _ ws O1.out (by rfl) _ [x] HX.out (by rfl) (by simp; omega) hz1 ?_; intro v2 w2 o2 g2 p2; have hb2 := (B1.out.grown g2 hz1 (fun k hk => (O1.out.1.lt k hk).1)); have B2 := Lib.hid hb2; obtain ⟨hc1, _⟩ := bcellN hb2; have hz2 := hb2.size; obtain ⟨A2, c2, hv2, _⟩ := OwI.form o2; rw [List.length_append, List.length_singleton] at hv2; subst hv2; have O2 := Lib.hid o2; clear o2 hb2 g2 p2 hz1 B1 HX)
                          | (refine step_push3_2 rfl (.tmp 105) (.tmp 115) rfl HI4.out.o hloz (B2.out.alloc hz2 _) (by rfl) _ (.slice A2 (ws.length + 1) c2) (ws ++ [x]) (base := wz.heap.size) (by rfl) (O2.out.alloc _) (Nat.le_refl _) (cell_new1 _ _ _) rfl HNL.out ?_; intro v3 w3 o3 b3 g3 p3; have HI5 := Lib.hid (HI4.out.push2 (B2.out.alloc hz2 (.cells #[.slice A2 (ws.length + 1) c2] 24)) o3 b3 g3 p3); have HR5 := Lib.hid (HR4.out.push (B2.out.alloc hz2 (.cells #[.slice A2 (ws.length + 1) c2] 24)) g3 p3); clear o3 b3 g3 p3))
                      all_goals (
                        go_wp2
                        go_roundw
                        (case rel => exact ⟨q' + 1, by omega, by go_num, by rw [HE7.out]; exact HI5.out, HR5.out⟩)
                        (case measure => simp [intOf]; omega))
                · have hl0 : ws.length = 0 := by simpa using e0
                  have HOKX : Hid (okG es u ws x = decide (0 ≤ nv)) := Lib.hid (by rw [HOX.out, hOW]; simp [hl0])
                  clear hOW hl0
                  rcases e5 : decide (0 ≤ nv) with _ | _
                  · go_wp2_with fail
                    (refine wp_region_quiet_bel (by kernel_rfl) (by kernel_rfl) ?_; (repeat (go_big_quiet_step (first | (go_at_call 66; exact Calls.bel_of (HNV.out _ (HI3.out.b.trans ((BelW.h _).mono hlo3))))))); refine wpQuiet_nil ?_; intro wz hw'; obtain ⟨pq, hw''⟩ := hw'; have bz := pq.h; rw [← hw''] at bz; clear hw'' pq)
                    rw [e5] at HOKX
                    have HE6 : Hid ((ls.take (q' + 1)).filter (okG es u ws) = (ls.take q').filter (okG es u ws)) := Lib.hid (by rw [HTK.out, if_neg (by rw [HOKX.out]; decide)])
                    have HI4 := Lib.hid (HI3.out.below bz)
                    have HR4 := Lib.hid (HR3.out.below bz)
                    clear bz
                    go_wp2
                    go_roundw
                    case rel => exact ⟨q' + 1, by omega, by go_num, by rw [HE6.out]; exact HI4.out, HR4.out⟩
                    case measure => simp [intOf]; omega
                  · go_wp2_with fail
                    (refine wp_region_quiet_bel (by kernel_rfl) (by kernel_rfl) ?_; (repeat (go_big_quiet_step (first | (go_at_call 66; exact Calls.bel_of (HNV.out _ (HI3.out.b.trans ((BelW.h _).mono hlo3))))))); refine wpQuiet_nil ?_; intro wz hw'; obtain ⟨pq, hw''⟩ := hw'; have bz := pq.h; rw [← hw''] at bz; clear hw'' pq)
                    rw [e5] at HOKX
                    have HE6 : Hid ((ls.take (q' + 1)).filter (okG es u ws) = (ls.take q').filter (okG es u ws) ++ [x]) := Lib.hid (by rw [HTK.out, if_pos HOKX.out])
                    have HE7 : Hid ((LK.take q).flatMap (nxtG es u ls) ++ ((ls.take (q' + 1)).filter (okG es u ws)).map (fun x => ws ++ [x]) = ((LK.take q).flatMap (nxtG es u ls) ++ ((ls.take q').filter (okG es u ws)).map fun x => ws ++ [x]) ++ [ws ++ [x]]) := Lib.hid (by rw [HE6.out, List.map_append, ← List.append_assoc]; rfl)
                    have HI4 := Lib.hid (HI3.out.below bz)
                    have HR4 := Lib.hid (HR3.out.below bz)
                    have HNL := Lib.hid (nxt_room (es := es) (u := u) (p := okG es u ws) (f := fun x => ws ++ [x]) (q := q) (q' := q') (show ls.length ≤ 6 by rw [HLS.out]; omega) hL6)
                    have hgz := HI4.out.g
                    have hloz := HI4.out.lo_le
                    have hcz2 : wz.cell? ⟨gl, q', none⟩ = some (.int .i64 x) := (bz.cell (p := ⟨gl, q', none⟩) hg3).trans hcx
                    have HRR := Lib.hid ((HR4.out.1.drew.alloc (.cells #[] 3)).rd)
                    have HRB := Lib.hid (((HR4.out.1.alloc (.cells #[] 3)).alloc (.cells #[.int .i64 x] 3)).drew.rd)
                    have HRC := Lib.hid (((HR4.out.1.alloc (.cells #[.int .i64 x] 3)).alloc (.cells #[] 3)).drew.rd)
                    have HOB := Lib.hid (((OwI_lit wz [] I64s_nil (by simp) (Nat.le_refl _)).alloc (.cells #[.int .i64 x] 3)).drew)
                    have HOC : Hid (OwI ((wz.alloc (.cells #[.int .i64 x] 3)).alloc (.cells #[] 3)).drew wz.heap.size (.slice (some ⟨wz.heap.size + 1, 0, none⟩) 0 0) []) := Lib.hid (OwI_litN (wz.alloc (.cells #[.int .i64 x] 3)) [] (wz.heap.size + 1) (by simp) I64s_nil (by simp) (by omega))
                    have HXB : Hid (RdI ((wz.alloc (.cells #[] 3)).alloc (.cells #[.int .i64 x] 3)).drew (.slice (some ⟨wz.heap.size + 1, 0, none⟩) 1 1) [x]) := Lib.hid (by have := RdI_new1 (wz.alloc (.cells #[] 3)) x HX64.out; simpa using this.drew)
                    have HXC : Hid (RdI ((wz.alloc (.cells #[.int .i64 x] 3)).alloc (.cells #[] 3)).drew (.slice (some ⟨wz.heap.size, 0, none⟩) 1 1) [x]) := Lib.hid (((RdI_new1 wz x HX64.out).alloc (.cells #[] 3)).drew)
                    have HBB : Hid (Below wz.heap.size wz ((wz.alloc (.cells #[] 3)).alloc (.cells #[.int .i64 x] 3)).drew) := Lib.hid ((((Below.refl wz.heap.size wz).alloc (Nat.le_refl _) _).alloc (by simp) _).drew)
                    have HBC : Hid (Below wz.heap.size wz ((wz.alloc (.cells #[.int .i64 x] 3)).alloc (.cells #[] 3)).drew) := Lib.hid ((((Below.refl wz.heap.size wz).alloc (Nat.le_refl _) _).alloc (by simp) _).drew)
                    clear bz fC fQ0 fQ1 fQ2 q0 q1 q2 e0
                    go_wp2_with fail
                    go_region_held3 (fun w' => w'.cell? ⟨gl, q', none⟩ = some (.int .i64 x))
                      (first | go_keep | (exact HXE.out _ HI5.out.l) | (rw [hc1 _ _ (by omega)]; simp [go_sem, *]) | (rw [hc0 _ _ (by omega)]; simp [go_sem, *]))
                      (first
                        | (refine step_append_ints rfl (.tmp 106) (.tmp 107) rfl wz.heap.size _ [] (OwI_litN _ [] wz.heap.size (by simp [World.drew, World.drewN]) I64s_nil (by simp) (Nat.le_refl _)) (by rfl) _ ws ?_ (by rfl) (by simp; omega) (by simp) ?_; (exact HRR.out); intro v1 w1 o1 g1 p1; rw [List.nil_append] at o1; have hb0 := (((Below.refl wz.heap.size wz).drew).alloc (Nat.le_refl _) (.cells #[] 3)); have hb1 := hb0.grown g1 hb0.size (fun k hk => by simp [Value.ownBlock] at hk; omega); have O1 := Lib.hid o1; have B1 := Lib.hid hb1; obtain ⟨hc0, _⟩ := bcellN hb1; have hz1 := hb1.size; clear o1 hb0 hb1 g1 p1 HRR HRB HRC HOB HOC HXB HXC HBB HBC)
                        | (refine step_append_ints rfl (.tmp 106) (.tmp 107) rfl wz.heap.size _ [] HOB.out (by rfl) _ ws HRB.out (by rfl) (by simp; omega) HBB.out.size ?_; intro v1 w1 o1 g1 p1; rw [List.nil_append] at o1; have hb1 := HBB.out.grown g1 HBB.out.size (fun k hk => by simp [Value.ownBlock] at hk; omega); have HX := Lib.hid (HXB.out.grown g1 (fun b e1 e2 => by simp [Value.ownBlock] at e1 e2; omega)); have O1 := Lib.hid o1; have B1 := Lib.hid hb1; obtain ⟨hc0, _⟩ := bcellN hb1; have hz1 := hb1.size; clear o1 hb1 g1 p1 HRR HRB HRC HOB HOC HXB HXC HBB HBC)
                        | (refine step_append_ints rfl (.tmp 106) (.tmp 107) rfl wz.heap.size _ [] HOC.out (by rfl) _ ws HRC.out (by rfl) (by simp; omega) HBC.out.size ?_; intro v1 w1 o1 g1 p1; rw [List.nil_append] at o1; have hb1 := HBC.out.grown g1 HBC.out.size (fun k hk => by simp [Value.ownBlock] at hk; omega); have HX := Lib.hid (HXC.out.grown g1 (fun b e1 e2 => by simp [Value.ownBlock] at e1 e2; omega)); have O1 := Lib.hid o1; have B1 := Lib.hid hb1; obtain ⟨hc0, _⟩ := bcellN hb1; have hz1 := hb1.size; clear o1 hb1 g1 p1 HRR HRB HRC HOB HOC HXB HXC HBB HBC)
                        | (refine step_append_ints rfl (.tmp 108) (.tmp 113) rfl wz.heap.size _ ws (O1.out.alloc _) (by rfl) _ [x] (RdI_new1 _ x HX64.out) (by rfl) (by simp; omega) (by simp; omega) ?_; intro v2 w2 o2 g2 p2; have hb2 := ((B1.out.alloc hz1 (.cells #[.int .i64 x] 3)).grown g2 (by simp; omega) (fun k hk => (O1.out.1.lt k hk).1)); have B2 := Lib.hid hb2; obtain ⟨hc1, _⟩ := bcellN hb2; have hz2 := hb2.size; obtain ⟨A2, c2, hv2, _⟩ := OwI.form o2; rw [List.length_append, List.length_singleton] at hv2; subst hv2; have O2 := Lib.hid o2; clear o2 hb2 g2 p2 hz1 B1)
                        | (refine step_append_ints rfl (.tmp 108) (.tmp 113) rfl wz.heap.size _ ws O1.out (by rfl) _ [x] HX.out (by rfl) (by simp; omega) hz1 ?_; intro v2 w2 o2 g2 p2; have hb2 := (B1.out.grown g2 hz1 (fun k hk => (O1.out.1.lt k hk).1)); have B2 := Lib.hid hb2; obtain ⟨hc1, _⟩ := bcellN hb2; have hz2 := hb2.size; obtain ⟨A2, c2, hv2, _⟩ := OwI.form o2; rw [List.length_append, List.length_singleton] at hv2; subst hv2; have O2 := Lib.hid o2; clear o2 hb2 g2 p2 hz1 B1 HX)
                        | (refine step_push3_2 rfl (.tmp 105) (.tmp 115) rfl HI4.out.o hloz (B2.out.alloc hz2 _) (by rfl) _ (.slice A2 (ws.length + 1) c2) (ws ++ [x]) (base := wz.heap.size) (by rfl) (O2.out.alloc _) (Nat.le_refl _) (cell_new1 _ _ _) rfl HNL.out ?_; intro v3 w3 o3 b3 g3 p3; have HI5 := Lib.hid (HI4.out.push2 (B2.out.alloc hz2 (.cells #[.slice A2 (ws.length + 1) c2] 24)) o3 b3 g3 p3); have HR5 := Lib.hid (HR4.out.push (B2.out.alloc hz2 (.cells #[.slice A2 (ws.length + 1) c2] 24)) g3 p3); clear o3 b3 g3 p3))
                    all_goals (
                      go_wp2
                      go_roundw
                      (case rel => exact ⟨q' + 1, by omega, by go_num, by rw [HE7.out]; exact HI5.out, HR5.out⟩)
                      (case measure => simp [intOf]; omega))
              · obtain rfl : q' = 2 * rk := by omega
                have h1 := HI3.out
                rw [← HLS.out, List.take_length, ← HNX.out, ← HTM.out] at h1
                have HI4 := Lib.hid h1
                clear h1
                go_wp2
                go_roundw
                case rel => exact ⟨q + 1, by omega, by go_num, HI4.out⟩
                case measure => simp [intOf]; omega
          · have hEu : EN = u := by simpa using ee
            have e1 : loopB es u ws = true := by rw [HLB.out]; simpa using hEu
            have HE2 : Hid ((LK.take (q + 1)).filter (loopB es u) = (LK.take q).filter (loopB es u) ++ [ws]) := Lib.hid (by rw [HTF.out, if_pos e1])
            have HPL : Hid ((P0 ++ (LK.take q).filter (loopB es u)).length ≤ 1073741824) := Lib.hid (by
              have h1 := HPB.out
              have h2 := List.length_filter_le (loopB es u) (LK.take q)
              rw [List.length_take] at h2
              rw [List.length_append]
              omega)
            have hlo5 := HI5.out.lo_le
            clear e1 hEu
            go_wp2_with (first
              | (at_builtin; refine append_ints rfl (.tmp 67) (.tmp 68) rfl w5.heap.size _ [] (OwI_lit w5 [] I64s_nil (by simp) (Nat.le_refl _)) rfl _ ws (HR5.out.1.alloc _).rd rfl (by simp; omega) (by simp) ?_; intro v6 w6 o6 g6 p6; rw [List.nil_append] at o6; have hb6 := (((Below.refl w5.heap.size w5)).alloc (Nat.le_refl _) (.cells #[] 3)).grown g6 (by simp) (fun k hk => by simp [Value.ownBlock] at hk; omega); have O6 := Lib.hid o6; have B6 := Lib.hid hb6; have hz6 := hb6.size; obtain ⟨A6, c6, rfl, _⟩ := OwI.form o6; clear o6 hb6 g6 p6)
              | (at_builtin; refine push3x_1 rfl (.tmp 66) (.tmp 70) rfl HI5.out.o hlo5 (B6.out.alloc hz6 _) rfl _ (.slice A6 ws.length c6) ws (base := w5.heap.size) rfl (O6.out.alloc _) (Nat.le_refl _) (cell_new1 _ _ _) rfl HPL.out ?_; intro v7 w7 o7 b7 g7 p7; have HI7 := Lib.hid (HI5.out.push1 (B6.out.alloc hz6 (.cells #[.slice A6 ws.length c6] 24)) o7 b7 g7 p7); have HR7 := Lib.hid (HR5.out.other (B6.out.alloc hz6 (.cells #[.slice A6 ws.length c6] 24)) g7 HRO.out); clear o7 b7 g7 p7))
            obtain ⟨wc, hwc⟩ : ∃ W : World, W = w7 := ⟨_, rfl⟩
            obtain ⟨OUTV, hov⟩ : ∃ V, V = v7 := ⟨_, rfl⟩
            have HIC : Hid (LwI (w.heap.size + 1) gl rk cl_ ls W wc OUTV (P0 ++ (LK.take (q + 1)).filter (loopB es u)) u11 ((LK.take q).flatMap (nxtG es u ls)) (.slice (some ⟨b, 0, none⟩) LK.length cy) LK) := Lib.hid (by rw [HE2.out, ← List.append_assoc, hwc, hov]; exact HI7.out)
            have HRC : Hid (RowI wc (.slice A1 ws.length c1) ws u11) := Lib.hid (by rw [hwc]; exact HR7.out)
            rw [← hwc, ← hov]
            clear hwc hov HI5 HR5 HI7 HR7 O6 B6 HRD HRI HRO
            go_wp2
            go_loopw [11, 16] (fun next i wr => ∃ q' : Nat, q' ≤ 2 * rk ∧ i = .int .i64 q' ∧ LwI (w.heap.size + 1) gl rk cl_ ls W wr OUTV (P0 ++ (LK.take (q + 1)).filter (loopB es u)) next ((LK.take q).flatMap (nxtG es u ls) ++ ((ls.take q').filter (okG es u ws)).map fun x => ws ++ [x]) (.slice (some ⟨b, 0, none⟩) LK.length cy) LK ∧ RowI wr (.slice A1 ws.length c1) ws next) (fun _ i _ => 2 * rk - (intOf i).toNat)
            case atStart => exact ⟨0, Nat.zero_le _, rfl, by simpa using HIC.out, HRC.out⟩
            case round =>
              obtain ⟨q', hq', rfl, hI3, hb3⟩ := hrel
              have HI3 := Lib.hid hI3
              have HR3 := Lib.hid hb3
              obtain ⟨wj, rfl⟩ : ∃ wj : World, wj = wr := ⟨_, rfl⟩
              clear hI3 hb3
              by_cases hlt3 : q' < 2 * rk
              · have hql : q' < ls.length := by rw [HLS.out]; exact hlt3
                have hcx := HI3.out.l.cellAt q' hql
                have q0 := (HI3.out.b.cell (p := ⟨w.heap.size, 0, none⟩) (by show w.heap.size < w.heap.size + 1; omega)).trans L0.out
                have q1 := (HI3.out.b.cell (p := ⟨w.heap.size, 1, none⟩) (by show w.heap.size < w.heap.size + 1; omega)).trans L1.out
                have q2 := (HI3.out.b.cell (p := ⟨w.heap.size, 2, none⟩) (by show w.heap.size < w.heap.size + 1; omega)).trans L2.out
                have HTK := Lib.hid (take_filter (okG es u ws) ls q' hql)
                have HX64 := Lib.hid (HL64.out _ (List.getElem_mem hql))
                have HOX := Lib.hid (HOK.out ls[q'])
                have HXE := Lib.hid (fun W' (h : OwI W' 0 (.slice (some ⟨gl, 0, none⟩) (2 * rk) cl_) ls) => h.cellAt q' hql)
                have HNV := Lib.hid (fun W' (hh : Below (w.heap.size + 1) W W') => specNextVertex_any _ (rk, N, es) EN ls[q'] W' (HA2.out W' hh) (ONE.out EN ls[q']))
                have hOW : okW ws ls[q'] = (decide (ws.length = 0) || decide (ls[q'] ≠ -(ws.getD (ws.length - 1) 0))) := rfl
                have hqI : (q' : Int) < ((2 * rk : Nat) : Int) := by omega
                have hg3 := HI3.out.g
                have hw3 : w.heap.size < wj.heap.size := by have := HI3.out.lo_le; omega
                have hlo3 := HI3.out.lo_le
                generalize ls[q'] = x at *
                generalize hNX2 : nextV es EN x = nv at *
                clear hNX2
                have fC := BelW.cell hcx hg3
                have fQ0 := BelW.cell q0 hw3
                have fQ1 := BelW.cell q1 hw3
                have fQ2 := BelW.cell q2 hw3
                rcases e0 : ((ws.length : Int) == 0) with _ | _
                · have hl0 : ¬ ws.length = 0 := fun e => by rw [e] at e0; simp at e0
                  obtain ⟨gw, hgw, hgw1, hgw2⟩ : ∃ gw, A1 = some ⟨gw, 0, none⟩ ∧ wj.cell? ⟨gw, ws.length - 1, none⟩ = some (.int .i64 (ws.getD (ws.length - 1) 0)) ∧ gw < wj.heap.size := by
                    obtain ⟨_, _, hv, _, _, _, hf⟩ := OwI.form HR3.out.1
                    injection hv with hv1 hv2 hv3
                    obtain ⟨gw, hA, _, hlt⟩ := hf (by omega)
                    subst hv1
                    subst hA
                    refine ⟨gw, rfl, ?_, hlt⟩
                    have := HR3.out.1.cellAt (ws.length - 1) (by omega)
                    rw [this]
                    simp [List.getD, show ws.length - 1 < ws.length by omega]
                  subst hgw
                  have fW := BelW.cell hgw1 hgw2
                  have hwr1 : IntKind.i64.wrap ((ws.length : Int) - 1) = (ws.length : Int) - 1 := by rw [IntKind.wrap_i64]; omega
                  have hb1 : (0 : Int) ≤ (ws.length : Int) - 1 := by omega
                  have hb2 : (ws.length : Int) - 1 < (ws.length : Int) := by omega
                  have htn : ((ws.length : Int) - 1).toNat = ws.length - 1 := by omega
                  have hOW2 : okW ws x = decide (x ≠ -(ws.getD (ws.length - 1) 0)) := by rw [hOW, decide_eq_false hl0, Bool.false_or]
                  have HY64 : I64 (ws.getD (ws.length - 1) 0) := by
                    have hm : ws.getD (ws.length - 1) 0 ∈ ws := by rw [List.getD_eq_getElem?_getD, List.getElem?_eq_getElem (by omega)]; exact List.getElem_mem _
                    exact HR3.out.1.2 _ hm
                  have HYB := Lib.hid (HLMM.out _ (HM2.out _ (show ws.getD (ws.length - 1) 0 ∈ ws by rw [List.getD_eq_getElem?_getD, List.getElem?_eq_getElem (by omega)]; exact List.getElem_mem _)))
                  generalize ws.getD (ws.length - 1) 0 = y at *
                  have hny : IntKind.i64.wrap (-y) = -y := by rw [IntKind.wrap_i64]; have := HYB.out; omega
                  rcases ex : (x != -y) with _ | _
                  · have hex : x = -y := by simpa using ex
                    have HOKX : Hid (okG es u ws x = false) := Lib.hid (by rw [HOX.out, hOW2]; simp [hex])
                    clear hex hOW hOW2
                    go_wp2_with fail
                    (refine wp_region_quiet_bel (by kernel_rfl) (by kernel_rfl) ?_; (repeat (go_big_quiet_step (fail))); refine wpQuiet_nil ?_; intro wz hw'; obtain ⟨pq, hw''⟩ := hw'; have bz := pq.h; rw [← hw''] at bz; clear hw'' pq)
                    have HE6 : Hid ((ls.take (q' + 1)).filter (okG es u ws) = (ls.take q').filter (okG es u ws)) := Lib.hid (by rw [HTK.out, if_neg (by rw [HOKX.out]; decide)])
                    have HI4 := Lib.hid (HI3.out.below bz)
                    have HR4 := Lib.hid (HR3.out.below bz)
                    clear bz
                    go_wp2
                    go_roundw
                    case rel => exact ⟨q' + 1, by omega, by go_num, by rw [HE6.out]; exact HI4.out, HR4.out⟩
                    case measure => simp [intOf]; omega
                  · have hex : x ≠ -y := by simpa using ex
                    have HOKX : Hid (okG es u ws x = decide (0 ≤ nv)) := Lib.hid (by rw [HOX.out, hOW2]; simp [hex])
                    clear hex hOW hOW2
                    rcases e5 : decide (0 ≤ nv) with _ | _
                    · go_wp2_with fail
                      (refine wp_region_quiet_bel (by kernel_rfl) (by kernel_rfl) ?_; (repeat (go_big_quiet_step (first | (go_at_call 66; exact Calls.bel_of (HNV.out _ (HI3.out.b.trans ((BelW.h _).mono hlo3))))))); refine wpQuiet_nil ?_; intro wz hw'; obtain ⟨pq, hw''⟩ := hw'; have bz := pq.h; rw [← hw''] at bz; clear hw'' pq)
                      rw [e5] at HOKX
                      have HE6 : Hid ((ls.take (q' + 1)).filter (okG es u ws) = (ls.take q').filter (okG es u ws)) := Lib.hid (by rw [HTK.out, if_neg (by rw [HOKX.out]; decide)])
                      have HI4 := Lib.hid (HI3.out.below bz)
                      have HR4 := Lib.hid (HR3.out.below bz)
                      clear bz
                      go_wp2
                      go_roundw
                      case rel => exact ⟨q' + 1, by omega, by go_num, by rw [HE6.out]; exact HI4.out, HR4.out⟩
                      case measure => simp [intOf]; omega
                    · go_wp2_with fail
                      (refine wp_region_quiet_bel (by kernel_rfl) (by kernel_rfl) ?_; (repeat (go_big_quiet_step (first | (go_at_call 66; exact Calls.bel_of (HNV.out _ (HI3.out.b.trans ((BelW.h _).mono hlo3))))))); refine wpQuiet_nil ?_; intro wz hw'; obtain ⟨pq, hw''⟩ := hw'; have bz := pq.h; rw [← hw''] at bz; clear hw'' pq)
                      rw [e5] at HOKX
                      have HE6 : Hid ((ls.take (q' + 1)).filter (okG es u ws) = (ls.take q').filter (okG es u ws) ++ [x]) := Lib.hid (by rw [HTK.out, if_pos HOKX.out])
                      have HE7 : Hid ((LK.take q).flatMap (nxtG es u ls) ++ ((ls.take (q' + 1)).filter (okG es u ws)).map (fun x => ws ++ [x]) = ((LK.take q).flatMap (nxtG es u ls) ++ ((ls.take q').filter (okG es u ws)).map fun x => ws ++ [x]) ++ [ws ++ [x]]) := Lib.hid (by rw [HE6.out, List.map_append, ← List.append_assoc]; rfl)
                      have HI4 := Lib.hid (HI3.out.below bz)
                      have HR4 := Lib.hid (HR3.out.below bz)
                      have HNL := Lib.hid (nxt_room (es := es) (u := u) (p := okG es u ws) (f := fun x => ws ++ [x]) (q := q) (q' := q') (show ls.length ≤ 6 by rw [HLS.out]; omega) hL6)
                      have hgz := HI4.out.g
                      have hloz := HI4.out.lo_le
                      have hcz2 : wz.cell? ⟨gl, q', none⟩ = some (.int .i64 x) := (bz.cell (p := ⟨gl, q', none⟩) hg3).trans hcx
                      have HRR := Lib.hid ((HR4.out.1.drew.alloc (.cells #[] 3)).rd)
                      have HRB := Lib.hid (((HR4.out.1.alloc (.cells #[] 3)).alloc (.cells #[.int .i64 x] 3)).drew.rd)
                      have HRC := Lib.hid (((HR4.out.1.alloc (.cells #[.int .i64 x] 3)).alloc (.cells #[] 3)).drew.rd)
                      have HOB := Lib.hid (((OwI_lit wz [] I64s_nil (by simp) (Nat.le_refl _)).alloc (.cells #[.int .i64 x] 3)).drew)
                      have HOC : Hid (OwI ((wz.alloc (.cells #[.int .i64 x] 3)).alloc (.cells #[] 3)).drew wz.heap.size (.slice (some ⟨wz.heap.size + 1, 0, none⟩) 0 0) []) := Lib.hid (OwI_litN (wz.alloc (.cells #[.int .i64 x] 3)) [] (wz.heap.size + 1) (by simp) I64s_nil (by simp) (by omega))
                      have HXB : Hid (RdI ((wz.alloc (.cells #[] 3)).alloc (.cells #[.int .i64 x] 3)).drew (.slice (some ⟨wz.heap.size + 1, 0, none⟩) 1 1) [x]) := Lib.hid (by have := RdI_new1 (wz.alloc (.cells #[] 3)) x HX64.out; simpa using this.drew)
                      have HXC : Hid (RdI ((wz.alloc (.cells #[.int .i64 x] 3)).alloc (.cells #[] 3)).drew (.slice (some ⟨wz.heap.size, 0, none⟩) 1 1) [x]) := Lib.hid (((RdI_new1 wz x HX64.out).alloc (.cells #[] 3)).drew)
                      have HBB : Hid (Below wz.heap.size wz ((wz.alloc (.cells #[] 3)).alloc (.cells #[.int .i64 x] 3)).drew) := Lib.hid ((((Below.refl wz.heap.size wz).alloc (Nat.le_refl _) _).alloc (by simp) _).drew)
                      have HBC : Hid (Below wz.heap.size wz ((wz.alloc (.cells #[.int .i64 x] 3)).alloc (.cells #[] 3)).drew) := Lib.hid ((((Below.refl wz.heap.size wz).alloc (Nat.le_refl _) _).alloc (by simp) _).drew)
                      clear bz fC fQ0 fQ1 fQ2 q0 q1 q2 e0
                      go_wp2_with fail
                      go_region_held3 (fun w' => w'.cell? ⟨gl, q', none⟩ = some (.int .i64 x))
                        (first | go_keep | (exact HXE.out _ HI5.out.l) | (rw [hc1 _ _ (by omega)]; simp [go_sem, *]) | (rw [hc0 _ _ (by omega)]; simp [go_sem, *]))
                        (first
                          | (refine step_append_ints rfl (.tmp 106) (.tmp 107) rfl wz.heap.size _ [] (OwI_litN _ [] wz.heap.size (by simp [World.drew, World.drewN]) I64s_nil (by simp) (Nat.le_refl _)) (by rfl) _ ws ?_ (by rfl) (by simp; omega) (by simp) ?_; (exact HRR.out); intro v1 w1 o1 g1 p1; rw [List.nil_append] at o1; have hb0 := (((Below.refl wz.heap.size wz).drew).alloc (Nat.le_refl _) (.cells #[] 3)); have hb1 := hb0.grown g1 hb0.size (fun k hk => by simp [Value.ownBlock] at hk; omega); have O1 := Lib.hid o1; have B1 := Lib.hid hb1; obtain ⟨hc0, _⟩ := bcellN hb1; have hz1 := hb1.size; clear o1 hb0 hb1 g1 p1 HRR HRB HRC HOB HOC HXB HXC HBB HBC)
                          | (refine step_append_ints rfl (.tmp 106) (.tmp 107) rfl wz.heap.size _ [] HOB.out (by rfl) _ ws HRB.out (by rfl) (by simp; omega) HBB.out.size ?_; intro v1 w1 o1 g1 p1; rw [List.nil_append] at o1; have hb1 := HBB.out.grown g1 HBB.out.size (fun k hk => by simp [Value.ownBlock] at hk; omega); have HX := Lib.hid (HXB.out.grown g1 (fun b e1 e2 => by simp [Value.ownBlock] at e1 e2; omega)); have O1 := Lib.hid o1; have B1 := Lib.hid hb1; obtain ⟨hc0, _⟩ := bcellN hb1; have hz1 := hb1.size; clear o1 hb1 g1 p1 HRR HRB HRC HOB HOC HXB HXC HBB HBC)
                          | (refine step_append_ints rfl (.tmp 106) (.tmp 107) rfl wz.heap.size _ [] HOC.out (by rfl) _ ws HRC.out (by rfl) (by simp; omega) HBC.out.size ?_; intro v1 w1 o1 g1 p1; rw [List.nil_append] at o1; have hb1 := HBC.out.grown g1 HBC.out.size (fun k hk => by simp [Value.ownBlock] at hk; omega); have HX := Lib.hid (HXC.out.grown g1 (fun b e1 e2 => by simp [Value.ownBlock] at e1 e2; omega)); have O1 := Lib.hid o1; have B1 := Lib.hid hb1; obtain ⟨hc0, _⟩ := bcellN hb1; have hz1 := hb1.size; clear o1 hb1 g1 p1 HRR HRB HRC HOB HOC HXB HXC HBB HBC)
                          | (refine step_append_ints rfl (.tmp 108) (.tmp 113) rfl wz.heap.size _ ws (O1.out.alloc _) (by rfl) _ [x] (RdI_new1 _ x HX64.out) (by rfl) (by simp; omega) (by simp; omega) ?_; intro v2 w2 o2 g2 p2; have hb2 := ((B1.out.alloc hz1 (.cells #[.int .i64 x] 3)).grown g2 (by simp; omega) (fun k hk => (O1.out.1.lt k hk).1)); have B2 := Lib.hid hb2; obtain ⟨hc1, _⟩ := bcellN hb2; have hz2 := hb2.size; obtain ⟨A2, c2, hv2, _⟩ := OwI.form o2; rw [List.length_append, List.length_singleton] at hv2; subst hv2; have O2 := Lib.hid o2; clear o2 hb2 g2 p2 hz1 B1)
                          | (refine step_append_ints rfl (.tmp 108) (.tmp 113) rfl wz.heap.size _ ws O1.out (by rfl) _ [x] HX.out (by rfl) (by simp; omega) hz1 ?_; intro v2 w2 o2 g2 p2; have hb2 := (B1.out.grown g2 hz1 (fun k hk => (O1.out.1.lt k hk).1)); have B2 := Lib.hid hb2; obtain ⟨hc1, _⟩ := bcellN hb2; have hz2 := hb2.size; obtain ⟨A2, c2, hv2, _⟩ := OwI.form o2; rw [List.length_append, List.length_singleton] at hv2; subst hv2; have O2 := Lib.hid o2; clear o2 hb2 g2 p2 hz1 B1 HX)
                          | (refine step_push3_2 rfl (.tmp 105) (.tmp 115) rfl HI4.out.o hloz (B2.out.alloc hz2 _) (by rfl) _ (.slice A2 (ws.length + 1) c2) (ws ++ [x]) (base := wz.heap.size) (by rfl) (O2.out.alloc _) (Nat.le_refl _) (cell_new1 _ _ _) rfl HNL.out ?_; intro v3 w3 o3 b3 g3 p3; have HI5 := Lib.hid (HI4.out.push2 (B2.out.alloc hz2 (.cells #[.slice A2 (ws.length + 1) c2] 24)) o3 b3 g3 p3); have HR5 := Lib.hid (HR4.out.push (B2.out.alloc hz2 (.cells #[.slice A2 (ws.length + 1) c2] 24)) g3 p3); clear o3 b3 g3 p3))
                      all_goals (
                        go_wp2
                        go_roundw
                        (case rel => exact ⟨q' + 1, by omega, by go_num, by rw [HE7.out]; exact HI5.out, HR5.out⟩)
                        (case measure => simp [intOf]; omega))
                · have hl0 : ws.length = 0 := by simpa using e0
                  have HOKX : Hid (okG es u ws x = decide (0 ≤ nv)) := Lib.hid (by rw [HOX.out, hOW]; simp [hl0])
                  clear hOW hl0
                  rcases e5 : decide (0 ≤ nv) with _ | _
                  · go_wp2_with fail
                    (refine wp_region_quiet_bel (by kernel_rfl) (by kernel_rfl) ?_; (repeat (go_big_quiet_step (first | (go_at_call 66; exact Calls.bel_of (HNV.out _ (HI3.out.b.trans ((BelW.h _).mono hlo3))))))); refine wpQuiet_nil ?_; intro wz hw'; obtain ⟨pq, hw''⟩ := hw'; have bz := pq.h; rw [← hw''] at bz; clear hw'' pq)
                    rw [e5] at HOKX
                    have HE6 : Hid ((ls.take (q' + 1)).filter (okG es u ws) = (ls.take q').filter (okG es u ws)) := Lib.hid (by rw [HTK.out, if_neg (by rw [HOKX.out]; decide)])
                    have HI4 := Lib.hid (HI3.out.below bz)
                    have HR4 := Lib.hid (HR3.out.below bz)
                    clear bz
                    go_wp2
                    go_roundw
                    case rel => exact ⟨q' + 1, by omega, by go_num, by rw [HE6.out]; exact HI4.out, HR4.out⟩
                    case measure => simp [intOf]; omega
                  · go_wp2_with fail
                    (refine wp_region_quiet_bel (by kernel_rfl) (by kernel_rfl) ?_; (repeat (go_big_quiet_step (first | (go_at_call 66; exact Calls.bel_of (HNV.out _ (HI3.out.b.trans ((BelW.h _).mono hlo3))))))); refine wpQuiet_nil ?_; intro wz hw'; obtain ⟨pq, hw''⟩ := hw'; have bz := pq.h; rw [← hw''] at bz; clear hw'' pq)
                    rw [e5] at HOKX
                    have HE6 : Hid ((ls.take (q' + 1)).filter (okG es u ws) = (ls.take q').filter (okG es u ws) ++ [x]) := Lib.hid (by rw [HTK.out, if_pos HOKX.out])
                    have HE7 : Hid ((LK.take q).flatMap (nxtG es u ls) ++ ((ls.take (q' + 1)).filter (okG es u ws)).map (fun x => ws ++ [x]) = ((LK.take q).flatMap (nxtG es u ls) ++ ((ls.take q').filter (okG es u ws)).map fun x => ws ++ [x]) ++ [ws ++ [x]]) := Lib.hid (by rw [HE6.out, List.map_append, ← List.append_assoc]; rfl)
                    have HI4 := Lib.hid (HI3.out.below bz)
                    have HR4 := Lib.hid (HR3.out.below bz)
                    have HNL := Lib.hid (nxt_room (es := es) (u := u) (p := okG es u ws) (f := fun x => ws ++ [x]) (q := q) (q' := q') (show ls.length ≤ 6 by rw [HLS.out]; omega) hL6)
                    have hgz := HI4.out.g
                    have hloz := HI4.out.lo_le
                    have hcz2 : wz.cell? ⟨gl, q', none⟩ = some (.int .i64 x) := (bz.cell (p := ⟨gl, q', none⟩) hg3).trans hcx
                    have HRR := Lib.hid ((HR4.out.1.drew.alloc (.cells #[] 3)).rd)
                    have HRB := Lib.hid (((HR4.out.1.alloc (.cells #[] 3)).alloc (.cells #[.int .i64 x] 3)).drew.rd)
                    have HRC := Lib.hid (((HR4.out.1.alloc (.cells #[.int .i64 x] 3)).alloc (.cells #[] 3)).drew.rd)
                    have HOB := Lib.hid (((OwI_lit wz [] I64s_nil (by simp) (Nat.le_refl _)).alloc (.cells #[.int .i64 x] 3)).drew)
                    have HOC : Hid (OwI ((wz.alloc (.cells #[.int .i64 x] 3)).alloc (.cells #[] 3)).drew wz.heap.size (.slice (some ⟨wz.heap.size + 1, 0, none⟩) 0 0) []) := Lib.hid (OwI_litN (wz.alloc (.cells #[.int .i64 x] 3)) [] (wz.heap.size + 1) (by simp) I64s_nil (by simp) (by omega))
                    have HXB : Hid (RdI ((wz.alloc (.cells #[] 3)).alloc (.cells #[.int .i64 x] 3)).drew (.slice (some ⟨wz.heap.size + 1, 0, none⟩) 1 1) [x]) := Lib.hid (by have := RdI_new1 (wz.alloc (.cells #[] 3)) x HX64.out; simpa using this.drew)
                    have HXC : Hid (RdI ((wz.alloc (.cells #[.int .i64 x] 3)).alloc (.cells #[] 3)).drew (.slice (some ⟨wz.heap.size, 0, none⟩) 1 1) [x]) := Lib.hid (((RdI_new1 wz x HX64.out).alloc (.cells #[] 3)).drew)
                    have HBB : Hid (Below wz.heap.size wz ((wz.alloc (.cells #[] 3)).alloc (.cells #[.int .i64 x] 3)).drew) := Lib.hid ((((Below.refl wz.heap.size wz).alloc (Nat.le_refl _) _).alloc (by simp) _).drew)
                    have HBC : Hid (Below wz.heap.size wz ((wz.alloc (.cells #[.int .i64 x] 3)).alloc (.cells #[] 3)).drew) := Lib.hid ((((Below.refl wz.heap.size wz).alloc (Nat.le_refl _) _).alloc (by simp) _).drew)
                    clear bz fC fQ0 fQ1 fQ2 q0 q1 q2 e0
                    go_wp2_with fail
                    go_region_held3 (fun w' => w'.cell? ⟨gl, q', none⟩ = some (.int .i64 x))
                      (first | go_keep | (exact HXE.out _ HI5.out.l) | (rw [hc1 _ _ (by omega)]; simp [go_sem, *]) | (rw [hc0 _ _ (by omega)]; simp [go_sem, *]))
                      (first
                        | (refine step_append_ints rfl (.tmp 106) (.tmp 107) rfl wz.heap.size _ [] (OwI_litN _ [] wz.heap.size (by simp [World.drew, World.drewN]) I64s_nil (by simp) (Nat.le_refl _)) (by rfl) _ ws ?_ (by rfl) (by simp; omega) (by simp) ?_; (exact HRR.out); intro v1 w1 o1 g1 p1; rw [List.nil_append] at o1; have hb0 := (((Below.refl wz.heap.size wz).drew).alloc (Nat.le_refl _) (.cells #[] 3)); have hb1 := hb0.grown g1 hb0.size (fun k hk => by simp [Value.ownBlock] at hk; omega); have O1 := Lib.hid o1; have B1 := Lib.hid hb1; obtain ⟨hc0, _⟩ := bcellN hb1; have hz1 := hb1.size; clear o1 hb0 hb1 g1 p1 HRR HRB HRC HOB HOC HXB HXC HBB HBC)
                        | (refine step_append_ints rfl (.tmp 106) (.tmp 107) rfl wz.heap.size _ [] HOB.out (by rfl) _ ws HRB.out (by rfl) (by simp; omega) HBB.out.size ?_; intro v1 w1 o1 g1 p1; rw [List.nil_append] at o1; have hb1 := HBB.out.grown g1 HBB.out.size (fun k hk => by simp [Value.ownBlock] at hk; omega); have HX := Lib.hid (HXB.out.grown g1 (fun b e1 e2 => by simp [Value.ownBlock] at e1 e2; omega)); have O1 := Lib.hid o1; have B1 := Lib.hid hb1; obtain ⟨hc0, _⟩ := bcellN hb1; have hz1 := hb1.size; clear o1 hb1 g1 p1 HRR HRB HRC HOB HOC HXB HXC HBB HBC)
                        | (refine step_append_ints rfl (.tmp 106) (.tmp 107) rfl wz.heap.size _ [] HOC.out (by rfl) _ ws HRC.out (by rfl) (by simp; omega) HBC.out.size ?_; intro v1 w1 o1 g1 p1; rw [List.nil_append] at o1; have hb1 := HBC.out.grown g1 HBC.out.size (fun k hk => by simp [Value.ownBlock] at hk; omega); have HX := Lib.hid (HXC.out.grown g1 (fun b e1 e2 => by simp [Value.ownBlock] at e1 e2; omega)); have O1 := Lib.hid o1; have B1 := Lib.hid hb1; obtain ⟨hc0, _⟩ := bcellN hb1; have hz1 := hb1.size; clear o1 hb1 g1 p1 HRR HRB HRC HOB HOC HXB HXC HBB HBC)
                        | (refine step_append_ints rfl (.tmp 108) (.tmp 113) rfl wz.heap.size _ ws (O1.out.alloc _) (by rfl) _ [x] (RdI_new1 _ x HX64.out) (by rfl) (by simp; omega) (by simp; omega) ?_; intro v2 w2 o2 g2 p2; have hb2 := ((B1.out.alloc hz1 (.cells #[.int .i64 x] 3)).grown g2 (by simp; omega) (fun k hk => (O1.out.1.lt k hk).1)); have B2 := Lib.hid hb2; obtain ⟨hc1, _⟩ := bcellN hb2; have hz2 := hb2.size; obtain ⟨A2, c2, hv2, _⟩ := OwI.form o2; rw [List.length_append, List.length_singleton] at hv2; subst hv2; have O2 := Lib.hid o2; clear o2 hb2 g2 p2 hz1 B1)
                        | (refine step_append_ints rfl (.tmp 108) (.tmp 113) rfl wz.heap.size _ ws O1.out (by rfl) _ [x] HX.out (by rfl) (by simp; omega) hz1 ?_; intro v2 w2 o2 g2 p2; have hb2 := (B1.out.grown g2 hz1 (fun k hk => (O1.out.1.lt k hk).1)); have B2 := Lib.hid hb2; obtain ⟨hc1, _⟩ := bcellN hb2; have hz2 := hb2.size; obtain ⟨A2, c2, hv2, _⟩ := OwI.form o2; rw [List.length_append, List.length_singleton] at hv2; subst hv2; have O2 := Lib.hid o2; clear o2 hb2 g2 p2 hz1 B1 HX)
                        | (refine step_push3_2 rfl (.tmp 105) (.tmp 115) rfl HI4.out.o hloz (B2.out.alloc hz2 _) (by rfl) _ (.slice A2 (ws.length + 1) c2) (ws ++ [x]) (base := wz.heap.size) (by rfl) (O2.out.alloc _) (Nat.le_refl _) (cell_new1 _ _ _) rfl HNL.out ?_; intro v3 w3 o3 b3 g3 p3; have HI5 := Lib.hid (HI4.out.push2 (B2.out.alloc hz2 (.cells #[.slice A2 (ws.length + 1) c2] 24)) o3 b3 g3 p3); have HR5 := Lib.hid (HR4.out.push (B2.out.alloc hz2 (.cells #[.slice A2 (ws.length + 1) c2] 24)) g3 p3); clear o3 b3 g3 p3))
                    all_goals (
                      go_wp2
                      go_roundw
                      (case rel => exact ⟨q' + 1, by omega, by go_num, by rw [HE7.out]; exact HI5.out, HR5.out⟩)
                      (case measure => simp [intOf]; omega))
              · obtain rfl : q' = 2 * rk := by omega
                have h1 := HI3.out
                rw [← HLS.out, List.take_length, ← HNX.out, ← HTM.out] at h1
                have HI4 := Lib.hid h1
                clear h1
                go_wp2
                go_roundw
                case rel => exact ⟨q + 1, by omega, by go_num, HI4.out⟩
                case measure => simp [intOf]; omega
        · obtain rfl : q = LK.length := by omega
          have h1 := HI2.out
          rw [List.take_length, ← HP1.out, ← HG1.out] at h1
          have HI3 := Lib.hid h1
          clear h1
          go_wp2
          go_roundw
          case rel => exact ⟨k + 1, _, _, by omega, by go_num, by rw [← HLPE.out, ← HLNE.out]; exact HI3.out⟩
          case measure => simp [intOf]; omega
    · obtain rfl : k = m + 1 := by omega
      have hkI : ¬ (((m + 1 : Nat) : Int) ≤ (m : Int)) := by omega
      have FO : Hid (OwII w.heap.size wo.heap.size _ _ wo) := Lib.hid (OwnL.widen HI.out.o.one (show w.heap.size ≤ w.heap.size + 1 by omega) (Nat.le_refl _))
      have FB : Hid (Below w.heap.size w wo) := Lib.hid (BX.out.trans (HI.out.b.mono (by omega)))
      clear hkc hpc h64 hpc2 hkc2 h642
      rw [HLSE.out] at FO
      obtain ⟨Ao, co, hov, _⟩ := OwnL.len FO.out
      subst hov
      go_wp2
      go_ret
      exact ⟨_, rfl, FO.out, FB.out⟩
end Go.Proofs.Ytgoghkboklehnaa
