/- Lists of rows: a row taken out of the list, a row put at its end. -/
import Derived.Test.YtnnckojpmnpgbaaHL
import Derived.Test.YtnnckojpmnpgbaaHerT
namespace Go.Proofs.Ytnnckojpmnpgbaa
set_option maxRecDepth 20000
set_option linter.unusedVariables false
set_option linter.unusedSimpArgs false
open Go.RowKit

theorem hd_erase (hs : List Value) (i j : Nat) : hd (hs.eraseIdx i) j = hd hs (if j < i then j else j + 1) := by
  unfold hd
  rw [List.getD_eq_getElem?_getD, List.getD_eq_getElem?_getD, List.getElem?_eraseIdx]
  split <;> rfl
theorem er_len {β : Type} {l : List β} {i : Nat} (h : i < l.length) : (l.eraseIdx i).length = l.length - 1 := by
  rw [List.length_eraseIdx, if_pos h]
section
variable {lo : Nat} {w w' : World} {v v' : Value} {hs : List Value} {L : List (List Int)}
theorem HB.len0 {A : Option Addr} {n cap : Nat} (h : HB lo w (.slice A n cap) hs L) : n = L.length ∧ n = hs.length := by
  have h1 : hs.length = n := by
    rcases h.row.2 with ⟨hv, hn⟩ | ⟨_, _, _, hv, _⟩
    · injection hv with _ e _; omega
    · injection hv with _ e _; exact e.symm
  exact ⟨by rw [← h1, h.len], h1.symm⟩
theorem HB.form (h : HB lo w v hs L) : ∃ A cap, v = .slice A L.length cap ∧ L.length ≤ cap ∧ cap ≤ maxLen ∧ (0 < L.length → ∃ g, A = some ⟨g, 0, none⟩ ∧ lo ≤ g ∧ g < w.heap.size) := by
  obtain ⟨A, cap, hv, a, b, c, d⟩ := owns_form h.row
  rw [h.len] at hv a d
  refine ⟨A, cap, hv, a, b, fun h0 => ?_⟩
  obtain ⟨g, hA, _, _⟩ := d h0
  have := h.rg g (bl_own (by rw [hv, hA]; rfl))
  exact ⟨g, hA, this⟩
/-- Row k: where its header lies, and the row. -/
theorem HB.at {g n cap k : Nat} (h : HB lo w (.slice (some ⟨g, 0, none⟩) n cap) hs L) (hk : k < L.length) : w.cell? ⟨g, k, none⟩ = some (hd hs k) ∧ OwI w 0 (hd hs k) (rw_ L k) := by
  obtain ⟨e1, e2⟩ := h.len0
  subst e2
  refine ⟨?_, h.own k hk⟩
  have hkh : k < hs.length := by rw [h.len]; exact hk
  have := h.row.cellAt k (by rw [Nat.mul_one]; exact hkh)
  rw [this, List.getElem?_eq_getElem hkh, hd_mem hkh]
theorem HB.row_form (h : HB lo w v hs L) {k : Nat} (hk : k < L.length) (h0 : 0 < (rw_ L k).length) : ∃ gk ck, hd hs k = .slice (some ⟨gk, 0, none⟩) (rw_ L k).length ck ∧ lo ≤ gk ∧ gk < w.heap.size ∧ (rw_ L k).length ≤ ck ∧ ck ≤ maxLen := by
  obtain ⟨A, c, hv, hc, hm, _, hf⟩ := OwI.form (h.own k hk)
  obtain ⟨gk, hA, _⟩ := hf h0
  have := h.rg gk (bl_hd (i := k) (by rw [h.len]; exact hk) (by rw [hv, hA]; rfl))
  exact ⟨gk, c, by rw [hv, hA], this.1, this.2, hc, hm⟩
theorem HB.erase {g n cap i : Nat} (h : HB lo w (.slice (some ⟨g, 0, none⟩) n cap) hs L) (hi : i < L.length) (hrow : w'.ownsRow 0 27 1 v' (hs.length - 1) (hs.take i ++ hs.drop (i + 1))) (hg : w.grownBy w' (some g)) (hat : v'.ownBlock = some g ∨ v'.ownBlock = some w.heap.size) :
    HB lo w' v' (hs.eraseIdx i) (L.eraseIdx i) ∧ OwI w' 0 (hd hs i) (rw_ L i) ∧ ∀ b, (hd hs i).ownBlock = some b → b ∉ bl v' (hs.eraseIdx i) ∧ lo ≤ b ∧ b < w'.heap.size := by
  have hih : i < hs.length := by rw [h.len]; exact hi
  have hgl := h.rg g (bl_own rfl)
  have hsz := hg.size
  have hrg : ∀ j b, j < hs.length → (hd hs j).ownBlock = some b → lo ≤ b ∧ b < w.heap.size ∧ b ≠ g := fun j b hj hb => ⟨(h.rg b (bl_hd hj hb)).1, (h.rg b (bl_hd hj hb)).2, fun e => h.ne hj hb (by rw [e]; rfl)⟩
  have hko : ∀ j, j < L.length → OwI w' 0 (hd hs j) (rw_ L j) := fun j hj => (h.own j hj).keep0 fun b hb => by
    obtain ⟨_, q2, q3⟩ := hrg j b (by rw [h.len]; exact hj) hb
    exact hg.block b q2 fun e => q3 (by injection e)
  have hvb : ∀ b, v'.ownBlock = some b → b = g ∨ b = w.heap.size := fun b hb => hat.imp (fun e => by rw [e] at hb; injection hb with hb; exact hb.symm) fun e => by rw [e] at hb; injection hb with hb; exact hb.symm
  have hidx : ∀ j, j < hs.length - 1 → (if j < i then j else j + 1) < hs.length ∧ (if j < i then j else j + 1) ≠ i := fun j hj => by split <;> omega
  have hall : HB lo w' v' (hs.eraseIdx i) (L.eraseIdx i) := by
    refine HB.mk2 ?_ ?_ (fun j hj => ?_) (fun j b hj hb hv => ?_) (fun j k b hj hk h1 h2 => ?_) (fun b hb => ?_) (fun j b hj hb => ?_)
    · rw [er_len hih, List.eraseIdx_eq_take_drop_succ]; exact hrow
    · rw [er_len hih, er_len hi, h.len]
    · rw [er_len hi] at hj
      rw [hd_erase, rw_erase]
      exact hko _ (by have := (hidx j (by rw [h.len]; exact hj)).1; rw [h.len] at this; exact this)
    · rw [er_len hih] at hj
      rw [hd_erase] at hb
      have q := hrg _ b (hidx j hj).1 hb
      rcases hvb b hv with e | e <;> omega
    · rw [er_len hih] at hj hk
      rw [hd_erase] at h1 h2
      have := h.two (hidx j hj).1 (hidx k hk).1 h1 h2
      split at this <;> split at this <;> omega
    · have hlt := (hrow.lt b hb).2
      rcases hvb b hb with e | e <;> omega
    · rw [er_len hih] at hj
      rw [hd_erase] at hb
      have q := hrg _ b (hidx j hj).1 hb
      omega
  refine ⟨hall, hko i hi, fun b hb => ⟨fun hm => ?_, (hrg i b hih hb).1, by have := (hrg i b hih hb).2.1; omega⟩⟩
  rcases bl_mem hm with hv | ⟨j, hj, hv⟩
  · have q := hrg i b hih hb
    rcases hvb b hv with e | e <;> omega
  · rw [er_len hih] at hj
    rw [hd_erase] at hv
    exact (hidx j hj).2 (h.two (hidx j hj).1 hih hv hb)
theorem HB.pushH {f : Value} {r : List Int} (h : HB lo w v hs L) (hrow : w'.ownsRow 0 27 1 v' (hs.length + 1) (hs ++ [f])) (hg : w.grownBy w' v.ownBlock) (hat : v'.ownBlock = v.ownBlock ∨ v'.ownBlock = some w.heap.size) (hlo : lo ≤ w.heap.size)
    (ho : OwI w 0 f r) (hf : ∀ b, f.ownBlock = some b → lo ≤ b ∧ b < w.heap.size ∧ b ∉ bl v hs) : HB lo w' v' (hs ++ [f]) (L ++ [r]) := by
  have hsz := hg.size
  have hblk : ∀ b, b < w.heap.size → v.ownBlock ≠ some b → w'.heap[b]? = w.heap[b]? := fun b hb hne => hg.block b hb fun e => hne e.symm
  have hfv : ∀ b, f.ownBlock = some b → v.ownBlock ≠ some b := fun b hb hv => (hf b hb).2.2 (bl_own hv)
  have hdj : ∀ j, j < hs.length → hd (hs ++ [f]) j = hd hs j := fun j hj => by unfold hd; rw [List.getD_eq_getElem?_getD, List.getD_eq_getElem?_getD, List.getElem?_append_left hj]
  have hdl : hd (hs ++ [f]) hs.length = f := by unfold hd; simp
  have hrj : ∀ j, j < L.length → rw_ (L ++ [r]) j = rw_ L j := fun j hj => by unfold rw_; rw [List.getD_eq_getElem?_getD, List.getD_eq_getElem?_getD, List.getElem?_append_left hj]
  have hrl : rw_ (L ++ [r]) L.length = r := by unfold rw_; simp
  have hvb : ∀ b, v'.ownBlock = some b → v.ownBlock = some b ∨ b = w.heap.size := fun b hb => hat.imp (fun e => by rw [← e]; exact hb) fun e => by rw [e] at hb; injection hb with hb; exact hb.symm
  refine HB.mk2 (by rw [List.length_append]; exact hrow) (by simp [h.len]) (fun j hj => ?_) (fun j b hj hb hv => ?_) (fun j k b hj hk h1 h2 => ?_) (fun b hb => ?_) (fun j b hj hb => ?_)
  · rw [List.length_append, List.length_singleton] at hj
    by_cases e : j < L.length
    · rw [hdj j (by rw [h.len]; exact e), hrj j e]
      exact (h.own j e).keep0 fun b hb => hblk b (h.rg b (bl_hd (by rw [h.len]; exact e) hb)).2 (h.ne (by rw [h.len]; exact e) hb)
    · obtain rfl : j = L.length := by omega
      rw [hrl, ← h.len, hdl]
      exact ho.keep0 fun b hb => hblk b (hf b hb).2.1 (hfv b hb)
  · rw [List.length_append, List.length_singleton] at hj
    by_cases e : j < hs.length
    · rw [hdj j e] at hb
      rcases hvb b hv with e' | e'
      · exact h.ne e hb e'
      · have := (h.rg b (bl_hd e hb)).2; omega
    · obtain rfl : j = hs.length := by omega
      rw [hdl] at hb
      rcases hvb b hv with e' | e'
      · exact hfv b hb e'
      · have := (hf b hb).2.1; omega
  · rw [List.length_append, List.length_singleton] at hj hk
    by_cases e1 : j < hs.length <;> by_cases e2 : k < hs.length
    · rw [hdj j e1] at h1; rw [hdj k e2] at h2
      exact h.two e1 e2 h1 h2
    · obtain rfl : k = hs.length := by omega
      rw [hdj j e1] at h1; rw [hdl] at h2
      exact absurd (bl_hd e1 h1) (hf b h2).2.2
    · obtain rfl : j = hs.length := by omega
      rw [hdl] at h1; rw [hdj k e2] at h2
      exact absurd (bl_hd e2 h2) (hf b h1).2.2
    · omega
  · have hlt := (hrow.lt b hb).2
    rcases hvb b hb with e | e
    · have := h.rg b (bl_own e); omega
    · omega
  · rw [List.length_append, List.length_singleton] at hj
    by_cases e : j < hs.length
    · rw [hdj j e] at hb
      have := h.rg b (bl_hd e hb); omega
    · obtain rfl : j = hs.length := by omega
      rw [hdl] at hb
      have := hf b hb; omega
/-- What the list's blocks may be, behind a push. -/
theorem bl_push {f : Value} {b : Nat} (h : b ∈ bl v' (hs ++ [f])) : v'.ownBlock = some b ∨ b ∈ bl v hs ∨ f.ownBlock = some b := by
  rcases bl_mem h with h | ⟨j, hj, h⟩
  · exact .inl h
  · rw [List.length_append, List.length_singleton] at hj
    by_cases e : j < hs.length
    · have : hd (hs ++ [f]) j = hd hs j := by unfold hd; rw [List.getD_eq_getElem?_getD, List.getD_eq_getElem?_getD, List.getElem?_append_left e]
      rw [this] at h
      exact .inr (.inl (bl_hd e h))
    · obtain rfl : j = hs.length := by omega
      have : hd (hs ++ [f]) hs.length = f := by unfold hd; simp
      rw [this] at h
      exact .inr (.inr h)
theorem bl_erase {i b : Nat} (h : b ∈ bl v' (hs.eraseIdx i)) : v'.ownBlock = some b ∨ b ∈ bl v hs := by
  rcases bl_mem h with h | ⟨j, hj, h⟩
  · exact .inl h
  · rw [hd_erase] at h
    refine .inr (bl_hd (i := if j < i then j else j + 1) ?_ h)
    rw [List.length_eraseIdx] at hj
    split at hj <;> split <;> omega
end
/-- 'append(xs, ys...)' of headers onto an owned row, at the operation. -/
theorem wp_append_hdrs {w : World} {o : Oper} {a : Act} {K : Act → World → Prop} {Q : Exit → Act → World → Prop} (s x : Operand)
    (ho : o.op = .call { callee := .builtin .append, args := #[s, x], argTypes := #[22, 22] })
    (v : Value) (xs : List Value) (hown : w.ownsRow 0 27 1 v xs.length xs) (hs : a.eval s = v) (ad : Addr) (m c : Nat) (news : List Value) (hl : news.length = m) (hn : ∀ j u, news[j]? = some u → w.cell? (ad.add j) = some u) (h1 : ∀ u ∈ news, u.oneCell' = true) (hx : a.eval x = .slice (some ad) m c)
    (hlen : xs.length + m ≤ 1073741824)
    (h : ∀ v' w', w'.ownsRow 0 27 1 v' (xs.length + m) (xs ++ news) → w.grownBy w' v.ownBlock → (v'.ownBlock = v.ownBlock ∨ v'.ownBlock = some w.heap.size) → K (a.put o.dst v') w') :
    o.wp Try.prog a w K Q := by
  obtain ⟨i0, hi0, hz0, hz1, hz2⟩ := info_parts ints_info
  obtain ⟨v', w', hrun, h2, h3, _, h5⟩ := run_append_own_at (P := Try.prog) w 0 22 o.type 27 i0 _ 1 24 Try.underlying22 hi0 hz0 hz1 hz2 rfl (by decide) v xs.length xs hown ad m c news (by rw [hl, Nat.mul_one]) hn h1 (by unfold maxLen; omega) (by omega) (Nat.zero_le _)
  unfold Oper.wp execOp
  simp only [ho, resolve, invoke, builtin, Sem.run_bind, Sem.run_pure, Result.andThen_ok, List.map_toArray, List.map_cons, List.map_nil, hs, hx, hrun]
  exact h v' w' h2 h3 h5
theorem append_hdrs {w : World} {ops : Array Oper} {rest : List Oper} {o : Oper} {a : Act} {Q : Exit → Act → World → Prop} (hgd : o.guard = none) (s x : Operand)
    (ho : o.op = .call { callee := .builtin .append, args := #[s, x], argTypes := #[22, 22] })
    (v : Value) (xs : List Value) (hown : w.ownsRow 0 27 1 v xs.length xs) (hs : a.eval s = v) (ad : Addr) (m c : Nat) (news : List Value) (hl : news.length = m) (hn : ∀ j u, news[j]? = some u → w.cell? (ad.add j) = some u) (h1 : ∀ u ∈ news, u.oneCell' = true) (hx : a.eval x = .slice (some ad) m c)
    (hlen : xs.length + m ≤ 1073741824)
    (h : ∀ v' w', w'.ownsRow 0 27 1 v' (xs.length + m) (xs ++ news) → w.grownBy w' v.ownBlock → (v'.ownBlock = v.ownBlock ∨ v'.ownBlock = some w.heap.size) → wpList Try.prog ops Q rest (a.put o.dst v') w') :
    wpList Try.prog ops Q (o :: rest) a w :=
  wpList_plain hgd fun _ hK => wp_append_hdrs s x ho v xs hown hs ad m c news hl hn h1 hx hlen fun v' w' a b c => hK _ _ (h v' w' a b c)
theorem step_append_hdrs {w : World} {ops : Array Oper} {o : Oper} {a : Act} {K : Act → World → Prop} {Q : Exit → Act → World → Prop} {E : Prop} (hgd : o.guard = none) (s x : Operand)
    (ho : o.op = .call { callee := .builtin .append, args := #[s, x], argTypes := #[22, 22] })
    (v : Value) (xs : List Value) (hown : w.ownsRow 0 27 1 v xs.length xs) (hs : a.eval s = v) (ad : Addr) (m c : Nat) (news : List Value) (hl : news.length = m) (hn : ∀ j u, news[j]? = some u → w.cell? (ad.add j) = some u) (h1 : ∀ u ∈ news, u.oneCell' = true) (hx : a.eval x = .slice (some ad) m c)
    (hlen : xs.length + m ≤ 1073741824)
    (h : ∀ v' w', w'.ownsRow 0 27 1 v' (xs.length + m) (xs ++ news) → w.grownBy w' v.ownBlock → (v'.ownBlock = v.ownBlock ∨ v'.ownBlock = some w.heap.size) → K (a.put o.dst v') w') :
    if Region.wanted o (yielded ops a.tmps) = true then Oper.wp Try.prog o a w K Q else E := by
  have hw : Region.wanted o (yielded ops a.tmps) = true := by simp [Region.wanted, hgd]
  rw [if_pos hw]
  exact wp_append_hdrs s x ho v xs hown hs ad m c news hl hn h1 hx hlen h
/-- The row's own first part. -/
theorem owns_cut {w : World} {g n cap i : Nat} {hs : List Value} (h : w.ownsRow 0 27 1 (.slice (some ⟨g, 0, none⟩) n cap) hs.length hs) (hi : i ≤ hs.length) : w.ownsRow 0 27 1 (.slice (some ⟨g, 0, none⟩) i cap) (hs.take i).length (hs.take i) := by
  rcases h.2 with ⟨hv, _⟩ | ⟨g', cap', cur, hv, hb, hh, hc, hm, hs', ht⟩
  · cases hv
  · injection hv with e1 e2 e3
    injection e1 with e1
    injection e1 with e1
    subst e1 e2 e3
    have hl : (hs.take i).length = i := by rw [List.length_take]; omega
    refine ⟨by rw [hl, Nat.mul_one], .inr ⟨g, cap, cur, by rw [hl], hb, hh, by rw [hl]; omega, hm, hs', ?_⟩⟩
    rw [hl, Nat.mul_one, ← ht, List.take_take, Nat.mul_one, Nat.min_eq_left hi]
/-- The rows' contents, read off the memory: the measure of the rounds. -/
def decV (w : World) : Value → List Int
  | .slice (some ad) n _ => (List.range n).map fun i => match w.cell? ⟨ad.block, i, none⟩ with | some (.int _ x) => x | _ => 0
  | _ => []
theorem dec_own {w : World} {v : Value} {xs : List Int} (h : OwI w 0 v xs) : decV w v = xs := by
  rcases h.1.2 with ⟨rfl, hn⟩ | ⟨g, cap, cur, rfl, _⟩
  · rw [List.eq_nil_of_length_eq_zero hn]; rfl
  · unfold decV
    refine List.ext_getElem (by simp) fun i h1 h2 => ?_
    rw [List.getElem_map, List.getElem_range, h.cellAt i h2]
def muC (c : Nat) (L : List (List Int)) : Nat := (L.map fun r => (cl r c).natAbs).sum
theorem HB.dec {lo : Nat} {w : World} {v : Value} {hs : List Value} {L : List (List Int)} (h : HB lo w v hs L) : hs.map (decV w) = L := by
  refine List.ext_getElem (by simp [h.len]) fun i h1 h2 => ?_
  rw [List.getElem_map]
  have := h.own i h2
  have hih : i < hs.length := by rw [h.len]; exact h2
  rw [hd_mem hih, rwl_mem h2] at this
  exact dec_own this
end Go.Proofs.Ytnnckojpmnpgbaa
