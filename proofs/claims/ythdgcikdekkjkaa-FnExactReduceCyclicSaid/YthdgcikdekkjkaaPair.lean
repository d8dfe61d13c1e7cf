/- A list of ints and a list of Whitehead automorphisms that lie apart in one range: one object of a law. -/
import Derived.Test.YthdgcikdekkjkaaWhSP
namespace Go.Proofs.Ythdgcikdekkjkaa
set_option maxRecDepth 20000
set_option linter.unusedVariables false
set_option linter.unusedSimpArgs false
open Go.RowKit

def InP (lo hi : Nat) (s : Value) (b : Nat) : Prop := lo ≤ b ∧ b < hi ∧ s.ownBlock ≠ some b
def OPr (lo hi : Nat) (s t : Value) (c : List Int) (l : List WhD) (w : World) : Prop :=
  OI lo hi s c w ∧ OwnP EWh 64 2 (InP lo hi s) w t l
section
variable {lo hi : Nat} {s t : Value} {c : List Int} {l : List WhD} {w w' : World}
theorem OPr.loc (hr : ∀ b, s.ownBlock = some b → b < hi) : Loc (OPr lo hi s t c l) lo hi := fun _ _ hu hb =>
  ⟨OI.loc hr _ _ hu.1 hb, hu.2.keep EWh.stable fun b h => hb b h.1 h.2.1⟩
theorem OPr.fst (h : Ob (OPr lo hi s t c l) lo hi w) : Ob (OI lo hi s c) lo hi w := ⟨h.holds.1, OI.loc h.holds.1.2, h.le⟩
theorem OPr.snd (h : Ob (OPr lo hi s t c l) lo hi w) : Ob (OWhS lo hi t l) lo hi w :=
  ⟨h.holds.2.own fun _ h => ⟨h.1, h.2.1⟩, fun _ _ hu hb => OwnL.keep hu EWh.stable hb, h.le⟩
theorem OPr.new (h1 : OwI w lo s c) (h2 : OwnP EWh 64 2 (fun b => lo ≤ b ∧ b < w.heap.size ∧ s.ownBlock ≠ some b) w t l) : Ob (OPr lo w.heap.size s t c l) lo w.heap.size w :=
  ⟨⟨h1.ob.holds, h2⟩, OPr.loc h1.ob.holds.2, Nat.le_refl _⟩
end
theorem markIntS_pr (s t : Value) (c : List Int) (l : List WhD) (k : Int) (lo hi : Nat) (w : World) (h : Ob (OPr lo hi s t c l) lo hi w)
    (hl : c.length ≤ 1073741824) (hk0 : 0 ≤ k) (hk : k ≤ 1125890000000000) :
    Calls Try.prog 34 #[s, .int .i64 k] w fun e w' => e = .returned (.int .i64 (k + c.length)) ∧ Ob (OPr lo hi s t (iota k c.length) l) lo hi w' ∧ Tr lo hi w w' :=
  (markIntS_any s c k lo w h.holds.1.1 hl hk0 (by omega)).mono fun _ w' ⟨he, ho, hg⟩ =>
    ⟨he, ⟨⟨⟨ho, h.holds.1.2⟩, h.holds.2.keep EWh.stable fun b hb => hg.block b (Nat.lt_of_lt_of_le hb.2.1 h.le) (fun e => hb.2.2 e.symm)⟩, OPr.loc h.holds.1.2, Nat.le_trans h.le hg.size⟩,
      Tr.grown hg fun b hb => ⟨(h.holds.1.1.1.lt b hb).1, h.holds.1.2 b hb⟩⟩
theorem markWhiteheadS_pr (s t : Value) (c : List Int) (l : List WhD) (k : Int) (lo hi : Nat) (w : World) (h : Ob (OPr lo hi s t c l) lo hi w)
    (hl : cntL cW l ≤ 1073741824) (hk0 : 0 ≤ k) (hk : k ≤ 1125890000000000) :
    Calls Try.prog 20 #[t, .int .i64 k] w fun e w' => e = .returned (.int .i64 (k + cntL cW l)) ∧ Ob (OPr lo hi s t c (mkL cW mW k l)) lo hi w' ∧ Tr lo hi w w' :=
  (markWhiteheadS_P t l k w h.holds.2 (fun b hb => Nat.lt_of_lt_of_le hb.2.1 h.le) hl hk0 hk).mono fun _ w' ⟨he, ho, ht⟩ =>
    ⟨he, ⟨⟨⟨⟨ownsRow_keep h.holds.1.1.1 fun b hb => ht.block b (h.holds.1.1.1.lt b hb).2 (fun hp => hp.2.2 hb), h.holds.1.1.2⟩, h.holds.1.2⟩, ho⟩, OPr.loc h.holds.1.2, Nat.le_trans h.le ht.size⟩,
      ⟨ht.os, ht.tape, ht.output, ht.size, fun b hb hn => ht.block b hb fun hp => by have := hp.1; have := hp.2.1; omega⟩⟩
theorem allWh_len (r : Int) : ∀ d ∈ allWh r, cW d ≤ 100 := by
  rcases h : inB r 1 3 with _ | _
  · have : allWh r = [] := by unfold allWh; rw [h]; rfl
    rw [this]; simp
  · have hb := inB_iff.1 h
    have : r = 1 ∨ r = 2 ∨ r = 3 := by omega
    rcases this with rfl | rfl | rfl <;> decide +kernel
theorem redGo_cnt (r : Int) (n : Nat) (c : List Int) (l : List WhD) : cntL cW (redGo r n c l).2 ≤ cntL cW l + 100 * n := by
  induction n generalizing c l with
  | zero => simp [redGo]
  | succ n ih =>
    unfold redGo
    split
    · simp
    · rename_i d hd
      have h1 := allWh_len r d (List.mem_of_find?_eq_some hd)
      have h2 := ih (cycF (whX r d c)) (l ++ [d])
      have h3 : cntL cW (l ++ [d]) = cntL cW l + cW d := by simp [cntL]
      omega
theorem redF_cnt (r : Int) (xs : List Int) : cntL cW (redF r xs).2 ≤ 1073741824 := by
  unfold redF
  split
  · have := redGo_cnt r 24 (cycF xs) []
    have h0 : cntL cW [] = 0 := by simp [cntL]
    omega
  · simp [cntL]
theorem redGo_form (r : Int) (n : Nat) (c : List Int) (l : List WhD) (h : goodF r c) : (redGo r n c l).1.length ≤ 24 := by
  induction n generalizing c l with
  | zero => exact h.len
  | succ n ih =>
    unfold redGo
    split
    · exact h.len
    · rename_i d hd
      exact ih _ _ (goodF_next h hd)
theorem redF_form (r : Int) (xs : List Int) : (redF r xs).1.length ≤ 24 := by
  unfold redF
  split
  · rename_i h
    exact redGo_form r 24 _ _ (goodF_cyc h)
  · simp
end Go.Proofs.Ythdgcikdekkjkaa
