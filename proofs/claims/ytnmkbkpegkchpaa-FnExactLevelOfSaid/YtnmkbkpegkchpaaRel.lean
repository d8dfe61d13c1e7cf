/- All relabellings of a rank: plain, lists of morphisms of the caller's own, and the program's AllRelabellings. -/
import Derived.Test.YtnmkbkpegkchpaaMorL
import Derived.Test.YtnmkbkpegkchpaaCpy
namespace Go.Proofs.Ytnmkbkpegkchpaa
set_option maxRecDepth 20000
set_option linter.unusedVariables false
set_option linter.unusedSimpArgs false
open Go.RowKit

def rxOk (l : List Int) (x : Int) : Bool := !hasB l x && !hasB l (-x)
def rxL (ls l : List Int) : List (List Int) := (ls.filter (rxOk l)).map fun x => l ++ [x]
def rlL (ls : List Int) : Nat → List (List Int)
  | 0 => [[]]
  | n + 1 => (rlL ls n).flatMap (rxL ls)
def rdL (ls : List Int) : Nat → List Int → List (List Int)
  | 0, l => [l]
  | n + 1, l => (rxL ls l).flatMap (rdL ls n)
def relM (n : Nat) (l : List Int) : MoD := ((n : Int), l.map fun x => [x])
def relF (r : Int) : List MoD := if inB r 1 3 then (rlL (lettersL r.toNat) r.toNat).map (relM r.toNat) else []
theorem rd_rl (ls : List Int) : ∀ n m, (rlL ls m).flatMap (rdL ls n) = rlL ls (m + n)
  | 0, m => by
    have : rdL ls 0 = fun l => [l] := by funext l; rfl
    rw [this]; simp
  | n + 1, m => by
    have h := rd_rl ls n (m + 1)
    have e : rlL ls (m + 1) = (rlL ls m).flatMap (rxL ls) := rfl
    have e2 : rdL ls (n + 1) = fun l => (rxL ls l).flatMap (rdL ls n) := by funext l; rfl
    rw [e2, ← List.flatMap_assoc, ← e, h, Nat.add_right_comm m 1 n]
    rfl
theorem rd_all (ls : List Int) (n : Nat) : rdL ls n [] = rlL ls n := by
  have := rd_rl ls n 0
  simpa [rlL] using this
theorem rxL_len (ls l : List Int) : (rxL ls l).length ≤ ls.length := by
  unfold rxL; rw [List.length_map]; exact List.length_filter_le _ _
theorem flat_le {α β : Type} (L : List α) (f : α → List β) (M : Nat) (h : ∀ x ∈ L, (f x).length ≤ M) : (L.flatMap f).length ≤ L.length * M := by
  induction L with
  | nil => simp
  | cons a L ih =>
    have h1 := h a (by simp)
    have h2 := ih fun x hx => h x (by simp [hx])
    simp only [List.flatMap_cons, List.length_append, List.length_cons, Nat.succ_mul]
    omega
theorem rdL_len (ls : List Int) (h6 : ls.length ≤ 6) : ∀ n l, (rdL ls n l).length ≤ 6 ^ n
  | 0, l => by simp [rdL]
  | n + 1, l => by
    have h := flat_le (rxL ls l) (rdL ls n) (6 ^ n) fun x _ => rdL_len ls h6 n x
    have h2 := rxL_len ls l
    have h3 : (rxL ls l).length * 6 ^ n ≤ 6 * 6 ^ n := Nat.mul_le_mul_right _ (by omega)
    have e : rdL ls (n + 1) l = (rxL ls l).flatMap (rdL ls n) := rfl
    rw [e, Nat.pow_succ]
    omega
theorem rlL_each (ls : List Int) : ∀ n, ∀ l ∈ rlL ls n, l.length = n ∧ ∀ x ∈ l, x ∈ ls
  | 0, l, h => by simp [rlL] at h; subst h; simp
  | n + 1, l, h => by
    obtain ⟨a, ha, hl⟩ := List.mem_flatMap.1 (show l ∈ (rlL ls n).flatMap (rxL ls) from h)
    obtain ⟨x, hx, rfl⟩ := List.mem_map.1 hl
    obtain ⟨h1, h2⟩ := rlL_each ls n a ha
    refine ⟨by simp [h1], fun y hy => ?_⟩
    rcases List.mem_append.1 hy with hy | hy
    · exact h2 y hy
    · simp at hy; subst hy; exact (List.mem_filter.1 hx).1
theorem rx_take (ls l : List Int) (f : List Int → List (List Int)) (j : Nat) (h : j < ls.length) :
    (((ls.take (j + 1)).filter (rxOk l)).map fun x => l ++ [x]).flatMap f = (((ls.take j).filter (rxOk l)).map fun x => l ++ [x]).flatMap f ++ (if rxOk l ls[j] then f (l ++ [ls[j]]) else []) := by
  rw [List.take_succ_eq_append_getElem h, List.filter_append, List.map_append, List.flatMap_append]
  congr 1
  rcases hb : rxOk l ls[j] with _ | _ <;> simp [hb]

/-! ## Lists of morphisms -/
def EM : El MoD := fun w cs d F => ∃ s, cs = [.int .i64 d.1, s] ∧ I64 d.1 ∧ OwLf EI 27 1 w s d.2 F
theorem EM.stable : Stable EM := by
  rintro w w' cs d F ⟨s, rfl, hd, ho⟩ hb
  exact ⟨s, rfl, hd, ho.stable EI.stable hb⟩
theorem mo_info : (Try.prog.info? 45).map (fun i => (i.zero, i.size, i.bytes)) = some (some (.agg #[.int .i64 0, .slice none 0 0]), 2, 32) := by kernel_rfl
abbrev OMS (lo hi : Nat) (v : Value) (ds : List MoD) (w : World) : Prop := OwnL EM 45 2 lo hi w v ds
theorem OMS_lit (w : World) {lo : Nat} (h : lo ≤ w.heap.size) : OMS lo (w.heap.size + 1) (.slice (some ⟨w.heap.size, 0, none⟩) 0 0) [] (w.alloc (.cells #[] 45)) := by
  refine OwnL.nil ?_ fun b hb => ?_
  · have := World.ownsRow_lit (e := 45) (size := 2) (base := 0) w #[] 0 (Nat.zero_le _) (by unfold maxLen; omega) (by simp)
    simpa using this
  · simp [Value.ownBlock] at hb; omega
/-- 'out = append(out, m)', m made since; where the blocks come from is told. -/
theorem push_mo {w0 w : World} {v : Value} {L : List MoD} {F : List Nat} {ops : Array Oper} {rest : List Oper} {o : Oper} {a : Act} {Q : Exit → Act → World → Prop} (hgd : o.guard = none) (s x : Operand)
    (ho : o.op = .call { callee := .builtin .append, args := #[s, x], argTypes := #[22, 22] })
    (hown : OwLf EM 45 2 w0 v L F) (hnF : F.Nodup) (hF : ∀ b ∈ F, b < w0.heap.size) (hbel : Below w0.heap.size w0 w) (hs : a.eval s = v) (b : Nat) (z : Value) (d : MoD) {lo hi : Nat} (hx : a.eval x = .slice (some ⟨b, 0, none⟩) 1 1)
    (hel : OwII lo hi z d.2 w) (hi1 : I64 d.1) (hlo : w0.heap.size ≤ lo) (hhi : hi ≤ w.heap.size) (hc : ∀ j u, [Value.int .i64 d.1, z][j]? = some u → w.cell? ⟨b, j, none⟩ = some u) (hz : z.oneCell' = true) (hl : L.length ≤ 1073741824)
    (h : ∀ v' w' F', OwLf EM 45 2 w' v' (L ++ [d]) F' → F'.Nodup → (∀ b ∈ F', (b ∈ F ∨ w0.heap.size ≤ b) ∧ b < w'.heap.size) → w.grownBy w' v.ownBlock → wpList Try.prog ops Q rest (a.put o.dst v') w') :
    wpList Try.prog ops Q (o :: rest) a w := by
  obtain ⟨i0, hi0, hz0, hz1, hz2⟩ := info_parts mo_info
  obtain ⟨Fe, h1, h2, h3⟩ := hel
  refine push_ownF EM.stable hgd s x ho Try.underlying22 hi0 hz0 hz1 hz2 rfl (by decide) (by decide) hown hnF hF hbel hs b [.int .i64 d.1, z] d Fe hx ⟨z, rfl, hi1, h1⟩ rfl h2 (fun k hk => ?_) hc ?_ hl h
  · have := h3 k hk; omega
  · intro u hu
    simp at hu
    rcases hu with rfl | rfl
    · rfl
    · exact hz
theorem OwLf.form {α : Type} {E : El α} {t : TypeId} {width : Nat} {w : World} {v : Value} {ds : List α} {F : List Nat} (h : OwLf E t width w v ds F) : ∃ A m cap, v = .slice A m cap := by
  obtain ⟨es, h1, h2, h3, rfl⟩ := h
  obtain ⟨A, cap, hv, _⟩ := owns_form h3
  exact ⟨A, _, cap, hv⟩
theorem OwnL.of_f {α : Type} {E : El α} {t : TypeId} {width : Nat} {w : World} {v : Value} {ds : List α} {F : List Nat} {lo hi : Nat} (h : OwLf E t width w v ds F) (hn : F.Nodup) (hF : ∀ b ∈ F, lo ≤ b ∧ b < hi) : OwnL E t width lo hi w v ds := ⟨F, h, hn, hF⟩

/-! ## The program's -/
/-- All is as it was but for the variable bo and the blocks F. -/
structure FrF (bo : Nat) (F : List Nat) (w w' : World) : Prop where
  os : w'.os = w.os
  tape : w'.tape = w.tape
  output : w'.output = w.output
  size : w.heap.size ≤ w'.heap.size
  block : ∀ b, b < w.heap.size → b ≠ bo → b ∉ F → w'.heap[b]? = w.heap[b]?
theorem FrF.refl (bo : Nat) (F : List Nat) (w : World) : FrF bo F w w := ⟨rfl, rfl, rfl, Nat.le_refl _, fun _ _ _ _ => rfl⟩
theorem FrF.bel {bo : Nat} {F : List Nat} {w w1 w2 : World} (h : FrF bo F w w1) (hb : Below w1.heap.size w1 w2) : FrF bo F w w2 :=
  ⟨hb.os.trans h.os, hb.tape.trans h.tape, hb.output.trans h.output, Nat.le_trans h.size hb.size, fun b h1 h2 h3 => (hb.block b (Nat.lt_of_lt_of_le h1 h.size)).trans (h.block b h1 h2 h3)⟩
theorem FrF.then_ {bo : Nat} {F F' : List Nat} {w w1 w2 : World} (h : FrF bo F w w1) (h' : FrF bo F' w1 w2) (hF : ∀ b ∈ F', b ∈ F ∨ w.heap.size ≤ b) : FrF bo F w w2 :=
  ⟨h'.os.trans h.os, h'.tape.trans h.tape, h'.output.trans h.output, Nat.le_trans h.size h'.size, fun b h1 h2 h3 => (h'.block b (Nat.lt_of_lt_of_le h1 h.size) h2 fun hb => (hF b hb).elim h3 (by omega)).trans (h.block b h1 h2 h3)⟩
/-- The closure's variables, and the list so far. -/
structure MoI (n br bo bm : Nat) (w : World) (acc : List MoD) (F : List Nat) : Prop where
  hr : w.heap[br]? = some (.cells #[.int .i64 n] 3 (0, 0))
  hm : w.heap[bm]? = some (.cells #[.func (.func 28) #[] #[.pointer (some ⟨br, 0, none⟩), .pointer (some ⟨bo, 0, none⟩), .pointer (some ⟨bm, 0, none⟩)]] 46 (0, 0))
  ho : ∃ v, w.heap[bo]? = some (.cells #[v] 22 (0, 0)) ∧ OwLf EM 45 2 w v acc F
  nd : F.Nodup
  lt : ∀ b ∈ F, b < w.heap.size
  nr : br ∉ F
  no : bo ∉ F
  nm : bm ∉ F
  dr : br ≠ bo
  dm : bm ≠ bo
theorem MoI.bel {n br bo bm : Nat} {w w' : World} {acc : List MoD} {F : List Nat} (h : MoI n br bo bm w acc F) (hb : Below w.heap.size w w') : MoI n br bo bm w' acc F := by
  obtain ⟨hr, hm, ⟨v, ho, hl⟩, nd, lt, nr, no, nm, dr, dm⟩ := h
  exact ⟨(hb.block br (lt_of_heap hr)).trans hr, (hb.block bm (lt_of_heap hm)).trans hm, ⟨v, (hb.block bo (lt_of_heap ho)).trans ho, hl.stable EM.stable fun b hbF => hb.block b (lt b hbF)⟩, nd, fun b hbF => Nat.lt_of_lt_of_le (lt b hbF) hb.size, nr, no, nm, dr, dm⟩
theorem MoI.put {n br bo bm : Nat} {w0 w1 w2 : World} {acc : List MoD} {F F' : List Nat} {v v' : Value} {d : MoD} (h : MoI n br bo bm w0 acc F) (hv : w0.heap[bo]? = some (.cells #[v] 22 (0, 0))) (hm : ∀ b, v.ownBlock = some b → b ∈ F)
    (hb : Below w0.heap.size w0 w1) (hg : w1.grownBy w2 v.ownBlock) (h1 : OwLf EM 45 2 w2 v' (acc ++ [d]) F') (h2 : F'.Nodup) (h3 : ∀ b ∈ F', (b ∈ F ∨ w0.heap.size ≤ b) ∧ b < w2.heap.size) :
    MoI n br bo bm (w2.setCell ⟨bo, 0, none⟩ v') (acc ++ [d]) F' ∧ FrF bo F w0 (w2.setCell ⟨bo, 0, none⟩ v') ∧ ∀ b ∈ F', b ∈ F ∨ w0.heap.size ≤ b := by
  have hbo := lt_of_heap hv
  have hs1 := hb.size
  have hs2 := hg.size
  have hk : ∀ b, b < w0.heap.size → b ∉ F → w2.heap[b]? = w0.heap[b]? := fun b hlt hbF => (hg.block b (by omega) fun e => hbF (hm b e.symm)).trans (hb.block b hlt)
  have hno : bo ∉ F' := fun hbF => (h3 bo hbF).1.elim h.no (by omega)
  have hne : ∀ b, b < w0.heap.size → b ∉ F → b ∉ F' := fun b hlt hbF hb' => (h3 b hb').1.elim hbF (by omega)
  refine ⟨⟨?_, ?_, ⟨v', one_setCell ((hk bo hbo h.no).trans hv), h1.stable EM.stable fun b hbF => setCell_block _ _ _ b fun e => hno (by rw [← show b = bo from e]; exact hbF)⟩, h2, fun b hbF => ?_, hne br (lt_of_heap h.hr) h.nr, hno, hne bm (lt_of_heap h.hm) h.nm, h.dr, h.dm⟩, ⟨?_, ?_, ?_, ?_, fun b hlt hne hbF => ?_⟩, fun b hbF => (h3 b hbF).1⟩
  · rw [setCell_block _ _ _ br h.dr, hk br (lt_of_heap h.hr) h.nr]; exact h.hr
  · rw [setCell_block _ _ _ bm h.dm, hk bm (lt_of_heap h.hm) h.nm]; exact h.hm
  · have := (h3 b hbF).2; simpa using this
  · exact hg.os.trans hb.os
  · exact hg.tape.trans hb.tape
  · exact hg.output.trans hb.output
  · have : (w2.setCell ⟨bo, 0, none⟩ v').heap.size = w2.heap.size := by simp
    omega
  · rw [setCell_block _ _ _ b hne, hk b hlt hbF]
theorem OwI.blk {w : World} {base b : Nat} {v : Value} {xs : List Int} (h : OwI w base v xs) (hb : v.ownBlock = some b) : base ≤ b ∧ b < w.heap.size := h.1.lt b hb
set_option maxHeartbeats 1000000 in
/-- The closure at a list that is whole. -/
theorem more_zero (n br bo bm : Nat) (l : List Int) (lv : Value) (acc : List MoD) (F : List Nat) (w : World) (hn : n ≤ 3) (hl : l.length = n) (h : MoI n br bo bm w acc F) (ha : acc.length ≤ 1000000) (hlv : RdI w lv l) :
    Calls Try.prog 28 #[lv, .pointer (some ⟨br, 0, none⟩), .pointer (some ⟨bo, 0, none⟩), .pointer (some ⟨bm, 0, none⟩)] w fun e w' =>
      e = .returned (.tuple #[]) ∧ ∃ F', MoI n br bo bm w' (acc ++ [relM n l]) F' ∧ FrF bo F w w' ∧ ∀ b ∈ F', b ∈ F ∨ w.heap.size ≤ b := by
  have H := Lib.hid h
  have HL := Lib.hid hlv
  have HI := Lib.hid hlv.2
  obtain ⟨hr, hm, ⟨v, ho, hO⟩, nd, lt, nr, no, nm, _, _⟩ := h
  have HOB := Lib.hid ho
  have hmo : ∀ b, v.ownBlock = some b → b ∈ F := fun b hb => hO.mem hb
  have HMO := Lib.hid hmo
  have HND := Lib.hid nd
  have HLT := Lib.hid lt
  have c0 := cell_of_one hr
  have c1 := cell_of_one ho
  have f1 := free_of_one ho
  have hr1 := lt_of_heap hr
  have ho1 := lt_of_heap ho
  have HH := Lib.hid hO
  obtain ⟨A, cap, rfl, hcap, hm2, _, _⟩ := hlv.arg
  unfold maxLen at hm2
  clear hr hm ho hO hlv hmo nd lt nr no nm
  have HLN := Lib.hid hl
  have he : ((l.length : Int) == (n : Int)) = true := by simp; omega
  clear hl
  go_enter Try.func28, Try.ntmps28
  go_wp2_with fail
  go_loopw [18] (fun i wr => ∃ k : Nat, k ≤ l.length ∧ i = .int .i64 k ∧ ∃ s : Value, wr.cell? ⟨w.heap.size, 0, none⟩ = some (.int .i64 n) ∧ wr.cell? ⟨w.heap.size, 1, none⟩ = some s ∧ (∀ o, wr.frozen? ⟨w.heap.size, o, none⟩ = false) ∧ OwII (w.heap.size + 1) wr.heap.size s ((l.take k).map fun x => [x]) wr ∧ Below w.heap.size w wr ∧ w.heap.size < wr.heap.size)
      (fun i _ => l.length - (intOf i).toNat)
  case atStart =>
    refine ⟨0, Nat.zero_le _, rfl, .slice none 0 0, by simp [go_sem], by simp [go_sem], by simp [go_sem], OwII_none _ _ _, (by repeat (first | exact Below.refl _ _ | (refine Below.setCell ?_ (by first | omega | (simp <;> omega)) _) | (refine bel_drewN ?_ _) | (refine Below.drew ?_) | (refine Below.alloc ?_ (by first | omega | (simp <;> omega)) _))), by simp⟩
  case round =>
    obtain ⟨k, hk, rfl, s, h0, h1, hf, hs, hb5, hg5⟩ := hrel
    clear he
    have HB5 := Lib.hid hb5
    have HO5 := Lib.hid hs
    obtain ⟨A5, cap5, rfl, _⟩ := hs.len
    by_cases hlt : k < l.length
    · obtain ⟨b, off, rfl, hbl, hc⟩ := (HL.out.below hb5).at (by omega)
      have hcell := hc k hlt
      have HX : Hid (I64 l[k]) := Lib.hid (HI.out _ (List.getElem_mem hlt))
      have HT : Hid ((l.take (k + 1)).map (fun x => [x]) = (l.take k).map (fun x => [x]) ++ [[l[k]]]) := Lib.hid (by rw [List.take_succ_eq_append_getElem hlt, List.map_append]; rfl)
      have hll : ((l.take k).map fun x => [x]).length ≤ 3 := by have := HLN.out; rw [List.length_map, List.length_take]; omega
      have hkl : (k : Int) < (l.length : Int) := by omega
      have hk0 : (0 : Int) ≤ (k : Int) := by omega
      clear hc hs hb5
      generalize l[k] = x at *
      generalize (l.take k).map (fun x => [x]) = L0 at *
      have HOX : Hid (OwI (wr.alloc (.cells #[.int .i64 x] 3)) wr.heap.size (.slice (some ⟨wr.heap.size, 0, none⟩) 1 1) [x]) := Lib.hid (OwI_lit wr [x] (by intro y hy; simp at hy; subst hy; exact HX.out) (by simp) (Nat.le_refl _))
      have HCN : Hid (((wr.alloc (.cells #[.int .i64 x] 3)).alloc (.cells #[.slice (some ⟨wr.heap.size, 0, none⟩) 1 1] 27)).cell? ⟨wr.heap.size + 1, 0, none⟩ = some (.slice (some ⟨wr.heap.size, 0, none⟩) 1 1)) := Lib.hid (by simp [go_sem])
      have hlm : L0.length ≤ 1073741824 := by omega
      have HBX : Hid (Below wr.heap.size wr ((wr.alloc (.cells #[.int .i64 x] 3)).alloc (.cells #[.slice (some ⟨wr.heap.size, 0, none⟩) 1 1] 27))) := Lib.hid (((Below.refl _ _).alloc (Nat.le_refl _) _).alloc (by simp) _)
      have hne5 : (Value.slice A5 L0.length cap5).ownBlock ≠ some w.heap.size := fun e => by have := (HO5.out.lt e).1; omega
      have hbB := Lib.hid (HBX.out.block _ hg5)
      have hgB : w.heap.size < ((wr.alloc (.cells #[.int .i64 x] 3)).alloc (.cells #[.slice (some ⟨wr.heap.size, 0, none⟩) 1 1] 27)).heap.size := Nat.lt_of_lt_of_le hg5 HBX.out.size
      go_wp2_with (at_builtin; refine push_ints rfl (.tmp 23) (.tmp 26) rfl (w0 := wr) HO5.out hg5 HBX.out rfl _ _ [x] rfl (HOX.out.alloc _) (Nat.le_refl _) HCN.out rfl hlm ?_; intro vz wz oz gz; obtain ⟨Az, cz, rfl, _⟩ := OwnL.len oz; have OZ := Lib.hid oz; have GZ := Lib.hid gz; have hb9 := Lib.hid ((gz.block _ hgB hne5.symm).trans hbB.out); have q0 : wz.cell? ⟨w.heap.size, 0, none⟩ = some (.int .i64 n) := (World.cell?_of_block (w := wr) hb9.out).trans h0; have q1 : wz.cell? ⟨w.heap.size, 1, none⟩ = some (.slice A5 L0.length cap5) := (World.cell?_of_block (w := wr) hb9.out).trans h1; have qf := (fun o => (World.frozen?_of_block (w := wr) hb9.out).trans (hf o)); have hsG : w.heap.size < wz.heap.size := Nat.lt_of_lt_of_le hgB gz.size; clear oz gz)
      go_roundw
      case rel =>
        refine ⟨k + 1, by omega, by go_num, .slice Az (L0.length + 1) cz, by simp [go_sem, q0], by simp [go_sem, q1], by simp [go_sem, qf], ?_, ?_, by simp; omega⟩
        · rw [HT.out]
          have h9 := OZ.out
          simp only [List.length_append, List.length_singleton] at h9
          have h := h9.keep EI.stable (w' := wz.setCell ⟨w.heap.size, 1, none⟩ (.slice Az (L0.length + 1) cz)) fun b hb _ => by rw [setCell_block _ _ _ b (by show b ≠ w.heap.size; omega)]
          exact h.widen (Nat.le_refl _) (by first | exact Nat.le_refl _ | simp)
        · exact ((HB5.out.trans (HBX.out.mono (by omega))).grown GZ.out (by omega) (fun j hj => by have := (HO5.out.lt hj).1; omega)).setCell (Nat.le_refl _) _
      case measure => (first | omega | (simp [intOf]; omega))
    · obtain rfl : k = l.length := by omega
      have HFIN : Hid (OwII (w.heap.size + 1) wr.heap.size (.slice A5 (relM n l).2.length cap5) (relM n l).2 wr) := Lib.hid (by have h := HO5.out; rw [List.take_length] at h; exact h)
      rw [List.take_length] at h1
      have h1' : wr.cell? ⟨w.heap.size, 1, none⟩ = some (.slice A5 (relM n l).2.length cap5) := h1
      have o0 : wr.cell? ⟨bo, 0, none⟩ = some v := (HB5.out.cell (p := ⟨bo, 0, none⟩) ho1).trans c1
      have o1 : wr.frozen? ⟨bo, 0, none⟩ = false := (HB5.out.frozen (p := ⟨bo, 0, none⟩) ho1).trans f1
      have hI : I64 (relM n l).1 := (show I64 (n : Int) from ⟨by omega, by omega⟩)
      have hlo : w.heap.size ≤ w.heap.size + 1 := by omega
      have hz1 : (Value.slice A5 (relM n l).2.length cap5).oneCell' = true := rfl
      have HBA : Hid (Below w.heap.size w (wr.alloc (.cells #[.int .i64 n, .slice A5 (relM n l).2.length cap5] 45))) := Lib.hid (HB5.out.alloc (by omega) _)
      have HCA : Hid (∀ j u, [Value.int .i64 (relM n l).1, .slice A5 (relM n l).2.length cap5][j]? = some u → (wr.alloc (.cells #[.int .i64 n, .slice A5 (relM n l).2.length cap5] 45)).cell? ⟨wr.heap.size, j, none⟩ = some u) := Lib.hid fun j u hj => by
        match j, hj with
        | 0, hj => simp at hj; subst hj; simp [go_sem]; rfl
        | 1, hj => simp at hj; subst hj; simp [go_sem]
      have HFA : Hid (OwII (w.heap.size + 1) wr.heap.size (.slice A5 (relM n l).2.length cap5) (relM n l).2 (wr.alloc (.cells #[.int .i64 n, .slice A5 (relM n l).2.length cap5] 45))) := Lib.hid (HFIN.out.keep EI.stable fun b _ hb => Below.heap_alloc wr _ b hb)
      have hln : (relM n l).2.length = l.length := by unfold relM; simp
      have h0' : wr.cell? ⟨w.heap.size, 0, none⟩ = some (.int .i64 n) := h0
      clear hs hb5 h1 HO5 HFIN h0
      generalize (relM n l).2.length = ln at *
      clear hln
      go_wp2_with (at_builtin; refine push_mo rfl (.tmp 30) (.tmp 32) rfl HH.out HND.out HLT.out HBA.out rfl _ _ (relM n l) rfl HFA.out hI hlo (by simp) HCA.out hz1 (by omega) ?_; intro vz wz Fz oz1 oz2 oz3 gz; obtain ⟨Av, mv, cv, rfl⟩ := oz1.form; have OZ1 := Lib.hid oz1; have OZ2 := Lib.hid oz2; have OZ3 := Lib.hid oz3; have GZ := Lib.hid gz; have o1z : wz.frozen? ⟨bo, 0, none⟩ = false := (World.frozen?_of_block (gz.block bo (by have := HBA.out.size; omega) (fun e => H.out.no (HMO.out _ e.symm)))).trans ((HBA.out.frozen (p := ⟨bo, 0, none⟩) ho1).trans f1); have o0z : wz.cell? ⟨bo, 0, none⟩ = some v := (World.cell?_of_block (gz.block bo (by have := HBA.out.size; omega) (fun e => H.out.no (HMO.out _ e.symm)))).trans ((HBA.out.cell (p := ⟨bo, 0, none⟩) ho1).trans c1); clear oz1 oz2 oz3 gz)
      obtain ⟨m1, m2, m3⟩ := H.out.put HOB.out HMO.out HBA.out GZ.out OZ1.out OZ2.out OZ3.out
      exact bodyPost_ret (v := .tuple #[]) (by simp [results, Try.results28, go_sem]) rfl ⟨rfl, Fz, m1, m2, m3⟩
theorem rxS_len (ls l : List Int) (h6 : ls.length ≤ 6) (k j : Nat) (f : List Int → MoD) : ((((((ls.take j).filter (rxOk l)).map fun x => l ++ [x]).flatMap (rdL ls k))).map f).length ≤ j * 6 ^ k := by
  have h := flat_le (((ls.take j).filter (rxOk l)).map fun x => l ++ [x]) (rdL ls k) (6 ^ k) fun x _ => rdL_len ls h6 k x
  have h2 : (((ls.take j).filter (rxOk l)).map fun x => l ++ [x]).length ≤ j := by
    rw [List.length_map]
    have := List.length_filter_le (rxOk l) (ls.take j)
    rw [List.length_take] at this
    omega
  have h3 := Nat.mul_le_mul_right (6 ^ k) h2
  rw [List.length_map]
  omega
set_option maxHeartbeats 2000000 in
/-- The closure at a list that wants k letters more. -/
theorem more_any (n br bo bm : Nat) (hn1 : 1 ≤ n) (hn : n ≤ 3) : ∀ (k : Nat) (l : List Int) (lv : Value) (acc : List MoD) (F : List Nat) (w : World), l.length + k = n → MoI n br bo bm w acc F → acc.length + 6 ^ k ≤ 1000000 → RdI w lv l → (∀ b, lv.ownBlock = some b → b < w.heap.size ∧ b ≠ bo ∧ b ∉ F) →
    Calls Try.prog 28 #[lv, .pointer (some ⟨br, 0, none⟩), .pointer (some ⟨bo, 0, none⟩), .pointer (some ⟨bm, 0, none⟩)] w fun e w' =>
      e = .returned (.tuple #[]) ∧ ∃ F', MoI n br bo bm w' (acc ++ (rdL (lettersL n) k l).map (relM n)) F' ∧ FrF bo F w w' ∧ ∀ b ∈ F', b ∈ F ∨ w.heap.size ≤ b
  | 0, l, lv, acc, F, w, hl, h, ha, hlv, _ => more_zero n br bo bm l lv acc F w hn (by omega) h (by omega) hlv
  | k + 1, l, lv, acc, F, w, hl, h, ha, hlv, hlb => by
    have IH := Lib.hid (more_any n br bo bm hn1 hn k)
    have H := Lib.hid h
    have HL := Lib.hid hlv
    have HLB := Lib.hid hlb
    have c0 := cell_of_one h.hr
    have hbr := lt_of_heap h.hr
    have hbm := lt_of_heap h.hm
    have hbo : bo < w.heap.size := by obtain ⟨v, hv, _⟩ := h.ho; exact lt_of_heap hv
    obtain ⟨A, cap, rfl, hcap, hm2, _⟩ := hlv.arg
    unfold maxLen at hm2
    have he : ((l.length : Int) == (n : Int)) = false := by simp; omega
    have HLN := Lib.hid hl
    have HAC := Lib.hid ha
    have hl3 : l.length ≤ 3 := by omega
    have hl6 : (lettersL n).length ≤ 6 := by rw [lettersL_len]; omega
    have h1l : 1 ≤ (lettersL n).length := by rw [lettersL_len]; omega
    have HLM : Hid (∀ x ∈ lettersL n, -3 ≤ x ∧ x ≤ 3) := Lib.hid (fun x hx => by have := lettersL_mem hx; omega)
    have HLL : Hid (∀ W : World, Calls Try.prog 29 #[.int .i64 n] W fun e w' => ∃ r, e = .returned r ∧ OwI w' W.heap.size r (lettersL n) ∧ Below W.heap.size W w') := Lib.hid fun W => letters_any n W (by omega)
    generalize lettersL n = ls at *
    clear hl ha hlv hlb h
    go_enter Try.func28, Try.ntmps28
    go_wp2_with (go_at_call 29; refine (HLL.out _).mono ?_; rintro e w2 ⟨lv2, rfl, ol, bl⟩; have OL := Lib.hid ol; have BL := Lib.hid bl; obtain ⟨A2, cap2, rfl, hcap2, hm3, _, hg2⟩ := OwI.form ol; obtain ⟨g2, rfl, hg2a, hg2b⟩ := hg2 h1l; clear ol bl)
    clear he
    have hs2 := BL.out.size
    have HFL : Hid (∀ b ∈ F, b < w.heap.size) := Lib.hid H.out.lt
    go_loopw [37] (fun i wr => ∃ j : Nat, j ≤ ls.length ∧ i = .int .i64 j ∧ ∃ F', MoI n br bo bm wr (acc ++ ((((ls.take j).filter (rxOk l)).map fun x => l ++ [x]).flatMap (rdL ls k)).map (relM n)) F' ∧ FrF bo F w2 wr ∧ ∀ b ∈ F', b ∈ F ∨ w2.heap.size ≤ b)
      (fun i _ => ls.length - (intOf i).toNat)
    case atStart => exact ⟨0, Nat.zero_le _, rfl, F, by simpa using H.out.bel BL.out, FrF.refl _ _ _, fun b hb => .inl hb⟩
    case round =>
      obtain ⟨j, hj, rfl, F1, m1, f1, s1⟩ := hrel
      have M1 := Lib.hid m1
      have FR1 := Lib.hid f1
      have S1 := Lib.hid s1
      have hsr := f1.size
      clear m1 f1 s1
      by_cases hlt : j < ls.length
      · have hk2 : wr.heap[g2]? = w2.heap[g2]? := FR1.out.block g2 hg2b (by omega) fun hb => by have := HFL.out g2 hb; omega
        have hcell : wr.cell? ⟨g2, j, none⟩ = some (.int .i64 ls[j]) := (World.cell?_of_block hk2).trans (OL.out.cellAt j hlt)
        have HLR : Hid (RdI wr (.slice A l.length cap) l) := Lib.hid ⟨HL.out.1.mono fun b hb hlt2 => (FR1.out.block b (by omega) (HLB.out b hb).2.1 (HLB.out b hb).2.2).trans (BL.out.block b hlt2), HL.out.2⟩
        have hx1 := (HLM.out ls[j] (List.getElem_mem hlt)).1
        have hx2 := (HLM.out ls[j] (List.getElem_mem hlt)).2
        have HT := Lib.hid (rx_take ls l (rdL ls k) j hlt)
        have hjI : (j : Int) < (ls.length : Int) := by omega
        have HLA := Lib.hid (rxS_len ls l hl6 k j (relM n))
        have HPW : Hid ((j + 1) * 6 ^ k ≤ 6 ^ (k + 1)) := Lib.hid (by rw [Nat.pow_succ, Nat.mul_comm (6 ^ k)]; exact Nat.mul_le_mul_right _ (by omega))
        have hrk : rxOk l ls[j] = (!hasB l ls[j] && !hasB l (-ls[j])) := rfl
        have HRK := Lib.hid hrk
        clear hk2 hrk
        have hbox : wr.cell? ⟨bm, 0, none⟩ = some (.func (.func 28) #[] #[.pointer (some ⟨br, 0, none⟩), .pointer (some ⟨bo, 0, none⟩), .pointer (some ⟨bm, 0, none⟩)]) := cell_of_one M1.out.hm
        generalize ls[j] = x at *
        have hny : IntKind.i64.wrap (-x) = -x := by rw [IntKind.wrap_i64]; omega
        have HCP := fun W (h : ArgI W (.slice A l.length cap) l) => libContains_any _ l x W h (by omega)
        have HCN := fun W (h : ArgI W (.slice A l.length cap) l) => libContains_any _ l (-x) W h (by omega)
        rcases e1 : hasB l x with _ | _
        · rcases e2 : hasB l (-x) with _ | _
          · have HOK : Hid (rxOk l x = true) := Lib.hid (by rw [HRK.out, e1, e2]; rfl)
            rw [e1] at HCP
            rw [e2] at HCN
            have CP := Lib.hid HCP
            have CN := Lib.hid HCN
            clear HCP HCN e1 e2 HRK
            have HX64 : Hid (I64 x) := Lib.hid ⟨by omega, by omega⟩
            have hbmr : bm < wr.heap.size := lt_of_heap M1.out.hm
            have HDd : Hid (Below wr.heap.size wr wr.drew) := Lib.hid (Below.refl _ _).drew
            have HDa : Hid (Below wr.heap.size wr (wr.alloc (.cells #[.int .i64 x] 3)).drew) := Lib.hid (((Below.refl _ _).alloc (Nat.le_refl _) _).drew)
            have HRX : Hid (RdI (wr.alloc (.cells #[.int .i64 x] 3)).drew (.slice (some ⟨wr.heap.size, 0, none⟩) 1 1) [x]) := Lib.hid (RdI_new1 wr x HX64.out).drew
            go_wp2_with (first
              | (go_at_call 30; (with_reducible refine (CP.out _ HLR.out.arg).mono ?_); rintro e w' ⟨rfl, rfl⟩)
              | (go_at_call 30; (with_reducible refine (CN.out _ HLR.out.arg).mono ?_); rintro e w' ⟨rfl, rfl⟩))
            go_region_held3 (fun w' => w'.cell? ⟨bm, 0, none⟩ = some (.func (.func 28) #[] #[.pointer (some ⟨br, 0, none⟩), .pointer (some ⟨bo, 0, none⟩), .pointer (some ⟨bm, 0, none⟩)]))
              (first | go_keep | exact s0)
              (first
                | (go_at_call 31; (with_reducible refine (copyInts_any _ l _ (HLR.out.below HDd.out) (by omega)).mono ?_); rintro e w5 ⟨r5, rfl, o5, b5⟩; have HB5 : Hid (Below wr.heap.size wr w5) := Lib.hid (HDd.out.trans (b5.mono HDd.out.size)); have HR5 := Lib.hid (o5.mono HDd.out.size); have hs5 := HB5.out.size; have s0 := (HB5.out.cell (p := ⟨bm, 0, none⟩) hbmr).trans hbox; clear o5 b5 HDd HDa HRX)
                | (go_at_call 31; (with_reducible refine (copyInts_any _ l _ (HLR.out.below HDa.out) (by omega)).mono ?_); rintro e w5 ⟨r5, rfl, o5, b5⟩; have HB5 : Hid (Below wr.heap.size wr w5) := Lib.hid (HDa.out.trans (b5.mono HDa.out.size)); have HR5 := Lib.hid (o5.mono HDa.out.size); have HX5 := Lib.hid (HRX.out.below b5); have hs5 := HB5.out.size; have s0 := (HB5.out.cell (p := ⟨bm, 0, none⟩) hbmr).trans hbox; clear o5 b5 HDd HDa HRX)
                | (refine step_append_ints rfl (.tmp 54) (.tmp 56) rfl wr.heap.size _ l HR5.out (by rfl) _ [x] HX5.out (by rfl) (by simp; omega) hs5 ?_; intro v6 w6 o6 g6 p6; have HB6 : Hid (Below wr.heap.size wr w6) := Lib.hid (HB5.out.grown g6 hs5 (fun c hc => (HR5.out.1.lt c hc).1)); have HR6 := Lib.hid o6; have hs6 := HB6.out.size; have s0 := (HB6.out.cell (p := ⟨bm, 0, none⟩) hbmr).trans hbox; clear o6 g6 p6 HR5 HX5)
                | (refine step_append_ints rfl (.tmp 54) (.tmp 56) rfl wr.heap.size _ l (HR5.out.alloc _) (by rfl) _ [x] (RdI_new1 _ x HX64.out) (by rfl) (by simp; omega) (by simp; omega) ?_; intro v6 w6 o6 g6 p6; have HB6 : Hid (Below wr.heap.size wr w6) := Lib.hid ((HB5.out.alloc hs5 _).grown g6 (by simp; omega) (fun c hc => (HR5.out.1.lt c hc).1)); have HR6 := Lib.hid o6; have hs6 := HB6.out.size; have s0 := (HB6.out.cell (p := ⟨bm, 0, none⟩) hbmr).trans hbox; clear o6 g6 p6 HR5)
                | (go_at_call 28; (with_reducible refine (IH.out (l ++ [x]) _ _ F1 w6 (by have := HLN.out; simp; omega) (M1.out.bel HB6.out) (by have := HLA.out; have := HPW.out; have := HAC.out; rw [List.length_append]; rw [Nat.succ_mul] at *; omega) HR6.out.rd (fun b hb => ⟨(HR6.out.blk hb).2, fun e => by have := (HR6.out.blk hb).1; have := FR1.out.size; omega, fun hF => by have := (HR6.out.blk hb).1; have := M1.out.lt b hF; omega⟩)).mono ?_); rintro e w7 ⟨rfl, F7, m7, f7, s7⟩; have M7 := Lib.hid m7; have F7R := Lib.hid f7; have S7 := Lib.hid s7; have s0 := cell_of_one m7.hm; clear m7 f7 s7))
            all_goals (
              go_wp2
              go_roundw
              case rel =>
                refine ⟨j + 1, by omega, by go_num, F7, ?_, (FR1.out.bel HB6.out).then_ F7R.out fun b hb => ?_, fun b hb => ?_⟩
                · rw [HT.out, HOK.out, if_pos rfl, List.map_append, ← List.append_assoc]; exact M7.out
                · exact (S1.out b hb).imp id fun h => by omega
                · rcases S7.out b hb with h | h
                  · exact S1.out b h
                  · exact .inr (by omega)
              case measure => (first | omega | (simp [intOf]; omega)))
          · have HNO : Hid (rxOk l x = false) := Lib.hid (by rw [HRK.out, e1, e2]; rfl)
            rw [e1] at HCP
            rw [e2] at HCN
            have CP := Lib.hid HCP
            have CN := Lib.hid HCN
            clear HCP HCN e1 e2 HRK
            go_wp2_with (first
              | (go_at_call 30; (with_reducible refine (CP.out _ HLR.out.arg).mono ?_); rintro e w' ⟨rfl, rfl⟩)
              | (go_at_call 30; (with_reducible refine (CN.out _ HLR.out.arg).mono ?_); rintro e w' ⟨rfl, rfl⟩))
            go_roundw
            case rel => exact ⟨j + 1, by omega, by go_num, F1, by rw [HT.out, HNO.out, if_neg (by decide), List.append_nil]; exact M1.out, FR1.out, S1.out⟩
            case measure => (first | omega | (simp [intOf]; omega))
        · have HNO : Hid (rxOk l x = false) := Lib.hid (by rw [HRK.out, e1]; rfl)
          rw [e1] at HCP
          have CP := Lib.hid HCP
          clear HCP HCN e1 HRK
          go_wp2_with (go_at_call 30; (with_reducible refine (CP.out _ HLR.out.arg).mono ?_); rintro e w' ⟨rfl, rfl⟩)
          go_roundw
          case rel => exact ⟨j + 1, by omega, by go_num, F1, by rw [HT.out, HNO.out, if_neg (by decide), List.append_nil]; exact M1.out, FR1.out, S1.out⟩
          case measure => (first | omega | (simp [intOf]; omega))
      · obtain rfl : j = ls.length := by omega
        have M2 := M1.out
        rw [List.take_length] at M2
        have M3 : Hid (MoI n br bo bm wr (acc ++ (rdL ls (k + 1) l).map (relM n)) F1) := Lib.hid M2
        have FR2 : Hid (FrF bo F w wr) := Lib.hid (((FrF.refl bo F w).bel BL.out).then_ FR1.out fun b hb => .inl hb)
        clear M2
        go_wp2
        go_end0
        exact ⟨rfl, F1, M3.out, FR2.out, fun b hb => (S1.out b hb).imp_right fun h => by omega⟩
end Go.Proofs.Ytnmkbkpegkchpaa
