/- IsWhole, MaximalOnes and InclusionTable of the reference and of the program. Lists of lists of bools: held alone, appended to, and in the laws compared, marked, read again. -/
import Derived.Test.YtpemfkncjhhagaaGreatTrim
import Derived.Test.YtpemfkncjhhagaaGreatOwn
import Derived.Test.YtpemfkncjhhagaaGreatMark
import Derived.Test.YtpemfkncjhhagaaGreatLaw
import Derived.Deep.RegionHeld3
import Derived.Outline
import Derived.Test.YtpemfkncjhhagaaGreatInsI
import Derived.Test.YtpemfkncjhhagaaGreatGrS
import Derived.Test.YtpemfkncjhhagaaGreatLst
namespace Go.Proofs.YtpemfkncjhhagaaGreat
set_option maxRecDepth 20000
set_option linter.unusedVariables false
set_option linter.unusedSimpArgs false
open Go.RowKit

def EB : El (List Bool) := fun w cs d F => ∃ s, cs = [s] ∧ OwB w 0 s d ∧ F = s.ownBlock.toList
theorem EB.stable : Stable EB := by
  rintro w w' cs d F ⟨s, rfl, ho, rfl⟩ hb
  exact ⟨s, rfl, ownsRow_keep ho fun b h => hb b (by rw [h]; simp), rfl⟩
abbrev OwBB (lo hi : Nat) (v : Value) (L : List (List Bool)) (w : World) : Prop := OwnL EB 55 1 lo hi w v L
theorem OwB.form {w : World} {base : Nat} {v : Value} {bs : List Bool} (h : OwB w base v bs) : ∃ A cap, v = .slice A bs.length cap ∧ bs.length ≤ cap ∧ cap ≤ maxLen ∧ (A = none → cap = 0) ∧ (0 < bs.length → ∃ g, A = some ⟨g, 0, none⟩ ∧ base ≤ g ∧ g < w.heap.size) := owns_form h
theorem OwB_litN (w : World) (N : Nat) (hN : w.heap.size = N) {base : Nat} (hb : base ≤ N) : OwB (w.alloc (.cells #[] 4)) base (.slice (some ⟨N, 0, none⟩) 0 0) [] := by
  subst hN
  have := World.ownsRow_lit (e := 4) (size := 1) (base := base) w #[] 0 hb (by unfold maxLen; omega) (by simp)
  simpa [OwB, bools] using this
theorem OwBB_lit (w : World) (N : Nat) (hN : w.heap.size = N) {lo : Nat} (h : lo ≤ N) : OwBB lo (N + 1) (.slice (some ⟨N, 0, none⟩) 0 0) [] (w.alloc (.cells #[] 55)) := by
  subst hN
  refine OwnL.nil ?_ fun b hb => ?_
  · have := World.ownsRow_lit (e := 55) (size := 1) (base := 0) w #[] 0 (Nat.zero_le _) (by unfold maxLen; omega) (by simp)
    simpa using this
  · simp [Value.ownBlock] at hb; omega
theorem bools_info : (Tryz.prog.info? 55).map (fun i => (i.zero, i.size, i.bytes)) = some (some (.slice none 0 0), 1, 24) := by kernel_rfl
theorem OwB.alloc {w : World} {base : Nat} {v : Value} {bs : List Bool} (h : OwB w base v bs) (o : Obj) : OwB (w.alloc o) base v bs := World.ownsRow.alloc h o
/-- 'row = append(row, b)'. -/
theorem push_bool {w : World} {ops : Array Oper} {rest : List Oper} {o : Oper} {a : Act} {Q : Exit → Act → World → Prop} (hgd : o.guard = none) (s x : Operand)
    (ho : o.op = .call { callee := .builtin .append, args := #[s, x], argTypes := #[55, 55] })
    (base : Nat) (v : Value) (bs : List Bool) (hown : OwB w base v bs) (hs : a.eval s = v) (b : Nat) (z : Bool) (hx : a.eval x = .slice (some ⟨b, 0, none⟩) 1 1)
    (hc : w.cell? ⟨b, 0, none⟩ = some (.bool z)) (hl : bs.length ≤ 1073741824) (hbase : base ≤ w.heap.size)
    (h : ∀ v' w', OwB w' base v' (bs ++ [z]) → w.grownBy w' v.ownBlock → wpList Tryz.prog ops Q rest (a.put o.dst v') w') :
    wpList Tryz.prog ops Q (o :: rest) a w := by
  obtain ⟨i0, hi0, hz0, hz1, hz2⟩ := info_parts bool_info
  refine wpList_append_own_at _ hgd s x 55 ho base 4 i0 _ 1 1 Tryz.underlying55 hi0 hz0 hz1 hz2 rfl (by decide) v bs.length (bools bs) hs hown ⟨b, 0, none⟩ 1 1 [.bool z] hx rfl ?_ ?_ (by unfold maxLen; omega) (by omega) hbase ?_
  · intro j u hj
    match j, hj with
    | 0, hj => simp at hj; subst hj; rw [Addr.add_lit]; exact hc
  · intro u hu
    simp at hu
    subst hu
    rfl
  · intro v' w' h1 h2 _ _
    refine h v' w' ?_ h2
    unfold OwB
    rw [List.length_append]
    have e1 : bools (bs ++ [z]) = bools bs ++ [.bool z] := by simp [bools]
    rw [e1]
    exact h1
/-- 'out = append(out, row)', row made since. -/
theorem push_bools {lo : Nat} {w0 w : World} {v : Value} {L : List (List Bool)} {ops : Array Oper} {rest : List Oper} {o : Oper} {a : Act} {Q : Exit → Act → World → Prop} (hgd : o.guard = none) (s x : Operand)
    (ho : o.op = .call { callee := .builtin .append, args := #[s, x], argTypes := #[24, 24] })
    (hown : OwBB lo w0.heap.size v L w0) (hlo : lo ≤ w0.heap.size) (hbel : Below w0.heap.size w0 w) (hs : a.eval s = v) (b : Nat) (z : Value) (d : List Bool) {base : Nat} (hx : a.eval x = .slice (some ⟨b, 0, none⟩) 1 1)
    (hel : OwB w base z d) (hbase : w0.heap.size ≤ base) (hc : w.cell? ⟨b, 0, none⟩ = some z) (hz : z.oneCell' = true) (hl : L.length ≤ 1073741824)
    (h : ∀ v' w', OwBB lo w'.heap.size v' (L ++ [d]) w' → w.grownBy w' v.ownBlock → wpList Tryz.prog ops Q rest (a.put o.dst v') w') :
    wpList Tryz.prog ops Q (o :: rest) a w := by
  obtain ⟨i0, hi0, hz0, hz1, hz2⟩ := info_parts bools_info
  refine push_own EB.stable hgd s x ho Tryz.underlying24 hi0 hz0 hz1 hz2 rfl (by decide) (by decide) hown hlo hbel hs b [z] d z.ownBlock.toList hx ⟨z, rfl, hel.mono (Nat.zero_le _), rfl⟩ rfl ?_ ?_ ?_ ?_ hl h
  · cases z.ownBlock <;> simp
  · intro k hk
    have := World.ownsRow.lt hel k (by simpa using hk)
    omega
  · intro j u hj
    match j, hj with
    | 0, hj => simp at hj; subst hj; exact hc
  · intro u hu; simp at hu; subst hu; exact hz
def iotaB (k : Int) (n : Nat) : List Bool := (List.range n).map fun i => decide ((k + (i : Nat)) % 3 = 0)
theorem iotaB_len (k : Int) (n : Nat) : (iotaB k n).length = n := by simp [iotaB]
theorem iotaB_get (k : Int) (n i : Nat) (h : i < n) : (iotaB k n)[i]'(by simp [iotaB, h]) = decide ((k + (i : Nat)) % 3 = 0) := by simp [iotaB]
theorem markB_step (k : Int) (bs : List Bool) (i : Nat) (hi : i < bs.length) : (iotaB k i ++ bs.drop i).set i (decide ((k + (i : Nat)) % 3 = 0)) = iotaB k (i + 1) ++ bs.drop (i + 1) := by
  have e : bs.drop i = bs[i] :: bs.drop (i + 1) := List.drop_eq_getElem_cons hi
  rw [e, List.set_append_right _ _ (by simp [iotaB])]
  simp only [iotaB, List.length_map, List.length_range, Nat.sub_self, List.set_cons_zero, List.range_succ, List.map_append, List.map_cons, List.map_nil, List.append_assoc, List.cons_append, List.nil_append]
set_option maxHeartbeats 400000 in
theorem eqBoolS_any (v u : Value) (xs ys : List Bool) (w : World) {base base' : Nat} (h : OwB w base v xs) (h' : OwB w base' u ys) :
    Calls Tryz.prog 37 #[v, u] w fun e w' => e = .returned (.bool (decide (xs = ys))) ∧ ∃ n, w' = w.drewN n := by
  obtain ⟨A, cap, rfl, hcap, hm, _, hb⟩ := h.form
  obtain ⟨A', cap', rfl, hcap', hm', _, hb'⟩ := h'.form
  unfold maxLen at hm hm'
  have H := Lib.hid h
  have H' := Lib.hid h'
  clear h h'
  by_cases hne : xs.length = ys.length
  · have hd : ((xs.length : Int) != (ys.length : Int)) = false := by simp [hne]
    have HNE := Lib.hid hne
    clear hne
    go_enter Tryz.func37, Tryz.ntmps37
    go_wp2
    go_loopw [5] (fun i wr => ∃ k : Nat, k ≤ xs.length ∧ i = .int .i64 k ∧ xs.take k = ys.take k ∧ ∃ n, wr = w.drewN n) (fun i _ => xs.length - (intOf i).toNat)
    case atStart => exact ⟨0, Nat.zero_le _, rfl, by simp, 0, rfl⟩
    case round =>
      obtain ⟨k, hk, rfl, heq, n, rfl⟩ := hrel
      have HEQ := Lib.hid heq
      clear heq
      by_cases hlt : k < xs.length
      · obtain ⟨b, rfl, _, _⟩ := hb (by omega)
        have hlt' : k < ys.length := by have := HNE.out; omega
        obtain ⟨b', rfl, _, _⟩ := hb' (by omega)
        have hcell : w.cell? ⟨b, k, none⟩ = some (.bool xs[k]) := H.out.cellAt k hlt
        have hcell' : w.cell? ⟨b', k, none⟩ = some (.bool ys[k]) := H'.out.cellAt k hlt'
        have HS : Hid (xs[k] = ys[k] → xs.take (k + 1) = ys.take (k + 1)) := Lib.hid fun e => take_eq_succ HEQ.out hlt hlt' e
        have HNO : Hid (xs[k] ≠ ys[k] → xs ≠ ys) := Lib.hid fun e1 e2 => by subst e2; exact e1 rfl
        clear hb hb'
        generalize xs[k] = x at *
        generalize ys[k] = y at *
        rcases x with _ | _ <;> rcases y with _ | _
        · go_wp2
          go_quiet (fail)
          go_wp2
          go_roundw
          case rel => exact ⟨k + 1, by omega, by go_num, HS.out (by trivial), _, rfl⟩
          case measure => simp [intOf]; omega
        · go_wp2
          go_quiet (fail)
          go_wp2
          go_ret
          exact ⟨ret_bool (by symm; rw [decide_eq_false_iff_not]; exact HNO.out (by decide)), _, World.drewN_drewN _ _ _⟩
        · go_wp2
          go_quiet (fail)
          go_wp2
          go_ret
          exact ⟨ret_bool (by symm; rw [decide_eq_false_iff_not]; exact HNO.out (by decide)), _, World.drewN_drewN _ _ _⟩
        · go_wp2
          go_quiet (fail)
          go_wp2
          go_roundw
          case rel => exact ⟨k + 1, by omega, by go_num, HS.out (by trivial), _, rfl⟩
          case measure => simp [intOf]; omega
      · obtain rfl : k = xs.length := by omega
        go_wp2
        go_ret
        refine ⟨ret_bool ?_, n, rfl⟩
        have h1 := HEQ.out
        rw [List.take_length, HNE.out, List.take_length] at h1
        simp [h1]
  · have hd : ((xs.length : Int) != (ys.length : Int)) = true := by simp; omega
    go_enter Tryz.func37, Tryz.ntmps37
    go_wp2
    go_ret
    exact ⟨ret_bool (by symm; rw [decide_eq_false_iff_not]; rintro rfl; exact hne rfl), 0, rfl⟩
set_option maxHeartbeats 400000 in
theorem markBoolS_any (v : Value) (xs : List Bool) (k : Int) (base : Nat) (w : World) (h : OwB w base v xs) (hl : xs.length ≤ 1073741824) (hk0 : 0 ≤ k) (hk : k ≤ 1125899906842624) :
    Calls Tryz.prog 39 #[v, .int .i64 k] w fun e w' => e = .returned (.int .i64 (k + xs.length)) ∧ OwB w' base v (iotaB k xs.length) ∧ w.grownBy w' v.ownBlock := by
  obtain ⟨A, cap, rfl, hcap, hm, _, hb⟩ := h.form
  have H := Lib.hid h
  unfold maxLen at hm
  clear h
  go_enter Tryz.func39, Tryz.ntmps39
  go_wp2
  go_loopw [1, 5] (fun kk i wr => ∃ j : Nat, j ≤ xs.length ∧ i = .int .i64 j ∧ kk = .int .i64 (k + (j : Nat)) ∧ OwB wr base (.slice A xs.length cap) (iotaB k j ++ xs.drop j) ∧ w.grownBy wr (Value.slice A xs.length cap).ownBlock)
    (fun _ i _ => xs.length - (intOf i).toNat)
  case atStart => exact ⟨0, Nat.zero_le _, rfl, by simp, by simpa [iotaB] using H.out, World.grownBy.refl _ _⟩
  case round =>
    obtain ⟨j, hj, rfl, rfl, hown1, hgr⟩ := hrel
    have HO1 := Lib.hid hown1
    have HG1 := Lib.hid hgr
    have hll : (iotaB k j ++ xs.drop j).length = xs.length := by simp [iotaB]; omega
    have HLL := Lib.hid hll
    have HST := Lib.hid (markB_step k xs j)
    clear hown1 hgr hll
    by_cases hlt : j < xs.length
    · obtain ⟨g, rfl, _, _⟩ := hb (by omega)
      have hold' := HO1.out.cellAt j (by rw [HLL.out]; exact hlt)
      have hfr := HO1.out.free j
      have HS := Lib.hid (HO1.out.set j (decide ((k + (j : Int)) % 3 = 0)))
      rw [HST.out hlt] at HS
      generalize (iotaB k j ++ xs.drop j)[j]'(by rw [HLL.out]; exact hlt) = z at hold'
      have hkj : 0 ≤ k + (j : Int) := by omega
      have hk64 : k + (j : Int) ≤ 1125899906842624 + 1073741824 := by omega
      clear hb
      rcases ez : decide ((k + (j : Int)) % 3 = 0) with _ | _
      · have e3 : ¬ (k + (j : Nat)) % 3 = 0 := by simpa using ez
        have e4 : ((k + (j : Int)) % 3 == 0) = false := by simpa using e3
        rw [ez] at HS
        clear ez e3
        go_wp2
        go_roundw
        case rel => exact ⟨j + 1, by omega, by go_num, by go_num, HS.out.1, HG1.out.trans HS.out.2⟩
        case measure => simp [intOf]; omega
      · have e3 : (k + (j : Nat)) % 3 = 0 := by simpa using ez
        have e4 : ((k + (j : Int)) % 3 == 0) = true := by simpa using e3
        rw [ez] at HS
        clear ez e3
        go_wp2
        go_roundw
        case rel => exact ⟨j + 1, by omega, by go_num, by go_num, HS.out.1, HG1.out.trans HS.out.2⟩
        case measure => simp [intOf]; omega
    · obtain rfl : j = xs.length := by omega
      rw [List.drop_length, List.append_nil] at HO1
      go_wp2
      go_ret
      exact ⟨rfl, HO1.out, HG1.out⟩
set_option maxHeartbeats 400000 in
theorem heldBoolS_any (v : Value) (n : Nat) (k : Int) (w : World) {base : Nat} (h : OwB w base v (iotaB k n)) (hl : n ≤ 1073741824) (hk0 : 0 ≤ k) (hk : k ≤ 1125899906842624) :
    Calls Tryz.prog 40 #[v, .int .i64 k] w fun e w' => e = .returned (.int .i64 (k + n)) ∧ w = w' := by
  obtain ⟨A, cap, hv, hcap, hm, _, hb⟩ := h.form
  rw [iotaB_len] at hv hcap hb
  subst hv
  have H := Lib.hid h
  clear h
  go_enter Tryz.func40, Tryz.ntmps40
  go_wp2
  go_loop [1, 5] (fun kk i => ∃ j : Nat, j ≤ n ∧ i = .int .i64 j ∧ kk = .int .i64 (k + (j : Nat))) (fun _ i => n - (intOf i).toNat)
  case atStart => exact ⟨0, Nat.zero_le _, rfl, by simp⟩
  case round =>
    obtain ⟨j, hj, rfl, rfl⟩ := hrel
    by_cases hlt : j < n
    · obtain ⟨g, rfl, _, _⟩ := hb (by omega)
      have hcell : w.cell? ⟨g, j, none⟩ = some (.bool (decide ((k + (j : Int)) % 3 = 0))) := by
        have := H.out.cellAt j (by rw [iotaB_len]; exact hlt)
        rwa [iotaB_get k n j hlt] at this
      have hkj : 0 ≤ k + (j : Int) := by omega
      have hk64 : k + (j : Int) ≤ 1125899906842624 + 1073741824 := by omega
      clear hb
      rcases ez : decide ((k + (j : Int)) % 3 = 0) with _ | _
      · have e3 : ¬ (k + (j : Nat)) % 3 = 0 := by simpa using ez
        have e4 : ((k + (j : Int)) % 3 == 0) = false := by simpa using e3
        rw [ez] at hcell
        clear ez e3
        go_wp2
        go_round
        case rel => exact ⟨j + 1, by omega, by go_num, by go_num⟩
        case measure => simp [intOf]; omega
      · have e3 : (k + (j : Nat)) % 3 = 0 := by simpa using ez
        have e4 : ((k + (j : Int)) % 3 == 0) = true := by simpa using e3
        rw [ez] at hcell
        clear ez e3
        go_wp2
        go_round
        case rel => exact ⟨j + 1, by omega, by go_num, by go_num⟩
        case measure => simp [intOf]; omega
    · obtain rfl : j = n := by omega
      go_wp2
      go_ret
      exact ⟨rfl, rfl⟩
theorem OwB.drewN {w : World} {base : Nat} {v : Value} {bs : List Bool} (h : OwB w base v bs) (k : Nat) : OwB (w.drewN k) base v bs := h
def cBo (xs : List Bool) : Nat := xs.length
def mBo (k : Int) (xs : List Bool) : List Bool := iotaB k xs.length
abbrev OBB (lo hi : Nat) (v : Value) (L : List (List Bool)) (w : World) : Prop := OwBB lo hi v L w
theorem OBB.ob {lo : Nat} {v : Value} {L : List (List Bool)} {w : World} (h : OBB lo w.heap.size v L w) : Ob (OBB lo w.heap.size v L) lo w.heap.size w :=
  ⟨h, fun _ _ hu hb => OwnL.keep hu EB.stable hb, Nat.le_refl _⟩
set_option maxHeartbeats 1000000 in
theorem eqBoolSS_any (v u : Value) (ds ds' : List (List Bool)) (w : World) {lo hi lo' hi' : Nat} (h : OBB lo hi v ds w) (h' : OBB lo' hi' u ds' w) (hh : hi ≤ w.heap.size) (hh' : hi' ≤ w.heap.size) :
    Calls Tryz.prog 12 #[v, u] w fun e w' => e = .returned (.bool (decide (ds = ds'))) ∧ Below w.heap.size w w' := by
  obtain ⟨A, cap, rfl, hcap, hm, _⟩ := h.len
  obtain ⟨A', cap', rfl, hcap', hm', _⟩ := h'.len
  have H := Lib.hid h
  have H' := Lib.hid h'
  unfold maxLen at hm hm'
  clear h h'
  by_cases hne : ds.length = ds'.length
  · have hd : ((ds.length : Int) != (ds'.length : Int)) = false := by simp [hne]
    have HNE := Lib.hid hne
    clear hne
    go_enter Tryz.func12, Tryz.ntmps12
    go_wp2
    go_loopw [5] (fun i wr => ∃ k : Nat, k ≤ ds.length ∧ i = .int .i64 k ∧ ds.take k = ds'.take k ∧ Below w.heap.size w wr) (fun i _ => ds.length - (intOf i).toNat)
    case atStart => exact ⟨0, Nat.zero_le _, rfl, by simp, Below.refl _ _⟩
    case round =>
      obtain ⟨k, hk, rfl, heq, hbel⟩ := hrel
      have HEQ := Lib.hid heq
      have HB := Lib.hid hbel
      have hsz := hbel.size
      by_cases hlt : k < ds.length
      · have hlt' : k < ds'.length := by have := HNE.out; omega
        obtain ⟨g, cs, Fe, rfl, _, hg, hE, hcw, _, _, hc, _⟩ := (H.out.keep EB.stable (w' := wr) fun b _ hb => hbel.block b (by omega)).focus EB.stable hlt
        obtain ⟨g', cs', Fe', rfl, _, hg', hE', hcw', _, _, hc', _⟩ := (H'.out.keep EB.stable (w' := wr) fun b _ hb => hbel.block b (by omega)).focus EB.stable hlt'
        obtain ⟨s, rfl, ho, _⟩ := hE
        obtain ⟨s', rfl, ho', _⟩ := hE'
        have c0 := hc 0 (by simp)
        have c0' := hc' 0 (by simp)
        simp only [List.getElem_cons_zero, Nat.add_zero, Nat.mul_one] at c0 c0'
        have HQ : Hid (ds.take (k + 1) = ds'.take (k + 1) ↔ ds[k] = ds'[k]) := Lib.hid ⟨fun e => by
          have := congrArg (fun l => l[k]?) e
          simpa [hlt, hlt'] using this, fun e => take_eq_succ HEQ.out hlt hlt' e⟩
        have HN : Hid (ds[k] ≠ ds'[k] → ds ≠ ds') := Lib.hid (fun e1 e2 => by subst e2; exact e1 rfl)
        have X1 := Lib.hid ho
        have X2 := Lib.hid ho'
        have hgw : g < wr.heap.size := by omega
        have hgw' : g' < wr.heap.size := by omega
        clear hc hc' heq hbel ho ho'
        generalize ds[k] = d at *
        generalize ds'[k] = d' at *
        obtain ⟨A2, c2, rfl, _⟩ := OwB.form X1.out
        obtain ⟨A3, c3, rfl, _⟩ := OwB.form X2.out
        go_wp2_with fail
        go_quiet ((go_at_call 37; exact (eqBoolS_any _ _ d d' _ (X1.out.drewN _) (X2.out.drewN _)).mono fun _ _ ⟨he, n, hn⟩ => ⟨he, by rw [hn]; exact ⟨_, World.drewN_drewN _ _ _⟩⟩))
        rcases e2 : decide (d = d') with _ | _
        · go_wp2
          go_ret
          exact ⟨ret_bool (by symm; rw [decide_eq_false_iff_not]; exact HN.out (by simpa using e2)), bel_drewN HB.out _⟩
        · go_wp2
          go_roundw
          case rel => exact ⟨k + 1, by omega, by go_num, HQ.out.2 (by simpa using e2), bel_drewN HB.out _⟩
          case measure => simp [intOf]; omega
      · obtain rfl : k = ds.length := by omega
        go_wp2
        go_ret
        refine ⟨ret_bool ?_, HB.out⟩
        have h1 := HEQ.out
        rw [List.take_length, HNE.out, List.take_length] at h1
        simp [h1]
  · have hd : ((ds.length : Int) != (ds'.length : Int)) = true := by simp; omega
    go_enter Tryz.func12, Tryz.ntmps12
    go_wp2
    go_ret
    exact ⟨ret_bool (by symm; rw [decide_eq_false_iff_not]; rintro rfl; exact hne rfl), Below.refl _ _⟩
set_option maxHeartbeats 1000000 in
theorem markBoolSS_ob (v : Value) (ds : List (List Bool)) (k : Int) (lo hi : Nat) (w : World) (h : Ob (OBB lo hi v ds) lo hi w)
    (hl : cntL cBo ds ≤ 1100000000000 ∧ ∀ d ∈ ds, d.length ≤ 1073741824) (hk0 : 0 ≤ k) (hk : k ≤ 1120000000000000) :
    Calls Tryz.prog 15 #[v, .int .i64 k] w fun e w' => e = .returned (.int .i64 (k + cntL cBo ds)) ∧ Ob (OBB lo hi v (mkL cBo mBo k ds)) lo hi w' ∧ Tr lo hi w w' := by
  have HR := Lib.hid hl.2
  replace hl := hl.1
  obtain ⟨A, cap, rfl, hcap, hm, _⟩ := h.holds.len
  unfold maxLen at hm
  have hle := h.le
  have H := Lib.hid h.holds
  have HLOC : Hid (∀ ds', Loc (OBB lo hi (.slice A ds.length cap) ds') lo hi) := Lib.hid fun ds' _ _ hu hb => OwnL.keep hu EB.stable hb
  clear h
  go_enter Tryz.func15, Tryz.ntmps15
  go_wp2
  go_loopw [1, 5] (fun kk i wr => ∃ j : Nat, j ≤ ds.length ∧ i = .int .i64 j ∧ kk = .int .i64 (k + (cntL cBo (ds.take j) : Nat)) ∧ OBB lo hi (.slice A ds.length cap) (mkAt cBo mBo k ds j) wr ∧ Tr lo hi w wr)
    (fun _ i _ => ds.length - (intOf i).toNat)
  case atStart => exact ⟨0, Nat.zero_le _, rfl, by simp [cntL], by rw [mkAt_zero]; exact H.out, ⟨rfl, rfl, rfl, Nat.le_refl _, fun _ _ _ => rfl⟩⟩
  case round =>
    obtain ⟨j, hj, rfl, rfl, hown, ht⟩ := hrel
    have hsz := ht.size
    by_cases hlt : j < ds.length
    · have hml := mkAt_length (c := cBo) (m := mBo) k ds j
      obtain ⟨g, cs, Fe, rfl, hg1, hg2, hE, hcw, hFe, hnd, hc, hfz, hgs, hfin⟩ := hown.focus EB.stable (k := j) (by rw [hml]; exact hlt)
      rw [mkAt_get k ds j hlt] at hE
      obtain ⟨s, rfl, ho, rfl⟩ := hE
      have c0 := hc 0 (by simp)
      simp only [List.getElem_cons_zero, Nat.add_zero, Nat.mul_one] at c0
      have hcnt := cntL_at (c := cBo) ds j hlt
      have HSUC := Lib.hid (cntL_succ (c := cBo) ds j hlt)
      have HSET := Lib.hid (mkAt_succ (c := cBo) (m := mBo) k ds j hlt)
      have HT := Lib.hid ht
      have HO := Lib.hid ho
      have HFE := Lib.hid hFe
      have HFIN := Lib.hid hfin
      have hcd : cBo ds[j] = ds[j].length := rfl
      have HCD := Lib.hid hcd
      have hdl : ds[j].length ≤ 1073741824 := HR.out _ (List.getElem_mem hlt)
      have hc2 : cntL cBo (ds.take j) ≤ 1100000000000 := by omega
      clear hc hfz hfin hFe hnd ht hown ho hml hcd
      go_wp2_with fail
      refine (markBoolS_any s ds[j] _ 0 _ HO.out hdl (by omega) (by omega)).mono ?_
      rintro e w9 ⟨rfl, o9, g9⟩
      have O9 := Lib.hid o9
      have G9 := Lib.hid g9
      clear o9 g9
      go_wp2
      go_roundw
      case rel =>
        have hne : s.ownBlock ≠ some g := fun e => (HFE.out g (by simp [e])).2.2 rfl
        refine ⟨j + 1, by omega, by go_num, by rw [HSUC.out, HCD.out]; go_num, ?_, HT.out.trans (Tr.grown G9.out fun b hb => ⟨(HFE.out b (by simp [hb])).1, (HFE.out b (by simp [hb])).2.1⟩)⟩
        rw [← HSET.out]
        refine HFIN.out _ [s] _ (fun pre post hp hrow => ?_) rfl ⟨s, rfl, O9.out, rfl⟩ fun b hb h1 h2 => ?_
        · exact ownsRow_keep hrow fun b hb => G9.out.block b (by simp [Value.ownBlock] at hb; subst hb; exact hgs) (by rw [← hb]; exact fun e => hne e.symm)
        · exact G9.out.block b (by omega) (fun e => h2 (by simp [← e]))
      case measure => simp [intOf]; omega
    · obtain rfl : j = ds.length := by omega
      rw [List.take_length]
      rw [mkAt_all] at hown
      go_wp2
      go_ret
      exact ⟨rfl, ⟨hown, HLOC.out _, by omega⟩, ht⟩
set_option maxHeartbeats 1000000 in
theorem heldBoolSS_ob (v : Value) (ds : List (List Bool)) (k : Int) (lo hi : Nat) (w : World) (h : Ob (OBB lo hi v (mkL cBo mBo k ds)) lo hi w)
    (hl : cntL cBo ds ≤ 1100000000000 ∧ ∀ d ∈ ds, d.length ≤ 1073741824) (hk0 : 0 ≤ k) (hk : k ≤ 1120000000000000) :
    Calls Tryz.prog 16 #[v, .int .i64 k] w fun e w' => e = .returned (.int .i64 (k + cntL cBo ds)) ∧ Tr 0 0 w w' := by
  have HR := Lib.hid hl.2
  replace hl := hl.1
  have hml := mkL_length (c := cBo) (m := mBo) k ds
  obtain ⟨A, cap, rfl, hcap, hm, _⟩ := h.holds.len
  rw [hml] at hcap ⊢
  unfold maxLen at hm
  have H := Lib.hid h.holds
  have HML := Lib.hid hml
  clear h hml
  go_enter Tryz.func16, Tryz.ntmps16
  go_wp2
  go_loop [1, 5] (fun kk i => ∃ j : Nat, j ≤ ds.length ∧ i = .int .i64 j ∧ kk = .int .i64 (k + (cntL cBo (ds.take j) : Nat)))
    (fun _ i => ds.length - (intOf i).toNat)
  case atStart => exact ⟨0, Nat.zero_le _, rfl, by simp [cntL]⟩
  case round =>
    obtain ⟨j, hj, rfl, rfl⟩ := hrel
    by_cases hlt : j < ds.length
    · have hcnt := cntL_at (c := cBo) ds j hlt
      have hjm : j < (mkL cBo mBo k ds).length := by rw [HML.out]; exact hlt
      have hget := mkL_get (c := cBo) (m := mBo) k ds j hlt hjm
      have hh := H.out
      rw [HML.out] at hh
      obtain ⟨g, cs, Fe, rfl, hg1, hg2, hE, hcw, hFe, hnd, hc, _⟩ := hh.focus EB.stable (k := j) hjm
      rw [hget] at hE
      obtain ⟨s, rfl, ho, rfl⟩ := hE
      have c0 := hc 0 (by simp)
      simp only [List.getElem_cons_zero, Nat.add_zero, Nat.mul_one] at c0
      have HSUC := Lib.hid (cntL_succ (c := cBo) ds j hlt)
      have hcd : cBo ds[j] = ds[j].length := rfl
      have HCD := Lib.hid hcd
      have hdl : ds[j].length ≤ 1073741824 := HR.out _ (List.getElem_mem hlt)
      have hc2 : cntL cBo (ds.take j) ≤ 1100000000000 := by omega
      have HO : Hid (OwB w 0 s (iotaB (k + (cntL cBo (ds.take j) : Nat)) ds[j].length)) := Lib.hid ho
      clear hc hFe hnd ho hget hh hcd
      go_wp2_with fail
      refine (heldBoolS_any s ds[j].length _ _ HO.out hdl (by omega) (by omega)).mono ?_
      rintro e w9 ⟨rfl, rfl⟩
      go_wp2
      go_round
      case rel => exact ⟨j + 1, by omega, by go_num, by rw [HSUC.out, HCD.out]; go_num⟩
      case measure => simp [intOf]; omega
    · obtain rfl : j = ds.length := by omega
      rw [List.take_length]
      go_wp2
      go_ret
      exact ⟨rfl, Tr.refl _⟩
theorem eqBoolSS_ob (v u : Value) (ds ds' : List (List Bool)) (w : World) {lo hi lo' hi' : Nat} (h : Ob (OBB lo hi v ds) lo hi w) (h' : Ob (OBB lo' hi' u ds') lo' hi' w) :
    Calls Tryz.prog 12 #[v, u] w fun e w' => e = .returned (.bool (decide (ds = ds'))) ∧ Tr 0 0 w w' :=
  (eqBoolSS_any v u ds ds' w h.holds h'.holds h.le h'.le).mono fun _ _ ⟨he, hb⟩ => ⟨he, Tr.below hb⟩
def wholeB (g : GrD) : Bool := coreB g && decide (g.2.1 = 1) && decide ((g.2.2.length : Int) = g.1)
/-- b stands in the way of a. -/
def mxB (a b : GrD) : Bool := inclS a b && !decide (a = b) && !wholeB b
def mxT (a : GrD) : Bool := coreB a && !wholeB a
def maxB (L : List GrD) (a : GrD) : Bool := mxT a && L.all fun b => !mxB a b
def maxK (L : List GrD) (k : Nat) : List Int := ((List.range k).filter fun i => maxB L (L[i]?.getD (0, 0, []))).map fun (i : Nat) => ((i : Nat) : Int)
def maxF (L : List GrD) : List Int := maxK L L.length
theorem maxK_succ (L : List GrD) (k : Nat) (h : k < L.length) : maxK L (k + 1) = if maxB L L[k] = true then maxK L k ++ [(k : Int)] else maxK L k := by
  unfold maxK
  rw [List.range_succ, List.filter_append, List.map_append]
  split
  · rename_i h1; simp [h, h1]
  · rename_i h1; simp [h, h1]
theorem maxK_len (L : List GrD) (k : Nat) : (maxK L k).length ≤ k := by
  unfold maxK
  rw [List.length_map]
  refine Nat.le_trans (List.length_filter_le _ _) ?_
  simp
theorem allMx_succ (a : GrD) (L : List GrD) (j : Nat) (h : j < L.length) : ((L.take (j + 1)).all fun b => !mxB a b) = (((L.take j).all fun b => !mxB a b) && !mxB a L[j]) := by
  rw [List.take_succ_eq_append_getElem h, List.all_append]
  simp
theorem maxF_len (L : List GrD) : (maxF L).length ≤ L.length := maxK_len L L.length
def incF (L : List GrD) : List (List Bool) := L.map fun a => L.map fun b => inclS a b
set_option maxHeartbeats 1000000 in
theorem specIsWhole_any (v : Value) (g : GrD) (w : World) (h : ArgG w v g) :
    Calls Tryz.prog 42 #[v] w fun e w' => e = .returned (.bool (wholeB g)) ∧ Below w.heap.size w w' := by
  have HG := Lib.hid h
  obtain ⟨s, rfl, hi1, hi2, ha⟩ := h
  obtain ⟨A, cap, rfl⟩ := ha.form
  obtain ⟨g1, N, es⟩ := g
  simp only at *
  clear ha
  go_enter Tryz.func42, Tryz.ntmps42
  go_wp2_with fail
  obtain ⟨W, hW⟩ : ∃ W, W = w.alloc (Obj.cells #[Value.int IntKind.i64 g1, Value.int IntKind.i64 N, .slice A es.length cap] 45) := ⟨_, rfl⟩
  obtain ⟨hsW, b1, hc1⟩ := gboxE hW
  rw [← hW]
  have BX := Lib.hid b1
  have HCL := Lib.hid hc1
  have HA : Hid (∀ w', Below (w.heap.size + 1) W w' → ArgG w' (.agg #[.int .i64 g1, .int .i64 N, .slice A es.length cap]) (g1, N, es)) := Lib.hid fun w' hb => HG.out.below (BX.out.trans (hb.mono (by omega)))
  clear hW b1 hc1
  refine (specIsSubgroup_any _ (g1, N, es) W (HA.out W ((Below.refl W.heap.size W).mono (by omega)))).mono ?_
  rintro e w2 ⟨rfl, b2⟩
  have hs2 := b2.size
  have B2 : Hid (Below (w.heap.size + 1) W w2) := Lib.hid (b2.mono (by omega))
  clear b2
  obtain ⟨q0, q1, q2⟩ := HCL.out w2 B2.out
  have HBF : Hid (Below w.heap.size w w2) := Lib.hid (BX.out.trans (B2.out.mono (by omega)))
  rcases ec : coreB (g1, N, es) with _ | _
  · have F : Hid (wholeB (g1, N, es) = false) := Lib.hid (by unfold wholeB; rw [ec]; rfl)
    clear ec
    go_wp2
    go_ret
    exact ⟨ret_bool F.out.symm, HBF.out⟩
  · have F : Hid (wholeB (g1, N, es) = ((N == 1) && ((es.length : Int) == g1))) := Lib.hid (by unfold wholeB; rw [ec]; simp only [Bool.true_and]; rfl)
    clear ec
    rcases e1 : (N == 1) with _ | _
    · rw [e1] at F
      go_wp2
      go_ret
      exact ⟨ret_bool F.out.symm, HBF.out⟩
    · rw [e1] at F
      rcases e2 : ((es.length : Int) == g1) with _ | _
      · rw [e2] at F
        go_wp2
        go_ret
        exact ⟨ret_bool F.out.symm, HBF.out⟩
      · rw [e2] at F
        go_wp2
        go_ret
        exact ⟨ret_bool F.out.symm, HBF.out⟩
set_option maxHeartbeats 1000000 in
theorem implIsWhole_any (v : Value) (g : GrD) (w : World) (h : ArgG w v g) :
    Calls Tryz.prog 45 #[v] w fun e w' => e = .returned (.bool (wholeB g)) ∧ Below w.heap.size w w' := by
  have HG := Lib.hid h
  obtain ⟨s, rfl, hi1, hi2, ha⟩ := h
  obtain ⟨A, cap, rfl⟩ := ha.form
  obtain ⟨g1, N, es⟩ := g
  simp only at *
  clear ha
  go_enter Tryz.func45, Tryz.ntmps45
  go_wp2_with fail
  obtain ⟨W, hW⟩ : ∃ W, W = w.alloc (Obj.cells #[Value.int IntKind.i64 g1, Value.int IntKind.i64 N, .slice A es.length cap] 45) := ⟨_, rfl⟩
  obtain ⟨hsW, b1, hc1⟩ := gboxE hW
  rw [← hW]
  have BX := Lib.hid b1
  have HCL := Lib.hid hc1
  have HA : Hid (∀ w', Below (w.heap.size + 1) W w' → ArgG w' (.agg #[.int .i64 g1, .int .i64 N, .slice A es.length cap]) (g1, N, es)) := Lib.hid fun w' hb => HG.out.below (BX.out.trans (hb.mono (by omega)))
  clear hW b1 hc1
  refine (implIsCore_any _ (g1, N, es) W (HA.out W ((Below.refl W.heap.size W).mono (by omega)))).mono ?_
  rintro e w2 ⟨rfl, b2⟩
  have hs2 := b2.size
  have B2 : Hid (Below (w.heap.size + 1) W w2) := Lib.hid (b2.mono (by omega))
  clear b2
  obtain ⟨q0, q1, q2⟩ := HCL.out w2 B2.out
  have HBF : Hid (Below w.heap.size w w2) := Lib.hid (BX.out.trans (B2.out.mono (by omega)))
  rcases ec : coreB (g1, N, es) with _ | _
  · have F : Hid (wholeB (g1, N, es) = false) := Lib.hid (by unfold wholeB; rw [ec]; rfl)
    clear ec
    go_wp2
    go_ret
    exact ⟨ret_bool F.out.symm, HBF.out⟩
  · have F : Hid (wholeB (g1, N, es) = ((N == 1) && ((es.length : Int) == g1))) := Lib.hid (by unfold wholeB; rw [ec]; simp only [Bool.true_and]; rfl)
    clear ec
    rcases e1 : (N == 1) with _ | _
    · rw [e1] at F
      go_wp2
      go_ret
      exact ⟨ret_bool F.out.symm, HBF.out⟩
    · rw [e1] at F
      rcases e2 : ((es.length : Int) == g1) with _ | _
      · rw [e2] at F
        go_wp2
        go_ret
        exact ⟨ret_bool F.out.symm, HBF.out⟩
      · rw [e2] at F
        go_wp2
        go_ret
        exact ⟨ret_bool F.out.symm, HBF.out⟩
set_option maxHeartbeats 3000000 in
theorem specMaximalOnes_any (v : Value) (L : List GrD) (w : World) (h : ArgGS w v L) (hl : L.length ≤ 1048576) :
    Calls Tryz.prog 17 #[v] w fun e w' => ∃ r, e = .returned r ∧ OwI w' w.heap.size r (maxF L) ∧ Below w.heap.size w w' := by
  have H := Lib.hid h
  obtain ⟨A, cap, rfl, hcap, hm, _⟩ := h
  unfold maxLen at hm
  go_enter Tryz.func17, Tryz.ntmps17
  go_wp2_with fail
  go_loopw [3, 4] (fun out i wr => ∃ k : Nat, k ≤ L.length ∧ i = .int .i64 k ∧ OwI wr w.heap.size out (maxK L k) ∧ Below w.heap.size w wr) (fun _ i _ => L.length - (intOf i).toNat)
  case atStart => exact ⟨0, Nat.zero_le _, rfl, OwI_lit w [] I64s_nil (by simp) (Nat.le_refl _), (Below.refl _ _).alloc (Nat.le_refl _) _⟩
  case round =>
    obtain ⟨k, hk, rfl, ho, hb⟩ := hrel
    have HO := Lib.hid ho
    have HBI := Lib.hid hb
    obtain ⟨wi, rfl⟩ : ∃ wi : World, wi = wr := ⟨_, rfl⟩
    clear ho hb
    have hwi := HBI.out.size
    have hmk := maxK_len L k
    obtain ⟨Ao, co, rfl, _⟩ := OwI.form HO.out
    by_cases hlt : k < L.length
    · have HMK := Lib.hid (maxK_succ L k hlt)
      have hkI : (k : Int) < (L.length : Int) := by omega
      have HK64 : Hid (I64 (k : Int)) := Lib.hid (by unfold I64; omega)
      obtain ⟨ba, offa, sa, rfl, hba, c0, c1, c2, haa⟩ := (H.out.below HBI.out).at hlt
      have HAA := Lib.hid haa
      have HMB0 : Hid (maxB L L[k] = (mxT L[k] && L.all fun b => !mxB L[k] b)) := Lib.hid rfl
      have HMT : Hid (mxT L[k] = (coreB L[k] && !wholeB L[k])) := Lib.hid rfl
      clear haa
      generalize maxB L L[k] = MB at *
      generalize L[k] = a at *
      have hbaj : ∀ wj : World, wi.heap.size ≤ wj.heap.size → ba < wj.heap.size := fun wj h => by omega
      have HSUB := Lib.hid (fun W' (hb : Below wi.heap.size wi W') => specIsSubgroup_any _ a W' (HAA.out.below hb))
      have HWHO := Lib.hid (fun W' (hb : Below wi.heap.size wi W') => specIsWhole_any _ a W' (HAA.out.below hb))
      go_wp2_with fail
      refine (HSUB.out wi (Below.refl _ _)).mono ?_
      rintro e w2 ⟨rfl, b2⟩
      have hs2 := b2.size
      have B2 := Lib.hid b2
      clear b2
      rcases ec : coreB a with _ | _
      · have HMB : Hid (MB = false) := Lib.hid (by rw [HMB0.out, HMT.out, ec]; rfl)
        have B5 := B2
        clear ec
        go_wp2
        go_loopw [5, 6] (fun t i wr => ∃ j : Nat, j ≤ L.length ∧ i = .int .i64 j ∧ t = .bool false ∧ Below wi.heap.size wi wr) (fun _ i _ => L.length - (intOf i).toNat)
        case atStart => exact ⟨0, Nat.zero_le _, rfl, rfl, B5.out⟩
        case round =>
          obtain ⟨j, hj, rfl, rfl, hb⟩ := hrel
          have HBj := Lib.hid hb
          obtain ⟨wj, rfl⟩ : ∃ wj : World, wj = wr := ⟨_, rfl⟩
          have hwj := hb.size
          clear hb
          by_cases hlt2 : j < L.length
          · have hjI : (j : Int) < (L.length : Int) := by omega
            go_wp2_with fail
            (refine wp_region_quiet_bel (by kernel_rfl) (by kernel_rfl) ?_; (repeat (go_big_quiet_step (fail))); refine wpQuiet_nil ?_; intro wq hw'; obtain ⟨pq, hw''⟩ := hw'; have bq := pq.h; rw [← hw''] at bq; clear hw'' pq)
            have HQ := Lib.hid (HBj.out.trans (bq.mono (by omega)))
            clear bq
            go_wp2
            go_roundw
            case rel => exact ⟨j + 1, by omega, by go_num, rfl, HQ.out⟩
            case measure => simp [intOf]; omega
          · obtain rfl : j = L.length := by omega
            have HO7 := Lib.hid (HO.out.below HBj.out)
            have HB7 := Lib.hid (HBI.out.trans (HBj.out.mono HBI.out.size))
            have HK2 : Hid (maxK L (k + 1) = maxK L k) := Lib.hid (by rw [HMK.out, if_neg (by rw [HMB.out]; decide)])
            go_wp2
            go_roundw
            case rel => exact ⟨k + 1, by omega, by go_num, by rw [HK2.out]; exact HO7.out, HB7.out⟩
            case measure => simp [intOf]; omega
      · have x0 := (B2.out.cell (p := ⟨ba, offa + k * 3, none⟩) hba).trans c0
        have x1 := (B2.out.cell (p := ⟨ba, offa + k * 3 + 1, none⟩) hba).trans c1
        have x2 := (B2.out.cell (p := ⟨ba, offa + k * 3 + 2, none⟩) hba).trans c2
        go_wp2_with fail
        refine (HWHO.out w2 B2.out).mono ?_
        rintro e w5 ⟨rfl, b5⟩
        have hs5 := b5.size
        have B5 := Lib.hid (B2.out.trans (b5.mono (by omega)))
        clear b5 x0 x1 x2
        rcases ew0 : wholeB a with _ | _
        · have HMB : Hid (MB = L.all fun b => !mxB a b) := Lib.hid (by rw [HMB0.out, HMT.out, ec, ew0]; rfl)
          clear ec ew0
          go_wp2
          go_loopw [5, 6] (fun t i wr => ∃ j : Nat, j ≤ L.length ∧ i = .int .i64 j ∧ t = .bool ((L.take j).all fun b => !mxB a b) ∧ Below wi.heap.size wi wr) (fun _ i _ => L.length - (intOf i).toNat)
          case atStart => exact ⟨0, Nat.zero_le _, rfl, by simp, B5.out⟩
          case round =>
            obtain ⟨j, hj, rfl, rfl, hb⟩ := hrel
            have HBj := Lib.hid hb
            obtain ⟨wj, rfl⟩ : ∃ wj : World, wj = wr := ⟨_, rfl⟩
            have hwj := hb.size
            clear hb
            by_cases hlt2 : j < L.length
            · have HAL := Lib.hid (allMx_succ a L j hlt2)
              obtain ⟨bb, offb, sb, hA2, hbb, d0, d1, d2, hab⟩ := ((H.out.below HBI.out).below HBj.out).at hlt2
              obtain ⟨rfl, rfl⟩ : ba = bb ∧ offa = offb := by simpa using hA2
              have z0 := (HBj.out.cell (p := ⟨ba, offa + k * 3, none⟩) hba).trans c0
              have z1 := (HBj.out.cell (p := ⟨ba, offa + k * 3 + 1, none⟩) hba).trans c1
              have z2 := (HBj.out.cell (p := ⟨ba, offa + k * 3 + 2, none⟩) hba).trans c2
              have HIN := Lib.hid (fun W' (hb : Below wj.heap.size wj W') => specIsInside_any _ _ a L[j] W' ((HAA.out.below HBj.out).below hb) (hab.below hb))
              have HEQ := Lib.hid (fun W' (hb : Below wj.heap.size wj W') => specEqualGraphs_any _ _ a L[j] W' ((HAA.out.below HBj.out).below hb) (hab.below hb))
              have HWH := Lib.hid (fun W' (hb : Below wj.heap.size wj W') => specIsWhole_any _ L[j] W' (hab.below hb))
              have HMX : Hid (mxB a L[j] = (inclS a L[j] && !decide (a = L[j]) && !wholeB L[j])) := Lib.hid rfl
              have hjI : (j : Int) < (L.length : Int) := by omega
              clear hA2 hab
              generalize mxB a L[j] = MX at *
              generalize inclS a L[j] = IN at *
              generalize decide (a = L[j]) = EQ at *
              generalize wholeB L[j] = WH at *
              generalize L[j] = b at *
              obtain ⟨b1, b2, fs⟩ := b
              simp only at *
              have f0 := BelW.cell z0 (hbaj _ hwj)
              have f1 := BelW.cell z1 (hbaj _ hwj)
              have f2 := BelW.cell z2 (hbaj _ hwj)
              have f3 := BelW.cell d0 hbb
              have f4 := BelW.cell d1 hbb
              have f5 := BelW.cell d2 hbb
              rcases et : ((L.take j).all fun b => !mxB a b) with _ | _
              · rw [et] at HAL
                go_wp2_with fail
                (refine wp_region_quiet_bel (by kernel_rfl) (by kernel_rfl) ?_; (repeat (go_big_quiet_step (fail))); refine wpQuiet_nil ?_; intro wq hw'; obtain ⟨pq, hw''⟩ := hw'; have bq := pq.h; rw [← hw''] at bq; clear hw'' pq)
                have HQ := Lib.hid (HBj.out.trans (bq.mono (by omega)))
                clear f0 f1 f2 f3 f4 f5 bq z0 z1 z2 d0 d1 d2
                go_wp2
                go_roundw
                case rel => exact ⟨j + 1, by omega, by go_num, by rw [HAL.out]; rfl, HQ.out⟩
                case measure => simp [intOf]; omega
              · rw [et] at HAL
                rcases ei : IN with _ | _
                · rw [ei] at HIN HMX
                  have HT : Hid (((L.take (j + 1)).all fun b => !mxB a b) = true) := Lib.hid (by rw [HAL.out, HMX.out]; rfl)
                  go_wp2_with fail
                  (refine wp_region_quiet_bel (by kernel_rfl) (by kernel_rfl) ?_; (repeat (go_big_quiet_step (first | (go_at_call 35; with_reducible exact Calls.bel_of (HIN.out _ (BelW.h _)))))); refine wpQuiet_nil ?_; intro wq hw'; obtain ⟨pq, hw''⟩ := hw'; have bq := pq.h; rw [← hw''] at bq; clear hw'' pq)
                  have HQ := Lib.hid (HBj.out.trans (bq.mono (by omega)))
                  clear f0 f1 f2 f3 f4 f5 bq z0 z1 z2 d0 d1 d2
                  go_wp2
                  go_roundw
                  case rel => exact ⟨j + 1, by omega, by go_num, by rw [HT.out], HQ.out⟩
                  case measure => simp [intOf]; omega
                · rw [ei] at HIN HMX
                  rcases ee : EQ with _ | _
                  rotate_left
                  · rw [ee] at HEQ HMX
                    have HT : Hid (((L.take (j + 1)).all fun b => !mxB a b) = true) := Lib.hid (by rw [HAL.out, HMX.out]; rfl)
                    go_wp2_with fail
                    (refine wp_region_quiet_bel (by kernel_rfl) (by kernel_rfl) ?_; (repeat (go_big_quiet_step (first | (go_at_call 35; with_reducible exact Calls.bel_of (HIN.out _ (BelW.h _))) | (go_at_call 43; with_reducible exact Calls.bel_of (HEQ.out _ (BelW.h _)))))); refine wpQuiet_nil ?_; intro wq hw'; obtain ⟨pq, hw''⟩ := hw'; have bq := pq.h; rw [← hw''] at bq; clear hw'' pq)
                    have HQ := Lib.hid (HBj.out.trans (bq.mono (by omega)))
                    clear f0 f1 f2 f3 f4 f5 bq z0 z1 z2 d0 d1 d2
                    go_wp2
                    go_roundw
                    case rel => exact ⟨j + 1, by omega, by go_num, by rw [HT.out], HQ.out⟩
                    case measure => simp [intOf]; omega
                  · rw [ee] at HEQ HMX
                    rcases ew : WH with _ | _
                    · rw [ew] at HWH HMX
                      have HT : Hid (((L.take (j + 1)).all fun b => !mxB a b) = false) := Lib.hid (by rw [HAL.out, HMX.out]; rfl)
                      go_wp2_with fail
                      (refine wp_region_quiet_bel (by kernel_rfl) (by kernel_rfl) ?_; (repeat (go_big_quiet_step (first | (go_at_call 35; with_reducible exact Calls.bel_of (HIN.out _ (BelW.h _))) | (go_at_call 43; with_reducible exact Calls.bel_of (HEQ.out _ (BelW.h _))) | (go_at_call 42; with_reducible exact Calls.bel_of (HWH.out _ (BelW.h _)))))); refine wpQuiet_nil ?_; intro wq hw'; obtain ⟨pq, hw''⟩ := hw'; have bq := pq.h; rw [← hw''] at bq; clear hw'' pq)
                      have HQ := Lib.hid (HBj.out.trans (bq.mono (by omega)))
                      clear f0 f1 f2 f3 f4 f5 bq z0 z1 z2 d0 d1 d2
                      go_wp2
                      go_roundw
                      case rel => exact ⟨j + 1, by omega, by go_num, by rw [HT.out], HQ.out⟩
                      case measure => simp [intOf]; omega
                    · rw [ew] at HWH HMX
                      have HT : Hid (((L.take (j + 1)).all fun b => !mxB a b) = true) := Lib.hid (by rw [HAL.out, HMX.out]; rfl)
                      go_wp2_with fail
                      (refine wp_region_quiet_bel (by kernel_rfl) (by kernel_rfl) ?_; (repeat (go_big_quiet_step (first | (go_at_call 35; with_reducible exact Calls.bel_of (HIN.out _ (BelW.h _))) | (go_at_call 43; with_reducible exact Calls.bel_of (HEQ.out _ (BelW.h _))) | (go_at_call 42; with_reducible exact Calls.bel_of (HWH.out _ (BelW.h _)))))); refine wpQuiet_nil ?_; intro wq hw'; obtain ⟨pq, hw''⟩ := hw'; have bq := pq.h; rw [← hw''] at bq; clear hw'' pq)
                      have HQ := Lib.hid (HBj.out.trans (bq.mono (by omega)))
                      clear f0 f1 f2 f3 f4 f5 bq z0 z1 z2 d0 d1 d2
                      go_wp2
                      go_roundw
                      case rel => exact ⟨j + 1, by omega, by go_num, by rw [HT.out], HQ.out⟩
                      case measure => simp [intOf]; omega
            · obtain rfl : j = L.length := by omega
              rw [List.take_length]
              have HO7 := Lib.hid (HO.out.below HBj.out)
              have HB7 := Lib.hid (HBI.out.trans (HBj.out.mono HBI.out.size))
              rcases em : (L.all fun b => !mxB a b) with _ | _
              · have HK2 : Hid (maxK L (k + 1) = maxK L k) := Lib.hid (by rw [HMK.out, if_neg (by rw [HMB.out, em]; decide)])
                clear em
                go_wp2
                go_roundw
                case rel => exact ⟨k + 1, by omega, by go_num, by rw [HK2.out]; exact HO7.out, HB7.out⟩
                case measure => simp [intOf]; omega
              · have HK2 : Hid (maxK L (k + 1) = maxK L k ++ [(k : Int)]) := Lib.hid (by rw [HMK.out, if_pos (by rw [HMB.out, em])])
                have hwj7 : w.heap.size ≤ wj.heap.size := HB7.out.size
                clear em
                generalize maxK L k = MK at *
                go_wp2_with (at_builtin; refine push_int rfl (.tmp 66) (.tmp 68) rfl _ _ _ (OwI.alloc HO7.out _) rfl _ _ rfl (cell_new1 _ _ _) HK64.out (by first | omega | (simp <;> omega)) (by first | omega | (simp <;> omega)) ?_; intro v9 wv9 o9 g9 p9)
                have O9 := Lib.hid o9
                have B9 : Hid (Below w.heap.size w wv9) := Lib.hid ((HB7.out.alloc hwj7 (.cells #[.int .i64 k] 3)).grown g9 (by simp <;> omega) (fun c hc => (HO7.out.1.lt c hc).1))
                clear o9 g9 p9
                go_roundw
                case rel => exact ⟨k + 1, by omega, by go_num, by rw [HK2.out]; exact O9.out, B9.out⟩
                case measure => simp [intOf]; omega
        · have HMB : Hid (MB = false) := Lib.hid (by rw [HMB0.out, HMT.out, ec, ew0]; rfl)
          clear ec ew0
          go_wp2
          go_loopw [5, 6] (fun t i wr => ∃ j : Nat, j ≤ L.length ∧ i = .int .i64 j ∧ t = .bool false ∧ Below wi.heap.size wi wr) (fun _ i _ => L.length - (intOf i).toNat)
          case atStart => exact ⟨0, Nat.zero_le _, rfl, rfl, B5.out⟩
          case round =>
            obtain ⟨j, hj, rfl, rfl, hb⟩ := hrel
            have HBj := Lib.hid hb
            obtain ⟨wj, rfl⟩ : ∃ wj : World, wj = wr := ⟨_, rfl⟩
            have hwj := hb.size
            clear hb
            by_cases hlt2 : j < L.length
            · have hjI : (j : Int) < (L.length : Int) := by omega
              go_wp2_with fail
              (refine wp_region_quiet_bel (by kernel_rfl) (by kernel_rfl) ?_; (repeat (go_big_quiet_step (fail))); refine wpQuiet_nil ?_; intro wq hw'; obtain ⟨pq, hw''⟩ := hw'; have bq := pq.h; rw [← hw''] at bq; clear hw'' pq)
              have HQ := Lib.hid (HBj.out.trans (bq.mono (by omega)))
              clear bq
              go_wp2
              go_roundw
              case rel => exact ⟨j + 1, by omega, by go_num, rfl, HQ.out⟩
              case measure => simp [intOf]; omega
            · obtain rfl : j = L.length := by omega
              have HO7 := Lib.hid (HO.out.below HBj.out)
              have HB7 := Lib.hid (HBI.out.trans (HBj.out.mono HBI.out.size))
              have HK2 : Hid (maxK L (k + 1) = maxK L k) := Lib.hid (by rw [HMK.out, if_neg (by rw [HMB.out]; decide)])
              go_wp2
              go_roundw
              case rel => exact ⟨k + 1, by omega, by go_num, by rw [HK2.out]; exact HO7.out, HB7.out⟩
              case measure => simp [intOf]; omega
    · obtain rfl : k = L.length := by omega
      have F : Hid (maxF L = maxK L L.length) := Lib.hid rfl
      go_wp2
      go_ret
      exact ⟨_, rfl, by rw [F.out]; exact HO.out, HBI.out⟩
set_option maxHeartbeats 3000000 in
theorem implMaximalOnes_any (v : Value) (L : List GrD) (w : World) (h : ArgGS w v L) (hl : L.length ≤ 1048576) :
    Calls Tryz.prog 18 #[v] w fun e w' => ∃ r, e = .returned r ∧ OwI w' w.heap.size r (maxF L) ∧ Below w.heap.size w w' := by
  have H := Lib.hid h
  obtain ⟨A, cap, rfl, hcap, hm, _⟩ := h
  unfold maxLen at hm
  go_enter Tryz.func18, Tryz.ntmps18
  go_wp2_with fail
  go_loopw [3, 12] (fun out i wr => ∃ k : Nat, k ≤ L.length ∧ i = .int .i64 k ∧ OwI wr w.heap.size out (maxK L k) ∧ Below w.heap.size w wr) (fun _ i _ => L.length - (intOf i).toNat)
  case atStart => exact ⟨0, Nat.zero_le _, rfl, OwI_lit w [] I64s_nil (by simp) (Nat.le_refl _), (Below.refl _ _).alloc (Nat.le_refl _) _⟩
  case round =>
    obtain ⟨k, hk, rfl, ho, hb⟩ := hrel
    have HO := Lib.hid ho
    have HBI := Lib.hid hb
    obtain ⟨wi, rfl⟩ : ∃ wi : World, wi = wr := ⟨_, rfl⟩
    clear ho hb
    have hwi := HBI.out.size
    have hmk := maxK_len L k
    obtain ⟨Ao, co, rfl, _⟩ := OwI.form HO.out
    by_cases hlt : k < L.length
    · have HMK := Lib.hid (maxK_succ L k hlt)
      have hkI : (k : Int) < (L.length : Int) := by omega
      have HK64 : Hid (I64 (k : Int)) := Lib.hid (by unfold I64; omega)
      obtain ⟨ba, offa, sa, rfl, hba, c0, c1, c2, haa⟩ := (H.out.below HBI.out).at hlt
      obtain ⟨Aa, ca, rfl, _⟩ := haa.inner
      have HAA := Lib.hid haa
      have HMB0 : Hid (maxB L L[k] = (mxT L[k] && L.all fun b => !mxB L[k] b)) := Lib.hid rfl
      have HMT : Hid (mxT L[k] = (coreB L[k] && !wholeB L[k])) := Lib.hid rfl
      clear haa
      generalize maxB L L[k] = MB at *
      generalize L[k] = a at *
      have HSUB := Lib.hid (fun W' (hb : Below wi.heap.size wi W') => implIsCore_any _ a W' (HAA.out.below hb))
      have HWHO := Lib.hid (fun W' (hb : Below wi.heap.size wi W') => implIsWhole_any _ a W' (HAA.out.below hb))
      obtain ⟨WA, hWA⟩ : ∃ WA, WA = wi.alloc (Obj.cells #[Value.int IntKind.i64 a.1, Value.int IntKind.i64 a.2.1, .slice Aa a.2.2.length ca] 45) := ⟨_, rfl⟩
      obtain ⟨hsA, bA, hcA⟩ := gboxE hWA
      have HCA := Lib.hid hcA
      have HBA0 := Lib.hid bA
      have HBA : Hid (Below w.heap.size w WA) := Lib.hid (HBI.out.trans (bA.mono (by omega)))
      have hAs : wi.heap.size + 1 ≤ WA.heap.size := by omega
      go_wp2_with fail
      rw [← hWA]
      clear hWA bA hcA c0 c1 c2
      refine (HSUB.out WA HBA0.out).mono ?_
      rintro e w2 ⟨rfl, b2⟩
      have hs2 := b2.size
      have B2 := Lib.hid b2
      clear b2 hsA
      rcases ec : coreB a with _ | _
      · have HMB : Hid (MB = false) := Lib.hid (by rw [HMB0.out, HMT.out, ec]; rfl)
        have B5 := B2
        clear ec
        go_wp2
        go_loopw [6, 26] (fun t i wr => ∃ j : Nat, j ≤ L.length ∧ i = .int .i64 j ∧ t = .bool false ∧ Below WA.heap.size WA wr) (fun _ i _ => L.length - (intOf i).toNat)
        case atStart => exact ⟨0, Nat.zero_le _, rfl, rfl, B5.out⟩
        case round =>
          obtain ⟨j, hj, rfl, rfl, hb⟩ := hrel
          have HBj := Lib.hid hb
          obtain ⟨wj, rfl⟩ : ∃ wj : World, wj = wr := ⟨_, rfl⟩
          have hwj := hb.size
          clear hb
          by_cases hlt2 : j < L.length
          · obtain ⟨bb, offb, sb, hA2, hbb, d0, d1, d2, hab⟩ := ((H.out.below HBA.out).below HBj.out).at hlt2
            obtain ⟨rfl, rfl⟩ : ba = bb ∧ offa = offb := by simpa using hA2
            obtain ⟨Ab, cb, rfl, _⟩ := hab.inner
            have hjI : (j : Int) < (L.length : Int) := by omega
            clear hA2 hab
            generalize L[j] = b at *
            obtain ⟨b1, b2, fs⟩ := b
            simp only at *
            have HBB : Hid (Below WA.heap.size WA (wj.alloc (Obj.cells #[Value.int IntKind.i64 b1, Value.int IntKind.i64 b2, .slice Ab fs.length cb] 45))) := Lib.hid (HBj.out.alloc hwj _)
            go_wp2
            go_roundw
            case rel => exact ⟨j + 1, by omega, by go_num, rfl, HBB.out⟩
            case measure => simp [intOf]; omega
          · obtain rfl : j = L.length := by omega
            have HO7 := Lib.hid ((HO.out.below HBA0.out).below HBj.out)
            have HB7 := Lib.hid (HBA.out.trans (HBj.out.mono HBA.out.size))
            have HK2 : Hid (maxK L (k + 1) = maxK L k) := Lib.hid (by rw [HMK.out, if_neg (by rw [HMB.out]; decide)])
            go_wp2
            go_roundw
            case rel => exact ⟨k + 1, by omega, by go_num, by rw [HK2.out]; exact HO7.out, HB7.out⟩
            case measure => simp [intOf]; omega
      · obtain ⟨x0, x1, x2⟩ := HCA.out w2 (B2.out.mono (by omega))
        go_wp2_with fail
        refine (HWHO.out w2 (HBA0.out.trans (B2.out.mono (by omega)))).mono ?_
        rintro e w5 ⟨rfl, b5⟩
        have hs5 := b5.size
        have B5 := Lib.hid (B2.out.trans (b5.mono (by omega)))
        clear b5 x0 x1 x2
        rcases ew0 : wholeB a with _ | _
        · have HMB : Hid (MB = L.all fun b => !mxB a b) := Lib.hid (by rw [HMB0.out, HMT.out, ec, ew0]; rfl)
          clear ec ew0
          go_wp2
          go_loopw [6, 26] (fun t i wr => ∃ j : Nat, j ≤ L.length ∧ i = .int .i64 j ∧ t = .bool ((L.take j).all fun b => !mxB a b) ∧ Below WA.heap.size WA wr) (fun _ i _ => L.length - (intOf i).toNat)
          case atStart => exact ⟨0, Nat.zero_le _, rfl, by simp, B5.out⟩
          case round =>
            obtain ⟨j, hj, rfl, rfl, hb⟩ := hrel
            have HBj := Lib.hid hb
            obtain ⟨wj, rfl⟩ : ∃ wj : World, wj = wr := ⟨_, rfl⟩
            have hwj := hb.size
            clear hb
            by_cases hlt2 : j < L.length
            · have HAL := Lib.hid (allMx_succ a L j hlt2)
              obtain ⟨bb, offb, sb, hA2, hbb, d0, d1, d2, hab⟩ := ((H.out.below HBA.out).below HBj.out).at hlt2
              obtain ⟨rfl, rfl⟩ : ba = bb ∧ offa = offb := by simpa using hA2
              obtain ⟨Ab, cb, rfl, _⟩ := hab.inner
              have HAB := Lib.hid hab
              have HIN := Lib.hid (fun W' (h1 : ArgG W' (.agg #[.int .i64 a.1, .int .i64 a.2.1, .slice Aa a.2.2.length ca]) a) (h2 : ArgG W' (.agg #[.int .i64 L[j].1, .int .i64 L[j].2.1, .slice Ab L[j].2.2.length cb]) L[j]) => implIsInside_any _ _ a L[j] W' h1 h2)
              have HEQ := Lib.hid (fun W' (h1 : ArgG W' (.agg #[.int .i64 a.1, .int .i64 a.2.1, .slice Aa a.2.2.length ca]) a) (h2 : ArgG W' (.agg #[.int .i64 L[j].1, .int .i64 L[j].2.1, .slice Ab L[j].2.2.length cb]) L[j]) => implEqualGraphs_any _ _ a L[j] W' h1 h2)
              have HWH := Lib.hid (fun W' (h2 : ArgG W' (.agg #[.int .i64 L[j].1, .int .i64 L[j].2.1, .slice Ab L[j].2.2.length cb]) L[j]) => implIsWhole_any _ L[j] W' h2)
              have HMX : Hid (mxB a L[j] = (inclS a L[j] && !decide (a = L[j]) && !wholeB L[j])) := Lib.hid rfl
              have hjI : (j : Int) < (L.length : Int) := by omega
              clear hA2 hab
              generalize mxB a L[j] = MX at *
              generalize inclS a L[j] = IN at *
              generalize decide (a = L[j]) = EQ at *
              generalize wholeB L[j] = WH at *
              generalize L[j] = b at *
              obtain ⟨b1, b2, fs⟩ := b
              simp only at *
              obtain ⟨WB, hWB⟩ : ∃ WB, WB = wj.alloc (Obj.cells #[Value.int IntKind.i64 b1, Value.int IntKind.i64 b2, .slice Ab fs.length cb] 45) := ⟨_, rfl⟩
              obtain ⟨hsB, bB, hcB⟩ := gboxE hWB
              have HCB := Lib.hid hcB
              have HBB : Hid (Below WA.heap.size WA WB) := Lib.hid (HBj.out.trans (bB.mono (by omega)))
              have HABB := Lib.hid (HAB.out.below bB)
              have HWB := Lib.hid hWB
              have hBs : wj.heap.size + 1 ≤ WB.heap.size := by omega
              clear bB hcB hWB hsB
              rcases et : ((L.take j).all fun b => !mxB a b) with _ | _
              · rw [et] at HAL
                go_wp2
                rw [← HWB.out]
                go_roundw
                case rel => exact ⟨j + 1, by omega, by go_num, by rw [HAL.out]; rfl, HBB.out⟩
                case measure => simp [intOf]; omega
              · rw [et] at HAL
                obtain ⟨y0, y1, y2⟩ := HCA.out wj (HBj.out.mono (by omega))
                have hwij : wi.heap.size < wj.heap.size := by omega
                go_wp2_with fail
                rw [← HWB.out]
                refine (HEQ.out WB (HAA.out.below (HBA0.out.trans (HBB.out.mono (by omega)))) HABB.out).mono ?_
                rintro e w6 ⟨rfl, b6⟩
                have hs6 := b6.size
                have HB6 := Lib.hid (HBB.out.trans (b6.mono (by omega)))
                have HAB6 := Lib.hid (HABB.out.below b6)
                obtain ⟨z0, z1, z2⟩ := HCB.out w6 (b6.mono (by omega))
                have BB6 : Hid (Below (wj.heap.size + 1) WB w6) := Lib.hid (b6.mono (by omega))
                clear b6 y0 y1 y2 d0 d1 d2
                obtain ⟨y0, y1, y2⟩ := HCA.out w6 (HB6.out.mono (by omega))
                rcases ee : EQ with _ | _
                rotate_left
                · rw [ee] at HMX
                  have HT : Hid (((L.take (j + 1)).all fun b => !mxB a b) = true) := Lib.hid (by rw [HAL.out, HMX.out]; simp)
                  go_wp2
                  go_roundw
                  case rel => exact ⟨j + 1, by omega, by go_num, by rw [HT.out], HB6.out⟩
                  case measure => simp [intOf]; omega
                · rw [ee] at HMX
                  go_wp2_with fail
                  refine (HWH.out w6 HAB6.out).mono ?_
                  rintro e w7 ⟨rfl, b7⟩
                  have hs7 := b7.size
                  have HB7 := Lib.hid (HB6.out.trans (b7.mono (by omega)))
                  have HAB7 := Lib.hid (HAB6.out.below b7)
                  have BB7 : Hid (Below (wj.heap.size + 1) WB w7) := Lib.hid (BB6.out.trans (b7.mono (by omega)))
                  clear b7 y0 y1 y2 z0 z1 z2
                  obtain ⟨y0, y1, y2⟩ := HCA.out w7 (HB7.out.mono (by omega))
                  obtain ⟨z0, z1, z2⟩ := HCB.out w7 BB7.out
                  rcases ew : WH with _ | _
                  rotate_left
                  · rw [ew] at HMX
                    have HT : Hid (((L.take (j + 1)).all fun b => !mxB a b) = true) := Lib.hid (by rw [HAL.out, HMX.out]; simp)
                    go_wp2
                    go_roundw
                    case rel => exact ⟨j + 1, by omega, by go_num, by rw [HT.out], HB7.out⟩
                    case measure => simp [intOf]; omega
                  · rw [ew] at HMX
                    go_wp2_with fail
                    refine (HIN.out w7 (HAA.out.below (HBA0.out.trans (HB7.out.mono (by omega)))) HAB7.out).mono ?_
                    rintro e w8 ⟨rfl, b8⟩
                    have HB8 := Lib.hid (HB7.out.trans (b8.mono (by omega)))
                    have HT : Hid (((L.take (j + 1)).all fun b => !mxB a b) = !IN) := Lib.hid (by rw [HAL.out, HMX.out]; simp)
                    clear b8 y0 y1 y2 z0 z1 z2
                    rcases ei : IN with _ | _
                    · rw [ei] at HT
                      go_wp2
                      go_roundw
                      case rel => exact ⟨j + 1, by omega, by go_num, by rw [HT.out]; rfl, HB8.out⟩
                      case measure => simp [intOf]; omega
                    · rw [ei] at HT
                      go_wp2
                      go_roundw
                      case rel => exact ⟨j + 1, by omega, by go_num, by rw [HT.out]; rfl, HB8.out⟩
                      case measure => simp [intOf]; omega
            · obtain rfl : j = L.length := by omega
              rw [List.take_length]
              have HO7 := Lib.hid ((HO.out.below HBA0.out).below HBj.out)
              have HB7 := Lib.hid (HBA.out.trans (HBj.out.mono HBA.out.size))
              rcases em : (L.all fun b => !mxB a b) with _ | _
              · have HK2 : Hid (maxK L (k + 1) = maxK L k) := Lib.hid (by rw [HMK.out, if_neg (by rw [HMB.out, em]; decide)])
                clear em
                go_wp2
                go_roundw
                case rel => exact ⟨k + 1, by omega, by go_num, by rw [HK2.out]; exact HO7.out, HB7.out⟩
                case measure => simp [intOf]; omega
              · have HK2 : Hid (maxK L (k + 1) = maxK L k ++ [(k : Int)]) := Lib.hid (by rw [HMK.out, if_pos (by rw [HMB.out, em])])
                have hwj7 : w.heap.size ≤ wj.heap.size := HB7.out.size
                clear em
                generalize maxK L k = MK at *
                go_wp2_with (at_builtin; refine push_int rfl (.tmp 48) (.tmp 50) rfl _ _ _ (OwI.alloc HO7.out _) rfl _ _ rfl (cell_new1 _ _ _) HK64.out (by first | omega | (simp <;> omega)) (by first | omega | (simp <;> omega)) ?_; intro v9 wv9 o9 g9 p9)
                have O9 := Lib.hid o9
                have B9 : Hid (Below w.heap.size w wv9) := Lib.hid ((HB7.out.alloc hwj7 (.cells #[.int .i64 k] 3)).grown g9 (by simp <;> omega) (fun c hc => (HO7.out.1.lt c hc).1))
                clear o9 g9 p9
                go_roundw
                case rel => exact ⟨k + 1, by omega, by go_num, by rw [HK2.out]; exact O9.out, B9.out⟩
                case measure => simp [intOf]; omega
        · have HMB : Hid (MB = false) := Lib.hid (by rw [HMB0.out, HMT.out, ec, ew0]; rfl)
          clear ec ew0
          go_wp2
          go_loopw [6, 26] (fun t i wr => ∃ j : Nat, j ≤ L.length ∧ i = .int .i64 j ∧ t = .bool false ∧ Below WA.heap.size WA wr) (fun _ i _ => L.length - (intOf i).toNat)
          case atStart => exact ⟨0, Nat.zero_le _, rfl, rfl, B5.out⟩
          case round =>
            obtain ⟨j, hj, rfl, rfl, hb⟩ := hrel
            have HBj := Lib.hid hb
            obtain ⟨wj, rfl⟩ : ∃ wj : World, wj = wr := ⟨_, rfl⟩
            have hwj := hb.size
            clear hb
            by_cases hlt2 : j < L.length
            · obtain ⟨bb, offb, sb, hA2, hbb, d0, d1, d2, hab⟩ := ((H.out.below HBA.out).below HBj.out).at hlt2
              obtain ⟨rfl, rfl⟩ : ba = bb ∧ offa = offb := by simpa using hA2
              obtain ⟨Ab, cb, rfl, _⟩ := hab.inner
              have hjI : (j : Int) < (L.length : Int) := by omega
              clear hA2 hab
              generalize L[j] = b at *
              obtain ⟨b1, b2, fs⟩ := b
              simp only at *
              have HBB : Hid (Below WA.heap.size WA (wj.alloc (Obj.cells #[Value.int IntKind.i64 b1, Value.int IntKind.i64 b2, .slice Ab fs.length cb] 45))) := Lib.hid (HBj.out.alloc hwj _)
              go_wp2
              go_roundw
              case rel => exact ⟨j + 1, by omega, by go_num, rfl, HBB.out⟩
              case measure => simp [intOf]; omega
            · obtain rfl : j = L.length := by omega
              have HO7 := Lib.hid ((HO.out.below HBA0.out).below HBj.out)
              have HB7 := Lib.hid (HBA.out.trans (HBj.out.mono HBA.out.size))
              have HK2 : Hid (maxK L (k + 1) = maxK L k) := Lib.hid (by rw [HMK.out, if_neg (by rw [HMB.out]; decide)])
              go_wp2
              go_roundw
              case rel => exact ⟨k + 1, by omega, by go_num, by rw [HK2.out]; exact HO7.out, HB7.out⟩
              case measure => simp [intOf]; omega
    · obtain rfl : k = L.length := by omega
      have F : Hid (maxF L = maxK L L.length) := Lib.hid rfl
      go_wp2
      go_ret
      exact ⟨_, rfl, by rw [F.out]; exact HO.out, HBI.out⟩

def incR (L : List GrD) (a : GrD) : List Bool := L.map fun b => inclS a b
theorem incR_take (L : List GrD) (a : GrD) (j : Nat) (h : j < L.length) : (incR L a).take (j + 1) = (incR L a).take j ++ [inclS a L[j]] := by
  rw [List.take_succ_eq_append_getElem (by simpa [incR] using h)]
  simp [incR]
theorem incF_take (L : List GrD) (k : Nat) (h : k < L.length) : (incF L).take (k + 1) = (incF L).take k ++ [incR L L[k]] := by
  rw [List.take_succ_eq_append_getElem (by simpa [incF] using h)]
  simp [incF, incR]
theorem inc_cnt' (L : List GrD) : ∀ M : List GrD, cntL cBo (M.map fun a => incR L a) = M.length * L.length
  | [] => by simp [cntL]
  | a :: M => by
    rw [List.map_cons, cntL_cons, inc_cnt' L M, List.length_cons, Nat.succ_mul]
    simp [cBo, incR]; omega
theorem inc_cnt (L : List GrD) (h : L.length ≤ 1048576) : cntL cBo (incF L) ≤ 1100000000000 ∧ ∀ d ∈ incF L, d.length ≤ 1073741824 := by
  constructor
  · have h1 : cntL cBo (incF L) = L.length * L.length := inc_cnt' L L
    have h2 : L.length * L.length ≤ 1048576 * 1048576 := Nat.mul_le_mul h h
    omega
  · intro d hd
    simp only [incF, List.mem_map] at hd
    obtain ⟨a, _, rfl⟩ := hd
    simp; omega
theorem wp_push_bool {w : World} {o : Oper} {a : Act} {K : Act → World → Prop} {Q : Exit → Act → World → Prop} (s x : Operand)
    (ho : o.op = .call { callee := .builtin .append, args := #[s, x], argTypes := #[55, 55] })
    (base : Nat) (v : Value) (bs : List Bool) (hown : OwB w base v bs) (hs : a.eval s = v) (b : Nat) (z : Bool) (hx : a.eval x = .slice (some ⟨b, 0, none⟩) 1 1)
    (hc : w.cell? ⟨b, 0, none⟩ = some (.bool z)) (hl : bs.length ≤ 1073741824) (hbase : base ≤ w.heap.size)
    (h : ∀ v' w', OwB w' base v' (bs ++ [z]) → w.grownBy w' v.ownBlock → K (a.put o.dst v') w') :
    o.wp Tryz.prog a w K Q := by
  obtain ⟨i0, hi0, hz0, hz1, hz2⟩ := info_parts bool_info
  obtain ⟨v', w', hrun, h1, h2, _, _⟩ := run_append_own_at (P := Tryz.prog) w base 55 o.type 4 i0 _ 1 1 Tryz.underlying55 hi0 hz0 hz1 hz2 rfl (by decide) v bs.length (bools bs) hown ⟨b, 0, none⟩ 1 1 [.bool z] rfl
    (fun j u hj => by
      match j, hj with
      | 0, hj => simp at hj; subst hj; rw [Addr.add_lit]; exact hc) (by intro u hu; simp at hu; subst hu; rfl) (by unfold maxLen; omega) (by omega) hbase
  unfold Oper.wp execOp
  simp only [ho, resolve, invoke, builtin, Sem.run_bind, Sem.run_pure, Result.andThen_ok, List.map_toArray, List.map_cons, List.map_nil, hs, hx, hrun]
  refine h v' w' ?_ h2
  unfold OwB
  rw [List.length_append]
  have e1 : bools (bs ++ [z]) = bools bs ++ [.bool z] := by simp [bools]
  rw [e1]
  exact h1
theorem step_push_bool {w : World} {ops : Array Oper} {o : Oper} {a : Act} {K : Act → World → Prop} {Q : Exit → Act → World → Prop} {E : Prop} (hgd : o.guard = none) (s x : Operand)
    (ho : o.op = .call { callee := .builtin .append, args := #[s, x], argTypes := #[55, 55] })
    (base : Nat) (v : Value) (bs : List Bool) (hown : OwB w base v bs) (hs : a.eval s = v) (b : Nat) (z : Bool) (hx : a.eval x = .slice (some ⟨b, 0, none⟩) 1 1)
    (hc : w.cell? ⟨b, 0, none⟩ = some (.bool z)) (hl : bs.length ≤ 1073741824) (hbase : base ≤ w.heap.size)
    (h : ∀ v' w', OwB w' base v' (bs ++ [z]) → w.grownBy w' v.ownBlock → K (a.put o.dst v') w') :
    if Region.wanted o (yielded ops a.tmps) = true then Oper.wp Tryz.prog o a w K Q else E := by
  have hw : Region.wanted o (yielded ops a.tmps) = true := by simp [Region.wanted, hgd]
  rw [if_pos hw]
  exact wp_push_bool s x ho base v bs hown hs b z hx hc hl hbase h
set_option maxHeartbeats 3000000 in
theorem specInclusionTable_any (v : Value) (L : List GrD) (w : World) (h : ArgGS w v L) (hl : L.length ≤ 1048576) :
    Calls Tryz.prog 9 #[v] w fun e w' => ∃ r, e = .returned r ∧ OwBB w.heap.size w'.heap.size r (incF L) w' ∧ Below w.heap.size w w' := by
  have H := Lib.hid h
  obtain ⟨A, cap, rfl, hcap, hm, _⟩ := h
  unfold maxLen at hm
  go_enter Tryz.func9, Tryz.ntmps9
  go_wp2_with fail
  go_loopw [3, 4] (fun out i wr => ∃ k : Nat, k ≤ L.length ∧ i = .int .i64 k ∧ OwBB w.heap.size wr.heap.size out ((incF L).take k) wr ∧ Below w.heap.size w wr) (fun _ i _ => L.length - (intOf i).toNat)
  case atStart => exact ⟨0, Nat.zero_le _, rfl, by have := OwBB_lit w w.heap.size rfl (Nat.le_refl _); simpa using this, (Below.refl _ _).alloc (Nat.le_refl _) _⟩
  case round =>
    obtain ⟨k, hk, rfl, ho, hb⟩ := hrel
    have HO := Lib.hid ho
    have HBI := Lib.hid hb
    obtain ⟨wi, rfl⟩ : ∃ wi : World, wi = wr := ⟨_, rfl⟩
    obtain ⟨Ao, co, rfl, _⟩ := OwnL.len ho
    clear ho hb
    have hwi := HBI.out.size
    by_cases hlt : k < L.length
    · have HTK := Lib.hid (incF_take L k hlt)
      have hol : ((incF L).take k).length ≤ 1048576 := by simp [incF]; omega
      generalize (incF L).take k = T0 at *
      have hkI : (k : Int) < (L.length : Int) := by omega
      obtain ⟨ba, offa, sa, rfl, hba, c0, c1, c2, haa⟩ := (H.out.below HBI.out).at hlt
      have HAA := Lib.hid haa
      clear haa
      generalize L[k] = a at *
      have hRL : (incR L a).length = L.length := by simp [incR]
      go_wp2
      go_loopw [5, 6] (fun row i wr => ∃ j : Nat, j ≤ L.length ∧ i = .int .i64 j ∧ OwB wr wi.heap.size row ((incR L a).take j) ∧ Below wi.heap.size wi wr) (fun _ i _ => L.length - (intOf i).toNat)
      case atStart => exact ⟨0, Nat.zero_le _, rfl, OwB_litN wi wi.heap.size rfl (Nat.le_refl _), (Below.refl _ _).alloc (Nat.le_refl _) _⟩
      case round =>
        obtain ⟨j, hj, rfl, hor, hb⟩ := hrel
        have HBj := Lib.hid hb
        have HOR := Lib.hid hor
        obtain ⟨wj, rfl⟩ : ∃ wj : World, wj = wr := ⟨_, rfl⟩
        have hwj := hb.size
        obtain ⟨Ar, cr, rfl, _⟩ := OwB.form hor
        clear hb hor
        by_cases hlt2 : j < L.length
        · have HTJ := Lib.hid (incR_take L a j hlt2)
          obtain ⟨bb, offb, sb, hA2, hbb, d0, d1, d2, hab⟩ := (H.out.below HBI.out).at hlt2
          obtain ⟨rfl, rfl⟩ : ba = bb ∧ offa = offb := by simpa using hA2
          have HIN := Lib.hid (fun W' (hb : Below wi.heap.size wi W') => specIsInside_any _ _ a L[j] W' (HAA.out.below hb) (hab.below hb))
          have hjI : (j : Int) < (L.length : Int) := by omega
          have hrl : ((incR L a).take j).length ≤ 1048576 := by simp; omega
          clear hA2 hab
          generalize inclS a L[j] = IN at *
          generalize (incR L a).take j = R at *
          generalize L[j] = b at *
          obtain ⟨b1, b2, fs⟩ := b
          simp only at *
          have f0 := (HBj.out.cell (p := ⟨ba, offa + k * 3, none⟩) hba).trans c0
          have f1 := (HBj.out.cell (p := ⟨ba, offa + k * 3 + 1, none⟩) hba).trans c1
          have f2 := (HBj.out.cell (p := ⟨ba, offa + k * 3 + 2, none⟩) hba).trans c2
          have f3 := (HBj.out.cell (p := ⟨ba, offa + j * 3, none⟩) hba).trans d0
          have f4 := (HBj.out.cell (p := ⟨ba, offa + j * 3 + 1, none⟩) hba).trans d1
          have f5 := (HBj.out.cell (p := ⟨ba, offa + j * 3 + 2, none⟩) hba).trans d2
          have HBD : Hid (Below wj.heap.size wj wj.drew) := Lib.hid (Below.refl wj.heap.size wj).drew
          go_wp2_with fail
          go_region_held3 (fun w' => w'.cell? ⟨ba, offa + k * 3, none⟩ = some (.int .i64 a.1) ∧ w'.cell? ⟨ba, offa + k * 3 + 1, none⟩ = some (.int .i64 a.2.1) ∧ w'.cell? ⟨ba, offa + k * 3 + 2, none⟩ = some sa ∧ w'.cell? ⟨ba, offa + j * 3, none⟩ = some (.int .i64 b1) ∧ w'.cell? ⟨ba, offa + j * 3 + 1, none⟩ = some (.int .i64 b2) ∧ w'.cell? ⟨ba, offa + j * 3 + 2, none⟩ = some sb)
            (first | go_keep | exact ⟨s0, s1, s2, s3, s4, s5⟩)
            (first
              | (go_at_call 35; with_reducible refine (HIN.out _ (HBj.out.trans (HBD.out.mono (by omega)))).mono ?_; rintro e w9 ⟨rfl, b9⟩; have HB9 : Hid (Below wj.heap.size wj w9) := Lib.hid (HBD.out.trans (b9.mono (Nat.le_refl _))); have HBI9 : Hid (Below wi.heap.size wi w9) := Lib.hid (HBj.out.trans (HB9.out.mono hwj)); have hs9 := HB9.out.size; have s0 := (HBI9.out.cell (p := ⟨ba, offa + k * 3, none⟩) hba).trans c0; have s1 := (HBI9.out.cell (p := ⟨ba, offa + k * 3 + 1, none⟩) hba).trans c1; have s2 := (HBI9.out.cell (p := ⟨ba, offa + k * 3 + 2, none⟩) hba).trans c2; have s3 := (HBI9.out.cell (p := ⟨ba, offa + j * 3, none⟩) hba).trans d0; have s4 := (HBI9.out.cell (p := ⟨ba, offa + j * 3 + 1, none⟩) hba).trans d1; have s5 := (HBI9.out.cell (p := ⟨ba, offa + j * 3 + 2, none⟩) hba).trans d2; clear b9)
              | (refine step_push_bool rfl (.tmp 21) (.tmp 31) rfl wi.heap.size _ R ((HOR.out.below HB9.out).alloc _) rfl w9.heap.size IN rfl (cell_new1 _ _ _) (by omega) (by simp; omega) ?_; intro v11 w11 o11 g11; have O11 := Lib.hid o11; have B11 : Hid (Below wi.heap.size wi w11) := Lib.hid ((HBI9.out.alloc (by omega) (.cells #[.bool IN] 4)).grown g11 (by simp; omega) (fun c hc => (World.ownsRow.lt HOR.out c hc).1)); have s0 := (B11.out.cell (p := ⟨ba, offa + k * 3, none⟩) hba).trans c0; have s1 := (B11.out.cell (p := ⟨ba, offa + k * 3 + 1, none⟩) hba).trans c1; have s2 := (B11.out.cell (p := ⟨ba, offa + k * 3 + 2, none⟩) hba).trans c2; have s3 := (B11.out.cell (p := ⟨ba, offa + j * 3, none⟩) hba).trans d0; have s4 := (B11.out.cell (p := ⟨ba, offa + j * 3 + 1, none⟩) hba).trans d1; have s5 := (B11.out.cell (p := ⟨ba, offa + j * 3 + 2, none⟩) hba).trans d2; clear o11 g11))
          go_wp2
          go_roundw
          case rel => exact ⟨j + 1, by omega, by go_num, by rw [HTJ.out]; exact O11.out, B11.out⟩
          case measure => simp [intOf]; omega
        · obtain rfl : j = L.length := by omega
          have HRF : Hid ((incR L a).take L.length = incR L a) := Lib.hid (by rw [← hRL, List.take_length])
          have HB7 : Hid (Below w.heap.size w wj) := Lib.hid (HBI.out.trans (HBj.out.mono hwi))
          rw [← HRF.out] at HTK
          generalize (incR L a).take L.length = R at *
          have hbo : ∀ c, (Value.slice Ao T0.length co).ownBlock = some c → w.heap.size ≤ c := fun c hc => (OwnL.lt HO.out hc).1
          go_wp2_with (at_builtin; refine push_bools rfl (.tmp 33) (.tmp 35) rfl HO.out hwi (HBj.out.alloc hwj _) rfl _ _ R rfl (HOR.out.alloc _) (Nat.le_refl _) (cell_new1 _ _ _) rfl (by omega) ?_; intro v9 w9 o9 g9)
          have O9 := Lib.hid o9
          have B9 : Hid (Below w.heap.size w w9) := Lib.hid ((HB7.out.alloc (by omega) _).grown g9 (by simp; omega) hbo)
          clear o9 g9
          go_roundw
          case rel => exact ⟨k + 1, by omega, by go_num, by rw [HTK.out]; exact O9.out, B9.out⟩
          case measure => simp [intOf]; omega
    · obtain rfl : k = L.length := by omega
      have F : Hid ((incF L).take L.length = incF L) := Lib.hid (List.take_of_length_le (by simp [incF]))
      generalize (incF L).take L.length = T0 at *
      go_wp2
      go_ret
      exact ⟨_, rfl, by rw [← F.out]; exact HO.out, HBI.out⟩
set_option maxHeartbeats 3000000 in
theorem implInclusionTable_any (v : Value) (L : List GrD) (w : World) (h : ArgGS w v L) (hl : L.length ≤ 1048576) :
    Calls Tryz.prog 11 #[v] w fun e w' => ∃ r, e = .returned r ∧ OwBB w.heap.size w'.heap.size r (incF L) w' ∧ Below w.heap.size w w' := by
  have H := Lib.hid h
  obtain ⟨A, cap, rfl, hcap, hm, _⟩ := h
  unfold maxLen at hm
  go_enter Tryz.func11, Tryz.ntmps11
  go_wp2_with fail
  go_loopw [3, 12] (fun out i wr => ∃ k : Nat, k ≤ L.length ∧ i = .int .i64 k ∧ OwBB w.heap.size wr.heap.size out ((incF L).take k) wr ∧ Below w.heap.size w wr) (fun _ i _ => L.length - (intOf i).toNat)
  case atStart => exact ⟨0, Nat.zero_le _, rfl, by have := OwBB_lit w w.heap.size rfl (Nat.le_refl _); simpa using this, (Below.refl _ _).alloc (Nat.le_refl _) _⟩
  case round =>
    obtain ⟨k, hk, rfl, ho, hb⟩ := hrel
    have HO := Lib.hid ho
    have HBI := Lib.hid hb
    obtain ⟨wi, rfl⟩ : ∃ wi : World, wi = wr := ⟨_, rfl⟩
    obtain ⟨Ao, co, rfl, _⟩ := OwnL.len ho
    clear ho hb
    have hwi := HBI.out.size
    by_cases hlt : k < L.length
    · have HTK := Lib.hid (incF_take L k hlt)
      have hol : ((incF L).take k).length ≤ 1048576 := by simp [incF]; omega
      generalize (incF L).take k = T0 at *
      have hkI : (k : Int) < (L.length : Int) := by omega
      obtain ⟨ba, offa, sa, rfl, hba, c0, c1, c2, haa⟩ := (H.out.below HBI.out).at hlt
      obtain ⟨Aa, ca, rfl, _⟩ := haa.inner
      have HAA := Lib.hid haa
      clear haa
      generalize L[k] = a at *
      have hRL : (incR L a).length = L.length := by simp [incR]
      obtain ⟨WA, hWA⟩ : ∃ WA, WA = wi.alloc (Obj.cells #[Value.int IntKind.i64 a.1, Value.int IntKind.i64 a.2.1, .slice Aa a.2.2.length ca] 45) := ⟨_, rfl⟩
      obtain ⟨hsA, bA, hcA⟩ := gboxE hWA
      have HCA := Lib.hid hcA
      have HBA0 := Lib.hid bA
      have HBA : Hid (Below w.heap.size w WA) := Lib.hid (HBI.out.trans (bA.mono (by omega)))
      have HWA := Lib.hid hWA
      have hAs : wi.heap.size + 1 ≤ WA.heap.size := by omega
      have hA0 : Below (wi.heap.size + 1) WA (WA.alloc (.cells #[] 4)) := (Below.refl _ _).alloc (by omega) _
      go_wp2
      rw [← HWA.out]
      clear hWA bA hcA c0 c1 c2 hA0
      go_loopw [6, 19] (fun row i wr => ∃ j : Nat, j ≤ L.length ∧ i = .int .i64 j ∧ OwB wr WA.heap.size row ((incR L a).take j) ∧ Below WA.heap.size WA wr) (fun _ i _ => L.length - (intOf i).toNat)
      case atStart => exact ⟨0, Nat.zero_le _, rfl, by first | exact OwB_litN WA _ rfl (Nat.le_refl _) | exact OwB_litN WA (wi.heap.size + 1) hsA (by omega), (Below.refl _ _).alloc (Nat.le_refl _) _⟩
      case round =>
        obtain ⟨j, hj, rfl, hor, hb⟩ := hrel
        have HBj := Lib.hid hb
        have HOR := Lib.hid hor
        obtain ⟨wj, rfl⟩ : ∃ wj : World, wj = wr := ⟨_, rfl⟩
        have hwj := hb.size
        obtain ⟨Ar, cr, rfl, _⟩ := OwB.form hor
        clear hb hor
        by_cases hlt2 : j < L.length
        · have HTJ := Lib.hid (incR_take L a j hlt2)
          obtain ⟨bb, offb, sb, hA2, hbb, d0, d1, d2, hab⟩ := ((H.out.below HBA.out).below HBj.out).at hlt2
          obtain ⟨rfl, rfl⟩ : ba = bb ∧ offa = offb := by simpa using hA2
          obtain ⟨Ab, cb, rfl, _⟩ := hab.inner
          have HAB := Lib.hid hab
          have HIN := Lib.hid (fun W' (h1 : ArgG W' (.agg #[.int .i64 a.1, .int .i64 a.2.1, .slice Aa a.2.2.length ca]) a) (h2 : ArgG W' (.agg #[.int .i64 L[j].1, .int .i64 L[j].2.1, .slice Ab L[j].2.2.length cb]) L[j]) => implIsInside_any _ _ a L[j] W' h1 h2)
          have hjI : (j : Int) < (L.length : Int) := by omega
          have hrl : ((incR L a).take j).length ≤ 1048576 := by simp; omega
          clear hA2 hab
          generalize inclS a L[j] = IN at *
          generalize (incR L a).take j = R at *
          generalize L[j] = b at *
          obtain ⟨b1, b2, fs⟩ := b
          simp only at *
          obtain ⟨WB, hWB⟩ : ∃ WB, WB = wj.alloc (Obj.cells #[Value.int IntKind.i64 b1, Value.int IntKind.i64 b2, .slice Ab fs.length cb] 45) := ⟨_, rfl⟩
          obtain ⟨hsB, bB, hcB⟩ := gboxE hWB
          have HBB : Hid (Below WA.heap.size WA WB) := Lib.hid (HBj.out.trans (bB.mono (by omega)))
          have HABB := Lib.hid (HAB.out.below bB)
          have HORB := Lib.hid (HOR.out.below bB)
          have HWB := Lib.hid hWB
          have hBs : wj.heap.size + 1 ≤ WB.heap.size := by omega
          clear bB hcB hWB hsB
          obtain ⟨y0, y1, y2⟩ := HCA.out wj (HBj.out.mono (by omega))
          have hwij : wi.heap.size < wj.heap.size := by omega
          go_wp2_with fail
          rw [← HWB.out]
          refine (HIN.out WB (HAA.out.below (HBA0.out.trans (HBB.out.mono (by omega)))) HABB.out).mono ?_
          rintro e w6 ⟨rfl, b6⟩
          have hs6 := b6.size
          have HB6 := Lib.hid (HBB.out.trans (b6.mono (by omega)))
          have HOR6 := Lib.hid (HORB.out.below b6)
          clear b6 y0 y1 y2 d0 d1 d2
          go_wp2_with (at_builtin; refine push_bool rfl (.tmp 23) (.tmp 27) rfl WA.heap.size _ R (HOR6.out.alloc _) rfl _ IN rfl (cell_new1 _ _ _) (by omega) (by simp; omega) ?_; intro v9 w9 o9 g9)
          have O9 := Lib.hid o9
          have B9 : Hid (Below WA.heap.size WA w9) := Lib.hid ((HB6.out.alloc (by omega) _).grown g9 (by simp; omega) (fun c hc => (World.ownsRow.lt HOR.out c hc).1))
          clear o9 g9
          go_roundw
          case rel => exact ⟨j + 1, by omega, by go_num, by rw [HTJ.out]; exact O9.out, B9.out⟩
          case measure => simp [intOf]; omega
        · obtain rfl : j = L.length := by omega
          have HRF : Hid ((incR L a).take L.length = incR L a) := Lib.hid (by rw [← hRL, List.take_length])
          have HBW : Hid (Below wi.heap.size wi wj) := Lib.hid (HBA0.out.trans (HBj.out.mono (by omega)))
          have HB7 : Hid (Below w.heap.size w wj) := Lib.hid (HBI.out.trans (HBW.out.mono hwi))
          rw [← HRF.out] at HTK
          generalize (incR L a).take L.length = R at *
          have hbo : ∀ c, (Value.slice Ao T0.length co).ownBlock = some c → w.heap.size ≤ c := fun c hc => (OwnL.lt HO.out hc).1
          go_wp2_with (at_builtin; refine push_bools rfl (.tmp 30) (.tmp 32) rfl HO.out hwi (HBW.out.alloc (by omega) _) rfl _ _ R rfl (HOR.out.alloc _) (by omega) (cell_new1 _ _ _) rfl (by omega) ?_; intro v9 w9 o9 g9)
          have O9 := Lib.hid o9
          have B9 : Hid (Below w.heap.size w w9) := Lib.hid ((HB7.out.alloc (by omega) _).grown g9 (by simp; omega) hbo)
          clear o9 g9
          go_roundw
          case rel => exact ⟨k + 1, by omega, by go_num, by rw [HTK.out]; exact O9.out, B9.out⟩
          case measure => simp [intOf]; omega
    · obtain rfl : k = L.length := by omega
      have F : Hid ((incF L).take L.length = incF L) := Lib.hid (List.take_of_length_le (by simp [incF]))
      generalize (incF L).take L.length = T0 at *
      go_wp2
      go_ret
      exact ⟨_, rfl, by rw [← F.out]; exact HO.out, HBI.out⟩
end Go.Proofs.YtpemfkncjhhagaaGreat
