/- The library's sort of a row of edges by the program's comparison. -/
import Derived.Test.YtodkandjcodnjaaGrH
import Derived.Shelf.SlSortCmp.WholeK
import Derived.Ground.SlsfProg
namespace Go.Proofs.Ytodkandjcodnjaa
set_option maxRecDepth 20000
set_option linter.unusedVariables false
set_option linter.unusedSimpArgs false
open Go.RowKit Go.Shelf Go.Lib Go.Sort
def Try.sortE_ren : Go.Shelf.Ren := ⟨fun | 6 => 83 | 15 => 87 | 14 => 88 | 28 => 98 | 29 => 99 | 20 => 100 | 21 => 101 | 22 => 102 | 23 => 103 | 24 => 104 | 25 => 105 | 26 => 106 | 27 => 107 | 46 => 114 | 47 => 109 | 48 => 110 | 49 => 115 | 50 => 116 | 57 => 118 | n => n, fun | 22 => 34 | 24 => 62 | 25 => 82 | 3 => 3 | 39 => 96 | 0 => 0 | 53 => 108 | 55 => 110 | 4 => 4 | 46 => 100 | 45 => 99 | 50 => 105 | 5 => 5 | 9 => 9 | 66 => 116 | 70 => 120 | 76 => 124 | 77 => 125 | n => n, fun | n => n⟩
theorem Try.sortE : Go.Proofs.SlLaysF0.n6 Try.prog Try.sortE_ren := {
  mixed := by kernel_rfl,
  f6 := ⟨Try.f83.name, by decide, Try.func83.trans (congrArg some (by kernel_rfl))⟩,
  f14 := ⟨Try.f88.name, by decide, Try.func88.trans (congrArg some (by kernel_rfl))⟩,
  f15 := Try.func87.trans (congrArg some (by kernel_rfl)),
  f20 := ⟨Try.f100.name, by decide, Try.func100.trans (congrArg some (by kernel_rfl))⟩,
  f21 := ⟨Try.f101.name, by decide, Try.func101.trans (congrArg some (by kernel_rfl))⟩,
  f22 := ⟨Try.f102.name, by decide, Try.func102.trans (congrArg some (by kernel_rfl))⟩,
  f23 := ⟨Try.f103.name, by decide, Try.func103.trans (congrArg some (by kernel_rfl))⟩,
  f24 := ⟨Try.f104.name, by decide, Try.func104.trans (congrArg some (by kernel_rfl))⟩,
  f25 := ⟨Try.f105.name, by decide, Try.func105.trans (congrArg some (by kernel_rfl))⟩,
  f26 := ⟨Try.f106.name, by decide, Try.func106.trans (congrArg some (by kernel_rfl))⟩,
  f27 := ⟨Try.f107.name, by decide, Try.func107.trans (congrArg some (by kernel_rfl))⟩,
  f28 := Try.func98.trans (congrArg some (by kernel_rfl)),
  f29 := Try.func99.trans (congrArg some (by kernel_rfl)),
  f46 := ⟨Try.f114.name, by decide, Try.func114.trans (congrArg some (by kernel_rfl))⟩,
  f47 := Try.func109.trans (congrArg some (by kernel_rfl)),
  f48 := Try.func110.trans (congrArg some (by kernel_rfl)),
  f49 := ⟨Try.f115.name, by decide, Try.func115.trans (congrArg some (by kernel_rfl))⟩,
  f50 := ⟨Try.f116.name, by decide, Try.func116.trans (congrArg some (by kernel_rfl))⟩,
  f57 := ⟨Try.f118.name, by decide, Try.func118.trans (congrArg some (by kernel_rfl))⟩,
  t0 := Try.underlying0,
  a0 := Try.isAgg0,
  z0 := Try.sizeOf0,
  v0 := Try.zeroValue0,
  t3 := Try.underlying3,
  a3 := Try.isAgg3,
  z3 := Try.sizeOf3,
  v3 := Try.zeroValue3,
  t4 := Try.underlying4,
  a4 := Try.isAgg4,
  z4 := Try.sizeOf4,
  v4 := Try.zeroValue4,
  t5 := Try.underlying5,
  a5 := Try.isAgg5,
  z5 := Try.sizeOf5,
  v5 := Try.zeroValue5,
  t9 := Try.underlying9,
  a9 := Try.isAgg9,
  z9 := Try.sizeOf9,
  v9 := Try.zeroValue9,
  t22 := Try.underlying34,
  a22 := Try.isAgg34,
  z22 := Try.sizeOf34,
  v22 := Try.zeroValue34,
  t25 := Try.underlying82,
  a25 := Try.isAgg82,
  z25 := Try.sizeOf82,
  v25 := Try.zeroValue82,
  t39 := Try.underlying96,
  a39 := Try.isAgg96,
  z39 := Try.sizeOf96,
  v39 := Try.zeroValue96,
  t45 := Try.underlying99,
  a45 := Try.isAgg99,
  z45 := Try.sizeOf99,
  v45 := Try.zeroValue99,
  t46 := Try.underlying100,
  a46 := Try.isAgg100,
  z46 := Try.sizeOf100,
  v46 := Try.zeroValue100,
  t50 := Try.underlying105,
  a50 := Try.isAgg105,
  z50 := Try.sizeOf105,
  v50 := Try.zeroValue105,
  t53 := Try.underlying108,
  a53 := Try.isAgg108,
  z53 := Try.sizeOf108,
  v53 := Try.zeroValue108,
  t55 := Try.underlying110,
  a55 := Try.isAgg110,
  z55 := Try.sizeOf110,
  v55 := Try.zeroValue110,
  t66 := Try.underlying116,
  a66 := Try.isAgg116,
  z66 := Try.sizeOf116,
  v66 := Try.zeroValue116,
  t70 := Try.underlying120,
  a70 := Try.isAgg120,
  z70 := Try.sizeOf120,
  v70 := Try.zeroValue120,
  t76 := Try.underlying124,
  a76 := Try.isAgg124,
  z76 := Try.sizeOf124,
  v76 := Try.zeroValue124,
  t77 := Try.underlying125,
  a77 := Try.isAgg125,
  z77 := Try.sizeOf125,
  v77 := Try.zeroValue125 }

theorem cmpE_swo : SWO (ltOf cmpE) where
  irrefl x := by
    unfold ltOf
    simpa using cmpE_ord.irrefl x
  trans x y z h1 h2 := by
    unfold ltOf at *
    simp only [decide_eq_true_eq] at *
    exact cmpE_ord.trans h1 h2
  ntrans x y z h1 h2 := by
    unfold ltOf at *
    simp only [decide_eq_false_iff_not] at *
    rw [cmpE_neg] at *
    omega
set_option maxHeartbeats 1000000 in
theorem implCompareEdges_grow (a b : EdD) (w : World) :
    Calls Try.prog 71 #[edV a, edV b] w fun e w' => e = .returned (.int .i64 (cmpE a b)) ∧ ∃ q os', w' = grow (w.drewN q) os' := by
  obtain ⟨x, y, z⟩ := a
  obtain ⟨x', y', z'⟩ := b
  unfold edV
  rcases e1 : (cmpI x x' != 0) with _ | _
  · rcases e2 : (cmpI y y' != 0) with _ | _
    · have F : Hid (cmpE (x, y, z) (x', y', z') = cmpI z z') := Lib.hid (by simp at e1 e2; simp [cmpE, e1, e2])
      go_enter Try.func71, Try.ntmps71
      go_wp2_with (go_at_call 82; refine (compareInts_any _ _ _).mono ?_; rintro e w' ⟨rfl, rfl⟩)
      go_ret
      exact ⟨ret_int F.out.symm, 0, _, by rw [alloc_eq_grow, alloc_eq_grow, grow_grow]; rfl⟩
    · have F : Hid (cmpE (x, y, z) (x', y', z') = cmpI y y') := Lib.hid (by simp at e1 e2; simp [cmpE, e1, e2])
      go_enter Try.func71, Try.ntmps71
      go_wp2_with (go_at_call 82; refine (compareInts_any _ _ _).mono ?_; rintro e w' ⟨rfl, rfl⟩)
      go_ret
      exact ⟨ret_int F.out.symm, 0, _, by rw [alloc_eq_grow, alloc_eq_grow, grow_grow]; rfl⟩
  · have F : Hid (cmpE (x, y, z) (x', y', z') = cmpI x x') := Lib.hid (by simp at e1; simp [cmpE, e1])
    go_enter Try.func71, Try.ntmps71
    go_wp2_with (go_at_call 82; refine (compareInts_any _ _ _).mono ?_; rintro e w' ⟨rfl, rfl⟩)
    go_ret
    exact ⟨ret_int F.out.symm, 0, _, by rw [alloc_eq_grow, alloc_eq_grow, grow_grow]; rfl⟩
theorem edC_three (e : EdD) : (edC e).length = 3 := rfl
theorem edC_one (e : EdD) (v : Value) (h : v ∈ edC e) : v.oneCell' = true := by
  simp [edC] at h
  rcases h with rfl | rfl | rfl <;> rfl
theorem flatK_get (d : Array EdD) (j : Nat) (h : j < d.size * 3) : (flatK edC 3 d)[j]! = (edC d[j / 3]!)[j % 3]! := by
  unfold flatK
  rw [getElem!_pos _ _ (by simpa using h)]
  simp
theorem edCs_at (es : List EdD) (j : Nat) (h : j < es.length * 3) : (edCs es)[j]? = some ((edC (es.toArray)[j / 3]!)[j % 3]!) := by
  have hk : j / 3 < es.length := by omega
  have := edCs_get es (j / 3) (j % 3) hk (by omega)
  rw [show j / 3 * 3 + j % 3 = j by omega] at this
  rw [this, List.getElem?_eq_getElem (show j % 3 < (edC es[j / 3]).length by rw [edC_three]; omega)]
  rw [getElem!_pos (es.toArray) _ (by simpa using hk), getElem!_pos _ _ (by rw [edC_three]; omega)]
  simp
theorem OwE.holdsK {w : World} {base g n cap : Nat} {es : List EdD} (h : OwE w base (.slice (some ⟨g, 0, none⟩) n cap) es) : HoldsK edC 3 w g 0 es.toArray := by
  have hn : n = es.length := by
    rcases h.1.2 with ⟨hv, _⟩ | ⟨g', cap', cur, hv, _⟩
    · cases hv
    · injection hv
  subst hn
  intro j hj
  have hj' : j < es.length * 3 := by simpa [flatK] using hj
  refine ⟨?_, h.free _⟩
  rw [Nat.zero_add, h.1.cellAt j hj', flatK_get _ _ (by simpa using hj')]
  exact edCs_at es j hj'
theorem sortWorld_row {w : World} {base g n cap : Nat} {es : List EdD} (h : OwE w base (.slice (some ⟨g, 0, none⟩) n cap) es) (d : Array EdD) (hd : d.size = es.length) (hE : E64s d.toList) (q : Nat) (os : Array Obj) :
    OwE (sortWorldK edC 3 w g 0 q d os) base (.slice (some ⟨g, 0, none⟩) n cap) d.toList ∧ w.grownBy (sortWorldK edC 3 w g 0 q d os) (some g) := by
  have hlt := (h.1.lt g rfl).2
  have hheap : ∀ b, b < w.heap.size → (sortWorldK edC 3 w g 0 q d os).heap[b]? = if g = b then (w.heap[b]?).map (onCells (putCells id 0 (flatK edC 3 d))) else w.heap[b]? := by
    intro b hb
    show ((w.heap.modify g (onCells (putCells id 0 (flatK edC 3 d)))) ++ os)[b]? = _
    rw [Array.getElem?_append_left (by simpa using hb), Array.getElem?_modify]
  refine ⟨⟨⟨by rw [edCs_length], ?_⟩, hE⟩, rfl, rfl, rfl, ?_, fun b hb hne => ?_⟩
  · rcases h.1.2 with ⟨hv, _⟩ | ⟨g', cap', cur, hv, hg, hh, hnc, hcm, hcs, htake⟩
    · cases hv
    · injection hv with e1 e2 e3
      injection e1 with e1
      injection e1 with e1
      subst e1 e2 e3
      refine .inr ⟨g, cap, putCells id 0 (flatK edC 3 d) cur, by simp [hd], hg, ?_, by simp [hd]; exact hnc, hcm, by simp [putCells, hcs], ?_⟩
      · rw [hheap g hlt, if_pos rfl, hh]
        rfl
      · apply List.ext_getElem?
        intro j
        rw [List.getElem?_take]
        split
        · rename_i hj
          rw [Array.length_toList] at hj
          have hjc : j < cur.size := by rw [hcs]; have : d.size * 3 ≤ cap * 3 := Nat.mul_le_mul_right 3 (by omega); omega
          rw [edCs_at _ _ (by simpa using hj), Array.getElem?_toList]
          simp only [putCells, Array.getElem?_mapIdx]
          rw [Array.getElem?_eq_getElem hjc]
          simp only [Option.map_some, Nat.zero_le, true_and, Nat.zero_add, Nat.sub_zero, id]
          rw [if_pos (by simpa [flatK] using hj), flatK_get _ _ hj]
        · rename_i hj
          rw [List.getElem?_eq_none (by rw [edCs_length]; omega)]
  · show w.heap.size ≤ ((w.heap.modify g (onCells (putCells id 0 (flatK edC 3 d)))) ++ os).size
    simp
  · rw [hheap b hb, if_neg (fun e => hne (by rw [e]))]
theorem sortE_any (g n cap base : Nat) (es : List EdD) (w : World) (h : OwE w base (.slice (some ⟨g, 0, none⟩) n cap) es) (hl : es.length ≤ 1073741824) :
    Calls Try.prog 83 #[.slice (some ⟨g, 0, none⟩) n cap, .func (.func 71) #[] #[]] w fun e w' =>
      e = .returned (.tuple #[]) ∧ ∃ es', OwE w' base (.slice (some ⟨g, 0, none⟩) n cap) es' ∧ es'.Perm es ∧ (es'.Pairwise fun a b => ¬ 0 < cmpE a b) ∧ w.grownBy w' (some g) := by
  have hn : n = es.length := by
    rcases h.1.2 with ⟨hv, _⟩ | ⟨g', cap', cur, hv, _⟩
    · cases hv
    · injection hv
  subst hn
  have eg : ∀ args w, (callFunc 71 args).run Try.prog w = .ok (.enter 71 args) w := enters_of Try.func71 (by kernel_rfl) rfl
  have hcon := AnyQ.slices_SortFunc Try.sortE 3 Try.isAgg62 Try.sizeOf62 edC edC_three edC_one cmpE cmpE_swo 71 #[] g 0 cap es.toArray w eg (fun _ _ _ _ x y => implCompareEdges_grow x y _) h.holdsK (h.1.lt g rfl).2 (by simp; omega)
  change Calls Try.prog 83 _ _ _ at hcon
  refine hcon.mono ?_
  rintro e w' ⟨rfl, d, q, os, hp, hs, rfl⟩
  obtain ⟨p1, _, p3⟩ := hp
  have hperm : d.toList.Perm es := by
    have e1 : d.extract 0 es.toArray.size = d := by rw [← p1]; simp
    have e2 : es.toArray.extract 0 es.toArray.size = es.toArray := by simp
    rw [e1, e2] at p3
    simpa using p3
  have hE : E64s d.toList := fun x hx => h.2 x (hperm.mem_iff.1 hx)
  obtain ⟨o1, g1⟩ := sortWorld_row h d (by simpa using p1) hE q os
  refine ⟨rfl, d.toList, o1, hperm, ?_, g1⟩
  rw [List.pairwise_iff_getElem]
  intro i j hi hj hij
  have hi' : i < d.size := by simpa using hi
  have hj' : j < d.size := by simpa using hj
  have := hs i j (Nat.zero_le _) hij (by rw [← p1]; exact hj')
  unfold ltOf at this
  rw [decide_eq_false_iff_not, getElem!_pos d j hj', getElem!_pos d i hi'] at this
  rw [Array.getElem_toList, Array.getElem_toList]
  intro h0
  exact this (cmpE_ord.anti.2 h0)
end Go.Proofs.Ytodkandjcodnjaa
