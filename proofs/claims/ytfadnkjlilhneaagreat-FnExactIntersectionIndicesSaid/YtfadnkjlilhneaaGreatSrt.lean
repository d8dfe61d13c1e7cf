/- The library's sort of a row of edges by the program's comparison. -/
import Derived.Test.YtfadnkjlilhneaaGreatGrH
import Derived.Shelf.SlSortCmp.WholeK
import Derived.Ground.SlsfProg
namespace Go.Proofs.YtfadnkjlilhneaaGreat
set_option maxRecDepth 20000
set_option linter.unusedVariables false
set_option linter.unusedSimpArgs false
open Go.RowKit Go.Shelf Go.Lib Go.Sort
def Tryz.sortE_ren : Go.Shelf.Ren := ⟨fun | 6 => 107 | 15 => 134 | 14 => 133 | 28 => 153 | 29 => 154 | 20 => 145 | 21 => 146 | 22 => 147 | 23 => 148 | 24 => 149 | 25 => 150 | 26 => 151 | 27 => 152 | 46 => 168 | 47 => 169 | 48 => 170 | 49 => 171 | 50 => 172 | 57 => 181 | n => n, fun | 22 => 29 | 24 => 54 | 25 => 100 | 3 => 3 | 39 => 125 | 0 => 0 | 53 => 141 | 55 => 143 | 4 => 4 | 46 => 135 | 45 => 134 | 50 => 85 | 5 => 5 | 9 => 9 | 66 => 152 | 70 => 156 | 76 => 163 | 77 => 41 | n => n, fun | n => n⟩
theorem Tryz.sortE : Go.Proofs.SlLaysF0.n6 Tryz.prog Tryz.sortE_ren := {
 mixed := by kernel_rfl,
 f6 := ⟨Tryz.f107.name, by decide, Tryz.func107.trans (congrArg some (by kernel_rfl))⟩,
 f14 := ⟨Tryz.f133.name, by decide, Tryz.func133.trans (congrArg some (by kernel_rfl))⟩,
 f15 := Tryz.func134.trans (congrArg some (by kernel_rfl)),
 f20 := ⟨Tryz.f145.name, by decide, Tryz.func145.trans (congrArg some (by kernel_rfl))⟩,
 f21 := ⟨Tryz.f146.name, by decide, Tryz.func146.trans (congrArg some (by kernel_rfl))⟩,
 f22 := ⟨Tryz.f147.name, by decide, Tryz.func147.trans (congrArg some (by kernel_rfl))⟩,
 f23 := ⟨Tryz.f148.name, by decide, Tryz.func148.trans (congrArg some (by kernel_rfl))⟩,
 f24 := ⟨Tryz.f149.name, by decide, Tryz.func149.trans (congrArg some (by kernel_rfl))⟩,
 f25 := ⟨Tryz.f150.name, by decide, Tryz.func150.trans (congrArg some (by kernel_rfl))⟩,
 f26 := ⟨Tryz.f151.name, by decide, Tryz.func151.trans (congrArg some (by kernel_rfl))⟩,
 f27 := ⟨Tryz.f152.name, by decide, Tryz.func152.trans (congrArg some (by kernel_rfl))⟩,
 f28 := Tryz.func153.trans (congrArg some (by kernel_rfl)),
 f29 := Tryz.func154.trans (congrArg some (by kernel_rfl)),
 f46 := ⟨Tryz.f168.name, by decide, Tryz.func168.trans (congrArg some (by kernel_rfl))⟩,
 f47 := Tryz.func169.trans (congrArg some (by kernel_rfl)),
 f48 := Tryz.func170.trans (congrArg some (by kernel_rfl)),
 f49 := ⟨Tryz.f171.name, by decide, Tryz.func171.trans (congrArg some (by kernel_rfl))⟩,
 f50 := ⟨Tryz.f172.name, by decide, Tryz.func172.trans (congrArg some (by kernel_rfl))⟩,
 f57 := ⟨Tryz.f181.name, by decide, Tryz.func181.trans (congrArg some (by kernel_rfl))⟩,
 t0 := Tryz.underlying0,
 a0 := Tryz.isAgg0,
 z0 := Tryz.sizeOf0,
 v0 := Tryz.zeroValue0,
 t3 := Tryz.underlying3,
 a3 := Tryz.isAgg3,
 z3 := Tryz.sizeOf3,
 v3 := Tryz.zeroValue3,
 t4 := Tryz.underlying4,
 a4 := Tryz.isAgg4,
 z4 := Tryz.sizeOf4,
 v4 := Tryz.zeroValue4,
 t5 := Tryz.underlying5,
 a5 := Tryz.isAgg5,
 z5 := Tryz.sizeOf5,
 v5 := Tryz.zeroValue5,
 t9 := Tryz.underlying9,
 a9 := Tryz.isAgg9,
 z9 := Tryz.sizeOf9,
 v9 := Tryz.zeroValue9,
 t22 := Tryz.underlying29,
 a22 := Tryz.isAgg29,
 z22 := Tryz.sizeOf29,
 v22 := Tryz.zeroValue29,
 t25 := Tryz.underlying100,
 a25 := Tryz.isAgg100,
 z25 := Tryz.sizeOf100,
 v25 := Tryz.zeroValue100,
 t39 := Tryz.underlying125,
 a39 := Tryz.isAgg125,
 z39 := Tryz.sizeOf125,
 v39 := Tryz.zeroValue125,
 t45 := Tryz.underlying134,
 a45 := Tryz.isAgg134,
 z45 := Tryz.sizeOf134,
 v45 := Tryz.zeroValue134,
 t46 := Tryz.underlying135,
 a46 := Tryz.isAgg135,
 z46 := Tryz.sizeOf135,
 v46 := Tryz.zeroValue135,
 t50 := Tryz.underlying85,
 a50 := Tryz.isAgg85,
 z50 := Tryz.sizeOf85,
 v50 := Tryz.zeroValue85,
 t53 := Tryz.underlying141,
 a53 := Tryz.isAgg141,
 z53 := Tryz.sizeOf141,
 v53 := Tryz.zeroValue141,
 t55 := Tryz.underlying143,
 a55 := Tryz.isAgg143,
 z55 := Tryz.sizeOf143,
 v55 := Tryz.zeroValue143,
 t66 := Tryz.underlying152,
 a66 := Tryz.isAgg152,
 z66 := Tryz.sizeOf152,
 v66 := Tryz.zeroValue152,
 t70 := Tryz.underlying156,
 a70 := Tryz.isAgg156,
 z70 := Tryz.sizeOf156,
 v70 := Tryz.zeroValue156,
 t76 := Tryz.underlying163,
 a76 := Tryz.isAgg163,
 z76 := Tryz.sizeOf163,
 v76 := Tryz.zeroValue163,
 t77 := Tryz.underlying41,
 a77 := Tryz.isAgg41,
 z77 := Tryz.sizeOf41,
 v77 := Tryz.zeroValue41 }

theorem cmpE_swo : SWO (ltOf cmpE) where
 irrefl x := by
  unfold ltOf
  simpa using cmpE_ord.irrefl x
 trans x y z h1 h2 := by
  unfold ltOf at *
  simp only [decide_eq_true_eq] at *
  exact cmpE_ord.trans h1 h2
 ntrans x y z h1 h2 := by
  unfold ltOf at *
  simp only [decide_eq_false_iff_not] at *
  rw [cmpE_neg] at *
  omega
set_option maxHeartbeats 1000000 in
theorem implCompareEdges_grow (a b : EdD) (w : World) :
  Calls Tryz.prog 108 #[edV a, edV b] w fun e w' => e = .returned (.int .i64 (cmpE a b)) ∧ ∃ q os', w' = grow (w.drewN q) os' := by
 obtain ⟨x, y, z⟩ := a
 obtain ⟨x', y', z'⟩ := b
 unfold edV
 rcases e1 : (cmpI x x' != 0) with _ | _
 ·rcases e2 : (cmpI y y' != 0) with _ | _
  ·have F : Hid (cmpE (x, y, z) (x', y', z') = cmpI z z') := Lib.hid (by simp at e1 e2; simp [cmpE, e1, e2])
   go_enter Tryz.func108, Tryz.ntmps108
   go_wp2_with (go_at_call 135; refine (compareInts_any _ _ _).mono ?_; rintro e w' ⟨rfl, rfl⟩)
   go_ret
   exact ⟨ret_int F.out.symm, 0, _, by rw [alloc_eq_grow, alloc_eq_grow, grow_grow]; rfl⟩
  ·have F : Hid (cmpE (x, y, z) (x', y', z') = cmpI y y') := Lib.hid (by simp at e1 e2; simp [cmpE, e1, e2])
   go_enter Tryz.func108, Tryz.ntmps108
   go_wp2_with (go_at_call 135; refine (compareInts_any _ _ _).mono ?_; rintro e w' ⟨rfl, rfl⟩)
   go_ret
   exact ⟨ret_int F.out.symm, 0, _, by rw [alloc_eq_grow, alloc_eq_grow, grow_grow]; rfl⟩
 ·have F : Hid (cmpE (x, y, z) (x', y', z') = cmpI x x') := Lib.hid (by simp at e1; simp [cmpE, e1])
  go_enter Tryz.func108, Tryz.ntmps108
  go_wp2_with (go_at_call 135; refine (compareInts_any _ _ _).mono ?_; rintro e w' ⟨rfl, rfl⟩)
  go_ret
  exact ⟨ret_int F.out.symm, 0, _, by rw [alloc_eq_grow, alloc_eq_grow, grow_grow]; rfl⟩
theorem edC_three (e : EdD) : (edC e).length = 3 := rfl
theorem edC_one (e : EdD) (v : Value) (h : v ∈ edC e) : v.oneCell' = true := by
 simp [edC] at h
 rcases h with rfl | rfl | rfl <;> rfl
theorem flatK_get (d : Array EdD) (j : Nat) (h : j < d.size * 3) : (flatK edC 3 d)[j]! = (edC d[j / 3]!)[j % 3]! := by
 unfold flatK
 rw [getElem!_pos _ _ (by simpa using h)]
 simp
theorem edCs_at (es : List EdD) (j : Nat) (h : j < es.length * 3) : (edCs es)[j]? = some ((edC (es.toArray)[j / 3]!)[j % 3]!) := by
 have hk : j / 3 < es.length := by omega
 have := edCs_get es (j / 3) (j % 3) hk (by omega)
 rw [show j / 3 * 3 + j % 3 = j by omega] at this
 rw [this, List.getElem?_eq_getElem (show j % 3 < (edC es[j / 3]).length by rw [edC_three]; omega)]
 rw [getElem!_pos (es.toArray) _ (by simpa using hk), getElem!_pos _ _ (by rw [edC_three]; omega)]
 simp
theorem OwE.holdsK {w : World} {base g n cap : Nat} {es : List EdD} (h : OwE w base (.slice (some ⟨g, 0, none⟩) n cap) es) : HoldsK edC 3 w g 0 es.toArray := by
 have hn : n = es.length := by
  rcases h.1.2 with ⟨hv, _⟩ | ⟨g', cap', cur, hv, _⟩
  ·cases hv
  ·injection hv
 subst hn
 intro j hj
 have hj' : j < es.length * 3 := by simpa [flatK] using hj
 refine ⟨?_, h.free _⟩
 rw [Nat.zero_add, h.1.cellAt j hj', flatK_get _ _ (by simpa using hj')]
 exact edCs_at es j hj'
theorem sortWorld_row {w : World} {base g n cap : Nat} {es : List EdD} (h : OwE w base (.slice (some ⟨g, 0, none⟩) n cap) es) (d : Array EdD) (hd : d.size = es.length) (hE : E64s d.toList) (q : Nat) (os : Array Obj) :
  OwE (sortWorldK edC 3 w g 0 q d os) base (.slice (some ⟨g, 0, none⟩) n cap) d.toList ∧ w.grownBy (sortWorldK edC 3 w g 0 q d os) (some g) := by
 have hlt := (h.1.lt g rfl).2
 have hheap : ∀ b, b < w.heap.size → (sortWorldK edC 3 w g 0 q d os).heap[b]? = if g = b then (w.heap[b]?).map (onCells (putCells id 0 (flatK edC 3 d))) else w.heap[b]? := by
  intro b hb
  show ((w.heap.modify g (onCells (putCells id 0 (flatK edC 3 d)))) ++ os)[b]? = _
  rw [Array.getElem?_append_left (by simpa using hb), Array.getElem?_modify]
 refine ⟨⟨⟨by rw [edCs_length], ?_⟩, hE⟩, rfl, rfl, rfl, ?_, fun b hb hne => ?_⟩
 ·rcases h.1.2 with ⟨hv, _⟩ | ⟨g', cap', cur, hv, hg, hh, hnc, hcm, hcs, htake⟩
  ·cases hv
  ·injection hv with e1 e2 e3
   injection e1 with e1
   injection e1 with e1
   subst e1 e2 e3
   refine .inr ⟨g, cap, putCells id 0 (flatK edC 3 d) cur, by simp [hd], hg, ?_, by simp [hd]; exact hnc, hcm, by simp [putCells, hcs], ?_⟩
   ·rw [hheap g hlt, if_pos rfl, hh]
    rfl
   ·apply List.ext_getElem?
    intro j
    rw [List.getElem?_take]
    split
    ·rename_i hj
     rw [Array.length_toList] at hj
     have hjc : j < cur.size := by rw [hcs]; have : d.size * 3 ≤ cap * 3 := Nat.mul_le_mul_right 3 (by omega); omega
     rw [edCs_at _ _ (by simpa using hj), Array.getElem?_toList]
     simp only [putCells, Array.getElem?_mapIdx]
     rw [Array.getElem?_eq_getElem hjc]
     simp only [Option.map_some, Nat.zero_le, true_and, Nat.zero_add, Nat.sub_zero, id]
     rw [if_pos (by simpa [flatK] using hj), flatK_get _ _ hj]
    ·rename_i hj
     rw [List.getElem?_eq_none (by rw [edCs_length]; omega)]
 ·show w.heap.size ≤ ((w.heap.modify g (onCells (putCells id 0 (flatK edC 3 d)))) ++ os).size
  simp
 ·rw [hheap b hb, if_neg (fun e => hne (by rw [e]))]
theorem sortE_any (g n cap base : Nat) (es : List EdD) (w : World) (h : OwE w base (.slice (some ⟨g, 0, none⟩) n cap) es) (hl : es.length ≤ 1073741824) :
  Calls Tryz.prog 107 #[.slice (some ⟨g, 0, none⟩) n cap, .func (.func 108) #[] #[]] w fun e w' =>
   e = .returned (.tuple #[]) ∧ ∃ es', OwE w' base (.slice (some ⟨g, 0, none⟩) n cap) es' ∧ es'.Perm es ∧ (es'.Pairwise fun a b => ¬ 0 < cmpE a b) ∧ w.grownBy w' (some g) := by
 have hn : n = es.length := by
  rcases h.1.2 with ⟨hv, _⟩ | ⟨g', cap', cur, hv, _⟩
  ·cases hv
  ·injection hv
 subst hn
 have eg : ∀ args w, (callFunc 108 args).run Tryz.prog w = .ok (.enter 108 args) w := enters_of Tryz.func108 (by kernel_rfl) rfl
 have hcon := AnyQ.slices_SortFunc Tryz.sortE 3 Tryz.isAgg54 Tryz.sizeOf54 edC edC_three edC_one cmpE cmpE_swo 108 #[] g 0 cap es.toArray w eg (fun _ _ _ _ x y => implCompareEdges_grow x y _) h.holdsK (h.1.lt g rfl).2 (by simp; omega)
 change Calls Tryz.prog 107 _ _ _ at hcon
 refine hcon.mono ?_
 rintro e w' ⟨rfl, d, q, os, hp, hs, rfl⟩
 obtain ⟨p1, _, p3⟩ := hp
 have hperm : d.toList.Perm es := by
  have e1 : d.extract 0 es.toArray.size = d := by rw [← p1]; simp
  have e2 : es.toArray.extract 0 es.toArray.size = es.toArray := by simp
  rw [e1, e2] at p3
  simpa using p3
 have hE : E64s d.toList := fun x hx => h.2 x (hperm.mem_iff.1 hx)
 obtain ⟨o1, g1⟩ := sortWorld_row h d (by simpa using p1) hE q os
 refine ⟨rfl, d.toList, o1, hperm, ?_, g1⟩
 rw [List.pairwise_iff_getElem]
 intro i j hi hj hij
 have hi' : i < d.size := by simpa using hi
 have hj' : j < d.size := by simpa using hj
 have := hs i j (Nat.zero_le _) hij (by rw [← p1]; exact hj')
 unfold ltOf at this
 rw [decide_eq_false_iff_not, getElem!_pos d j hj', getElem!_pos d i hi'] at this
 rw [Array.getElem_toList, Array.getElem_toList]
 intro h0
 exact this (cmpE_ord.anti.2 h0)
end Go.Proofs.YtfadnkjlilhneaaGreat
