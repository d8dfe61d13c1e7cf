/- The library's sort of a row of words by the program's comparison, which reads memory. -/
import Derived.Test.YtnmkbkpegkchpaaPutW
import Derived.Shelf.SlSortCmp.Whole1
import Derived.Ground.SlsfProg
namespace Go.Proofs.Ytnmkbkpegkchpaa
set_option maxRecDepth 20000
set_option linter.unusedVariables false
set_option linter.unusedSimpArgs false
open Go.RowKit Go.Shelf Go.Lib Go.Sort
def Try.sortW_ren : Go.Shelf.Ren := ⟨fun | 6 => 49 | 15 => 71 | 14 => 70 | 28 => 90 | 29 => 91 | 20 => 82 | 21 => 83 | 22 => 84 | 23 => 85 | 24 => 86 | 25 => 87 | 26 => 88 | 27 => 89 | 46 => 93 | 47 => 94 | 48 => 95 | 49 => 96 | 50 => 97 | 57 => 98 | n => n, fun | 22 => 37 | 24 => 27 | 25 => 63 | 3 => 3 | 39 => 79 | 0 => 0 | 53 => 93 | 55 => 95 | 4 => 4 | 46 => 86 | 45 => 85 | 50 => 90 | 5 => 5 | 9 => 9 | 66 => 96 | 70 => 100 | 76 => 102 | 77 => 103 | n => n, fun | n => n⟩
theorem Try.sortW : Go.Proofs.SlLaysF.n6 Try.prog Try.sortW_ren := {
  mixed := by kernel_rfl,
  f6 := ⟨Try.f49.name, by decide, Try.func49.trans (congrArg some (by kernel_rfl))⟩,
  f14 := ⟨Try.f70.name, by decide, Try.func70.trans (congrArg some (by kernel_rfl))⟩,
  f15 := Try.func71.trans (congrArg some (by kernel_rfl)),
  f20 := ⟨Try.f82.name, by decide, Try.func82.trans (congrArg some (by kernel_rfl))⟩,
  f21 := ⟨Try.f83.name, by decide, Try.func83.trans (congrArg some (by kernel_rfl))⟩,
  f22 := ⟨Try.f84.name, by decide, Try.func84.trans (congrArg some (by kernel_rfl))⟩,
  f23 := ⟨Try.f85.name, by decide, Try.func85.trans (congrArg some (by kernel_rfl))⟩,
  f24 := ⟨Try.f86.name, by decide, Try.func86.trans (congrArg some (by kernel_rfl))⟩,
  f25 := ⟨Try.f87.name, by decide, Try.func87.trans (congrArg some (by kernel_rfl))⟩,
  f26 := ⟨Try.f88.name, by decide, Try.func88.trans (congrArg some (by kernel_rfl))⟩,
  f27 := ⟨Try.f89.name, by decide, Try.func89.trans (congrArg some (by kernel_rfl))⟩,
  f28 := Try.func90.trans (congrArg some (by kernel_rfl)),
  f29 := Try.func91.trans (congrArg some (by kernel_rfl)),
  f46 := ⟨Try.f93.name, by decide, Try.func93.trans (congrArg some (by kernel_rfl))⟩,
  f47 := Try.func94.trans (congrArg some (by kernel_rfl)),
  f48 := Try.func95.trans (congrArg some (by kernel_rfl)),
  f49 := ⟨Try.f96.name, by decide, Try.func96.trans (congrArg some (by kernel_rfl))⟩,
  f50 := ⟨Try.f97.name, by decide, Try.func97.trans (congrArg some (by kernel_rfl))⟩,
  f57 := ⟨Try.f98.name, by decide, Try.func98.trans (congrArg some (by kernel_rfl))⟩,
  t0 := Try.underlying0,
  a0 := Try.isAgg0,
  z0 := Try.sizeOf0,
  v0 := Try.zeroValue0,
  t3 := Try.underlying3,
  a3 := Try.isAgg3,
  z3 := Try.sizeOf3,
  v3 := Try.zeroValue3,
  t4 := Try.underlying4,
  a4 := Try.isAgg4,
  z4 := Try.sizeOf4,
  v4 := Try.zeroValue4,
  t5 := Try.underlying5,
  a5 := Try.isAgg5,
  z5 := Try.sizeOf5,
  v5 := Try.zeroValue5,
  t9 := Try.underlying9,
  a9 := Try.isAgg9,
  z9 := Try.sizeOf9,
  v9 := Try.zeroValue9,
  t22 := Try.underlying37,
  a22 := Try.isAgg37,
  z22 := Try.sizeOf37,
  v22 := Try.zeroValue37,
  a24 := Try.isAgg27,
  z24 := Try.sizeOf27,
  t25 := Try.underlying63,
  a25 := Try.isAgg63,
  z25 := Try.sizeOf63,
  v25 := Try.zeroValue63,
  t39 := Try.underlying79,
  a39 := Try.isAgg79,
  z39 := Try.sizeOf79,
  v39 := Try.zeroValue79,
  t45 := Try.underlying85,
  a45 := Try.isAgg85,
  z45 := Try.sizeOf85,
  v45 := Try.zeroValue85,
  t46 := Try.underlying86,
  a46 := Try.isAgg86,
  z46 := Try.sizeOf86,
  v46 := Try.zeroValue86,
  t50 := Try.underlying90,
  a50 := Try.isAgg90,
  z50 := Try.sizeOf90,
  v50 := Try.zeroValue90,
  t53 := Try.underlying93,
  a53 := Try.isAgg93,
  z53 := Try.sizeOf93,
  v53 := Try.zeroValue93,
  t55 := Try.underlying95,
  a55 := Try.isAgg95,
  z55 := Try.sizeOf95,
  v55 := Try.zeroValue95,
  t66 := Try.underlying96,
  a66 := Try.isAgg96,
  z66 := Try.sizeOf96,
  v66 := Try.zeroValue96,
  t70 := Try.underlying100,
  a70 := Try.isAgg100,
  z70 := Try.sizeOf100,
  v70 := Try.zeroValue100,
  t76 := Try.underlying102,
  a76 := Try.isAgg102,
  z76 := Try.sizeOf102,
  v76 := Try.zeroValue102,
  t77 := Try.underlying103,
  a77 := Try.isAgg103,
  z77 := Try.sizeOf103,
  v77 := Try.zeroValue103 }


theorem cK_swo {α : Type} (f : α → List Int) : SWO (ltOf fun a b => cK (f a) (f b)) where
  irrefl x := by
    unfold ltOf
    simpa using cK_ord.irrefl (f x)
  trans x y z h1 h2 := by
    unfold ltOf at *
    simp only [decide_eq_true_eq] at *
    exact cK_ord.trans h1 h2
  ntrans x y z h1 h2 := by
    unfold ltOf at *
    simp only [decide_eq_false_iff_not] at *
    intro h
    rcases Int.lt_trichotomy (cK (f x) (f y)) 0 with p | p | p
    · exact h1 p
    · rw [cK_ord.zero.1 p] at h; exact h2 h
    · have p := cK_ord.anti.2 p
      exact h2 (cK_ord.trans p h)
theorem sw_heap {α : Type} [Inhabited α] (enc : α → Value) (w : World) (g n : Nat) (d : Array α) (os : Array Obj) (b : Nat) (hb : b < w.heap.size) : (sortWorld enc w g 0 n d os).heap[b]? = if g = b then (w.heap[b]?).map (onCells (putCells enc 0 d)) else w.heap[b]? := by
  show ((w.heap.modify g (onCells (putCells enc 0 d))) ++ os)[b]? = _
  rw [Array.getElem?_append_left (by simpa using hb), Array.getElem?_modify]
theorem sw_grown {α : Type} [Inhabited α] (enc : α → Value) (w : World) (g n : Nat) (d : Array α) (os : Array Obj) : w.grownBy (sortWorld enc w g 0 n d os) (some g) := by
  refine ⟨rfl, rfl, rfl, ?_, fun b hb hne => ?_⟩
  · show w.heap.size ≤ ((w.heap.modify g (onCells (putCells enc 0 d))) ++ os).size
    simp
  · rw [sw_heap enc w g n d os b hb, if_neg (fun e => hne (by rw [e]))]
set_option maxHeartbeats 1000000 in
theorem sortW_any (g m cap : Nat) (q : List (List Int)) (G : List Nat) (w : World) (h : OwLf EI 27 1 w (.slice (some ⟨g, 0, none⟩) m cap) q G) (hn : G.Nodup) (hG : ∀ b ∈ G, b < w.heap.size) (hnd : q.Nodup) (hsm : ∀ x ∈ q, smallW x) (hl : q.length ≤ 1000) (hne : q ≠ []) :
    Calls Try.prog 49 #[.slice (some ⟨g, 0, none⟩) m cap, .func (.func 50) #[] #[]] w fun e w' =>
      e = .returned (.tuple #[]) ∧ ∃ G', OwLf EI 27 1 w' (.slice (some ⟨g, 0, none⟩) m cap) (srt cK q) G' ∧ G'.Nodup ∧ (∀ b ∈ G', b ∈ G) ∧ w.grownBy w' (some g) := by
  obtain ⟨es, h1, h2, h3, rfl⟩ := h
  subst h1
  obtain rfl : m = es.length := by
    obtain ⟨_, _, hv, _⟩ := owns_form h3
    injection hv
  have hrow := fun k hk => row_es h2 h3 k hk
  have hes0 : 0 < es.length := by
    rcases Nat.eq_zero_or_pos es.length with h | h
    · exact absurd (by rw [List.eq_nil_of_length_eq_zero h]; rfl) hne
    · exact h
  have hgF : ∀ b ∈ (es.map (·.2.2)).flatten, b ≠ g := fun b hb e => by
    subst e
    exact (List.nodup_append.1 hn).2.2 b (by simp [Value.ownBlock]) b hb rfl
  have hglt : g < w.heap.size := (h3.lt g rfl).2
  let α := {e : Trip // e ∈ es}
  haveI : Inhabited α := ⟨⟨es[0], List.getElem_mem hes0⟩⟩
  let enc : α → Value := fun a => a.1.1.headD undef
  have henc : ∀ a : α, a.1.1 = [enc a] ∧ OwI w 0 (enc a) a.1.2.1 ∧ a.1.2.2 = (enc a).ownBlock.toList := fun a => by
    obtain ⟨s, hs, ho, hf⟩ := (h2 a.1 a.2).2
    have : enc a = s := by show a.1.1.headD undef = s; rw [hs]; rfl
    rw [this]
    exact ⟨hs, ho, hf⟩
  have hO : OneCell enc := fun a => by
    obtain ⟨A1, c1, hv, _⟩ := (henc a).2.1.form
    rw [hv]; rfl
  let d : Array α := es.attach.toArray
  have hds : d.size = es.length := by
    show (es.attach.toArray).size = es.length
    rw [List.size_toArray]
    exact List.length_attach
  have hdj : ∀ j (hj : j < es.length), d[j]! = ⟨es[j], List.getElem_mem hj⟩ := fun j hj => by
    rw [getElem!_pos d j (by rw [hds]; exact hj)]
    show (es.attach.toArray)[j] = _
    rw [List.getElem_toArray]
    exact List.getElem_attach ..
  have hH : Holds enc w g 0 d := fun j hj => by
    have hj' : j < es.length := by rw [← hds]; exact hj
    obtain ⟨g', A1, c1, hA, _, hc, hcell, _⟩ := hrow j hj'
    injection hA with hA
    injection hA with hA
    subst hA
    rw [Nat.zero_add, hdj j hj']
    have := (henc ⟨es[j], List.getElem_mem hj'⟩).1
    rw [hc] at this
    injection this with this
    exact ⟨by rw [hcell, this], h3.frozenAt j⟩
  have hkeep : ∀ (n : Nat) (os : Array Obj) (dk : Array α) (a : α), OwI (sortWorld enc w g 0 n dk os) 0 (enc a) a.1.2.1 := fun n os dk a => by
    obtain ⟨_, ho, hf⟩ := henc a
    refine ⟨ownsRow_keep ho.1 fun b hb => ?_, ho.2⟩
    have hbF : b ∈ (es.map (·.2.2)).flatten := List.mem_flatten.2 ⟨a.1.2.2, List.mem_map.2 ⟨a.1, a.2, rfl⟩, by rw [hf, hb]; simp⟩
    rw [sw_heap enc w g n dk os b (hG b (List.mem_append.2 (.inr hbF))), if_neg (fun e => hgF b hbF e.symm)]
  have hcmp : CmpLays1 Try.prog 50 #[] enc (fun a b => cK a.1.2.1 b.1.2.1) g 0 d.size w := CmpReads.lays fun n os dk _ x y => by
    have h := implCompareWords_any (enc x) (enc y) x.1.2.1 y.1.2.1 _ (hkeep n os dk x).arg (hkeep n os dk y).arg
    rw [cmpW_K (hsm _ (List.mem_map.2 ⟨x.1, x.2, rfl⟩)) (hsm _ (List.mem_map.2 ⟨y.1, y.2, rfl⟩))] at h
    exact h
  have eg : ∀ args w, (callFunc 50 args).run Try.prog w = .ok (.enter 50 args) w := enters_of Try.func50 (by kernel_rfl) rfl
  have hlq : es.length ≤ 1000 := by simpa using hl
  have hcon := Any.slices_SortFunc Try.sortW enc hO (fun a b => cK a.1.2.1 b.1.2.1) (cK_swo fun a : α => a.1.2.1) 50 #[] g 0 cap d w eg hcmp hH hglt (by rw [hds]; omega)
  rw [hds] at hcon
  change Calls Try.prog 49 _ _ _ at hcon
  refine hcon.mono ?_
  rintro e w' ⟨rfl, d', n, os, hp, hs, rfl⟩
  obtain ⟨p1, _, p3⟩ := hp
  have hd's : d'.size = es.length := by rw [p1, hds]
  have hperm0 : d'.toList.Perm es.attach := by
    have e1 : d'.extract 0 es.length = d' := by rw [← hd's]; simp
    have e2 : d.extract 0 es.length = d := by rw [← hds]; simp
    rw [e1, e2] at p3
    simpa [d] using p3
  let es' : List Trip := d'.toList.map (·.1)
  have hperm : es'.Perm es := by
    have := hperm0.map (·.1)
    have e : es.attach.map (fun a : α => a.1) = es := List.attach_map_subtype_val es
    exact e ▸ this
  have hes'l : es'.length = es.length := hperm.length_eq
  have hg2 := sw_grown enc w g n d' os
  have hfl := flat_perm hperm
  refine ⟨rfl, g :: (es'.map (·.2.2)).flatten, ⟨es', ?_, fun e he => ?_, ?_, by simp [Value.ownBlock]⟩, ?_, fun b hb => ?_, hg2⟩
  · refine srt_eq cK_ord ?_ fun x => (hperm.map (·.2.1)).mem_iff
    have hnd' : (es'.map (·.2.1)).Nodup := (hperm.map (·.2.1)).nodup_iff.2 hnd
    have hpw : (es'.map (·.2.1)).Pairwise fun a b => ¬ cK b a < 0 := by
      rw [List.pairwise_iff_getElem]
      intro i j hi hj hij
      have hi' : i < d'.size := by simpa [es'] using hi
      have hj' : j < d'.size := by simpa [es'] using hj
      have := hs i j (Nat.zero_le _) hij (by rw [← hd's]; exact hj')
      unfold ltOf at this
      rw [decide_eq_false_iff_not, getElem!_pos d' j hj', getElem!_pos d' i hi'] at this
      simpa [es'] using this
    refine (hpw.and hnd').imp fun {a b} ⟨h1, h2⟩ => ?_
    have h3 : cK a b ≠ 0 := fun e => h2 (cK_ord.zero.1 e)
    have h4 : ¬ 0 < cK a b := fun e => h1 (cK_ord.anti.2 e)
    omega
  · have hm := hperm.mem_iff.1 he
    refine ⟨(h2 e hm).1, ?_⟩
    obtain ⟨hs1, _, hf⟩ := henc ⟨e, hm⟩
    exact ⟨enc ⟨e, hm⟩, hs1, hkeep n os d' ⟨e, hm⟩, hf⟩
  · rcases h3.2 with ⟨hv, _⟩ | ⟨g', cap', cur, hv, hg, hh, hnc, hcm, hcs, htake⟩
    · cases hv
    · injection hv with e1 e2 e3
      injection e1 with e1
      injection e1 with e1
      subst e1 e3
      have hcells : (es'.map (·.1)).flatten = d'.toList.map enc := by
        have : ∀ l : List α, ((l.map (·.1)).map (·.1)).flatten = l.map enc := by
          intro l
          induction l with
          | nil => rfl
          | cons a l ih => simp only [List.map_cons, List.flatten_cons, ih, (henc a).1]; rfl
        exact this d'.toList
      rw [hcells]
      refine ⟨by simp [hes'l, hd's], .inr ⟨g, cap, putCells enc 0 d' cur, by rw [hes'l], hg, ?_, by rw [hes'l]; exact hnc, hcm, by simp [putCells, hcs], ?_⟩⟩
      · rw [sw_heap enc w g n d' os g hglt, if_pos rfl, hh]
        rfl
      · apply List.ext_getElem?
        intro j
        rw [List.getElem?_take]
        split
        · rename_i hj
          have hj2 : j < d'.size := by rw [hd's]; omega
          have hjc : j < cur.size := by rw [hcs]; omega
          rw [Array.getElem?_toList]
          simp only [putCells, Array.getElem?_mapIdx]
          rw [Array.getElem?_eq_getElem hjc]
          simp only [Option.map_some, Nat.zero_le, true_and, Nat.zero_add, Nat.sub_zero]
          rw [if_pos hj2, getElem!_pos d' j hj2]
          simp [hj2]
        · rename_i hj
          rw [List.getElem?_eq_none (by simp [hd's]; omega)]
  · refine List.nodup_cons.2 ⟨fun hm => hgF g (hfl.mem_iff.1 hm) rfl, hfl.nodup_iff.2 (List.nodup_append.1 hn).2.1⟩
  · rcases List.mem_cons.1 hb with rfl | hb
    · simp [Value.ownBlock]
    · exact List.mem_append.2 (.inr (hfl.mem_iff.1 hb))
end Go.Proofs.Ytnmkbkpegkchpaa
