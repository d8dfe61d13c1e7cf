/- The program's joined. The program's row of what hangs together with a vertex: rows of bools of one's own; the law; the walk of joined. -/
import Derived.Test.YtodkandjcodnjaaRenQ
import Derived.Test.YtodkandjcodnjaaReach
import Derived.Test.YtodkandjcodnjaaRen
namespace Go.Proofs.Ytodkandjcodnjaa
set_option maxRecDepth 20000
set_option linter.unusedVariables false
set_option linter.unusedSimpArgs false
open Go.RowKit

def bools (bs : List Bool) : List Value := bs.map Value.bool
/-- A row of bools that the caller alone holds. -/
def OwB (w : World) (base : Nat) (v : Value) (bs : List Bool) : Prop := w.ownsRow base 4 1 v bs.length (bools bs)
section
variable {w w' : World} {base n g cap : Nat} {v : Value} {bs : List Bool}
theorem OwB.len (h : OwB w base (.slice (some ⟨g, 0, none⟩) n cap) bs) : n = bs.length := by
  rcases h.2 with ⟨hv, _⟩ | ⟨g', cap', cur, hv, _⟩
  · cases hv
  · injection hv
theorem OwB.set (h : OwB w base (.slice (some ⟨g, 0, none⟩) n cap) bs) (j : Nat) (z : Bool) :
    OwB (w.setCell ⟨g, j, none⟩ (.bool z)) base (.slice (some ⟨g, 0, none⟩) n cap) (bs.set j z) ∧ w.grownBy (w.setCell ⟨g, j, none⟩ (.bool z)) (some g) := by
  have hn := h.len
  subst hn
  obtain ⟨h1, h2⟩ := World.ownsRow.stored h j (.bool z)
  refine ⟨?_, h2⟩
  unfold OwB
  rw [List.length_set]
  simpa [bools, List.map_set] using h1
theorem OwB.cellAt (h : OwB w base (.slice (some ⟨g, 0, none⟩) n cap) bs) (j : Nat) (hj : j < bs.length) : w.cell? ⟨g, j, none⟩ = some (.bool bs[j]) := by
  have hn := h.len
  subst hn
  rw [World.ownsRow.cellAt h j (by omega)]
  simp [bools, hj]
theorem OwB.free (h : OwB w base (.slice (some ⟨g, 0, none⟩) n cap) bs) (j : Nat) : w.frozen? ⟨g, j, none⟩ = false := by
  have hn := h.len
  subst hn
  exact World.ownsRow.frozenAt h j
end
theorem OwB.below {w w' : World} {base : Nat} {v : Value} {bs : List Bool} (h : OwB w base v bs) (hb : Below w.heap.size w w') : OwB w' base v bs := ownsRow_below h hb
theorem OwB.mono {w : World} {base base' : Nat} {v : Value} {bs : List Bool} (h : OwB w base v bs) (hb : base' ≤ base) : OwB w base' v bs := by
  refine ⟨h.1, ?_⟩
  rcases h.2 with h0 | ⟨g, cap, cur, hv, hg, r⟩
  · exact .inl h0
  · exact .inr ⟨g, cap, cur, hv, by omega, r⟩
/-- How many cells of the row are false, read off the world. -/
def cellF (w : World) (b v : Nat) : Nat := match w.cell? ⟨b, v, none⟩ with
  | some (.bool false) => 1
  | _ => 0
def mB (w : World) (b n : Nat) : Nat := ((List.range n).map (cellF w b)).sum
theorem sum_count (bs : List Bool) : (bs.map fun b => if b = false then 1 else 0).sum = bs.count false := by
  induction bs with
  | nil => rfl
  | cons b bs ih => cases b <;> simp [ih]; omega
theorem mB_eq {w : World} {base g n cap : Nat} {bs : List Bool} (h : OwB w base (.slice (some ⟨g, 0, none⟩) n cap) bs) : mB w g bs.length = bs.count false := by
  rw [← sum_count]
  unfold mB
  congr 1
  refine List.ext_getElem (by simp) fun i h1 h2 => ?_
  have hi : i < bs.length := by simpa using h2
  simp only [List.getElem_map, List.getElem_range]
  unfold cellF
  rw [h.cellAt i hi]
  cases bs[i] <;> rfl
/-- What the row says so far. -/
def JI (es : List EdD) (n : Nat) (bs : List Bool) : Prop := bs.length = n ∧ bs[0]? = some true ∧ ∀ v : Nat, bs[v]? = some true → Conn es 0 v
theorem set_true_get {bs : List Bool} {a v : Nat} : (bs.set a true)[v]? = some true ↔ (v = a ∧ a < bs.length) ∨ bs[v]? = some true := by
  rw [List.getElem?_set]
  by_cases e : a = v
  · subst e
    by_cases hl : a < bs.length
    · simp [hl]
    · simp [hl]
  · rw [if_neg e]
    constructor
    · exact .inr
    · rintro (⟨h, _⟩ | h)
      · exact absurd h.symm e
      · exact h
theorem count_set_true {bs : List Bool} {a : Nat} (ha : a < bs.length) : (bs.set a true).count false + (if bs[a] = false then 1 else 0) = bs.count false := by
  induction bs generalizing a with
  | nil => simp at ha
  | cons b bs ih =>
    cases a with
    | zero => cases b <;> simp
    | succ a =>
      have := ih (a := a) (by simpa using ha)
      cases b <;> simp [List.count_cons] <;> omega
theorem JI.step {es : List EdD} {n a c : Nat} {bs : List Bool} {l : Int} (h : JI es n bs) (he : ((a : Int), l, (c : Int)) ∈ es) (ha : a < n) (hc : c < n) (hne : bs[a]? ≠ bs[c]?) :
    JI es n ((bs.set a true).set c true) ∧ ((bs.set a true).set c true).count false < bs.count false := by
  obtain ⟨h1, h2, h3⟩ := h
  have hla : a < bs.length := by omega
  have hlc : c < bs.length := by omega
  have e1 : bs[a]? = some bs[a] := by simp [hla]
  have e2 : bs[c]? = some bs[c] := by simp [hlc]
  have hor : bs[a]? = some true ∨ bs[c]? = some true := by
    rw [e1, e2] at hne ⊢
    cases h : bs[a] <;> cases h' : bs[c] <;> simp [h, h'] at hne ⊢
  refine ⟨⟨by simp [h1], ?_, fun v hv => ?_⟩, ?_⟩
  · rw [set_true_get, set_true_get]
    exact .inr (.inr h2)
  · rw [set_true_get, set_true_get] at hv
    rcases hv with ⟨rfl, _⟩ | ⟨rfl, _⟩ | hv
    · rcases hor with h | h
      · exact Conn.fwd _ he (h3 _ h)
      · exact h3 _ h
    · rcases hor with h | h
      · exact h3 _ h
      · exact Conn.back _ he (h3 _ h)
    · exact h3 _ hv
  · have k1 := count_set_true hla
    have k2 := count_set_true (bs := bs.set a true) (a := c) (by simpa using hlc)
    rw [e1, e2] at hne
    have hac : a ≠ c := fun e => by subst e; exact hne rfl
    have k3 : (bs.set a true)[c]'(by simpa using hlc) = bs[c] := by rw [List.getElem_set_ne hac]
    rw [k3] at k2
    cases h : bs[a] <;> cases h' : bs[c] <;> simp [h, h'] at hne k1 k2 <;> omega
theorem JI.done {es : List EdD} {n : Nat} {bs : List Bool} (h : JI es n bs) (hr : ∀ e ∈ es, 0 ≤ e.1 ∧ 0 ≤ e.2.2) (hcl : ∀ e ∈ es, bs[e.1.toNat]? = bs[e.2.2.toNat]?) :
    ∀ v (hv : v < bs.length), bs[v] = hasB (reachL es 0) v := by
  intro v hv
  have key : bs[v]? = some true ↔ Conn es 0 v := by
    refine ⟨h.2.2 v, fun hc => ?_⟩
    have := conn_of_closed (S := fun x => 0 ≤ x → bs[x.toNat]? = some true) (v := 0) (fun _ => h.2.1) ?_ hc (by omega)
    · simpa using this
    · intro e he
      obtain ⟨a, b⟩ := hr e he
      have := hcl e he
      exact ⟨fun hx _ => by rw [← this]; exact hx a, fun hx _ => by rw [this]; exact hx b⟩
  rw [Bool.eq_iff_iff, hasB_iff, reachL_mem, ← key]
  simp [hv]
theorem heapSize_setCell' (w : World) (a : Addr) (u : Value) : (w.setCell a u).heap.size = w.heap.size := by simp
theorem bool_info : (Try.prog.info? 4).map (fun i => (i.zero, i.size, i.bytes)) = some (some (.bool false), 1, 1) := by kernel_rfl
def joinL (g : GrD) : List Bool := (List.range g.2.1.toNat).map fun v => hasB (reachL g.2.2 0) (v : Nat)
theorem joinL_of {g : GrD} {bs : List Bool} (hl : bs.length = g.2.1.toNat) (h : ∀ v (hv : v < bs.length), bs[v] = hasB (reachL g.2.2 0) v) : bs = joinL g := by
  refine List.ext_getElem (by simp [joinL, hl]) fun i h1 h2 => ?_
  rw [h i h1]
  simp [joinL]
set_option maxHeartbeats 1000000 in
theorem joined_any (v : Value) (g : GrD) (w : World) (h : ArgG w v g) (hg : grB g = true) :
    Calls Try.prog 55 #[v, .int .i64 0] w fun e w' => ∃ r, e = .returned r ∧ OwB w' w.heap.size r (joinL g) ∧ Below w.heap.size w w' := by
  have HG := Lib.hid h
  obtain ⟨hr13, hsz40, hl120, _⟩ := grB_parts hg
  have HED := Lib.hid (fun e he => edge_of_gr hg (e := e) he)
  have HJ : Hid (∀ bs : List Bool, bs.length = g.2.1.toNat → (∀ v (hv : v < bs.length), bs[v] = hasB (reachL g.2.2 0) v) → bs = joinL g) := Lib.hid fun bs => joinL_of
  generalize joinL g = JL at *
  clear hg h
  obtain ⟨r, n, es⟩ := g
  simp only at hr13 hsz40 hl120 HG HED HJ
  obtain ⟨N, rfl⟩ : ∃ N : Nat, n = (N : Int) := ⟨n.toNat, by omega⟩
  have hN1 : 1 ≤ N := by omega
  have hN2 : N ≤ 40 := by omega
  clear hsz40 hr13
  obtain ⟨A, cap, rfl, HE⟩ : ∃ A cap, v = .agg #[.int .i64 r, .int .i64 N, .slice A es.length cap] ∧ Hid (ArgE w (.slice A es.length cap) es) := by
    obtain ⟨s, hv, _, _, ha⟩ := HG.out
    obtain ⟨A, cap, rfl⟩ := ha.form
    exact ⟨A, cap, hv, Lib.hid ha⟩
  have hbndE : es.length ≤ cap ∧ cap ≤ maxLen := by
    obtain ⟨_, _, hv, h1, h2, _⟩ := HE.out
    injection hv with _ _ e3
    subst e3
    exact ⟨h1, h2⟩
  obtain ⟨hcap, hm⟩ := hbndE
  unfold maxLen at hm
  have bx : Below w.heap.size w (w.alloc (Obj.cells #[Value.int IntKind.i64 r, Value.int IntKind.i64 N, .slice A es.length cap] 36)) := (by repeat (first | exact Below.refl _ _ | (refine Below.setCell ?_ (by first | omega | (simp <;> omega)) _) | (refine bel_drewN ?_ _) | (refine Below.drew ?_) | (refine Below.alloc ?_ (by first | omega | (simp <;> omega)) _)))
  go_enter Try.func55, Try.ntmps55
  obtain ⟨i0, hi0, hz0, hz1, hz2⟩ := info_parts bool_info
  go_wp2_with (at_make; refine wpList_make_full _ rfl _ _ 51 rfl (w.heap.size + 1) 4 i0 (.bool false) 1 Try.underlying51 hi0 hz0 hz1 _ _ _ _ N rfl rfl rfl rfl (by rw [hz2]; omega) (by unfold maxLen; omega) (by simp) ?_)
  have b1 : (w.alloc (Obj.cells #[Value.int IntKind.i64 r, Value.int IntKind.i64 N, .slice A es.length cap] 36)).cell? ⟨w.heap.size, 1, none⟩ = some (.int .i64 N) := by simp [go_sem]
  have b2 : (w.alloc (Obj.cells #[Value.int IntKind.i64 r, Value.int IntKind.i64 N, .slice A es.length cap] 36)).cell? ⟨w.heap.size, 2, none⟩ = some (.slice A es.length cap) := by simp [go_sem]
  have hsW : (w.alloc (Obj.cells #[Value.int IntKind.i64 r, Value.int IntKind.i64 N, .slice A es.length cap] 36)).heap.size = w.heap.size + 1 := by simp
  generalize w.alloc (Obj.cells #[Value.int IntKind.i64 r, Value.int IntKind.i64 N, .slice A es.length cap] 36) = w1 at bx b1 b2 hsW ⊢
  rw [← hsW]
  have hlt1 : w.heap.size < w1.heap.size := by omega
  have HSW := Lib.hid hsW
  clear hsW
  have B2 := Lib.hid b2
  have BX := Lib.hid bx
  clear b2 bx
  intro w2 hown0 hgrow0
  have own0 : OwB w2 w1.heap.size (.slice (some ⟨w1.heap.size, 0, none⟩) N N) (List.replicate N false) := by
    unfold OwB
    rw [List.length_replicate]
    have : bools (List.replicate N false) = List.replicate N (Value.bool false) := by simp [bools]
    rw [this]
    simpa [toList_madeCells_one] using hown0
  have hc0 := own0.cellAt 0 (by simp; omega)
  have hf0 := own0.free 0
  have O1 := Lib.hid (own0.set 0 true)
  have G0 := Lib.hid hgrow0
  have hP2 : w1.heap.size < w2.heap.size := (own0.lt w1.heap.size rfl).2
  have j1 : (0 : Int) < (N : Int) := by omega
  clear hown0 own0 hgrow0
  simp only [List.getElem_replicate] at hc0
  have JI0 : Hid (JI es N ((List.replicate N false).set 0 true)) := Lib.hid (by
    refine ⟨by simp, ?_, fun v hv => ?_⟩
    · rw [set_true_get]; left; exact ⟨rfl, by simp; omega⟩
    · rw [set_true_get] at hv
      rcases hv with ⟨rfl, _⟩ | hv
      · exact Conn.base
      · rw [List.getElem?_replicate] at hv
        split at hv
        · injection hv with hv; cases hv
        · cases hv)
  have HR0 : Hid (∀ e ∈ es, 0 ≤ e.1 ∧ 0 ≤ e.2.2) := Lib.hid fun e he => by have := HED.out e he; omega
  go_wp2
  go_loopw [6] (fun a wr => ∃ (ag : Bool) (bs : List Bool), a = .bool ag ∧ JI es N bs ∧ OwB wr w1.heap.size (.slice (some ⟨w1.heap.size, 0, none⟩) N N) bs ∧ Below w1.heap.size w1 wr ∧ (ag = false → ∀ e ∈ es, bs[e.1.toNat]? = bs[e.2.2.toNat]?)) (fun a wr => 2 * mB wr w1.heap.size N + (match a with | .bool true => 1 | _ => 0))
  case atStart => exact ⟨true, _, rfl, JI0.out, O1.out.1, ((Below.refl _ _).grown G0.out (Nat.le_refl _) (fun k h => by cases h)).grown O1.out.2 (by omega) (fun k h => by cases h; omega), fun h => by cases h⟩
  case round =>
    obtain ⟨ag, bs, rfl, hji, hown, hbel, hcl⟩ := hrel
    have HJI := Lib.hid hji
    have HO := Lib.hid hown
    have HB := Lib.hid hbel
    have HCL := Lib.hid hcl
    have hbl := hji.1
    have hm0 := mB_eq hown
    rw [hbl] at hm0
    have HM := Lib.hid hm0
    clear hm0
    clear hji hown hcl
    cases ag with
    | false =>
      have HF : Hid (bs = JL) := Lib.hid (HJ.out bs (by simpa using hbl) (HJI.out.done HR0.out (HCL.out rfl)))
      have BB : Hid (Below w.heap.size w wr) := Lib.hid (BX.out.trans (hbel.mono (by omega)))
      have hbase : w.heap.size ≤ w1.heap.size := by omega
      clear hbel
      have HOJ : Hid (OwB wr w.heap.size (.slice (some ⟨w1.heap.size, 0, none⟩) N N) JL) := Lib.hid (by rw [← HF.out]; exact HO.out.mono hbase)
      go_wp2
      exact bodyPost_ret (v := .slice (some ⟨w1.heap.size, 0, none⟩) N N) (by simp [results, Try.results55]) rfl ⟨_, rfl, HOJ.out, BB.out⟩
    | true =>
      have q2 := (hbel.cell (p := ⟨w.heap.size, 2, none⟩) (show w.heap.size < w1.heap.size from hlt1)).trans B2.out
      clear hbel hbl
      obtain ⟨wo, hwo⟩ : ∃ wo : World, wo = wr := ⟨_, rfl⟩
      have HWO := Lib.hid hwo
      clear hwo
      go_wp2
      go_loopw [6, 19] (fun a i wr => ∃ (k : Nat) (ag : Bool) (b2 : List Bool), k ≤ es.length ∧ i = .int .i64 k ∧ a = .bool ag ∧ JI es N b2 ∧ OwB wr w1.heap.size (.slice (some ⟨w1.heap.size, 0, none⟩) N N) b2 ∧ Below w1.heap.size w1 wr ∧ b2.count false ≤ bs.count false ∧ (ag = true → b2.count false < bs.count false) ∧ (ag = false → ∀ j (hj : j < es.length), j < k → b2[es[j].1.toNat]? = b2[es[j].2.2.toNat]?)) (fun _ i _ => es.length - (intOf i).toNat)
      case atStart => exact ⟨0, false, bs, Nat.zero_le _, rfl, rfl, HJI.out, HO.out, HB.out, Nat.le_refl _, (fun h => by cases h), fun _ j hj h => absurd h (by omega)⟩
      case round =>
        obtain ⟨k, ag, b2, hk, rfl, rfl, hji2, hown2, hbel2, hle2, hlt2, hcl2⟩ := hrel
        have HJ2 := Lib.hid hji2
        have HO2 := Lib.hid hown2
        have HB2 := Lib.hid hbel2
        have HLE := Lib.hid hle2
        have HLT := Lib.hid hlt2
        have HC2 := Lib.hid hcl2
        have hbl2 := hji2.1
        have hP := (hown2.lt w1.heap.size rfl).2
        have s12 := hbel2.size
        clear hji2 hle2 hlt2 hcl2
        by_cases hlt : k < es.length
        · obtain ⟨be, offe, rfl, hbe, c0, c1, c2, he64⟩ := (HE.out.below (BX.out.trans (hbel2.mono (by omega)))).at hlt
          obtain ⟨e1, e2, e3⟩ := HED.out es[k] (by simp)
          have hmem : es[k] ∈ es := by simp
          have HX : Hid (∃ x, es[k] = x) := Lib.hid ⟨_, rfl⟩
          generalize hx : es[k] = e at c0 c1 c2 he64 e1 e2 e3 hmem
          have HX := Lib.hid hx
          clear hx
          obtain ⟨f, l, t⟩ := e
          simp only at e1 e2 e3 c0 c1 c2
          obtain ⟨a, rfl⟩ : ∃ a : Nat, f = (a : Int) := ⟨f.toNat, by omega⟩
          obtain ⟨c, rfl⟩ : ∃ c : Nat, t = (c : Int) := ⟨t.toNat, by omega⟩
          have ha : a < b2.length := by omega
          have hc : c < b2.length := by omega
          have ca := hown2.cellAt a ha
          have cc := hown2.cellAt c hc
          have ga : b2[a]? = some b2[a] := by simp [ha]
          have gc : b2[c]? = some b2[c] := by simp [hc]
          have GA := Lib.hid ga
          have GC := Lib.hid gc
          have ja : (a : Int) < (N : Int) := by omega
          have jc : (c : Int) < (N : Int) := by omega
          have ja0 : (0 : Int) ≤ (a : Int) := by omega
          have jc0 : (0 : Int) ≤ (c : Int) := by omega
          have hfa := hown2.free a
          have hfc := hown2.free c
          have HSTEP : Hid (b2[a]? ≠ b2[c]? → JI es N ((b2.set a true).set c true) ∧ ((b2.set a true).set c true).count false < b2.count false) := Lib.hid fun h => HJ2.out.step hmem (by omega) (by omega) h
          have HMEM := Lib.hid hmem
          have bA : Below wr.heap.size wr (wr.alloc (Obj.cells #[Value.int IntKind.i64 a, Value.int IntKind.i64 l, Value.int IntKind.i64 c] 62)) := (Below.refl _ _).alloc (Nat.le_refl _) _
          have BA := Lib.hid bA
          generalize b2[a] = ba at *
          generalize b2[c] = bc at *
          clear ga gc he64 hown2 hbel2 hmem bA ha hc hbl2
          go_wp2_with fail
          have l0 : (wr.alloc (Obj.cells #[Value.int IntKind.i64 a, Value.int IntKind.i64 l, Value.int IntKind.i64 c] 62)).cell? ⟨wr.heap.size, 0, none⟩ = some (.int .i64 a) := by simp [go_sem]
          have l2 : (wr.alloc (Obj.cells #[Value.int IntKind.i64 a, Value.int IntKind.i64 l, Value.int IntKind.i64 c] 62)).cell? ⟨wr.heap.size, 2, none⟩ = some (.int .i64 c) := by simp [go_sem]
          have la := (BA.out.cell (p := ⟨w1.heap.size, a, none⟩) hP).trans ca
          have lc := (BA.out.cell (p := ⟨w1.heap.size, c, none⟩) hP).trans cc
          have lfa := (BA.out.frozen (p := ⟨w1.heap.size, a, none⟩) hP).trans hfa
          have lfc := (BA.out.frozen (p := ⟨w1.heap.size, c, none⟩) hP).trans hfc
          have hsA : wr.heap.size < (wr.alloc (Obj.cells #[Value.int IntKind.i64 a, Value.int IntKind.i64 l, Value.int IntKind.i64 c] 62)).heap.size := by simp
          clear ca cc hfa hfc c0 c1 c2
          generalize wr.alloc (Obj.cells #[Value.int IntKind.i64 a, Value.int IntKind.i64 l, Value.int IntKind.i64 c] 62) = W at BA l0 l2 la lc lfa lfc hsA ⊢
          have hPW : w1.heap.size < W.heap.size := by omega
          have hne1 : wr.heap.size ≠ w1.heap.size := by omega
          cases ba <;> cases bc
          · have CLX : Hid (b2[a]? = b2[c]?) := Lib.hid (by rw [GA.out, GC.out])
            go_quiet (fail)
            go_wp2
            go_roundw
            case rel =>
              refine ⟨k + 1, ag, b2, by omega, by go_num, rfl, HJ2.out, HO2.out.below (bel_drewN BA.out _), HB2.out.trans ((bel_drewN BA.out _).mono (by omega)), HLE.out, HLT.out, fun h j hj hjk => ?_⟩
              rcases Nat.lt_or_eq_of_le (Nat.le_of_lt_succ hjk) with h2 | rfl
              · exact HC2.out h j hj h2
              · rw [HX.out]; simpa using CLX.out
            case measure => simp [intOf]; omega
          · have STP := Lib.hid (HSTEP.out (by rw [GA.out, GC.out]; simp))
            go_quiet (fail)
            have O3 := Lib.hid ((HO2.out.below (bel_drewN BA.out nq)).set a true)
            have O4 := Lib.hid (O3.out.1.set c true)
            have l9 := O3.out.1.cellAt c (by rw [List.length_set]; have := HJ2.out.1; omega)
            have f9 := O3.out.1.free c
            generalize (b2.set a true)[c]'(by rw [List.length_set]; have := HJ2.out.1; omega) = z9 at l9
            go_wp2
            go_roundw
            case rel =>
              refine ⟨k + 1, true, _, by omega, by go_num, rfl, STP.out.1, O4.out.1, ?_, ?_, fun _ => ?_, fun h => by cases h⟩
              · have b5 := HB2.out.trans ((bel_drewN BA.out nq).mono (by omega))
                exact (b5.grown O3.out.2 (show w1.heap.size ≤ W.heap.size by omega) (fun j hj => by cases hj; exact Nat.le_refl _)).grown O4.out.2 (by rw [heapSize_setCell']; exact Nat.le_of_lt hPW) (fun j hj => by cases hj; exact Nat.le_refl _)
              · have := STP.out.2; have := HLE.out; omega
              · have := STP.out.2; have := HLE.out; omega
            case measure => simp [intOf]; omega
          · have STP := Lib.hid (HSTEP.out (by rw [GA.out, GC.out]; simp))
            go_quiet (fail)
            have O3 := Lib.hid ((HO2.out.below (bel_drewN BA.out nq)).set a true)
            have O4 := Lib.hid (O3.out.1.set c true)
            have l9 := O3.out.1.cellAt c (by rw [List.length_set]; have := HJ2.out.1; omega)
            have f9 := O3.out.1.free c
            generalize (b2.set a true)[c]'(by rw [List.length_set]; have := HJ2.out.1; omega) = z9 at l9
            go_wp2
            go_roundw
            case rel =>
              refine ⟨k + 1, true, _, by omega, by go_num, rfl, STP.out.1, O4.out.1, ?_, ?_, fun _ => ?_, fun h => by cases h⟩
              · have b5 := HB2.out.trans ((bel_drewN BA.out nq).mono (by omega))
                exact (b5.grown O3.out.2 (show w1.heap.size ≤ W.heap.size by omega) (fun j hj => by cases hj; exact Nat.le_refl _)).grown O4.out.2 (by rw [heapSize_setCell']; exact Nat.le_of_lt hPW) (fun j hj => by cases hj; exact Nat.le_refl _)
              · have := STP.out.2; have := HLE.out; omega
              · have := STP.out.2; have := HLE.out; omega
            case measure => simp [intOf]; omega
          · have CLX : Hid (b2[a]? = b2[c]?) := Lib.hid (by rw [GA.out, GC.out])
            go_quiet (fail)
            go_wp2
            go_roundw
            case rel =>
              refine ⟨k + 1, ag, b2, by omega, by go_num, rfl, HJ2.out, HO2.out.below (bel_drewN BA.out _), HB2.out.trans ((bel_drewN BA.out _).mono (by omega)), HLE.out, HLT.out, fun h j hj hjk => ?_⟩
              rcases Nat.lt_or_eq_of_le (Nat.le_of_lt_succ hjk) with h2 | rfl
              · exact HC2.out h j hj h2
              · rw [HX.out]; simpa using CLX.out
            case measure => simp [intOf]; omega
        · obtain rfl : k = es.length := by omega
          have hm2 := mB_eq hown2
          rw [hbl2] at hm2
          have HM2 := Lib.hid hm2
          clear hm2 hown2 hbel2
          go_wp2
          go_roundw
          case rel => exact ⟨ag, b2, rfl, HJ2.out, HO2.out, HB2.out, fun h e he => by obtain ⟨j, hj, rfl⟩ := List.getElem_of_mem he; exact HC2.out h j hj hj⟩
          case measure =>
            rw [HM.out, HM2.out]
            cases ag with
            | false =>
              have := HLE.out
              show 2 * _ + 0 < 2 * _ + 1
              omega
            | true =>
              have := HLT.out rfl
              show 2 * _ + 1 < 2 * _ + 1
              omega
end Go.Proofs.Ytodkandjcodnjaa
