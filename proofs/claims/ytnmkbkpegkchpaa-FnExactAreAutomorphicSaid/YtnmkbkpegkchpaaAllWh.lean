/- All Whitehead automorphisms of a rank, of the reference and of the program. -/
import Derived.Test.YtnmkbkpegkchpaaWh
import Derived.Test.YtnmkbkpegkchpaaNum
import Derived.Test.YtnmkbkpegkchpaaLet
import Derived.Test.YtnmkbkpegkchpaaOwnF
import Derived.Deep.RegionLaw
namespace Go.Proofs.Ytnmkbkpegkchpaa
set_option maxRecDepth 20000
set_option linter.unusedVariables false
set_option linter.unusedSimpArgs false
open Go.RowKit

def EWh : El WhD := fun w cs d F => ∃ s, cs = [.int .i64 d.1, s] ∧ I64 d.1 ∧ OwI w 0 s d.2 ∧ F = s.ownBlock.toList
theorem EWh.stable : Stable EWh := by
  rintro w w' cs d F ⟨s, rfl, hd, ho, rfl⟩ hb
  exact ⟨s, rfl, hd, ⟨ownsRow_keep ho.1 fun b h => hb b (by rw [h]; simp), ho.2⟩, rfl⟩
theorem EWh.of {w : World} {L : Int} {s : Value} {xs : List Int} {base : Nat} (hL : I64 L) (h : OwI w base s xs) : EWh w [.int .i64 L, s] (L, xs) s.ownBlock.toList := ⟨s, rfl, hL, h.mono (Nat.zero_le _), rfl⟩
theorem opt_nodup (o : Option Nat) : o.toList.Nodup := by cases o <;> simp
theorem wh_info : (Try.prog.info? 57).map (fun i => (i.zero, i.size, i.bytes)) = some (some (.agg #[.int .i64 0, .slice none 0 0]), 2, 32) := by kernel_rfl
abbrev OWhS (lo hi : Nat) (v : Value) (ds : List WhD) (w : World) : Prop := OwnL EWh 57 2 lo hi w v ds
theorem OWhS_lit (w : World) {lo : Nat} (h : lo ≤ w.heap.size) : OWhS lo (w.heap.size + 1) (.slice (some ⟨w.heap.size, 0, none⟩) 0 0) [] (w.alloc (.cells #[] 57)) := by
  refine OwnL.nil ?_ fun b hb => ?_
  · have := World.ownsRow_lit (e := 57) (size := 2) (base := 0) w #[] 0 (Nat.zero_le _) (by unfold maxLen; omega) (by simp)
    simpa using this
  · simp [Value.ownBlock] at hb; omega

def bitB (m i : Nat) : Bool := decide (m / 2 ^ i % 2 = 1)
def subTo (os : List Int) (m : Nat) : Nat → List Int
  | 0 => []
  | k + 1 => subTo os m k ++ (if bitB m k then [os.getD k 0] else [])
def allFor (l : Int) (os : List Int) (M : Nat) : List WhD := (List.range M).map fun m => (l, subTo os m os.length)
def othL (ls : List Int) (l : Int) : List Int := ls.filter fun x => x != l && x != -l
def allK (ls : List Int) (k : Nat) : List WhD := (ls.take k).flatMap fun l => allFor l (othL ls l) (2 ^ (othL ls l).length)
def allWh (r : Int) : List WhD := if inB r 1 3 then allK (lettersL r.toNat) (2 * r.toNat) else []
theorem subTo_len (os : List Int) (m k : Nat) : (subTo os m k).length ≤ k := by
  induction k with
  | zero => simp [subTo]
  | succ k ih => simp only [subTo, List.length_append]; split <;> simp <;> omega
theorem allFor_succ (l : Int) (os : List Int) (m : Nat) : allFor l os (m + 1) = allFor l os m ++ [(l, subTo os m os.length)] := by simp [allFor, List.range_succ]
theorem allFor_len (l : Int) (os : List Int) (m : Nat) : (allFor l os m).length = m := by simp [allFor]
theorem oth_len (n : Nat) (h1 : 1 ≤ n) (h3 : n ≤ 3) : ∀ l ∈ lettersL n, (othL (lettersL n) l).length ≤ 4 := by
  have : n = 1 ∨ n = 2 ∨ n = 3 := by omega
  rcases this with rfl | rfl | rfl <;> decide
theorem abs_ne {x l : Int} (h1 : -3 ≤ x) (h2 : x ≤ 3) (h3 : -3 ≤ l) (h4 : l ≤ 3) : (abs64 x != abs64 l) = (x != l && x != -l) := by
  have hx : abs64 x = if x < 0 then -x else x := by unfold abs64; split <;> first | rfl | rw [IntWalk.wrap64_in _ ⟨by omega, by omega⟩]
  have hl : abs64 l = if l < 0 then -l else l := by unfold abs64; split <;> first | rfl | rw [IntWalk.wrap64_in _ ⟨by omega, by omega⟩]
  rw [hx, hl, Bool.eq_iff_iff]
  simp only [bne_iff_ne, Bool.and_eq_true, ne_eq]
  split <;> split <;> omega
theorem oth_small (n : Nat) (h1 : 1 ≤ n) (h3 : n ≤ 3) : ∀ l ∈ lettersL n, (othL (lettersL n) l).length ≤ 4 ∧ ((lettersL n).filter fun x => abs64 x != abs64 l) = othL (lettersL n) l := by
  intro l hl
  refine ⟨oth_len n h1 h3 l hl, ?_⟩
  unfold othL
  refine List.filter_congr fun x hx => ?_
  have := lettersL_mem hx
  have := lettersL_mem hl
  exact abs_ne (by omega) (by omega) (by omega) (by omega)
theorem allK_succ (ls : List Int) (k : Nat) (h : k < ls.length) : allK ls (k + 1) = allK ls k ++ allFor ls[k] (othL ls ls[k]) (2 ^ (othL ls ls[k]).length) := by
  unfold allK
  rw [List.take_succ_eq_append_getElem h, List.flatMap_append]
  simp only [List.flatMap_cons, List.flatMap_nil, List.append_nil]
theorem pow_le16 {n : Nat} (h : n ≤ 4) : 2 ^ n ≤ 16 := by
  have := Nat.pow_le_pow_right (show 0 < 2 by omega) h
  simpa using this
theorem allK_len (n : Nat) (h1 : 1 ≤ n) (h3 : n ≤ 3) (k : Nat) (hk : k ≤ (lettersL n).length) : (allK (lettersL n) k).length ≤ 16 * k := by
  induction k with
  | zero => simp [allK]
  | succ k ih =>
    rw [allK_succ _ _ (by omega), List.length_append, allFor_len]
    have h2 := (oth_small n h1 h3 (lettersL n)[k] (by simp)).1
    have := pow_le16 h2
    have := ih (by omega)
    omega
theorem othL_succ (ls : List Int) (x : Int) (m : Nat) (h : m < ls.length) : othL (ls.take (m + 1)) x = othL (ls.take m) x ++ (if ls[m] != x && ls[m] != -x then [ls[m]] else []) := by
  unfold othL
  rw [List.take_succ_eq_append_getElem h, List.filter_append]
  congr 1
  simp only [List.filter_cons, List.filter_nil]
theorem OwnL.row {α : Type} {E : El α} {t : TypeId} {width lo hi : Nat} {w : World} {v : Value} {ds : List α} (h : OwnL E t width lo hi w v ds) : ∃ cs, w.ownsRow 0 t width v ds.length cs := by
  obtain ⟨F, ⟨es, h1, h2, h3, rfl⟩, hnF, hF⟩ := h
  have hl : es.length = ds.length := by rw [← h1]; simp
  exact ⟨_, hl ▸ h3⟩
theorem cell_grown {w w' : World} {row : Option Nat} (hg : w.grownBy w' row) {b : Nat} (hb : b < w.heap.size) (hne : row ≠ some b) : (∀ o, w'.cell? ⟨b, o, none⟩ = w.cell? ⟨b, o, none⟩) ∧ (∀ o, w'.frozen? ⟨b, o, none⟩ = w.frozen? ⟨b, o, none⟩) :=
  ⟨fun _ => World.cell?_of_block (hg.block b hb hne.symm), fun _ => World.frozen?_of_block (hg.block b hb hne.symm)⟩
theorem cell_grown_alloc {w w' : World} {o : Obj} {row : Option Nat} (hg : (w.alloc o).grownBy w' row) {b : Nat} (hb : b < w.heap.size) (hne : row ≠ some b) : (∀ o, w'.cell? ⟨b, o, none⟩ = w.cell? ⟨b, o, none⟩) ∧ (∀ o, w'.frozen? ⟨b, o, none⟩ = w.frozen? ⟨b, o, none⟩) :=
  have h : w'.heap[b]? = w.heap[b]? := (hg.block b (by simp; omega) hne.symm).trans (Below.heap_alloc w o b hb)
  ⟨fun _ => World.cell?_of_block h, fun _ => World.frozen?_of_block h⟩
theorem cell_grown_drew {w w' : World} {o : Obj} {row : Option Nat} (hg : (w.alloc o).drew.grownBy w' row) {b : Nat} (hb : b < w.heap.size) (hne : row ≠ some b) : (∀ o, w'.cell? ⟨b, o, none⟩ = w.cell? ⟨b, o, none⟩) ∧ (∀ o, w'.frozen? ⟨b, o, none⟩ = w.frozen? ⟨b, o, none⟩) :=
  have h : w'.heap[b]? = w.heap[b]? := (hg.block b (Nat.lt_of_lt_of_le hb ((Below.refl w.heap.size w).alloc (Nat.le_refl _) o).size) hne.symm).trans (Below.heap_alloc w o b hb)
  ⟨fun _ => World.cell?_of_block h, fun _ => World.frozen?_of_block h⟩
theorem subTo_succ (os : List Int) (m k : Nat) (h : k < os.length) : subTo os m (k + 1) = subTo os m k ++ (if bitB m k then [os[k]] else []) := by
  simp [subTo, List.getD, h]
theorem bit_of {c i : Nat} (hc : c < 16) (hi : i < 4) : bits BinOp.and IntKind.i64 ((c : Int) / 2 ^ i) 1 = if bitB c i then 1 else 0 := by
  have : ∀ c < 16, ∀ i < 4, bits BinOp.and IntKind.i64 (((c : Nat) : Int) / 2 ^ i) 1 = if bitB c i then 1 else 0 := by decide
  exact this c hc i hi
theorem wrap_shift {L : Nat} (h : L ≤ 4) : IntKind.i64.wrap ((2 : Int) ^ L) = ((2 ^ L : Nat) : Int) := by
  have h3 : (2 : Int) ^ L = ((2 ^ L : Nat) : Int) := by simp
  have := pow_le16 h
  rw [wrap_i64_eq, h3]
  generalize 2 ^ L = M at this ⊢
  exact IntWalk.wrap64_in _ ⟨by omega, by omega⟩

set_option maxHeartbeats 2000000 in
theorem implAllWhitehead_any (r : Int) (w : World) :
    Calls Try.prog 44 #[.int .i64 r] w fun e w' => ∃ v, e = .returned v ∧ OWhS w.heap.size w'.heap.size v (allWh r) w' ∧ Below w.heap.size w w' := by
  rcases e1 : inB r 1 3 with _ | _
  · have F : Hid (allWh r = []) := Lib.hid (by unfold allWh; rw [e1]; rfl)
    go_enter Try.func44, Try.ntmps44
    go_wp2_with (go_at_call 27; refine (within_any _ _ _ _).mono ?_; rintro e w' ⟨rfl, rfl⟩)
    go_ret
    exact ⟨_, rfl, by rw [F.out]; exact (OWhS_lit w (Nat.le_refl _)).widen (Nat.le_refl _) (by simp), (Below.refl _ _).alloc (Nat.le_refl _) _⟩
  · have hr1 := (inB_iff.1 e1).1
    have hr3 := (inB_iff.1 e1).2
    obtain ⟨n, rfl⟩ : ∃ n : Nat, r = n := ⟨r.toNat, by omega⟩
    have F : Hid (allWh n = allK (lettersL n) (lettersL n).length) := Lib.hid (by unfold allWh; rw [e1, lettersL_len]; simp)
    have hn1 : 1 ≤ n := by omega
    have hn3 : n ≤ 3 := by omega
    have HOS := Lib.hid (oth_small n hn1 hn3)
    have HAL := Lib.hid (allK_len n hn1 hn3)
    have hl6 : (lettersL n).length ≤ 6 := by rw [lettersL_len]; omega
    have HLM : Hid (∀ x ∈ lettersL n, -3 ≤ x ∧ x ≤ 3) := Lib.hid (fun x hx => by have := lettersL_mem hx; omega)
    have HLL : ∀ W : World, Calls Try.prog 29 #[.int .i64 n] W fun e w' => ∃ r, e = .returned r ∧ OwI w' W.heap.size r (lettersL n) ∧ Below W.heap.size W w' := fun W => letters_any n W (by omega)
    generalize lettersL n = ls at F HOS HAL hl6 HLM HLL
    have HLE := Lib.hid HLL
    clear HLL
    obtain ⟨i0, hi0, hz0, hz1, hz2⟩ := info_parts wh_info
    go_enter Try.func44, Try.ntmps44
    go_wp2_with (first
      | (go_at_call 27; refine (within_any _ _ _ _).mono ?_; rintro e w' ⟨rfl, rfl⟩)
      | (go_at_call 29; refine (HLE.out _).mono ?_; rintro e w1 ⟨lv, rfl, ol, bl⟩; have OL := Lib.hid ol; have BL := Lib.hid bl; obtain ⟨A, cap, rfl, hcap, hm, _⟩ := OwI.form ol; clear ol bl))
    go_loopw [3, 21] (fun out i wr => ∃ k : Nat, k ≤ ls.length ∧ i = .int .i64 k ∧ OWhS w.heap.size wr.heap.size out (allK ls k) wr ∧ RdI wr (.slice A ls.length cap) ls ∧ Below w.heap.size w wr)
      (fun _ i _ => ls.length - (intOf i).toNat)
    case atStart =>
      refine ⟨0, Nat.zero_le _, rfl, ((OWhS_lit w (Nat.le_refl _)).keep EWh.stable (fun b _ hb => BL.out.block b (by simpa using hb))).widen (Nat.le_refl _) (by have := BL.out.size; simp at this; omega), OL.out.rd, ((Below.refl _ _).alloc (Nat.le_refl _) _).trans (BL.out.mono (by simp))⟩
    case round =>
      obtain ⟨k, hk, rfl, hown, hls, hbel⟩ := hrel
      have hsz := hbel.size
      by_cases hlt : k < ls.length
      · have hal := HAL.out k hk
        obtain ⟨b, off, rfl, hbl, hc⟩ := hls.at (by omega)
        have hcell := hc k hlt
        have hos4 := (HOS.out ls[k] (by simp)).1
        have HS := Lib.hid (allK_succ ls k hlt)
        have hx1 := (HLM.out ls[k] (by simp)).1
        have hx2 := (HLM.out ls[k] (by simp)).2
        have HR := Lib.hid hls
        have HO := Lib.hid hown
        have HB := Lib.hid hbel
        clear hc hls hown hbel
        generalize ls[k] = x at hcell hos4 HS hx1 hx2
        generalize allK ls k = acc at HO HS hal
        obtain ⟨wo, rfl⟩ : ∃ wo : World, wo = wr := ⟨_, rfl⟩
        go_wp2_with (go_at_call 29; refine (HLE.out _).mono ?_; rintro e w2 ⟨lv2, rfl, ol, bl⟩; have OL2 := Lib.hid ol; have BL2 := Lib.hid bl; obtain ⟨A2, cap2, rfl, hcap2, hm2, _, hf2⟩ := OwI.form ol; obtain ⟨g2, rfl, hg2, hg2'⟩ := hf2 (by omega); clear ol bl)
        go_loopw [6, 29] (fun oth j wi => ∃ m : Nat, m ≤ ls.length ∧ j = .int .i64 m ∧ OwI wi wo.heap.size oth (othL (ls.take m) x) ∧ RdI wi (.slice (some ⟨g2, 0, none⟩) ls.length cap2) ls ∧ oth.ownBlock ≠ some g2 ∧ Below wo.heap.size wo wi ∧ g2 < wi.heap.size)
          (fun _ j _ => ls.length - (intOf j).toNat)
        case atStart =>
          exact ⟨0, Nat.zero_le _, rfl, (OwI_lit wo [] I64s_nil (by simp) (Nat.le_refl _)).below BL2.out, OL2.out.rd, by simp [Value.ownBlock]; simp at hg2; omega, ((Below.refl _ _).alloc (Nat.le_refl _) _).trans (BL2.out.mono (by simp)), hg2'⟩
        case round =>
          obtain ⟨m, hm', rfl, ho, hr, hne, hb, hg⟩ := hrel
          have hsz' := hb.size
          have hal' : (othL (ls.take m) x).length ≤ m := by unfold othL; have := List.length_filter_le (fun z => z != x && z != -x) (ls.take m); rw [List.length_take] at this; omega
          by_cases hlt' : m < ls.length
          · obtain ⟨b', off', hA', hbl', hc'⟩ := hr.at (by omega)
            obtain ⟨rfl, rfl⟩ : g2 = b' ∧ 0 = off' := by simpa using hA'
            have hcell' := hc' m hlt'
            rw [Nat.zero_add] at hcell'
            have HS' := Lib.hid (othL_succ ls x m hlt')
            have hy1 := (HLM.out ls[m] (by simp)).1
            have hy2 := (HLM.out ls[m] (by simp)).2
            have HR' := Lib.hid hr
            have HO' := Lib.hid ho
            have HB' := Lib.hid hb
            have HN' := Lib.hid hne
            clear hc' hr hb hA' hne
            generalize ls[m] = y at hcell' HS' hy1 hy2
            generalize othL (ls.take m) x = acc' at ho HO' HS' hal'
            obtain ⟨A3, cap3, rfl, hcap3, hm3, _, _⟩ := ho.form
            clear ho
            have HY : Hid (I64 y) := Lib.hid ⟨by omega, by omega⟩
            rcases e2 : (y != x) with _ | _
            · have FF : Hid ((y != x && y != -x) = false) := Lib.hid (by rw [e2]; rfl)
              go_wp2
              go_roundw
              case rel => exact ⟨m + 1, by omega, by go_num, by rw [HS'.out, FF.out]; simpa using HO'.out, HR'.out, HN'.out, HB'.out, hg⟩
              case measure => simp [intOf]; omega
            · rcases e3 : (y != -x) with _ | _
              · have FF : Hid ((y != x && y != -x) = false) := Lib.hid (by rw [e2, e3]; rfl)
                go_wp2
                go_roundw
                case rel => exact ⟨m + 1, by omega, by go_num, by rw [HS'.out, FF.out]; simpa using HO'.out, HR'.out, HN'.out, HB'.out, hg⟩
                case measure => simp [intOf]; omega
              · have FF : Hid ((y != x && y != -x) = true) := Lib.hid (by rw [e2, e3]; rfl)
                go_wp2_with (at_builtin; refine push_int rfl (.tmp 42) (.tmp 44) rfl _ _ _ (OwI.alloc HO'.out _) rfl _ _ rfl (cell_new1 _ _ _) HY.out (by first | omega | (simp <;> omega)) (by first | omega | (simp <;> omega)) ?_; intro v1 wv1 o1 g1 p1)
                go_roundw
                case rel =>
                  refine ⟨m + 1, by omega, by go_num, by rw [HS'.out, FF.out]; exact o1, (HR'.out.alloc _).grown g1 (fun b h1 h2 => HN'.out (by simp [Value.ownBlock] at h1; subst h1; exact h2)), ?_, bel_push HB'.out hsz' HO'.out.1 (Nat.le_refl _) g1, by have := g1.size; simp at this; omega⟩
                  rcases p1 with p1 | p1
                  · rw [p1]; exact HN'.out
                  · rw [p1]; simp; omega
                case measure => simp [intOf]; omega
          · obtain rfl : m = ls.length := by omega
            rw [List.take_length] at ho
            have HR3 : Hid (RdI wr (.slice (some ⟨b, off, none⟩) ls.length cap) ls) := Lib.hid (HR.out.below hb)
            have HO3 : Hid (OWhS w.heap.size wr.heap.size _ acc wr) := Lib.hid ((HO.out.keep EWh.stable fun b _ hlt => hb.block b hlt).widen (Nat.le_refl _) hsz')
            have HB3 : Hid (Below w.heap.size w wr) := Lib.hid (HB.out.trans (hb.mono hsz))
            have hsz3 := HB3.out.size
            have HO2 := Lib.hid ho.rd
            have HOI := Lib.hid ho.2
            generalize hos : othL ls x = os at HS hos4 HO2 HOI ho
            obtain ⟨A3, cap3, rfl, hcap3, hm3, _⟩ := ho.form
            clear ho hr hne hb HR HO HB
            have hW1 := wrap_shift hos4
            have hM := pow_le16 hos4
            generalize 2 ^ os.length = M at HS hM hW1
            go_wp2_with fail
            go_loopw [3, 9] (fun out q w3 => ∃ c : Nat, c ≤ M ∧ q = .int .i64 c ∧ OWhS w.heap.size w3.heap.size out (acc ++ allFor x os c) w3 ∧ RdI w3 (.slice (some ⟨b, off, none⟩) ls.length cap) ls ∧ RdI w3 (.slice A3 os.length cap3) os ∧ Below w.heap.size w w3)
              (fun _ q _ => M - (intOf q).toNat)
            case atStart => exact ⟨0, Nat.zero_le _, rfl, by simpa [allFor] using HO3.out, HR3.out, HO2.out, HB3.out⟩
            case round =>
              obtain ⟨c, hc, rfl, ho, hr, hr2, hb⟩ := hrel
              have hsz4 := hb.size
              by_cases hlt3 : c < M
              · have hal3 : (acc ++ allFor x os c).length ≤ 16 * k + c := by rw [List.length_append, allFor_len]; omega
                generalize hacc : acc ++ allFor x os c = acc3 at ho hal3
                have HS4 : Hid (acc ++ allFor x os (c + 1) = acc3 ++ [(x, subTo os c os.length)]) := Lib.hid (by rw [allFor_succ, ← List.append_assoc, hacc])
                have HO4 := Lib.hid ho
                have HR4 := Lib.hid hr
                have HR5 := Lib.hid hr2
                have HB4 := Lib.hid hb
                obtain ⟨cs4, hrow4⟩ := ho.row
                have HW4 := Lib.hid hrow4
                obtain ⟨A4, cap4, rfl, _⟩ := ho.len
                clear ho hr hr2 hb hacc hrow4
                obtain ⟨wm, rfl⟩ : ∃ wm : World, wm = wr := ⟨_, rfl⟩
                go_wp2_with fail
                go_loopw [58] (fun j w4 => ∃ i : Nat, i ≤ os.length ∧ j = .int .i64 i ∧ ∃ s : Value, w4.cell? ⟨wm.heap.size, 0, none⟩ = some (.int .i64 x) ∧ w4.cell? ⟨wm.heap.size, 1, none⟩ = some s ∧ (∀ o, w4.frozen? ⟨wm.heap.size, o, none⟩ = false) ∧ OwI w4 (wm.heap.size + 1) s (subTo os c i) ∧ Below wm.heap.size wm w4 ∧ wm.heap.size < w4.heap.size)
                  (fun j _ => os.length - (intOf j).toNat)
                case atStart => 
                  refine ⟨0, Nat.zero_le _, rfl, .slice none 0 0, by simp [go_sem], by simp [go_sem], by simp [go_sem], ⟨⟨rfl, .inl ⟨rfl, rfl⟩⟩, I64s_nil⟩, (by repeat (first | exact Below.refl _ _ | (refine Below.setCell ?_ (by first | omega | (simp <;> omega)) _) | (refine bel_drewN ?_ _) | (refine Below.drew ?_) | (refine Below.alloc ?_ (by first | omega | (simp <;> omega)) _))), by simp⟩
                case round =>
                  obtain ⟨i, hi, rfl, s, h0, h1, hf, hs, hb5, hg5⟩ := hrel
                  have hsl := subTo_len os c i
                  by_cases hlt4 : i < os.length
                  · obtain ⟨b3, off3, rfl, hbl3, hc3⟩ := (HR5.out.below hb5).at (by omega)
                    have hcell3 := hc3 i hlt4
                    have HS5 := Lib.hid (subTo_succ os c i hlt4)
                    have HI := Lib.hid (HOI.out os[i] (by simp))
                    have HB5 := Lib.hid hb5
                    generalize subTo os c i = sacc at hs HS5 hsl
                    have HO5 := Lib.hid hs
                    obtain ⟨A5, cap5, rfl, hcap5, hm5, _, _⟩ := hs.form
                    generalize os[i] = o at hcell3 HS5 HI
                    clear hc3 hb5 hs
                    have hi4 : i < 4 := by omega
                    have hc16 : c < 16 := by omega
                    have hbit := bit_of hc16 hi4
                    rcases e4 : bitB c i with _ | _
                    · rw [e4] at HS5 hbit
                      go_wp2
                      go_roundw
                      case rel => exact ⟨i + 1, by omega, by go_num, _, h0, h1, hf, by rw [HS5.out]; simpa using HO5.out, HB5.out, hg5⟩
                      case measure => simp [intOf]; omega
                    · rw [e4] at HS5 hbit
                      go_wp2_with ((at_builtin; refine push_int rfl (.tmp 69) (.tmp 71) rfl _ _ _ (OwI.alloc HO5.out _) rfl _ _ rfl (cell_new1 _ _ _) HI.out (by first | omega | (simp <;> omega)) (by first | omega | (simp <;> omega)) ?_; intro v1 wv1 o1 g1 p1); have hne1 : (Value.slice A5 sacc.length cap5).ownBlock ≠ some wm.heap.size := (fun h => by have := (HO5.out.1.lt _ h).1; omega); obtain ⟨hcx, hfx⟩ := cell_grown_alloc g1 hg5 hne1; have hz1 := g1.size; simp at hz1; obtain ⟨A6, cap6, rfl, _⟩ := OwI.form o1; have O1 := Lib.hid o1; have HB6 := Lib.hid (bel_push HB5.out HB5.out.size HO5.out.1 (Nat.le_succ _) g1); clear o1 g1 p1)
                      go_roundw
                      case rel => exact ⟨i + 1, by omega, by go_num, .slice A6 (sacc.length + 1) cap6, by simp [go_sem, hcx, h0], by simp [go_sem, hcx, h1], by simp [go_sem, hfx, hf], by rw [HS5.out]; have h := O1.out.far (p := ⟨wm.heap.size, 1, none⟩) (by simp) (.slice A6 (sacc.length + 1) cap6); simpa using h, (by repeat (first | exact Below.refl _ _ | (refine Below.setCell ?_ (by first | omega | (simp <;> omega)) _) | (refine bel_drewN ?_ _) | (refine Below.drew ?_) | (refine Below.alloc ?_ (by first | omega | (simp <;> omega)) _) | (refine Below.trans ?_ (Below.mono (Hid.out HB6) (by first | omega | (simp <;> omega)))))), by simp; omega⟩
                      case measure => simp [intOf]; omega
                  · obtain rfl : i = os.length := by omega
                    have HS5 := Lib.hid hs
                    have HB5 := Lib.hid hb5
                    have hsl := subTo_len os c os.length
                    obtain ⟨A5, cap5, rfl, hcap5, hm5, _, _⟩ := hs.form
                    have hlt5 := fun b h => hs.1.lt b h
                    have HL5 := Lib.hid hlt5
                    clear hs hb5 hlt5
                    go_wp2_with (at_builtin; refine push_own EWh.stable rfl (.tmp 75) (.tmp 77) rfl Try.underlying49 hi0 hz0 hz1 hz2 rfl (by decide) (by decide) HO4.out hsz4 (HB5.out.alloc HB5.out.size _) rfl _ [.int .i64 x, _] (x, subTo os c os.length) _ rfl (EWh.of ⟨by omega, by omega⟩ (HS5.out.alloc _)) rfl (opt_nodup _) ?_ ?_ ?_ (by omega) ?_; (intro b hb; have := HL5.out b (by simpa using hb); simp; omega); (intro j u hj; match j, hj with | 0, hj => (simp at hj; subst hj; simp [go_sem]) | 1, hj => (simp at hj; subst hj; simp [go_sem])); (intro u hu; simp at hu; rcases hu with rfl | rfl <;> rfl); intro v2 w2 o2 g2 )
                    go_roundw
                    case rel =>
                      have hbW := HB5.out.alloc HB5.out.size (Obj.cells #[Value.int IntKind.i64 x, Value.slice A5 (subTo os c os.length).length cap5] 57)
                      have hrW := ownsRow_keep HW4.out (w' := _) fun b hb => hbW.block b (HO4.out.lt hb).2
                      have hne : (57 : TypeId) ≠ 3 := by decide
                      exact ⟨c + 1, by omega, by go_num, by rw [HS4.out]; exact o2, ⟨(HR4.out.below hbW).1.grown_ty hrW hne g2, HR4.out.2⟩, ⟨(HR5.out.below hbW).1.grown_ty hrW hne g2, HR5.out.2⟩, bel_own (HB4.out.trans (hbW.mono hsz4)) HO4.out (Nat.le_refl _) (by have := hbW.size; omega) g2⟩
                    case measure => simp [intOf]; omega
              · obtain rfl : c = M := by omega
                go_wp2
                go_roundw
                case rel => exact ⟨k + 1, by omega, by go_num, by rw [HS.out]; exact ho, hr, hb⟩
                case measure => simp [intOf]; omega
      · obtain rfl : k = ls.length := by omega
        go_wp2
        go_ret
        exact ⟨_, rfl, by rw [F.out]; exact hown, hbel⟩
set_option maxRecDepth 8000 in
set_option maxHeartbeats 2000000 in
theorem specAllWhitehead_any (r : Int) (w : World) :
    Calls Try.prog 54 #[.int .i64 r] w fun e w' => ∃ v, e = .returned v ∧ OWhS w.heap.size w'.heap.size v (allWh r) w' ∧ Below w.heap.size w w' := by
  rcases e1 : inB r 1 3 with _ | _
  · have F : Hid (allWh r = []) := Lib.hid (by unfold allWh; rw [e1]; rfl)
    go_enter Try.func54, Try.ntmps54
    go_wp2_with (go_at_call 25; refine (l1In_any _ _ _ _).mono ?_; rintro e w' ⟨rfl, rfl⟩)
    go_ret
    exact ⟨_, rfl, by rw [F.out]; exact (OWhS_lit w (Nat.le_refl _)).widen (Nat.le_refl _) (by simp), (Below.refl _ _).alloc (Nat.le_refl _) _⟩
  · have hr1 := (inB_iff.1 e1).1
    have hr3 := (inB_iff.1 e1).2
    obtain ⟨n, rfl⟩ : ∃ n : Nat, r = n := ⟨r.toNat, by omega⟩
    have F : Hid (allWh n = allK (lettersL n) (lettersL n).length) := Lib.hid (by unfold allWh; rw [e1, lettersL_len]; simp)
    have hn1 : 1 ≤ n := by omega
    have hn3 : n ≤ 3 := by omega
    have HOS := Lib.hid (oth_small n hn1 hn3)
    have HAL := Lib.hid (allK_len n hn1 hn3)
    have hl6 : (lettersL n).length ≤ 6 := by rw [lettersL_len]; omega
    have HLM : Hid (∀ x ∈ lettersL n, -3 ≤ x ∧ x ≤ 3) := Lib.hid (fun x hx => by have := lettersL_mem hx; omega)
    have HLL : ∀ W : World, Calls Try.prog 74 #[.int .i64 n] W fun e w' => ∃ r, e = .returned r ∧ OwI w' W.heap.size r (lettersL n) ∧ Below W.heap.size W w' := fun W => l5Letters_any n W (by omega)
    generalize lettersL n = ls at F HOS HAL hl6 HLM HLL
    have HLE := Lib.hid HLL
    clear HLL
    obtain ⟨i0, hi0, hz0, hz1, hz2⟩ := info_parts wh_info
    go_enter Try.func54, Try.ntmps54
    go_wp2_with (first
      | (go_at_call 25; refine (l1In_any _ _ _ _).mono ?_; rintro e w' ⟨rfl, rfl⟩)
      | (go_at_call 74; refine (HLE.out _).mono ?_; rintro e w1 ⟨lv, rfl, ol, bl⟩; have OL := Lib.hid ol; have BL := Lib.hid bl; obtain ⟨A, cap, rfl, hcap, hm, _⟩ := OwI.form ol; clear ol bl))
    go_loopw [3, 5] (fun out i wr => ∃ k : Nat, k ≤ ls.length ∧ i = .int .i64 k ∧ OWhS w.heap.size wr.heap.size out (allK ls k) wr ∧ RdI wr (.slice A ls.length cap) ls ∧ Below w.heap.size w wr)
      (fun _ i _ => ls.length - (intOf i).toNat)
    case atStart =>
      refine ⟨0, Nat.zero_le _, rfl, ((OWhS_lit w (Nat.le_refl _)).keep EWh.stable (fun b _ hb => BL.out.block b (by simpa using hb))).widen (Nat.le_refl _) (by have := BL.out.size; simp at this; omega), OL.out.rd, ((Below.refl _ _).alloc (Nat.le_refl _) _).trans (BL.out.mono (by simp))⟩
    case round =>
      obtain ⟨k, hk, rfl, hown, hls, hbel⟩ := hrel
      have hsz := hbel.size
      by_cases hlt : k < ls.length
      · have hal := HAL.out k hk
        obtain ⟨b, off, rfl, hbl, hc⟩ := hls.at (by omega)
        have hcell := hc k hlt
        have hos4 := (HOS.out ls[k] (by simp)).1
        have HS := Lib.hid (allK_succ ls k hlt)
        have hx1 := (HLM.out ls[k] (by simp)).1
        have hx2 := (HLM.out ls[k] (by simp)).2
        have HR := Lib.hid hls
        have HO := Lib.hid hown
        have HB := Lib.hid hbel
        clear hc hls hown hbel
        generalize hxe : ls[k] = x at hcell hos4 HS hx1 hx2
        have HXE := Lib.hid hxe
        clear hxe
        generalize allK ls k = acc at HO HS hal
        obtain ⟨wo, rfl⟩ : ∃ wo : World, wo = wr := ⟨_, rfl⟩
        go_wp2_with fail
        go_loopw [6, 7] (fun oth j wi => ∃ m : Nat, m ≤ ls.length ∧ j = .int .i64 m ∧ OwI wi wo.heap.size oth (othL (ls.take m) x) ∧ Below wo.heap.size wo wi)
          (fun _ j _ => ls.length - (intOf j).toNat)
        case atStart =>
          exact ⟨0, Nat.zero_le _, rfl, OwI_lit wo [] I64s_nil (by simp) (Nat.le_refl _), (Below.refl _ _).alloc (Nat.le_refl _) _⟩
        case round =>
          obtain ⟨m, hm', rfl, ho, hb⟩ := hrel
          have hsz' := hb.size
          have hal' : (othL (ls.take m) x).length ≤ m := by unfold othL; have := List.length_filter_le (fun z => z != x && z != -x) (ls.take m); rw [List.length_take] at this; omega
          by_cases hlt' : m < ls.length
          · have hcellx := (hb.cell hbl).trans hcell
            obtain ⟨b', off', hA', hbl', hc'⟩ := (HR.out.below hb).at (by omega)
            obtain ⟨rfl, rfl⟩ : b = b' ∧ off = off' := by simpa using hA'
            have hcell' := hc' m hlt'
            have HS' := Lib.hid (othL_succ ls x m hlt')
            have hy1 := (HLM.out ls[m] (by simp)).1
            have hy2 := (HLM.out ls[m] (by simp)).2
            have HO' := Lib.hid ho
            have HB' := Lib.hid hb
            clear hc' hb hA'
            generalize ls[m] = y at hcell' HS' hy1 hy2
            generalize othL (ls.take m) x = acc' at ho HO' HS' hal'
            obtain ⟨A3, cap3, rfl, hcap3, hm3, _, _⟩ := ho.form
            clear ho
            have HY : Hid (I64 y) := Lib.hid ⟨by omega, by omega⟩
            have HAB := Lib.hid (abs_ne hy1 hy2 hx1 hx2)
            rcases e2 : (abs64 y != abs64 x) with _ | _
            · have FF : Hid ((y != x && y != -x) = false) := Lib.hid (by rw [← HAB.out, e2])
              go_wp2
              go_quiet ((go_at_call 75; first | exact quiet_left (l21Abs_any _ _) | exact quiet_add_left (l21Abs_any _ _)))
              go_wp2
              go_roundw
              case rel => exact ⟨m + 1, by omega, by go_num, by rw [HS'.out, FF.out]; simp only [Bool.false_eq_true, if_false, List.append_nil]; exact HO'.out.drewN _, bel_drewN HB'.out _⟩
              case measure => simp [intOf]; omega
            · have FF : Hid ((y != x && y != -x) = true) := Lib.hid (by rw [← HAB.out, e2])
              go_wp2
              go_quiet ((go_at_call 75; first | exact quiet_left (l21Abs_any _ _) | exact quiet_add_left (l21Abs_any _ _)))
              have hcell2 : (wr.drewN nq).cell? ⟨b, off + m, none⟩ = some (.int .i64 y) := hcell'
              have HO2 := Lib.hid (HO'.out.drewN nq)
              have HB2 := Lib.hid (bel_drewN HB'.out nq)
              have hsz2 := HB2.out.size
              generalize wr.drewN nq = w9 at hcell2 HO2 HB2 hsz2 ⊢
              go_wp2_with (at_builtin; refine push_int rfl (.tmp 42) (.tmp 47) rfl _ _ _ (OwI.alloc HO2.out _) rfl _ _ rfl (cell_new1 _ _ _) HY.out (by first | omega | (simp <;> omega)) (by first | omega | (simp <;> omega)) ?_; intro v1 wv1 o1 g1 p1)
              go_roundw
              case rel => exact ⟨m + 1, by omega, by go_num, by rw [HS'.out, FF.out]; exact o1, bel_push HB2.out hsz2 HO2.out.1 (Nat.le_refl _) g1⟩
              case measure => simp [intOf]; omega
          · obtain rfl : m = ls.length := by omega
            rw [List.take_length] at ho
            have HR3 : Hid (RdI wr (.slice (some ⟨b, off, none⟩) ls.length cap) ls) := Lib.hid (HR.out.below hb)
            have HO3 : Hid (OWhS w.heap.size wr.heap.size _ acc wr) := Lib.hid ((HO.out.keep EWh.stable fun b _ hlt => hb.block b hlt).widen (Nat.le_refl _) hsz')
            have HB3 : Hid (Below w.heap.size w wr) := Lib.hid (HB.out.trans (hb.mono hsz))
            have hsz3 := HB3.out.size
            have HO2 := Lib.hid ho.rd
            have HOI := Lib.hid ho.2
            generalize hos : othL ls x = os at HS hos4 HO2 HOI ho
            obtain ⟨A3, cap3, rfl, hcap3, hm3, _⟩ := ho.form
            clear ho hb HR HO HB
            have hW1 := wrap_shift hos4
            have hM := pow_le16 hos4
            generalize 2 ^ os.length = M at HS hM hW1
            go_wp2_with fail
            go_loopw [3, 8] (fun out q w3 => ∃ c : Nat, c ≤ M ∧ q = .int .i64 c ∧ OWhS w.heap.size w3.heap.size out (acc ++ allFor x os c) w3 ∧ RdI w3 (.slice (some ⟨b, off, none⟩) ls.length cap) ls ∧ RdI w3 (.slice A3 os.length cap3) os ∧ Below w.heap.size w w3)
              (fun _ q _ => M - (intOf q).toNat)
            case atStart => exact ⟨0, Nat.zero_le _, rfl, by simpa [allFor] using HO3.out, HR3.out, HO2.out, HB3.out⟩
            case round =>
              obtain ⟨c, hc, rfl, ho, hr, hr2, hb⟩ := hrel
              have hsz4 := hb.size
              by_cases hlt3 : c < M
              · have hal3 : (acc ++ allFor x os c).length ≤ 16 * k + c := by rw [List.length_append, allFor_len]; omega
                generalize hacc : acc ++ allFor x os c = acc3 at ho hal3
                have HS4 : Hid (acc ++ allFor x os (c + 1) = acc3 ++ [(x, subTo os c os.length)]) := Lib.hid (by rw [allFor_succ, ← List.append_assoc, hacc])
                have HO4 := Lib.hid ho
                have HR4 := Lib.hid hr
                have HR5 := Lib.hid hr2
                have HB4 := Lib.hid hb
                obtain ⟨cs4, hrow4⟩ := ho.row
                have HW4 := Lib.hid hrow4
                obtain ⟨A4, cap4, rfl, _⟩ := ho.len
                obtain ⟨b9, off9, hA9, hbl9, hc9⟩ := hr.at (by omega)
                obtain ⟨rfl, rfl⟩ : b = b9 ∧ off = off9 := by simpa using hA9
                have hcell9 := hc9 k hlt
                rw [HXE.out] at hcell9
                clear ho hr hr2 hb hacc hrow4 hc9 hA9
                obtain ⟨wm, rfl⟩ : ∃ wm : World, wm = wr := ⟨_, rfl⟩
                go_wp2_with fail
                go_loopw [10] (fun j w4 => ∃ i : Nat, i ≤ os.length ∧ j = .int .i64 i ∧ ∃ s : Value, w4.cell? ⟨wm.heap.size, 0, none⟩ = some (.int .i64 x) ∧ w4.cell? ⟨wm.heap.size, 1, none⟩ = some s ∧ (∀ o, w4.frozen? ⟨wm.heap.size, o, none⟩ = false) ∧ OwI w4 (wm.heap.size + 1) s (subTo os c i) ∧ Below wm.heap.size wm w4 ∧ wm.heap.size < w4.heap.size)
                  (fun j _ => os.length - (intOf j).toNat)
                case atStart => 
                  refine ⟨0, Nat.zero_le _, rfl, .slice none 0 0, by simp [go_sem], by simp [go_sem], by simp [go_sem], ⟨⟨rfl, .inl ⟨rfl, rfl⟩⟩, I64s_nil⟩, (by repeat (first | exact Below.refl _ _ | (refine Below.setCell ?_ (by first | omega | (simp <;> omega)) _) | (refine bel_drewN ?_ _) | (refine Below.drew ?_) | (refine Below.alloc ?_ (by first | omega | (simp <;> omega)) _))), by simp⟩
                case round =>
                  obtain ⟨i, hi, rfl, s, h0, h1, hf, hs, hb5, hg5⟩ := hrel
                  have hsl := subTo_len os c i
                  by_cases hlt4 : i < os.length
                  · obtain ⟨b3, off3, rfl, hbl3, hc3⟩ := HR5.out.at (by omega)
                    have hcell3 := (hb5.cell hbl3).trans (hc3 i hlt4)
                    have HS5 := Lib.hid (subTo_succ os c i hlt4)
                    have HI := Lib.hid (HOI.out os[i] (by simp))
                    have HB5 := Lib.hid hb5
                    generalize subTo os c i = sacc at hs HS5 hsl
                    have HO5 := Lib.hid hs
                    obtain ⟨A5, cap5, rfl, hcap5, hm5, _, _⟩ := hs.form
                    generalize os[i] = o at hcell3 HS5 HI
                    clear hc3 hb5 hs
                    have hi4 : i < 4 := by omega
                    have hc16 : c < 16 := by omega
                    have hbit := bit_of hc16 hi4
                    rcases e4 : bitB c i with _ | _
                    · rw [e4] at HS5 hbit
                      go_wp2
                      go_roundw
                      case rel => exact ⟨i + 1, by omega, by go_num, _, h0, h1, hf, by rw [HS5.out]; simpa using HO5.out, HB5.out, hg5⟩
                      case measure => simp [intOf]; omega
                    · rw [e4] at HS5 hbit
                      have hK1 : ∀ ob o', (wr.drew.alloc ob).cell? ⟨wm.heap.size, o', none⟩ = wr.cell? ⟨wm.heap.size, o', none⟩ := fun ob o' => World.cell?_of_block (Below.heap_alloc wr.drew ob _ hg5)
                      have hK3 : ∀ ob o', (wr.drew.alloc ob).cell? ⟨b3, o', none⟩ = wr.cell? ⟨b3, o', none⟩ := fun ob o' => World.cell?_of_block (Below.heap_alloc wr.drew ob _ (Nat.lt_of_lt_of_le hbl3 HB5.out.size))
                      have HK1 := Lib.hid hK1
                      have HK3 := Lib.hid hK3
                      clear hK1 hK3
                      go_wp2_with fail
                      go_region_law
                        (first | (refine step_append_ints rfl (.tmp 73) (.tmp 78) rfl (wm.heap.size + 1) (.slice A5 sacc.length cap5) sacc (by repeat (first | exact (Hid.out HO5) | exact (Hid.out HO5).drewN _ | (refine OwI.far ?_ (by first | omega | (simp <;> omega)) _) | (refine OwI.alloc ?_ _) | (refine OwI.drew ?_) | (refine OwI.drewN ?_ _))) (by rfl) (.slice (some ⟨wr.heap.size, 0, none⟩) 1 1) [o] (RdI_new1 wr o HI.out) (by rfl) (by simp; omega) (by simp; omega) ?_; intro v1 w1 o1 g1 p1; have hne1 : (Value.slice A5 sacc.length cap5).ownBlock ≠ some wm.heap.size := (fun h => by have := (HO5.out.1.lt _ h).1; omega); have hne2 : (Value.slice A5 sacc.length cap5).ownBlock ≠ some b3 := (fun h => by have := (HO5.out.1.lt _ h).1; omega); obtain ⟨hcx, hfx⟩ := cell_grown_drew g1 hg5 hne1; obtain ⟨hcy, hfy⟩ := cell_grown_drew g1 (Nat.lt_of_lt_of_le hbl3 HB5.out.size) hne2; have hz1 := g1.size; simp at hz1; have HX1 := Lib.hid hcx; have HX3 := Lib.hid hcy; obtain ⟨A6, cap6, rfl, _⟩ := OwI.form o1; have O1 := Lib.hid o1; have HB6 := Lib.hid (bel_push HB5.out.drew HB5.out.size HO5.out.1 (Nat.le_succ _) g1)))
                      all_goals
                        go_wp2
                        go_roundw
                        case rel => exact ⟨i + 1, by omega, by go_num, .slice A6 (sacc.length + 1) cap6, by simp [go_sem, hcx, h0], by simp [go_sem, hcx, h1], by simp [go_sem, hfx, hf], by rw [HS5.out]; have h := O1.out.far (p := ⟨wm.heap.size, 1, none⟩) (by simp) (.slice A6 (sacc.length + 1) cap6); simpa using h, (by repeat (first | exact Below.refl _ _ | (refine Below.setCell ?_ (by first | omega | (simp <;> omega)) _) | (refine bel_drewN ?_ _) | (refine Below.drew ?_) | (refine Below.alloc ?_ (by first | omega | (simp <;> omega)) _) | (refine Below.trans ?_ (Below.mono (Hid.out HB6) (by first | omega | (simp <;> omega)))))), by simp; omega⟩
                        case measure => simp [intOf]; omega
                  · obtain rfl : i = os.length := by omega
                    have HS5 := Lib.hid hs
                    have HB5 := Lib.hid hb5
                    have hsl := subTo_len os c os.length
                    obtain ⟨A5, cap5, rfl, hcap5, hm5, _, _⟩ := hs.form
                    have hlt5 := fun b h => hs.1.lt b h
                    have HL5 := Lib.hid hlt5
                    clear hs hb5 hlt5
                    go_wp2_with (at_builtin; refine push_own EWh.stable rfl (.tmp 81) (.tmp 83) rfl Try.underlying49 hi0 hz0 hz1 hz2 rfl (by decide) (by decide) HO4.out hsz4 (HB5.out.alloc HB5.out.size _) rfl _ [.int .i64 x, _] (x, subTo os c os.length) _ rfl (EWh.of ⟨by omega, by omega⟩ (HS5.out.alloc _)) rfl (opt_nodup _) ?_ ?_ ?_ (by omega) ?_; (intro b hb; have := HL5.out b (by simpa using hb); simp; omega); (intro j u hj; match j, hj with | 0, hj => (simp at hj; subst hj; simp [go_sem]) | 1, hj => (simp at hj; subst hj; simp [go_sem])); (intro u hu; simp at hu; rcases hu with rfl | rfl <;> rfl); intro v2 w2 o2 g2 )
                    go_roundw
                    case rel =>
                      have hbW := HB5.out.alloc HB5.out.size (Obj.cells #[Value.int IntKind.i64 x, Value.slice A5 (subTo os c os.length).length cap5] 57)
                      have hrW := ownsRow_keep HW4.out (w' := _) fun b hb => hbW.block b (HO4.out.lt hb).2
                      have hne : (57 : TypeId) ≠ 3 := by decide
                      exact ⟨c + 1, by omega, by go_num, by rw [HS4.out]; exact o2, ⟨(HR4.out.below hbW).1.grown_ty hrW hne g2, HR4.out.2⟩, ⟨(HR5.out.below hbW).1.grown_ty hrW hne g2, HR5.out.2⟩, bel_own (HB4.out.trans (hbW.mono hsz4)) HO4.out (Nat.le_refl _) (by have := hbW.size; omega) g2⟩
                    case measure => simp [intOf]; omega
              · obtain rfl : c = M := by omega
                have HQ := Lib.hid (And.intro ho (And.intro hr hb))
                clear ho hr hr2 hb HOI HO2 HO3 HR3 HB3 hcell
                go_wp2
                go_roundw
                case rel => exact ⟨k + 1, by omega, by go_num, by rw [HS.out]; exact HQ.out.1, HQ.out.2.1, HQ.out.2.2⟩
                case measure => simp [intOf]; omega
      · obtain rfl : k = ls.length := by omega
        go_wp2
        go_ret
        exact ⟨_, rfl, by rw [F.out]; exact hown, hbel⟩
end Go.Proofs.Ytnmkbkpegkchpaa
