/- InverseWhitehead of the reference and of the program. -/
import Derived.Test.YtnjbebicnmnnkaaWh
import Derived.Test.YtnjbebicnmnnkaaNum
namespace Go.Proofs.Ytnjbebicnmnnkaa
open Go.RowKit

set_option maxHeartbeats 400000 in
theorem copyInts_any (v : Value) (xs : List Int) (w : World) (h : RdI w v xs) (hl : xs.length ≤ 1073741824) :
    Calls Try.prog 59 #[v] w fun e w' => ∃ r, e = .returned r ∧ OwI w' w.heap.size r xs ∧ Below w.heap.size w w' := by
  have H := Lib.hid h
  obtain ⟨A, cap, rfl, _⟩ := h.arg
  clear h
  go_enter Try.func59, Try.ntmps59
  go_wp2_with (at_builtin; refine append_ints rfl (.tmp 3) (.tmp 4) rfl w.heap.size _ [] (OwI_lit _ [] I64s_nil (by simp) (Nat.le_refl _)) rfl _ _ (H.out.alloc _) rfl (by simp; omega) (by simp) ?_; intro v1 w1 o1 g1 p1)
  go_ret
  exact ⟨_, rfl, by simpa using o1, ((Below.refl _ _).alloc (Nat.le_refl _) _).grown g1 (by simp) (fun k hk => by simp [Value.ownBlock] at hk; omega)⟩
def whInv (d : WhD) : WhD := (wrap64 (-d.1), d.2)

set_option maxHeartbeats 1000000 in
theorem implInverseWhitehead_any (v : Value) (d : WhD) (w : World) {base : Nat} (h : OwWh w base v d) (hl : d.2.length ≤ 1073741824) :
    Calls Try.prog 32 #[v] w fun e w' => ∃ r, e = .returned r ∧ OwWh w' w.heap.size r (whInv d) ∧ Below w.heap.size w w' := by
  obtain ⟨s, rfl, hd, ho⟩ := h
  obtain ⟨L, xs⟩ := d
  have H := Lib.hid ho.rd
  obtain ⟨A, cap, rfl, _⟩ := OwI.form ho
  clear ho
  go_enter Try.func32, Try.ntmps32
  go_wp2_with fail
  go_region_held3 (fun w' => w'.cell? ⟨w.heap.size, 0, none⟩ = some (.int .i64 L) ∧ w'.cell? ⟨w.heap.size, 1, none⟩ = some (.slice A xs.length cap)) (first | go_keep | (constructor <;> (rw [hc _ _ (by simp; omega)]; simp [go_sem])))
    (first | (go_at_call 59; refine (copyInts_any _ xs _ ?_ hl).mono ?_; (exact (by repeat (first | exact (Hid.out H) | (refine RdI.drew ?_) | (refine RdI.drewN ?_ _) | (refine RdI.alloc ?_ _)))); rintro e w1 ⟨r, rfl, o1, b1⟩; have O1 := Lib.hid o1; have B1 := Lib.hid b1; obtain ⟨A1, cap1, rfl, _⟩ := OwI.form o1; obtain ⟨hc, hf⟩ := bcell b1; have hz : w.heap.size + 1 < w1.heap.size := (by have := b1.size; simp at this; omega); clear o1 b1))
  go_wp2
  refine bodyPost_ret (v := .agg #[.int .i64 (wrap64 (-L)), .slice A1 xs.length cap1]) (by simp [results, Try.results32, go_sem, hc, hz, wrap_i64_eq]) rfl ⟨_, rfl, ⟨_, rfl, I64_wrap0 _, ?_⟩, ?_⟩
  · refine OwI.mono (base := w.heap.size + 1 + 1) ?_ (by omega)
    have O2 : Hid (OwI w1 (w.heap.size + 1 + 1) (.slice A1 xs.length cap1) xs) := Lib.hid (by simpa using O1.out)
    exact (by repeat (first | exact (Hid.out O2) | exact (Hid.out O2).drewN _ | (refine OwI.far ?_ (by first | omega | (simp <;> omega)) _) | (refine OwI.alloc ?_ _) | (refine OwI.drew ?_) | (refine OwI.drewN ?_ _)))
  · exact (by repeat (first | exact Below.refl _ _ | (refine Below.setCell ?_ (by first | omega | (simp <;> omega)) _) | (refine bel_drewN ?_ _) | (refine Below.drew ?_) | (refine Below.alloc ?_ (by first | omega | (simp <;> omega)) _) | (refine Below.trans ?_ (Below.mono (Hid.out B1) (by first | omega | (simp <;> omega))))))

set_option maxHeartbeats 1000000 in
theorem specInverseWhitehead_any (v : Value) (d : WhD) (w : World) {base : Nat} (h : OwWh w base v d) (hl : d.2.length ≤ 1073741824) :
    Calls Try.prog 30 #[v] w fun e w' => ∃ r, e = .returned r ∧ OwWh w' w.heap.size r (whInv d) ∧ Below w.heap.size w w' := by
  obtain ⟨s, rfl, hd, ho⟩ := h
  obtain ⟨L, xs⟩ := d
  have H := Lib.hid ho.rd
  obtain ⟨A, cap, rfl, _⟩ := OwI.form ho
  clear ho
  go_enter Try.func30, Try.ntmps30
  go_wp2_with fail
  go_region_held3 (fun w' => w'.cell? ⟨w.heap.size, 0, none⟩ = some (.int .i64 L) ∧ w'.cell? ⟨w.heap.size, 1, none⟩ = some (.slice A xs.length cap)) (first | go_keep | (constructor <;> (rw [hc _ _ (by omega)]; simp [go_sem])))
    (first | (refine step_append_ints rfl (.tmp 6) (.tmp 8) rfl (w.heap.size + 1 + 1) _ [] (OwI_litN _ [] (w.heap.size + 1 + 1) (by simp [World.drew, World.drewN]) I64s_nil (by simp) (Nat.le_refl _)) (by rfl) _ xs ?_ (by rfl) (by simp; omega) (by simp) ?_; (exact (by repeat (first | exact (Hid.out H) | (refine RdI.drew ?_) | (refine RdI.drewN ?_ _) | (refine RdI.alloc ?_ _)))); intro v1 w1 o1 g1 p1; have O1 := Lib.hid o1; have hb1 := (Below.refl (w.heap.size + 1 + 1) _).grown g1 (by simp) (fun k hk => by simp [Value.ownBlock] at hk; omega); have B1 := Lib.hid hb1; obtain ⟨A1, cap1, rfl, _⟩ := OwI.form o1; obtain ⟨hc, hf⟩ := bcellN hb1; have hz : w.heap.size + 1 + 1 < w1.heap.size := (by have := g1.size; simp at this; omega); clear o1 hb1 g1 p1))
  go_wp2
  refine bodyPost_ret (v := .agg #[.int .i64 (wrap64 (-L)), .slice A1 xs.length cap1]) (by simp [results, Try.results30, go_sem, hc, hz, wrap_i64_eq]) rfl ⟨_, rfl, ⟨_, rfl, I64_wrap0 _, ?_⟩, ?_⟩
  · refine OwI.mono (base := w.heap.size + 1 + 1) ?_ (by omega)
    have O2 : Hid (OwI w1 (w.heap.size + 1 + 1) (.slice A1 xs.length cap1) xs) := Lib.hid (by simpa using O1.out)
    exact (by repeat (first | exact (Hid.out O2) | exact (Hid.out O2).drewN _ | (refine OwI.far ?_ (by first | omega | (simp <;> omega)) _) | (refine OwI.alloc ?_ _) | (refine OwI.drew ?_) | (refine OwI.drewN ?_ _)))
  · exact (by repeat (first | exact Below.refl _ _ | (refine Below.setCell ?_ (by first | omega | (simp <;> omega)) _) | (refine bel_drewN ?_ _) | (refine Below.drew ?_) | (refine Below.alloc ?_ (by first | omega | (simp <;> omega)) _) | (refine Below.trans ?_ (Below.mono (Hid.out B1) (by first | omega | (simp <;> omega))))))
end Go.Proofs.Ytnjbebicnmnnkaa
