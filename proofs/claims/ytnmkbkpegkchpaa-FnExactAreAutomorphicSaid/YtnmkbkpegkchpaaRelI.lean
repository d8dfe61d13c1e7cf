/- The program's AllRelabellings. -/
import Derived.Test.YtnmkbkpegkchpaaRel
namespace Go.Proofs.Ytnmkbkpegkchpaa
set_option maxRecDepth 20000
set_option linter.unusedVariables false
set_option linter.unusedSimpArgs false
open Go.RowKit
theorem heap_at {w : World} {o : Obj} {N : Nat} (h : w.heap.size = N) : (w.alloc o).heap[N]? = some o := by
  subst h
  show (w.heap.push o)[w.heap.size]? = some o
  simp
set_option maxHeartbeats 1000000 in
theorem implAllRelabellings_any (r : Int) (w : World) (hr : I64 r) :
    Calls Try.prog 8 #[.int .i64 r] w fun e w' => ∃ v, e = .returned v ∧ OMS w.heap.size w'.heap.size v (relF r) w' ∧ Below w.heap.size w w' := by
  have hmf : ∀ (fn : Fn) (first cap : Array Value) (w : World), (Instr.makeFunc fn first cap).run Try.prog w = .ok (.func fn first cap) w := fun _ _ _ _ => rfl
  have hsf : ∀ (a : Addr) (fn : Fn) (first cap : Array Value) (m : Mode) (w : World), (store a (.func fn first cap) m).run Try.prog w = stored Try.prog w a (.func fn first cap) m := fun a _ _ _ m w => run_store _ w a _ m rfl
  rcases e1 : inB r 1 3 with _ | _
  · have F : Hid (relF r = []) := Lib.hid (by unfold relF; rw [e1]; rfl)
    have CI := Lib.hid fun w => within_any r 1 3 w
    rw [e1] at CI
    go_enter Try.func8, Try.ntmps8
    go_wp2_with (go_at_call 27; refine (CI.out _).mono ?_; rintro e w' ⟨rfl, rfl⟩)
    refine bodyPost_ret (v := .slice (some ⟨w.heap.size + 1, 0, none⟩) 0 0) (by simp [results, Try.results8, go_sem]) rfl ⟨_, rfl, ?_, (by repeat (first | exact Below.refl _ _ | (refine Below.setCell ?_ (by first | omega | (simp <;> omega)) _) | (refine bel_drewN ?_ _) | (refine Below.drew ?_) | (refine Below.alloc ?_ (by first | omega | (simp <;> omega)) _)))⟩
    rw [F.out]
    refine OwnL.nil ?_ fun b hb => by simp [Value.ownBlock] at hb; simp; omega
    have h0 := World.ownsRow_lit (e := 45) (size := 2) (base := 0) (w.alloc (Obj.cells #[Value.int IntKind.i64 r] 3)) #[] 0 (Nat.zero_le _) (by unfold maxLen; omega) (by simp)
    have h1 := h0.alloc (Obj.cells #[Value.slice (some { block := w.heap.size + 1, off := 0 }) 0 0] 22)
    simpa using h1
  · have hr1 := (inB_iff.1 e1).1
    have hr3 := (inB_iff.1 e1).2
    obtain ⟨n, rfl⟩ : ∃ n : Nat, r = n := ⟨r.toNat, by omega⟩
    have F : Hid (relF n = (rdL (lettersL n) n []).map (relM n)) := Lib.hid (by unfold relF; rw [e1, rd_all]; simp)
    have CI := Lib.hid fun w => within_any n 1 3 w
    rw [e1] at CI
    go_enter Try.func8, Try.ntmps8
    obtain ⟨W, hW⟩ : ∃ W : World, W = (((((w.alloc (Obj.cells #[Value.int IntKind.i64 n] 3)).alloc (Obj.cells #[] 45)).alloc (Obj.cells #[Value.slice (some { block := w.heap.size + 1, off := 0 }) 0 0] 22)).alloc (Obj.cells #[.func (.func 28) #[] #[.pointer (some ⟨w.heap.size, 0, none⟩), .pointer (some ⟨w.heap.size + 1 + 1, 0, none⟩), .pointer (some ⟨w.heap.size + 1 + 1 + 1, 0, none⟩)]] 46)).alloc (Obj.cells #[] 3)) := ⟨_, rfl⟩
    have hs : W.heap.size = w.heap.size + 5 := by rw [hW]; simp
    have b0 : Below w.heap.size w W := by rw [hW]; exact (by repeat (first | exact Below.refl _ _ | (refine Below.setCell ?_ (by first | omega | (simp <;> omega)) _) | (refine bel_drewN ?_ _) | (refine Below.drew ?_) | (refine Below.alloc ?_ (by first | omega | (simp <;> omega)) _)))
    have k0 : W.heap[w.heap.size]? = some (.cells #[.int .i64 n] 3 (0, 0)) := by
      rw [hW]
      exact ((Below.heap_alloc _ _ _ (by simp <;> omega)).trans ((Below.heap_alloc _ _ _ (by simp <;> omega)).trans ((Below.heap_alloc _ _ _ (by simp <;> omega)).trans ((Below.heap_alloc _ _ _ (by simp <;> omega)).trans (heap_at (by simp))))))
    have k2 : W.heap[w.heap.size + 1 + 1]? = some (.cells #[Value.slice (some { block := w.heap.size + 1, off := 0 }) 0 0] 22 (0, 0)) := by
      rw [hW]
      exact ((Below.heap_alloc _ _ _ (by simp <;> omega)).trans ((Below.heap_alloc _ _ _ (by simp <;> omega)).trans (heap_at (by simp))))
    have k3 : W.heap[w.heap.size + 1 + 1 + 1]? = some (.cells #[.func (.func 28) #[] #[.pointer (some ⟨w.heap.size, 0, none⟩), .pointer (some ⟨w.heap.size + 1 + 1, 0, none⟩), .pointer (some ⟨w.heap.size + 1 + 1 + 1, 0, none⟩)]] 46 (0, 0)) := by
      rw [hW]
      exact ((Below.heap_alloc _ _ _ (by simp <;> omega)).trans (heap_at (by simp)))
    have o1 : W.ownsRow 0 45 2 (.slice (some ⟨w.heap.size + 1, 0, none⟩) 0 0) 0 [] := by
      have h0 := World.ownsRow_lit (e := 45) (size := 2) (base := 0) (w.alloc (Obj.cells #[Value.int IntKind.i64 n] 3)) #[] 0 (Nat.zero_le _) (by unfold maxLen; omega) (by simp)
      have h1 := ((h0.alloc (Obj.cells #[Value.slice (some { block := w.heap.size + 1, off := 0 }) 0 0] 22)).alloc (Obj.cells #[.func (.func 28) #[] #[.pointer (some ⟨w.heap.size, 0, none⟩), .pointer (some ⟨w.heap.size + 1 + 1, 0, none⟩), .pointer (some ⟨w.heap.size + 1 + 1 + 1, 0, none⟩)]] 46)).alloc (Obj.cells #[] 3)
      rw [hW]
      simpa using h1
    have o4 : OwI W w.heap.size (.slice (some ⟨w.heap.size + 1 + 1 + 1 + 1, 0, none⟩) 0 0) [] := by
      rw [hW]
      exact OwI_litN _ [] _ (by simp) I64s_nil (by simp) (by omega)
    have M0 : Hid (MoI n w.heap.size (w.heap.size + 1 + 1) (w.heap.size + 1 + 1 + 1) W [] [w.heap.size + 1]) := Lib.hid ⟨k0, k3, ⟨_, k2, [], rfl, (fun e he => by cases he), o1, by simp [Value.ownBlock]⟩, by simp, (fun b hb => by simp at hb; omega), (fun hb => by rw [List.mem_singleton] at hb; omega), (fun hb => by rw [List.mem_singleton] at hb; omega), (fun hb => by rw [List.mem_singleton] at hb; omega), by omega, by omega⟩
    have B0 := Lib.hid b0
    have O4 := Lib.hid o4
    have HW := Lib.hid hW
    have hpw : (6 : Nat) ^ n ≤ 216 := by
      have : n = 1 ∨ n = 2 ∨ n = 3 := by omega
      rcases this with rfl | rfl | rfl <;> decide
    clear hW b0 k0 k2 k3 o1 o4
    go_wp2_with (go_at_call 27; refine (CI.out _).mono ?_; rintro e w' ⟨rfl, rfl⟩)
    rw [← HW.out]
    refine (more_any n _ _ _ (by omega) (by omega) n [] _ [] [w.heap.size + 1] W (by simp) M0.out (by simp; omega) O4.out.rd (fun b hb => by simp [Value.ownBlock] at hb; subst hb; exact ⟨by omega, by omega, fun h => by rw [List.mem_singleton] at h; omega⟩)).mono ?_
    rintro e w7 ⟨rfl, F7, m7, f7, s7⟩
    obtain ⟨v, hv, hO⟩ := m7.ho
    have c7 := cell_of_one hv
    have HO := Lib.hid hO
    have M7 := Lib.hid m7
    have F7R := Lib.hid f7
    have S7 := Lib.hid s7
    obtain ⟨Av, mv, cv, rfl⟩ := hO.form
    clear m7 f7 s7 hO hv
    go_wp2
    refine bodyPost_ret (v := .slice Av mv cv) (by simp [results, Try.results8, go_sem]) rfl ⟨_, rfl, ?_, ?_⟩
    · rw [F.out]
      refine OwnL.of_f (by simpa using HO.out) M7.out.nd fun b hb => ⟨?_, M7.out.lt b hb⟩
      rcases S7.out b hb with h | h
      · simp at h; omega
      · omega
    · exact B0.out.trans ⟨F7R.out.os, F7R.out.tape, F7R.out.output, F7R.out.size, fun b hb => F7R.out.block b (by omega) (by omega) (fun h => by rw [List.mem_singleton] at h; omega)⟩
end Go.Proofs.Ytnmkbkpegkchpaa
