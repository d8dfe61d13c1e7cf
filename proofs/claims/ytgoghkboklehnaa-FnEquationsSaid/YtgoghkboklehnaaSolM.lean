/- How many ints the list of solutions holds. -/
import Derived.Test.YtgoghkboklehnaaSolU
import Derived.Test.YtgoghkboklehnaaIIL
namespace Go.Proofs.Ytgoghkboklehnaa
set_option maxRecDepth 20000
set_option linter.unusedVariables false
set_option linter.unusedSimpArgs false
open Go.RowKit

theorem sols_cnt (r : Int) (es : List Int) (m : Int) : cntL cI (solsF r es m).1 ≤ 1073741824 := by
  unfold solsF
  split
  · rename_i h
    rw [Bool.and_eq_true] at h
    have hr13 := inB_iff.1 (eqB_rank h.1)
    have hm4 := inB_iff.1 h.2
    have h1 := cnt_small (n := 4) (L := (uptW (lettersL r.toNat) m.toNat).filter (solZ es)) fun x hx => by
      have := uptW_word (r := r.toNat) (by omega) (by omega) (n := m.toNat) (by omega) x (List.mem_filter.1 hx).1
      omega
    have h2 := List.length_filter_le (solZ es) (uptW (lettersL r.toNat) m.toNat)
    have h3 := uptW_len (lettersL r.toNat) (by rw [lettersL_len]; omega) m.toNat
    have h4 : 6 ^ (m.toNat + 1) ≤ 6 ^ 5 := Nat.pow_le_pow_right (by omega) (by omega)
    simp only
    omega
  · simp [cntL]
end Go.Proofs.Ytgoghkboklehnaa
