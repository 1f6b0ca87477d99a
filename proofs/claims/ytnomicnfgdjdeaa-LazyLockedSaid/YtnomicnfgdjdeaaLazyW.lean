/- What refDo, Play, SameFound and Accesses come to. No condition. -/
import Derived.Test.YtnomicnfgdjdeaaLazyV
namespace Go.Proofs.Ytnomicnfgdjdeaa.Ab
open Go.RowKit
set_option linter.unusedSimpArgs false
set_option maxHeartbeats 4000000 in
theorem do43 (m : List Int) (a : Acc) (hm : m.length * 8 ≤ 140737488355328) (hi : ∀ n ∈ m, i64 n) (ha : a.ok) : cd Γ 43 [.list 1 (ints m), .agg a.c] = some (own3 (doS m a)) := by
  obtain ⟨op, i, old, new⟩ := a
  obtain ⟨h1, h2, h3, h4⟩ := ha
  rw [call (fn := g43) rfl rfl]
  simp only [i64] at h1 h2 h3 h4 hi
  by_cases c1 : 50000 < m.length
  · simp (disch := omega) [decT, decF, ifT, ifF, g43, g43b, Acc.c, Fnd.c, own3, doS, c1]
  by_cases c2 : op < 1
  · simp (disch := omega) [decT, decF, ifT, ifF, g43, g43b, Acc.c, Fnd.c, own3, doS, c1, c2]
  by_cases c3 : 4 < op
  · simp (disch := omega) [decT, decF, ifT, ifF, g43, g43b, Acc.c, Fnd.c, own3, doS, c1, c2, c3]
  by_cases c4 : i < 0
  · simp (disch := omega) [decT, decF, ifT, ifF, g43, g43b, Acc.c, Fnd.c, own3, doS, c1, c2, c3, c4]
  by_cases c5 : (m.length : Int) ≤ i
  · simp (disch := omega) [decT, decF, ifT, ifF, g43, g43b, Acc.c, Fnd.c, own3, doS, c1, c2, c3, c4, c5]
  obtain ⟨j, rfl⟩ : ∃ j : Nat, i = j := ⟨i.toNat, by omega⟩
  have hj : j < m.length := by omega
  have hx := hi m[j] (List.getElem_mem _)
  by_cases c6 : op = 1
  · simp (disch := omega) [decT, decF, ifT, ifF, g43, g43b, Acc.c, Fnd.c, own3, doS, c1, c2, c3, c4, c5, hj, c6]
  by_cases c7 : op = 4
  · by_cases d1 : 0 < new
    · by_cases d3 : 1152921504606846975 - new < m[j]
      · have c8 : ¬okW (m[j] + new) := by unfold okW; omega
        simp (disch := omega) [decT, decF, ifT, ifF, g43, g43b, Acc.c, Fnd.c, own3, doS, c1, c2, c3, c4, c5, hj, c6, c7, within67, c8, d1, d3]
      by_cases c8 : okW (m[j] + new) <;> have c8' := c8 <;> unfold okW at c8' <;>
      simp (disch := omega) [decT, decF, ifT, ifF, g43, g43b, Acc.c, Fnd.c, own3, doS, c1, c2, c3, c4, c5, hj, c6, c7, within67, c8', c8, d1, d3]
    by_cases d2 : new < 0
    · by_cases d4 : m[j] < -1152921504606846975 - new
      · have c8 : ¬okW (m[j] + new) := by unfold okW; omega
        simp (disch := omega) [decT, decF, ifT, ifF, g43, g43b, Acc.c, Fnd.c, own3, doS, c1, c2, c3, c4, c5, hj, c6, c7, within67, c8, d1, d2, d4]
      by_cases c8 : okW (m[j] + new) <;> have c8' := c8 <;> unfold okW at c8' <;>
      simp (disch := omega) [decT, decF, ifT, ifF, g43, g43b, Acc.c, Fnd.c, own3, doS, c1, c2, c3, c4, c5, hj, c6, c7, within67, c8', c8, d1, d2, d4]
    by_cases c8 : okW (m[j] + new) <;> have c8' := c8 <;> unfold okW at c8' <;>
    simp (disch := omega) [decT, decF, ifT, ifF, g43, g43b, Acc.c, Fnd.c, own3, doS, c1, c2, c3, c4, c5, hj, c6, c7, within67, c8', c8, d1, d2]
  by_cases c9 : op = 3
  · by_cases c10 : m[j] = old
    · by_cases c8 : okW new <;> have c8' := c8 <;> unfold okW at c8' <;>
      simp (disch := omega) [decT, decF, ifT, ifF, g43, g43b, Acc.c, Fnd.c, own3, doS, c1, c2, c3, c4, c5, hj, c6, c7, c9, c10, within67, c8', c8]
    · simp (disch := omega) [decT, decF, ifT, ifF, g43, g43b, Acc.c, Fnd.c, own3, doS, c1, c2, c3, c4, c5, hj, c6, c7, c9, c10]
  by_cases c8 : okW new <;> have c8' := c8 <;> unfold okW at c8' <;>
  simp (disch := omega) [decT, decF, ifT, ifF, g43, g43b, Acc.c, Fnd.c, own3, doS, c1, c2, c3, c4, c5, hj, c6, c7, c9, within67, c8', c8, show op = 2 by omega]
end Go.Proofs.Ytnomicnfgdjdeaa.Ab
