/- MemLocks holds: of many that take one lock by Cas none takes it while another one has it. No condition. -/
import Derived.Test.YtcolbaaecbhkdaaMemLaw
import Derived.Test.YtcolbaaecbhkdaaMemLocksV
namespace Go.Proofs.Ytcolbaaecbhkdaa.memLocks
open Go.RowKit Go.Proofs.Ytcolbaaecbhkdaa.Ab
set_option maxRecDepth 100000 in
theorem lifted (os : Os) (started : os.Started) (H : Type) (enc : TypeId × Value → H) :
    ReturnsInHanded {} Try.checked os 8 .any (Rows.memLocksSpec.pre6 enc Try.prog Try.f8 Rows.memLocksRow.domain false) (Rows.memLocksSpec.post enc Try.prog Try.f8 false true false false) :=
  law_lifted (C := Try.checked) (tb := 4) Γ_ok own started (by kernel_rfl) Try.func8 laidOut (ks := [kPs]) (by kernel_rfl) rfl Try.underlying4 rfl
    (fun ds h => by
      have h2 : ds.length = 1 := by rw [h, Try.params8]; rfl
      match ds, h2 with
      | [_], _ => rfl)
    (ChangeSpec.witness6 (enc := enc) (C := Try.checked) false ⟨#[], #[.slice none 0 0], []⟩ 8 (by kernel_rfl) (by kernel_rfl) (by kernel_rfl) (by kernel_rfl))
    locks_cd
theorem over : Rows.memLocksRow.holds Try.pinned (OpenSpec.ofChange Rows.memLocksSpec) :=
  OpenClaim.holds_of_wide 8 Try.f8 rfl rfl rfl rfl rfl rfl rfl ⟨rfl, rfl, rfl, rfl, rfl⟩ rfl rfl rfl rfl rfl (by kernel_rfl) Try.func8 (by kernel_rfl)
    (of_decide_eq_true (by kernel_rfl)) (by unfold Func.isWrapper; first | (rw [if_pos (by decide +kernel)]; kernel_rfl) | (rw [if_neg (by decide +kernel)]; exact ⟨rfl, rfl⟩))
    (fun os started H enc _ => lifted os started H enc)
end Go.Proofs.Ytcolbaaecbhkdaa.memLocks
namespace Go.Proofs.Ytcolbaaecbhkdaa
/-- The row. -/
theorem memLocks_holds : Rows.MemLocksSaid := memLocks.over
end Go.Proofs.Ytcolbaaecbhkdaa
