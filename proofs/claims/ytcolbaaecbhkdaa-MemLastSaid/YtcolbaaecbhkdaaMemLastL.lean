/- MemLast holds: what is found is what was written there last. No condition. -/
import Derived.Test.YtcolbaaecbhkdaaMemLaw
import Derived.Test.YtcolbaaecbhkdaaMemLastV
namespace Go.Proofs.Ytcolbaaecbhkdaa.memLast
open Go.RowKit Go.Proofs.Ytcolbaaecbhkdaa.Ab
set_option maxRecDepth 100000 in
theorem lifted (os : Os) (started : os.Started) (H : Type) (enc : TypeId × Value → H) :
    ReturnsInHanded {} Try.checked os 4 .any (Rows.memLastSpec.pre6 enc Try.prog Try.f4 Rows.memLastRow.domain false) (Rows.memLastSpec.post enc Try.prog Try.f4 false true false false) :=
  law_lifted (C := Try.checked) (tb := 4) Γ_ok own started (by kernel_rfl) Try.func4 laidOut (ks := [kRs]) (by kernel_rfl) rfl Try.underlying4 rfl
    (fun ds h => by
      have h2 : ds.length = 1 := by rw [h, Try.params4]; rfl
      match ds, h2 with
      | [_], _ => rfl)
    (ChangeSpec.witness6 (enc := enc) (C := Try.checked) false ⟨#[], #[.slice none 0 0], []⟩ 8 (by kernel_rfl) (by kernel_rfl) (by kernel_rfl) (by kernel_rfl))
    last_cd
theorem over : Rows.memLastRow.holds Try.pinned (OpenSpec.ofChange Rows.memLastSpec) :=
  OpenClaim.holds_of_wide 4 Try.f4 rfl rfl rfl rfl rfl rfl rfl ⟨rfl, rfl, rfl, rfl, rfl⟩ rfl rfl rfl rfl rfl (by kernel_rfl) Try.func4 (by kernel_rfl)
    (of_decide_eq_true (by kernel_rfl)) (by unfold Func.isWrapper; first | (rw [if_pos (by decide +kernel)]; kernel_rfl) | (rw [if_neg (by decide +kernel)]; exact ⟨rfl, rfl⟩))
    (fun os started H enc _ => lifted os started H enc)
end Go.Proofs.Ytcolbaaecbhkdaa.memLast
namespace Go.Proofs.Ytcolbaaecbhkdaa
/-- The row. -/
theorem memLast_holds : Rows.MemLastSaid := memLast.over
end Go.Proofs.Ytcolbaaecbhkdaa
