/- MemAdds holds: additions to a word come to their sum, in whatever order. No condition. -/
import Derived.Test.YtcolbaaecbhkdaaMemLaw
import Derived.Test.YtcolbaaecbhkdaaMemAddsV
namespace Go.Proofs.Ytcolbaaecbhkdaa.memAdds
open Go.RowKit Go.Proofs.Ytcolbaaecbhkdaa.Ab
set_option maxRecDepth 100000 in
theorem lifted (os : Os) (started : os.Started) (H : Type) (enc : TypeId × Value → H) :
    ReturnsInHanded {} Try.checked os 7 .any (Rows.memAddsSpec.pre6 enc Try.prog Try.f7 Rows.memAddsRow.domain false) (Rows.memAddsSpec.post enc Try.prog Try.f7 false true false false) :=
  law_lifted (C := Try.checked) (tb := 4) Γ_ok own started (by kernel_rfl) Try.func7 laidOut (ks := [kIs, kI]) (by kernel_rfl) rfl Try.underlying4 rfl
    (fun ds h => by
      have h2 : ds.length = 2 := by rw [h, Try.params7]; rfl
      match ds, h2 with
      | [_, _], _ => rfl)
    (ChangeSpec.witness6 (enc := enc) (C := Try.checked) false ⟨#[], #[.slice none 0 0, .int .i64 0], []⟩ 8 (by kernel_rfl) (by kernel_rfl) (by kernel_rfl) (by kernel_rfl))
    adds_cd
theorem over : Rows.memAddsRow.holds Try.pinned (OpenSpec.ofChange Rows.memAddsSpec) :=
  OpenClaim.holds_of_wide 7 Try.f7 rfl rfl rfl rfl rfl rfl rfl ⟨rfl, rfl, rfl, rfl, rfl⟩ rfl rfl rfl rfl rfl (by kernel_rfl) Try.func7 (by kernel_rfl)
    (of_decide_eq_true (by kernel_rfl)) (by unfold Func.isWrapper; first | (rw [if_pos (by decide +kernel)]; kernel_rfl) | (rw [if_neg (by decide +kernel)]; exact ⟨rfl, rfl⟩))
    (fun os started H enc _ => lifted os started H enc)
end Go.Proofs.Ytcolbaaecbhkdaa.memAdds
namespace Go.Proofs.Ytcolbaaecbhkdaa
/-- The row. -/
theorem memAdds_holds : Rows.MemAddsSaid := memAdds.over
end Go.Proofs.Ytcolbaaecbhkdaa
