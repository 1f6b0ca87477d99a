/- LazyRuns holds: one worker alone goes as the document says, step by step. No condition. -/
import Derived.Test.YtnomicnfgdjdeaaLazyRunsV
import Derived.Test.YtnomicnfgdjdeaaLazyLaw
namespace Go.Proofs.Ytnomicnfgdjdeaa.lazyRuns
open Go.RowKit Go.Proofs.Ytnomicnfgdjdeaa.Ab
set_option maxRecDepth 100000 in
theorem lifted (os : Os) (started : os.Started) (H : Type) (enc : TypeId × Value → H) :
    ReturnsInHanded {} Try.checked os 4 .any (Rows.lazyRunsSpec.pre6 enc Try.prog Try.f4 Rows.lazyRunsRow.domain false) (Rows.lazyRunsSpec.post enc Try.prog Try.f4 false true false false) :=
  law_lifted (C := Try.checked) (tb := 4) Γ_ok own started (by kernel_rfl) Try.func4 laidOut (ks := [kIs, kPs, kI, kI, kI]) (by kernel_rfl) rfl Try.underlying4 rfl
    (fun ds h => by
      have h2 : ds.length = 5 := by rw [h, Try.params4]; rfl
      match ds, h2 with
      | [_, _, _, _, _], _ => rfl)
    (ChangeSpec.witness6 (enc := enc) (C := Try.checked) false ⟨#[], #[.slice none 0 0, .slice none 0 0, .int .i64 0, .int .i64 0, .int .i64 0], []⟩ 8 (by kernel_rfl) (by kernel_rfl) (by kernel_rfl) (by kernel_rfl))
    runs_cd
theorem over : Rows.lazyRunsRow.holds Try.pinned (OpenSpec.ofChange Rows.lazyRunsSpec) :=
  OpenClaim.holds_of_wide 4 Try.f4 rfl rfl rfl rfl rfl rfl rfl ⟨rfl, rfl, rfl, rfl, rfl⟩ rfl rfl rfl rfl rfl (by kernel_rfl) Try.func4 (by kernel_rfl)
    (of_decide_eq_true (by kernel_rfl)) (by unfold Func.isWrapper; first | (rw [if_pos (by decide +kernel)]; kernel_rfl) | (rw [if_neg (by decide +kernel)]; exact ⟨rfl, rfl⟩))
    (fun os started H enc _ => lifted os started H enc)
end Go.Proofs.Ytnomicnfgdjdeaa.lazyRuns
namespace Go.Proofs.Ytnomicnfgdjdeaa
/-- The row. -/
theorem lazyRuns_holds : Rows.LazyRunsSaid := lazyRuns.over
end Go.Proofs.Ytnomicnfgdjdeaa
