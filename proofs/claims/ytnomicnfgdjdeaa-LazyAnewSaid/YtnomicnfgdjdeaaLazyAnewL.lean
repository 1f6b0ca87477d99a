/- LazyAnew holds: a worker that is passed by others begins anew, and does what a set does then. No condition. -/
import Derived.Test.YtnomicnfgdjdeaaLazyAnewV
import Derived.Test.YtnomicnfgdjdeaaLazyLaw
namespace Go.Proofs.Ytnomicnfgdjdeaa.lazyAnew
open Go.RowKit Go.Proofs.Ytnomicnfgdjdeaa.Ab
set_option maxRecDepth 100000 in
theorem lifted (os : Os) (started : os.Started) (H : Type) (enc : TypeId × Value → H) :
    ReturnsInHanded {} Try.checked os 9 .any (Rows.lazyAnewSpec.pre6 enc Try.prog Try.f9 Rows.lazyAnewRow.domain false) (Rows.lazyAnewSpec.post enc Try.prog Try.f9 false true false false) :=
  law_lifted (C := Try.checked) (tb := 4) Γ_ok own started (by kernel_rfl) Try.func9 laidOut (ks := [kIs, kN 2, kN 2, kI]) (by kernel_rfl) rfl Try.underlying4 rfl
    (fun ds h => by
      have h2 : ds.length = 4 := by rw [h, Try.params9]; rfl
      match ds, h2 with
      | [_, _, _, _], _ => rfl)
    (ChangeSpec.witness6 (enc := enc) (C := Try.checked) false ⟨#[], #[.slice none 0 0, .agg #[.int .i64 0, .int .i64 0], .agg #[.int .i64 0, .int .i64 0], .int .i64 0], []⟩ 8 (by kernel_rfl) (by kernel_rfl) (by kernel_rfl) (by kernel_rfl))
    anew_cd
theorem over : Rows.lazyAnewRow.holds Try.pinned (OpenSpec.ofChange Rows.lazyAnewSpec) :=
  OpenClaim.holds_of_wide 9 Try.f9 rfl rfl rfl rfl rfl rfl rfl ⟨rfl, rfl, rfl, rfl, rfl⟩ rfl rfl rfl rfl rfl (by kernel_rfl) Try.func9 (by kernel_rfl)
    (of_decide_eq_true (by kernel_rfl)) (by unfold Func.isWrapper; first | (rw [if_pos (by decide +kernel)]; kernel_rfl) | (rw [if_neg (by decide +kernel)]; exact ⟨rfl, rfl⟩))
    (fun os started H enc _ => lifted os started H enc)
end Go.Proofs.Ytnomicnfgdjdeaa.lazyAnew
namespace Go.Proofs.Ytnomicnfgdjdeaa
/-- The row. -/
theorem lazyAnew_holds : Rows.LazyAnewSaid := lazyAnew.over
end Go.Proofs.Ytnomicnfgdjdeaa
